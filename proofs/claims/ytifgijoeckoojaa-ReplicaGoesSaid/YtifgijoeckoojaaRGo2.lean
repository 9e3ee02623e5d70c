/-
  THE CONDITIONS OF A WALK AS ONE FORMULA: a function's body.
-/
import Derived.Test.YtifgijoeckoojaaRGo1
import Derived.ProofKit
import Derived.Laws.AppendOwn

section
set_option linter.unusedVariables false
set_option linter.unusedSimpArgs false
namespace Go.Vc
variable {ds : List Deferred}
open Go.RowKit

/-! ### what holds of slots, as a statement over their contents -/
abbrev Vars := List (Nat × Sh)

def Sc.Arg (α : Type) : Sc → Type
  | .int _ => Int → α
  | .bool => Bool → α
  | .str => ByteArray → α
  | .ptr => Option Addr → α
  | .slice => Option Addr → Nat → Nat → α
  | .map => Option Nat → α
  | .fn => FuncId → Array Value → Array Value → α
  | .any => Value → α
  | .adr => Nat → Nat → α

def argL (α : Type) : List Sc → Type
  | [] => α
  | s :: r => Sc.Arg (argL α r) s

def Sh.Arg (α : Type) : Sh → Type
  | .one s => s.Arg α
  | .agg l => argL α l

def Cur (ρ : Type) : Vars → Type
  | [] => ρ
  | (_, s) :: r => s.Arg (Cur ρ r)

/-- the content of a cell handed to a function; none: it has another form -/
def Sc.app {α : Type} : (s : Sc) → s.Arg α → Value → Option α
  | .int k, f, .int k' n => if k = k' then some (f n) else none
  | .bool, f, .bool b => some (f b)
  | .str, f, .string s => some (f s)
  | .ptr, f, .pointer p => some (f p)
  | .slice, f, .slice p n c => some (f p n c)
  | .map, f, .map r => some (f r)
  | .fn, f, .func (.func g) a c => some (f g a c)
  | .any, f, v => match isU v with | true => none | false => some (f v)
  | .adr, f, .pointer (some ⟨b, o, none⟩) => some (f b o)
  | _, _, _ => none

def appL {α : Type} : (l : List Sc) → argL α l → List Value → Option α
  | [], x, [] => some x
  | s :: r, f, v :: vs => match s.app f v with
    | some g => appL r g vs
    | none => none
  | _, _, _ => none

def Sh.app {α : Type} : (s : Sh) → s.Arg α → Value → Option α
  | .one s, f, v => s.app f v
  | .agg l, f, .agg cs => appL l f cs.toList
  | _, _, _ => none

def Cur.app {ρ : Type} : (l : Vars) → Cur ρ l → List Value → Option ρ
  | [], x, [] => some x
  | (_, s) :: r, f, v :: vs => match s.app f v with
    | some g => Cur.app r g vs
    | none => none
  | _, _, _ => none

def holdsAt (x : Option (World → Prop)) (w : World) : Prop := match x with | some I => I w | none => False
def sizeAt (x : Option (World → Nat)) (w : World) : Nat := match x with | some I => I w | none => 0

def Sc.all : Sc → (Value → Prop) → Prop
  | .int k, K => ∀ n : Int, K (.int k n)
  | .bool, K => ∀ b : Bool, K (.bool b)
  | .str, K => ∀ s : ByteArray, K (.string s)
  | .ptr, K => ∀ p : Option Addr, K (.pointer p)
  | .slice, K => ∀ p : Option Addr, ∀ n c : Nat, K (.slice p n c)
  | .map, K => ∀ r : Option Nat, K (.map r)
  | .fn, K => ∀ (f : FuncId) (a c : Array Value), K (.func (.func f) a c)
  | .any, K => ∀ v : Value, K v
  | .adr, K => ∀ b o : Nat, K (.pointer (some ⟨b, o, none⟩))

def allL : List Sc → (List Value → Prop) → Prop
  | [], K => K []
  | s :: r, K => s.all fun v => allL r fun vs => K (v :: vs)

def Sh.all : Sh → (Value → Prop) → Prop
  | .one s, K => s.all K
  | .agg l, K => allL l fun vs => K (.agg vs.toArray)

def Vars.all : Vars → (List Value → Prop) → Prop
  | [], K => K []
  | (_, s) :: r, K => s.all fun v => Vars.all r fun vs => K (v :: vs)

theorem Sc.app_all {α : Type} {s : Sc} {f : s.Arg α} {v : Value} {x : α} (h : s.app f v = some x) {K : Value → Prop} (hK : s.all K) : K v ∧ isU v = false := by
  cases s
  case fn =>
    cases v
    case func g a c => cases g <;> simp only [Sc.app] at h <;> first | (cases h; done) | exact ⟨hK _ _ _, rfl⟩
    all_goals simp only [Sc.app] at h; cases h
  case adr =>
    cases v
    case pointer p =>
      rcases p with _ | ⟨b, o, s⟩
      · simp only [Sc.app] at h; cases h
      · cases s with
        | none => exact ⟨hK _ _, rfl⟩
        | some s => simp only [Sc.app] at h; cases h
    all_goals simp only [Sc.app] at h; cases h
  all_goals
   cases v <;> simp only [Sc.app, isU] at h <;> first
    | (cases h; done)
    | exact ⟨hK _, rfl⟩
    | exact ⟨hK _ _ _, rfl⟩
    | (split at h
       · rename_i e; subst e; exact ⟨hK _, rfl⟩
       · cases h)
    | (split at h
       · cases h
       · rename_i hu; exact ⟨hK _, hu⟩)

theorem appL_all {α : Type} : ∀ {l : List Sc} {f : argL α l} {vs : List Value} {x : α}, appL l f vs = some x → ∀ {K : List Value → Prop}, allL l K → K vs
  | [], _, [], _, _, _, hK => hK
  | s :: r, f, v :: vs, x, h, K, hK => by
    unfold appL at h
    split at h
    · rename_i g hg
      exact appL_all h (Sc.app_all hg hK).1
    · cases h
  | [], _, _ :: _, _, h, _, _ => by simp [appL] at h
  | _ :: _, _, [], _, h, _, _ => by simp [appL] at h

theorem Sh.app_all {α : Type} {s : Sh} {f : s.Arg α} {v : Value} {x : α} (h : s.app f v = some x) {K : Value → Prop} (hK : s.all K) : K v ∧ isU v = false := by
  unfold Sh.app at h
  split at h
  · exact Sc.app_all h hK
  · rename_i cs
    have := appL_all h hK
    exact ⟨by simpa using this, rfl⟩
  · cases h

theorem Cur.app_all {ρ : Type} : ∀ {l : Vars} {f : Cur ρ l} {vs : List Value} {x : ρ}, Cur.app l f vs = some x → ∀ {K : List Value → Prop}, Vars.all l K → K vs ∧ vs.length = l.length ∧ ∀ v ∈ vs, isU v = false
  | [], _, [], _, _, _, hK => ⟨hK, rfl, fun v hv => (by cases hv)⟩
  | (t, s) :: r, f, v :: vs, x, h, K, hK => by
    unfold Cur.app at h
    split at h
    · rename_i g hg
      obtain ⟨h1, h2⟩ := Sh.app_all hg hK
      obtain ⟨h3, h4, h5⟩ := Cur.app_all h h1
      refine ⟨h3, by simp [h4], fun u hu => ?_⟩
      rcases List.mem_cons.1 hu with rfl | hu
      · exact h2
      · exact h5 u hu
    · cases h
  | [], _, _ :: _, _, h, _, _ => by simp [Cur.app] at h
  | _ :: _, _, [], _, h, _, _ => by simp [Cur.app] at h

theorem Sc.all_true : ∀ {s : Sc} {K : Value → Prop}, (∀ v, K v) → s.all K := by
  intro s K h
  cases s <;> simp only [Sc.all] <;> intros <;> exact h _
theorem allL_true : ∀ {l : List Sc} {K : List Value → Prop}, (∀ v, K v) → allL l K
  | [], _, h => h _
  | _ :: _, _, h => Sc.all_true fun _ => allL_true fun _ => h _
theorem Sh.all_true {s : Sh} {K : Value → Prop} (h : ∀ v, K v) : s.all K := by
  cases s
  · exact Sc.all_true h
  · exact allL_true fun _ => h _
theorem Vars.all_true : ∀ {l : Vars} {K : List Value → Prop}, (∀ v, K v) → l.all K
  | [], _, h => h _
  | _ :: _, _, h => Sh.all_true fun _ => Vars.all_true fun _ => h _

theorem Cur.app_known {ρ : Type} {l : Vars} {f : Cur ρ l} {vs : List Value} {x : ρ} (h : Cur.app l f vs = some x) : vs.length = l.length ∧ ∀ v ∈ vs, isU v = false :=
  (Cur.app_all h (K := fun _ => True) (Vars.all_true fun _ => trivial)).2

/-- 'there is', of what holds of slots -/
def exI {α : Type} (p : α → Prop) : Prop := ∃ x, p x
theorem exI_mk {α : Type} {p : α → Prop} (x : α) (h : p x) : exI p := ⟨x, h⟩

/-! ### frames at a meeting of ways -/
def slotsOf (l : Vars) (s : Fr) : List Value := l.map fun v => getL v.1 s.l
def slotsA (l : Vars) (a : Act) : List Value := l.map fun v => a.tmps.getD v.1 undef

def memB (t : Nat) : List Nat → Bool
  | [] => false
  | x :: r => match Nat.beq t x with | true => true | false => memB t r

theorem memB_iff {t : Nat} : ∀ {l : List Nat}, memB t l = true ↔ t ∈ l
  | [] => by simp [memB]
  | x :: r => by
    unfold memB
    cases h : Nat.beq t x with
    | true => have := Nat.eq_of_beq_eq_true h; simp [this]
    | false => have := Nat.ne_of_beq_eq_false h; simp [this, memB_iff]

def Fr.drop (s : Fr) (asg : List Nat) : Fr := ⟨s.n, filterL (fun t => !memB t asg) s.l⟩
def Fr.keep (s : Fr) (k : Option (List Nat)) : Fr := match k with | none => s | some k => ⟨s.n, filterL (fun t => memB t k) s.l⟩

theorem drop_get (s : Fr) (asg : List Nat) (i : Nat) : (s.drop asg).get i = if i ∈ asg then unk else s.get i := by
  simp only [Fr.drop, Fr.get, filterL_get]
  by_cases h : i ∈ asg
  · have : memB i asg = true := memB_iff.2 h; simp [h, this]
  · have : memB i asg = false := by cases hm : memB i asg; rfl; exact absurd (memB_iff.1 hm) h
    simp [h, this]

theorem keep_sim {s : Fr} {a : Act} (h : Sim ds s a) (k : Option (List Nat)) : Sim ds (s.keep k) a := by
  cases k with
  | none => exact h
  | some k =>
    refine ⟨h.defers, h.size, fun i hi => ?_⟩
    simp only [Fr.keep, Fr.get, filterL_get] at hi ⊢
    split at hi
    · rename_i hc; rw [if_pos hc]; exact h.slot i hi
    · cases hi

theorem keep_unch {D : Nat → Prop} {s0 s : Fr} (h : Unch D s0 s) (k : Option (List Nat)) : Unch D s0 (s.keep k) := by
  cases k with
  | none => exact h
  | some k =>
    refine ⟨h.1, fun i hi hu => ?_⟩
    simp only [Fr.keep, Fr.get, filterL_get] at hu ⊢
    split at hu
    · rename_i hc; rw [if_pos hc]; exact h.2 i hi hu
    · cases hu

def consAll : Vars → List Value → List (Nat × Value) → List (Nat × Value)
  | (t, _) :: r, v :: vs, s => (t, v) :: consAll r vs s
  | _, _, s => s

def putAll (l : Vars) (vs : List Value) (s : Fr) : Fr := ⟨s.n, consAll l vs s.l⟩

theorem putAll_cons (t : Nat) (sh : Sh) (r : Vars) (v : Value) (vs : List Value) (s : Fr) (i : Nat) :
    (putAll ((t, sh) :: r) (v :: vs) s).get i = if t = i then v else (putAll r vs s).get i := by
  simp only [putAll, Fr.get, consAll, getL]
  cases hb : Nat.beq t i with
  | true => simp [Nat.eq_of_beq_eq_true hb]
  | false => simp [Nat.ne_of_beq_eq_false hb]

theorem drop_unch {D : Nat → Prop} {l : List Nat} {s : Fr} : Unch D s (s.drop l) :=
  ⟨rfl, fun i _ hu => by
    rw [drop_get] at hu ⊢
    split at hu
    · cases hu
    · rename_i hc; rw [if_neg hc]⟩
theorem putAll_unch {D : Nat → Prop} {s0 : Fr} : ∀ {l : Vars} {vs : List Value} {s : Fr}, (∀ v ∈ l, D v.1) → Unch D s0 s → Unch D s0 (putAll l vs s)
  | [], _, _, _, h => h
  | _ :: _, [], _, _, h => h
  | (t, sh) :: r, v :: vs, s, hl, h => by
    have ih := putAll_unch (l := r) (vs := vs) (fun x hx => hl x (List.mem_cons_of_mem _ hx)) h
    refine ⟨ih.1, fun i hi => ?_⟩
    rw [putAll_cons, if_neg (by rintro rfl; exact hi (hl (t, sh) (by simp)))]
    exact ih.2 i hi

/-- the frame at a meeting of ways: of what is assigned ahead of it only 'vars' are known -/
def meet (asg : List Nat) (l : Vars) (vs : List Value) (s : Fr) : Fr := putAll l vs (s.drop asg)

theorem meet_unch {D : Nat → Prop} {asg : List Nat} {l : Vars} {vs : List Value} {s : Fr} (h2 : ∀ v ∈ l, D v.1) : Unch D s (meet asg l vs s) :=
  putAll_unch h2 drop_unch

theorem putAll_sim {s : Fr} {a : Act} : ∀ {l : Vars} {vs : List Value}, Sim ds s a → (∀ (j : Nat) t sh v, l[j]? = some (t, sh) → vs[j]? = some v → a.tmps.getD t undef = v) → Sim ds (putAll l vs s) a
  | [], _, h, _ => h
  | _ :: _, [], h, _ => h
  | (t, sh) :: r, v :: vs, h, hv => by
    have ih := putAll_sim (l := r) (vs := vs) h (fun j t' sh' v' h1 h2 => hv (j + 1) t' sh' v' (by simpa using h1) (by simpa using h2))
    have h0 := hv 0 t sh v (by simp) (by simp)
    refine ⟨ih.defers, ih.size, fun i hi => ?_⟩
    rw [putAll_cons] at hi ⊢
    split at hi
    · rename_i e; subst e; rw [if_pos rfl]; exact h0
    · rename_i e; rw [if_neg e]; exact ih.slot i hi

def knownAll (s' : Fr) : List (Nat × Value) → Bool
  | [] => true
  | (t, _) :: r => match isU (getL t s'.l) with | true => false | false => knownAll s' r

/-- what the frame at the meeting knows besides 'vars' is known -/
def knownSub (asg : List Nat) (s s' : Fr) : Bool := knownAll s' (s.drop asg).l

theorem knownAll_spec {s' : Fr} {i : Nat} : ∀ {l : List (Nat × Value)}, knownAll s' l = true → isU (getL i l) = false → isU (s'.get i) = false
  | [], _, h => by cases h
  | (t, v) :: r, hk, h => by
    unfold knownAll at hk
    split at hk
    · cases hk
    · rename_i hu
      unfold getL at h
      split at h
      · rename_i hb; have := Nat.eq_of_beq_eq_true hb; subst this; exact hu
      · exact knownAll_spec hk h

theorem knownSub_refl {asg : List Nat} {s : Fr} {i : Nat} (h : isU ((s.drop asg).get i) = false) : isU (s.get i) = false := by
  rw [drop_get] at h
  split at h
  · cases h
  · exact h

/-- what the frame 's'' knows, the frame at the meeting knows -/
theorem meet_sim {s s' : Fr} {a : Act} {asg : List Nat} {l : Vars} {vs : List Value} (hs : Sim ds s' a) (hu : Unch (fun t => t ∈ asg) s s') (hsub : ∀ i, isU ((s.drop asg).get i) = false → isU (s'.get i) = false) (hvs : vs = slotsOf l s') (hk : ∀ v ∈ vs, isU v = false) : Sim ds (meet asg l vs s) a := by
  have h1 : Sim ds (s.drop asg) a := by
    refine ⟨hs.defers, by rw [hs.size, hu.1]; rfl, fun i hi => ?_⟩
    have hk' := hsub i hi
    rw [drop_get] at hi ⊢
    split at hi
    · cases hi
    · rename_i hm
      rw [if_neg hm, hs.slot i hk']
      exact hu.2 i hm hk'
  refine putAll_sim h1 fun j t sh v h2 h3 => ?_
  subst hvs
  simp only [slotsOf, List.getElem?_map, h2, Option.map_some, Option.some.injEq] at h3
  rw [← h3]
  have : isU (s'.get t) = false := by
    show isU (getL t s'.l) = false
    rw [h3]
    exact hk v (by rw [← h3]; exact List.mem_map.2 ⟨(t, sh), List.mem_of_getElem? h2, rfl⟩)
  exact hs.slot t this

theorem meet_slots {asg : List Nat} {l : Vars} {vs : List Value} {s : Fr} {a : Act} (hs : Sim ds (meet asg l vs s) a) (hn : (l.map (·.1)).Nodup) (hlen : vs.length = l.length) (hk : ∀ v ∈ vs, isU v = false) (hb : ∀ v ∈ l, v.1 < s.n) :
    slotsA l a = vs := by
  have key : ∀ (l : Vars) (vs : List Value) (s : Fr), (l.map (·.1)).Nodup → vs.length = l.length → (∀ v ∈ l, v.1 < s.n) → slotsOf l (putAll l vs s) = vs := by
    intro l
    induction l with
    | nil => intro vs s _ h _; cases vs <;> simp_all [slotsOf]
    | cons x r ih =>
      obtain ⟨t, sh⟩ := x
      intro vs s hn hl hb
      cases vs with
      | nil => simp at hl
      | cons v vs =>
        have ih' := ih vs s (by simp at hn; exact hn.2) (by simpa using hl) (fun v hv => hb v (List.mem_cons_of_mem _ hv))
        simp only [slotsOf, List.map_cons]
        congr 1
        · show Fr.get _ t = v
          rw [putAll_cons, if_pos rfl]
        · simp only [slotsOf] at ih'
          conv => rhs; rw [← ih']
          apply List.map_congr_left
          rintro ⟨y1, y2⟩ hy
          show Fr.get _ y1 = Fr.get _ y1
          rw [putAll_cons, if_neg]
          rintro e
          cases e
          simp at hn
          exact hn.1 _ hy
  have h1 := key l vs (s.drop asg) hn hlen (fun v hv => hb v hv)
  have : slotsA l a = slotsOf l (meet asg l vs s) := by
    unfold slotsOf slotsA
    apply List.map_congr_left
    intro y hy
    refine hs.slot _ (hk _ ?_)
    have hm : getL y.1 (meet asg l vs s).l ∈ slotsOf l (meet asg l vs s) := List.mem_map.2 ⟨y, hy, rfl⟩
    rwa [show slotsOf l (meet asg l vs s) = vs from h1] at hm
  rw [this]
  exact h1

/-! ### a body -/
structure Hints where
  /-- slots whose sums may wrap -/
  wrap : List Nat := []
  /-- regions with guards that are walked in the text's order -/
  split : List Nat := []
  /-- regions that are walked in the text's order, every guard said to hold -/
  sure : List Nat := []
  /-- regions whose calls may draw -/
  draws : List Nat := []
  /-- slots that are read outside the region that writes them -/
  keep : Option (List Nat) := none
  /-- regions whose order is drawn, and that write or call: the order in which they are walked; 'true': a read -/
  held : List (Nat × List (Nat × Bool)) := []
  loops : List (Nat × Vars) := []
  cuts : List (Nat × Vars) := []

def firstReg : Code → Nat
  | .region id _ _ => id
  | .seq a b => firstReg a
  | .block _ b => firstReg b
  | .loop b => firstReg b
  | _ => 100000

def dsts (l : List Oper) : List Nat := l.filterMap (·.dst)

def asg : Code → List Nat
  | .region _ ops _ => dsts ops.toList
  | .seq a b => asg a ++ asg b
  | .cond _ a b => asg a ++ asg b
  | .block _ b => asg b
  | .loop b => asg b
  | .scope b => asg b
  | _ => []

def guarded (l : List Oper) : Bool := l.any fun o => o.guard.isSome
def nodupB : List Nat → Bool
  | [] => true
  | x :: r => !memB x r && nodupB r

theorem nodupB_spec : ∀ {l : List Nat}, nodupB l = true → l.Nodup
  | [], _ => List.nodup_nil
  | x :: r, h => by
    simp only [nodupB, Bool.and_eq_true, Bool.not_eq_true'] at h
    refine List.nodup_cons.2 ⟨fun hm => ?_, nodupB_spec h.2⟩
    rw [memB_iff.2 hm] at h
    cases h.1

def varsOk (asg : List Nat) (l : Vars) (s : Fr) : Bool := List.all l (fun v => memB v.1 asg && Nat.blt v.1 s.n) && nodupB (l.map (·.1))

def okDraw (P : Program) (ops : Array Oper) : Bool := P.follows .mixedOrders && Region.lexB .any ops

def drawBody (P : Program) (H : Hints) (ops : Array Oper) (s : Fr) (w : World) (K : Fr → World → Prop) : Prop :=
  specK P (fun t => memB t H.wrap) true ops s w fun s' w' => K (s'.keep H.keep) w'

def textBody (P : Program) (H : Hints) (id : Nat) (ops : Array Oper) (s : Fr) (w : World) (K : Fr → World → Prop) : Prop :=
  match guarded ops.toList && !(memB id H.split || memB id H.sure) with
  | true => specK P (fun t => memB t H.wrap) (memB id H.draws) ops s w fun s' w' => K (s'.keep H.keep) w'
  | false => vcOps P (fun t => memB t H.wrap) (memB id H.sure) ops ops.toList s w fun s' w' => K (s'.keep H.keep) w'

def heldAt (k : Nat) : List (Nat × List (Nat × Bool)) → Option (List (Nat × Bool))
  | [] => none
  | (t, l) :: r => match Nat.beq t k with | true => some l | false => heldAt k r

def regionK (P : Program) (H : Hints) (id : Nat) (ops : Array Oper) (draw : Bool) (s : Fr) (w : World) (K : Fr → World → Prop) : Prop :=
  match draw with
  | true => match heldAt id H.held with
    | some ord => heldK P (fun t => memB t H.wrap) ops ord s w fun s' w' => K (s'.keep H.keep) w'
    | none => match okDraw P ops with
      | true => drawBody P H ops s w K
      | false => False
  | false => textBody P H id ops s w K

def hintAt (k : Nat) : List (Nat × Vars) → Option Vars
  | [] => none
  | (t, l) :: r => match Nat.beq t k with | true => some l | false => hintAt k r

def vc (P : Program) (H : Hints) : Code → (Exit → Fr → World → Prop) → Fr → World → Prop
  | .skip, Q, s, w => Q .normal s w
  | .region id ops draw, Q, s, w => regionK P H id ops draw s w (Q .normal)
  | .seq x y, Q, s, w =>
    match hintAt (firstReg y) H.cuts with
    | none => vc P H x (fun e s' w' => match e with | .normal => vc P H y Q s' w' | e => Q e s' w') s w
    | some l =>
      match varsOk (asg x) l s with
      | true =>
        ∃ J : Cur (World → Prop) l, vc P H x (fun e s' w' => match e with
            | .normal => match knownSub (asg x) s s' with | true => holdsAt (Cur.app l J (slotsOf l s')) w' | false => False
            | e => Q e s' w') s w ∧
          l.all fun vs => ∀ w', holdsAt (Cur.app l J vs) w' → vc P H y Q (meet (asg x) l vs s) w'
      | false => False
  | .cond c x y, Q, s, w => match s.eval c with
    | .bool b => Br b (vc P H x Q s w) (vc P H y Q s w)
    | _ => False
  | .block id b, Q, s, w => vc P H b (fun e s' w' => match e with | .exit n => (match Nat.beq n id with | true => Q .normal s' w' | false => Q (.exit n) s' w') | e => Q e s' w') s w
  | .loop b, Q, s, w =>
    match hintAt (firstReg b) H.loops with
    | none => False
    | some l =>
      match varsOk (asg b) l s with
      | true =>
        ∃ (I : Cur (World → Prop) l) (m : Cur (World → Nat) l), holdsAt (Cur.app l I (slotsOf l s)) w ∧
          l.all fun vs => ∀ w', holdsAt (Cur.app l I vs) w' →
            vc P H b (fun e s' w'' => match e with
              | .normal => match knownSub (asg b) s s' with
                | true => holdsAt (Cur.app l I (slotsOf l s')) w'' ∧ sizeAt (Cur.app l m (slotsOf l s')) w'' < sizeAt (Cur.app l m vs) w'
                | false => False
              | e => Q e s' w'') (meet (asg b) l vs s) w'
      | false => False
  | .exit id, Q, s, w => Q (.exit id) s w
  | .ret, Q, s, w => Q .ret s w
  | _, _, _, _ => False

theorem holdsAt_some {x : Option (World → Prop)} {w : World} (h : holdsAt x w) : ∃ I, x = some I ∧ I w := by
  cases x with
  | none => exact h.elim
  | some I => exact ⟨I, rfl, h⟩

theorem known_slots {s : Fr} {a : Act} {l : Vars} (hs : Sim ds s a) (hk : ∀ v ∈ slotsOf l s, isU v = false) : slotsA l a = slotsOf l s := by
  unfold slotsOf slotsA
  apply List.map_congr_left
  intro y hy
  exact hs.slot _ (hk _ (List.mem_map.2 ⟨y, hy, rfl⟩))

theorem varsOk_spec {asg : List Nat} {l : Vars} {s : Fr} (h : varsOk asg l s = true) : (∀ v ∈ l, v.1 ∈ asg ∧ v.1 < s.n) ∧ (l.map (·.1)).Nodup := by
  simp only [varsOk, Bool.and_eq_true] at h
  refine ⟨fun v hv => ?_, nodupB_spec h.2⟩
  have := List.all_eq_true.1 h.1 v hv
  simp only [Bool.and_eq_true] at this
  exact ⟨memB_iff.1 this.1, by have h2 := this.2; rw [Nat.blt_eq] at h2; exact h2⟩

theorem vc_sound {P : Program} {H : Hints} : ∀ (c : Code) {Q' : Exit → Fr → World → Prop} {Q : Exit → Act → World → Prop} {s : Fr} {a : Act} {w : World},
    vc P H c Q' s w → Sim ds s a → (∀ e s' a' w', Q' e s' w' → Sim ds s' a' → Unch (fun t => t ∈ asg c) s s' → Q e a' w') → c.wp P Q a w := by
  intro c
  induction c with
  | skip => intro Q' Q s a w h hs hQ; exact wp_skip (hQ _ _ _ _ h hs (Unch.refl _ _))
  | region id ops draw =>
    intro Q' Q s a w h hs hQ
    have hD : ∀ o ∈ ops.toList, ∀ t, o.dst = some t → t ∈ dsts ops.toList := fun o ho t ht => List.mem_filterMap.2 ⟨o, ho, ht⟩
    simp only [vc, regionK] at h
    cases draw with
    | true =>
      simp only at h
      split at h
      · exact heldK_wp (D := fun t => t ∈ dsts ops.toList) (fun j o t ho ht => hD o (by simpa using Array.mem_of_getElem? ho) t ht) h hs (fun s' a' w' hk hs' hu => hQ _ _ _ _ hk (keep_sim hs' _) (keep_unch hu _))
      · split at h
        · rename_i hc
          simp only [okDraw, Bool.and_eq_true] at hc
          exact specK_draw hc.1 hc.2 hD h hs (fun s' a' w' hk hs' hu => hQ _ _ _ _ hk (keep_sim hs' _) (keep_unch hu _))
        · exact h.elim
    | false =>
      simp only [textBody] at h
      split at h
      · exact specK_wp hD h hs (fun s' a' w' hk hs' hu => hQ _ _ _ _ hk (keep_sim hs' _) (keep_unch hu _))
      · refine wp_region_list ?_
        exact vcOps_sound (D := fun t => t ∈ dsts ops.toList) (s0 := s) (fun j o t ho ht => hD o (by simpa using Array.mem_of_getElem? ho) t ht) (fun s' a' w' hk hs' hu => hQ _ _ _ _ hk (keep_sim hs' _) (keep_unch hu _)) _ _ _ _ hD h hs (Unch.refl _ _)
  | seq x y ihx ihy =>
    intro Q' Q s a w h hs hQ
    simp only [vc] at h
    refine wp_seq ?_
    split at h
    · refine ihx h hs ?_
      intro e s' a' w' hq hs' hu
      have hu' : Unch (fun t => t ∈ asg (.seq x y)) s s' := hu.mono fun i hi => List.mem_append.2 (.inl hi)
      cases e with
      | normal =>
        simp only [Exit.then]
        refine ihy hq hs' fun e s'' a'' w'' hq' hs'' hu'' => hQ _ _ _ _ hq' hs'' ?_
        exact hu'.trans (hu''.mono fun i hi => List.mem_append.2 (.inr hi))
      | exit n => exact hQ _ _ _ _ hq hs' hu'
      | goto n => exact hQ _ _ _ _ hq hs' hu'
      | ret => exact hQ _ _ _ _ hq hs' hu'
      | panic n => exact hQ _ _ _ _ hq hs' hu'
      | outgrown => exact hQ _ _ _ _ hq hs' hu'
    · rename_i l hl
      split at h
      · rename_i hok
        obtain ⟨hv, hn⟩ := varsOk_spec hok
        obtain ⟨J, h1, h2⟩ := h
        refine ihx h1 hs ?_
        intro e s' a' w' hq hs' hu
        have hu' : Unch (fun t => t ∈ asg (.seq x y)) s s' := hu.mono fun i hi => List.mem_append.2 (.inl hi)
        cases e with
        | normal =>
          simp only [Exit.then]
          simp only at hq
          split at hq
          · rename_i hsub
            obtain ⟨I, hI, hIw⟩ := holdsAt_some hq
            obtain ⟨hlen, hk⟩ := Cur.app_known hI
            have h3 := (Cur.app_all hI h2).1 w' hq
            refine ihy h3 (meet_sim hs' hu (fun i => knownAll_spec hsub) rfl hk) fun e s'' a'' w'' hq' hs'' hu'' => hQ _ _ _ _ hq' hs'' ?_
            refine Unch.trans (meet_unch (fun v hv' => List.mem_append.2 (.inl (hv v hv').1))) (hu''.mono fun i hi => List.mem_append.2 (.inr hi))
          · exact hq.elim
        | exit n => exact hQ _ _ _ _ hq hs' hu'
        | goto n => exact hQ _ _ _ _ hq hs' hu'
        | ret => exact hQ _ _ _ _ hq hs' hu'
        | panic n => exact hQ _ _ _ _ hq hs' hu'
        | outgrown => exact hQ _ _ _ _ hq hs' hu'
      · exact h.elim
  | cond c x y ihx ihy =>
    intro Q' Q s a w h hs hQ
    simp only [vc] at h
    split at h
    · rename_i b hb
      have hc : a.eval c = .bool b := by rw [hs.eval (by rw [hb]; rfl), hb]
      cases b with
      | true => exact wp_cond_true hc (ihx h hs fun e s' a' w' hq hs' hu => hQ _ _ _ _ hq hs' (hu.mono fun i hi => List.mem_append.2 (.inl hi)))
      | false => exact wp_cond_false hc (ihy h hs fun e s' a' w' hq hs' hu => hQ _ _ _ _ hq hs' (hu.mono fun i hi => List.mem_append.2 (.inr hi)))
    · exact h.elim
  | block id b ih =>
    intro Q' Q s a w h hs hQ
    simp only [vc] at h
    refine wp_block (ih h hs ?_)
    intro e s' a' w' hq hs' hu
    cases e with
    | exit n =>
      simp only [Exit.inBlock]
      simp only at hq
      split at hq
      · rename_i e; rw [if_pos (Nat.eq_of_beq_eq_true e)]; exact hQ _ _ _ _ hq hs' hu
      · rename_i e; rw [if_neg (Nat.ne_of_beq_eq_false e)]; exact hQ _ _ _ _ hq hs' hu
    | normal => exact hQ _ _ _ _ hq hs' hu
    | goto n => exact hQ _ _ _ _ hq hs' hu
    | ret => exact hQ _ _ _ _ hq hs' hu
    | panic n => exact hQ _ _ _ _ hq hs' hu
    | outgrown => exact hQ _ _ _ _ hq hs' hu
  | loop b ih =>
    intro Q' Q s a w h hs hQ
    simp only [vc] at h
    split at h
    · exact h.elim
    · rename_i l hl
      split at h
      · rename_i hok
        obtain ⟨hv, hn⟩ := varsOk_spec hok
        obtain ⟨I, m, h0, h1⟩ := h
        have start : ∃ vs, holdsAt (Cur.app l I vs) w ∧ Sim ds (meet (asg b) l vs s) a := by
          obtain ⟨J, hJ, _⟩ := holdsAt_some h0
          exact ⟨_, h0, meet_sim hs (Unch.refl _ _) (fun i => knownSub_refl) rfl (Cur.app_known hJ).2⟩
        refine wp_loop (fun a' w' => ∃ vs, holdsAt (Cur.app l I vs) w' ∧ Sim ds (meet (asg b) l vs s) a') (fun a' w' => sizeAt (Cur.app l m (slotsA l a')) w') start ?_
        rintro a1 w1 ⟨vs, hI, hs1⟩
        obtain ⟨J, hJ, hJw⟩ := holdsAt_some hI
        obtain ⟨hlen, hk⟩ := Cur.app_known hJ
        have h2 := (Cur.app_all hJ h1).1 w1 hI
        have hsl : slotsA l a1 = vs := meet_slots hs1 hn hlen hk fun v hv' => (hv v hv').2
        refine ih h2 hs1 ?_
        intro e s' a' w' hq hs' hu
        have hu' : Unch (fun t => t ∈ asg b) s s' := Unch.trans (meet_unch (fun v hv' => (hv v hv').1)) hu
        cases e with
        | normal =>
          simp only [Exit.then]
          simp only at hq
          split at hq
          · rename_i hsub
            obtain ⟨hq1, hq2⟩ := hq
            obtain ⟨J', hJ', _⟩ := holdsAt_some hq1
            obtain ⟨hlen', hk'⟩ := Cur.app_known hJ'
            refine ⟨⟨_, hq1, meet_sim hs' hu' (fun i => knownAll_spec hsub) rfl hk'⟩, ?_⟩
            rw [hsl, known_slots hs' hk']
            exact hq2
          · exact hq.elim
        | exit n => exact hQ _ _ _ _ hq hs' hu'
        | goto n => exact hQ _ _ _ _ hq hs' hu'
        | ret => exact hQ _ _ _ _ hq hs' hu'
        | panic n => exact hQ _ _ _ _ hq hs' hu'
        | outgrown => exact hQ _ _ _ _ hq hs' hu'
      · exact h.elim
  | exit id => intro Q' Q s a w h hs hQ; exact wp_exit (hQ _ _ _ _ h hs (Unch.refl _ _))
  | ret => intro Q' Q s a w h hs hQ; exact wp_ret (hQ _ _ _ _ h hs (Unch.refl _ _))
  | rangeFunc f p x y => intro Q' Q s a w h; exact h.elim
  | scope b => intro Q' Q s a w h; exact h.elim
  | label l => intro Q' Q s a w h; exact h.elim
  | goto l => intro Q' Q s a w h; exact h.elim
  | refuse why => intro Q' Q s a w h; exact h.elim

/-! ### a function -/
def resVars (P : Program) (s : Fr) (w : World) : List ResultVar → (List Value → Prop) → Prop
  | [], K => K []
  | .tmp t :: r, K => match isU (getL t s.l) with
    | true => False
    | false => resVars P s w r fun vs => K (getL t s.l :: vs)
  | .cell a t :: r, K => match getL a s.l with
    | .pointer (some ⟨b, o, none⟩) => vcLoadG P t w none b o fun v => resVars P s w r fun vs => K (v :: vs)
    | _ => False

theorem resVars_sound {P : Program} {s : Fr} {a : Act} {w : World} (hs : Sim ds s a) : ∀ {l : List ResultVar} {K : List Value → Prop}, resVars P s w l K →
    ∃ vs, (l.mapM fun r => (match r with | .tmp t => pure (a.tmps.getD t undef) | .cell x t => (do loadVar t (← asAddr (a.tmps.getD x undef)) : Sem Value) : Sem Value)).run P w = .ok vs w ∧ K vs
  | [], K, h => ⟨[], by simp, h⟩
  | .tmp t :: r, K, h => by
    unfold resVars at h
    split at h
    · exact h.elim
    · rename_i hu
      obtain ⟨vs, h1, h2⟩ := resVars_sound hs h
      refine ⟨_, ?_, h2⟩
      rw [List.mapM_cons]
      simp only [Sem.run_bind, Sem.run_pure, Result.andThen, h1, hs.slot t hu]
      rfl
  | .cell x t :: r, K, h => by
    unfold resVars at h
    split at h
    · rename_i b o hx
      obtain ⟨v, h1, h2⟩ := vcLoadG_sound h
      obtain ⟨vs, h3, h4⟩ := resVars_sound hs h2
      refine ⟨_, ?_, h4⟩
      rw [List.mapM_cons]
      have hx0 : s.get x = .pointer (some ⟨b, o, none⟩) := hx
      have hx' : a.tmps.getD x undef = .pointer (some ⟨b, o, none⟩) := by rw [hs.slot x (by rw [hx0]; rfl), hx0]
      have ha : (asAddr (a.tmps.getD x undef)).run P w = .ok ⟨b, o, none⟩ w := by rw [hx']; rfl
      simp only [Sem.run_bind, Sem.run_pure, Result.andThen, ha, h1 trivial w rfl, h3]
    · exact h.elim

def bodyK (P : Program) (fn : Func) (J : Value → World → Prop) : Exit → Fr → World → Prop
  | .normal, s, w | .ret, s, w => resVars P s w fn.results.toList fun vs => J (tupled vs) w
  | _, _, _ => False

def argSlots : Nat → List Value → List (Nat × Value)
  | _, [] => []
  | i, v :: r => (i, v) :: argSlots (i + 1) r

def frameOf (fn : Func) (args : Array Value) : Fr := ⟨max fn.ntmps args.size, argSlots 0 args.toList⟩

theorem argSlots_get (i : Nat) : ∀ (l : List Value) (k : Nat), getL i (argSlots k l) = if k ≤ i then l.getD (i - k) unk else unk
  | [], k => by simp [argSlots, getL]
  | v :: r, k => by
    unfold argSlots getL
    cases hb : Nat.beq k i with
    | true => have := Nat.eq_of_beq_eq_true hb; subst this; simp
    | false =>
      have hne := Nat.ne_of_beq_eq_false hb
      simp only
      rw [argSlots_get i r (k + 1)]
      by_cases h : k ≤ i
      · rw [if_pos h, if_pos (by omega), show i - k = (i - (k + 1)) + 1 by omega]; simp
      · rw [if_neg h, if_neg (by omega)]

theorem frameOf_sim (fn : Func) (args : Array Value) : Sim [] (frameOf fn args) { tmps := args ++ Array.replicate (fn.ntmps - args.size) undef, defers := [] } := by
  refine ⟨rfl, by simp [frameOf]; omega, fun i hi => ?_⟩
  simp only [frameOf, Fr.get, argSlots_get] at hi ⊢
  simp only [Nat.zero_le, if_true, Nat.sub_zero] at hi ⊢
  by_cases h : i < args.size
  · simp [Array.getD_eq_getD_getElem?, Array.getElem?_append, h]
  · rw [List.getD_eq_getElem?_getD, List.getElem?_eq_none (by simpa using h)] at hi
    cases hi

def vcF (P : Program) (H : Hints) (f : FuncId) (args : Array Value) (w : World) (J : Value → World → Prop) : Prop :=
  match P.funcs[f]? with
  | some fn => match fn.body with
    | some c => vc P H c (bodyK P fn J) (frameOf fn args) w
    | none => False
  | none => False

theorem tupled_run {vs : List Value} : (if h : vs.toArray.size = 1 then vs.toArray[0] else Value.tuple vs.toArray) = tupled vs := by
  match vs with
  | [] => rfl
  | [v] => rfl
  | _ :: _ :: _ => rfl

theorem vcF_sound {P : Program} {H : Hints} {f : FuncId} {args : Array Value} {w : World} {J : Value → World → Prop} (h : vcF P H f args w J) :
    Calls P f args w fun e w' => ∃ v, e = .returned v ∧ J v w' := by
  unfold vcF at h
  split at h
  · rename_i fn hf
    split at h
    · rename_i c hc
      refine calls_of_wp hf hc (vc_sound c h (frameOf_sim fn args) ?_)
      intro e s a w' hq hs _
      have key : (resVars P s w' fn.results.toList fun vs => J (tupled vs) w') → bodyPost P fn (fun e w' => ∃ v, e = .returned v ∧ J v w') .ret a w' := by
        intro hq
        obtain ⟨vs, h1, h2⟩ := resVars_sound hs hq
        refine ⟨hs.defers, tupled vs, ?_, tupled vs, rfl, h2⟩
        unfold results
        rw [Array.mapM_eq_mapM_toList, map_eq_pure_bind, Sem.run_bind, Sem.run_bind]
        have e : ∀ (r : Result (List Value)), r = .ok vs w' → (((r.andThen fun a => (pure a.toArray : Sem (Array Value)).run P).andThen fun vs => (pure (if h : vs.size = 1 then vs[0] else Value.tuple vs) : Sem Value).run P)) = .ok (tupled vs) w' := by
          intro r hr
          subst hr
          simp only [Result.andThen, Sem.run_pure, tupled_run]
        exact e _ h1
      cases e with
      | normal => exact key hq
      | ret => exact key hq
      | _ => exact hq.elim
    · exact h.elim
  · exact h.elim

end Go.Vc
end

/-
  BLOCKS OF MEMORY: what a block holds, and what becomes of it when the world is written.
-/
section
set_option linter.unusedVariables false
set_option linter.unusedSimpArgs false
namespace Go.Vc
open Go.RowKit

/-- block b is a row of these cells, none of them frozen -/
def Blk (w : World) (b : Nat) (cs : List Value) (t : TypeId) : Prop := w.heap[b]? = some (.cells cs.toArray t (0, 0))

theorem Blk.lt {w : World} {b : Nat} {cs : List Value} {t : TypeId} (h : Blk w b cs t) : b < w.heap.size := (Array.getElem?_eq_some_iff.1 h).1

theorem Blk.cell {w : World} {b : Nat} {cs : List Value} {t : TypeId} (h : Blk w b cs t) (i : Nat) : w.cell? ⟨b, i, none⟩ = cs[i]? := by
  unfold Blk at h
  simp [World.cell?, h]

theorem Blk.cell_eq {w : World} {b : Nat} {cs : List Value} {t : TypeId} (h : Blk w b cs t) {i : Nat} {v : Value} (hv : cs[i]? = some v) : w.cell? ⟨b, i, none⟩ = some v := by rw [h.cell, hv]

theorem Blk.frozen {w : World} {b : Nat} {cs : List Value} {t : TypeId} (h : Blk w b cs t) (i : Nat) : w.frozen? ⟨b, i, none⟩ = false := by
  unfold Blk at h
  simp [World.frozen?, h]

theorem Blk.can {w : World} {b : Nat} {cs : List Value} {t : TypeId} (h : Blk w b cs t) {o n : Nat} (hn : o + n ≤ cs.length) : CanWrite w b o n := by
  intro j hj
  refine ⟨?_, h.frozen _⟩
  rw [h.cell]
  simp; omega

theorem Blk.row {w : World} {b : Nat} {cs : List Value} {t : TypeId} (h : Blk w b cs t) {o : Nat} {vs : List Value} (hv : ∀ j, (hj : j < vs.length) → cs[o + j]? = some vs[j]) : RowAt w b o vs := by
  intro j hj
  rw [h.cell, hv j hj]

theorem Blk.row0 {w : World} {b : Nat} {cs : List Value} {t : TypeId} (h : Blk w b cs t) : RowAt w b 0 cs := h.row fun j hj => by simp

theorem Blk.same {w w' : World} {b : Nat} {cs : List Value} {t : TypeId} (h : Blk w b cs t) (e : w'.heap[b]? = w.heap[b]?) : Blk w' b cs t := e.trans h

theorem Blk.alloc_new (w : World) (cs : List Value) (t : TypeId) : Blk (w.alloc (.cells cs.toArray t)) w.heap.size cs t := by
  unfold Blk
  show (w.heap.push _)[w.heap.size]? = _
  simp

theorem hp_alloc_new (w : World) (o : Obj) : (w.alloc o).heap[w.heap.size]? = some o := by
  show (w.heap.push _)[w.heap.size]? = _
  simp
theorem hp_alloc_old (w : World) (o : Obj) {k : Nat} (h : k < w.heap.size) : (w.alloc o).heap[k]? = w.heap[k]? := Below.heap_alloc _ _ _ h
theorem hp_setCell (w : World) (a : Addr) (u : Value) {k : Nat} (h : k ≠ a.block) : (w.setCell a u).heap[k]? = w.heap[k]? := Below.heap_setCell _ _ _ _ h

theorem Blk.set {w : World} {b : Nat} {cs : List Value} {t : TypeId} (h : Blk w b cs t) (i : Nat) (v : Value) : Blk (w.setCell ⟨b, i, none⟩ v) b (cs.set i v) t := by
  unfold Blk at h ⊢
  simp only [World.setCell, Array.getElem?_modify, h]
  simp

theorem hp_setCells (b : Nat) {k : Nat} (h : k ≠ b) : ∀ (vs : List Value) (o : Nat) (w : World), (w.setCells b o vs).heap[k]? = w.heap[k]?
  | [], _, _ => rfl
  | v :: r, o, w => by
    unfold World.setCells
    rw [hp_setCells b h r, hp_setCell _ _ _ h]

theorem size_setCells (b : Nat) : ∀ (vs : List Value) (o : Nat) (w : World), (w.setCells b o vs).heap.size = w.heap.size
  | [], _, _ => rfl
  | v :: r, o, w => by
    unfold World.setCells
    rw [size_setCells b r, World.size_setCell]

def setL (cs : List Value) (o : Nat) : List Value → List Value
  | [] => cs
  | v :: r => setL (cs.set o v) (o + 1) r

theorem Blk.sets {b : Nat} {t : TypeId} : ∀ (vs : List Value) {w : World} {cs : List Value} (o : Nat), Blk w b cs t → Blk (w.setCells b o vs) b (setL cs o vs) t
  | [], _, _, _, h => h
  | v :: r, _, _, o, h => by
    unfold World.setCells setL
    exact Blk.sets r (o + 1) (h.set o v)

/-- all blocks that existed, but those of S, are as they were -/
structure Chg (S : List Nat) (w w' : World) : Prop where
  os : w'.os = w.os
  tape : w'.tape = w.tape
  output : w'.output = w.output
  size : w.heap.size ≤ w'.heap.size
  block : ∀ k, k < w.heap.size → k ∉ S → w'.heap[k]? = w.heap[k]?

theorem Chg.refl (S : List Nat) (w : World) : Chg S w w := ⟨rfl, rfl, rfl, Nat.le_refl _, fun _ _ _ => rfl⟩
theorem Chg.trans {S T : List Nat} {a b c : World} (h : Chg S a b) (k : Chg T b c) (hT : ∀ x ∈ T, x ∈ S ∨ a.heap.size ≤ x) : Chg S a c :=
  ⟨k.os.trans h.os, k.tape.trans h.tape, k.output.trans h.output, Nat.le_trans h.size k.size, fun i hi hS =>
    (k.block i (Nat.lt_of_lt_of_le hi h.size) (fun hm => by rcases hT i hm with h | h; exact hS h; omega)).trans (h.block i hi hS)⟩
theorem Chg.step {S : List Nat} {a b c : World} (h : Chg S a b) (k : Chg [] b c) : Chg S a c := h.trans k (by simp)
theorem Chg.mono {S T : List Nat} {a b : World} (h : Chg S a b) (hST : ∀ x ∈ S, x ∈ T) : Chg T a b := ⟨h.os, h.tape, h.output, h.size, fun k hk hT => h.block k hk fun hm => hT (hST k hm)⟩
theorem Chg.alloc {S : List Nat} {a w : World} (h : Chg S a w) (o : Obj) : Chg S a (w.alloc o) :=
  h.step ⟨rfl, rfl, rfl, by simp, fun _ hk _ => hp_alloc_old _ _ hk⟩
theorem Chg.setCell {S : List Nat} {a w : World} (h : Chg S a w) {p : Addr} (hp : p.block ∈ S ∨ a.heap.size ≤ p.block) (u : Value) : Chg S a (w.setCell p u) :=
  h.trans (T := [p.block]) ⟨rfl, rfl, rfl, by simp, fun _ _ hn => hp_setCell _ _ _ (by simpa using hn)⟩ (by simpa using hp)
theorem setCells_keeps (b : Nat) : ∀ (vs : List Value) (o : Nat) (w : World), (w.setCells b o vs).os = w.os ∧ (w.setCells b o vs).tape = w.tape ∧ (w.setCells b o vs).output = w.output
  | [], _, _ => ⟨rfl, rfl, rfl⟩
  | v :: r, o, w => by unfold World.setCells; exact setCells_keeps b r (o + 1) _
theorem Chg.setCells {S : List Nat} {a w : World} (h : Chg S a w) {b : Nat} (hb : b ∈ S ∨ a.heap.size ≤ b) (o : Nat) (vs : List Value) : Chg S a (w.setCells b o vs) :=
  h.trans (T := [b]) ⟨(setCells_keeps b vs o w).1, (setCells_keeps b vs o w).2.1, (setCells_keeps b vs o w).2.2, by rw [size_setCells]; exact Nat.le_refl _, fun _ _ hn => hp_setCells b (by simpa using hn) vs o w⟩ (by simpa using hb)
theorem Chg.drewN {S : List Nat} {a w : World} (h : Chg S a w) (n : Nat) : Chg S a (w.drewN n) := ⟨h.os, h.tape, h.output, h.size, h.block⟩
/-- a block is written as a whole -/
def setB (w : World) (b : Nat) (o : Obj) : World := { w with heap := w.heap.setIfInBounds b o }
theorem hp_setB (w : World) {b k : Nat} (o : Obj) (h : k ≠ b) : (setB w b o).heap[k]? = w.heap[k]? := by
  simp only [setB]; rw [Array.getElem?_setIfInBounds_ne (by omega)]
theorem hp_setB_same (w : World) {b : Nat} (o : Obj) (h : b < w.heap.size) : (setB w b o).heap[b]? = some o := by
  simp [setB, h]
theorem size_setB (w : World) (b : Nat) (o : Obj) : (setB w b o).heap.size = w.heap.size := by simp [setB]
theorem Chg.setB {S : List Nat} {a w : World} (h : Chg S a w) {b : Nat} (hb : b ∈ S ∨ a.heap.size ≤ b) (o : Obj) : Chg S a (setB w b o) :=
  h.trans (T := [b]) ⟨rfl, rfl, rfl, by rw [size_setB]; exact Nat.le_refl _, fun _ _ hn => hp_setB _ _ (by simpa using hn)⟩ (by simpa using hb)

theorem Chg.below {S : List Nat} {B : Nat} {w w' : World} (h : Chg S w w') (hB : B ≤ w.heap.size) (hS : ∀ x ∈ S, B ≤ x) : Below B w w' :=
  ⟨h.os, h.tape, h.output, h.size, fun k hk => h.block k (by omega) fun hm => by have := hS k hm; omega⟩
theorem Chg.blk {S : List Nat} {w w' : World} (h : Chg S w w') {b : Nat} {cs : List Value} {t : TypeId} (hb : Blk w b cs t) (hS : b ∉ S) : Blk w' b cs t := hb.same (h.block b hb.lt hS)
theorem Chg.cell {S : List Nat} {w w' : World} (h : Chg S w w') {b o : Nat} {v : Value} (hc : w.cell? ⟨b, o, none⟩ = some v) (hS : b ∉ S) : w'.cell? ⟨b, o, none⟩ = some v := by
  have hlt : b < w.heap.size := by
    rcases Nat.lt_or_ge b w.heap.size with h' | h'
    · exact h'
    · simp [World.cell?, Array.getElem?_eq_none h'] at hc
  rw [World.cell?_of_block (w := w) (h.block b hlt hS)]
  exact hc

/-! the same, of a world that has a name -/
/-- a contract of the form that 'vcF' gives -/
theorem calls_of {P : Program} {f : FuncId} {args : Array Value} {w : World} {J : Value → World → Prop} {R : Ending → World → Prop}
    (h : Calls P f args w fun e w' => ∃ v, e = .returned v ∧ J v w') (hR : ∀ v w', J v w' → R (.returned v) w') : Calls P f args w R :=
  h.mono fun e w' ⟨v, he, hj⟩ => by subst he; exact hR v w' hj

end Go.Vc
end

/-
  THE ROW of a law that returns true at every input and leaves what came in as it was.
-/
section
set_option linter.unusedVariables false
set_option linter.unusedSimpArgs false
namespace Go.Vc
open Go.ChangeShapes Go.WideShapes Go.ChangeAt Go.RowKit

section
variable {H : Type} {enc : TypeId × Value → H} {P : Program}

theorem trodAll_below (hl : laidOutB P = true) {W W' : World} (hb : Below W.heap.size W W') :
    ∀ {ts : List TypeId} {vs : List Value} {ds : List (DataW H)} {ps : List MemPlace}, (ts.all fun t => P.readableRec t && decide (t < P.types.size)) = true →
      DataW.TrodAll enc P W 0 (fun _ => true) true ts vs ds ps → (∀ x ∈ ps, x.block < W.heap.size) →
      DataW.TrodAll enc P W' 0 (fun b => decide (b < W.heap.size)) true ts vs ds ps
  | [], _, _, _, _, h, _ => by
    obtain ⟨rfl, rfl, rfl⟩ := trodAll_nil h
    exact trodAll_mk0
  | t :: ts, _, _, _, ht, h, hlt => by
    obtain ⟨v, vs1, d, ds1, a, b, rfl, rfl, rfl, h1, h2⟩ := trodAll_cons h
    simp only [List.all_cons, Bool.and_eq_true, decide_eq_true_eq] at ht
    exact ⟨a, b, Below.trod hl ht.1.1 ht.1.2 h1 hb (fun x hx => hlt x (List.mem_append.2 (.inl hx))), trodAll_below hl hb (by simpa using ht.2) h2 (fun x hx => hlt x (List.mem_append.2 (.inr hx))), rfl⟩

theorem trodAll_length {w : World} {base : Nat} {spare : Nat → Bool} {held : Bool} : ∀ {ts : List TypeId} {vs : List Value} {ds : List (DataW H)} {ps : List MemPlace}, DataW.TrodAll enc P w base spare held ts vs ds ps → vs.length = ts.length ∧ ds.length = ts.length
  | [], _, _, _, h => by
    obtain ⟨rfl, rfl, rfl⟩ := trodAll_nil h
    exact ⟨rfl, rfl⟩
  | t :: ts, _, _, _, h => by
    obtain ⟨v, vs1, d, ds1, a, b, rfl, rfl, rfl, h1, h2⟩ := trodAll_cons h
    have := trodAll_length h2
    simp [this]

end

/-- the row: true, and what came in reads as it did -/
theorem lawTrue {H : Type} {enc : TypeId × Value → H} {C : Checked} {os : Os} {f : FuncId} {fn : Func} {s : ChangeSpec} {conds : List PathCond} {apart fresh handsOn : Bool} {tb : TypeId}
    (own : ownKnob C.prog.godebug = none) (started : os.Started) (noInit : C.prog.inits.idxOf? f = none) (hfn : C.prog.funcs[f]? = some fn)
    (laid : laidOutB C.prog = true) (hvars : s.vars = []) (hspec : ∀ ds : List (DataW H), ds.length = fn.params.toList.length → (s.fn H (ds ++ [])).results = [.lit (.bool true)] ∧ (s.fn H (ds ++ [])).args = ds ∧ (s.fn H (ds ++ [])).vars = [])
    (hres : fn.resultTypes = #[tb]) (htb : C.prog.underlying tb = some .bool)
    (types : (fn.params.toList.all fun t => C.prog.readableRec t && decide (t < C.prog.types.size)) = true)
    (witness : ∃ (w : World) (tape : Tape) (i : Input), w.os = os ∧ (w.forCall tape i).Shaped C.prog ∧ i.vars = [] ∧ Input.okWide C.prog (w.forCall tape i) .any w.heap.size f i ∧
      s.pre6 enc C.prog fn conds apart (w.forCall tape i).memory i.args ∧ Assume.holds {} C.prog (lone (Frame.enter C.prog f i.args .normal) [] (w.forCall tape i)))
    (contract : ∀ (W : World) (base : Nat) (args : Array Value) (ds : List (DataW H)) (p : List MemPlace),
      (∀ (j : Nat) t v, fn.params[j]? = some t → args[j]? = some v → Value.okWide C.prog W .any base t v) →
      DataW.TrodAll enc C.prog W 0 (fun _ => true) true fn.params.toList args.toList ds p →
      conds.all (PathCond.test C.prog ⟨fn.params.toList, ds, s.plain.varTypes C.prog, []⟩) = true →
      Calls C.prog f args W fun e W' => ∃ u, e = .returned u ∧ (u = .bool true ∧ Chg [] W W')) :
    ReturnsInHanded {} C os f .any (s.pre6 enc C.prog fn conds apart) (s.post enc C.prog fn apart fresh handsOn false) := by
  refine returnsInHanded_of_change own started noInit hfn witness ?_
  intro W base args ds gs before hval hW hcnd _
  have hW' := hW
  obtain ⟨p, q, hA, hV, rfl, _, _⟩ := hW
  rw [hvars] at hV
  obtain ⟨rfl, rfl⟩ := trodVars_none hV
  simp only [List.append_nil] at hW'
  refine (contract W base args ds p hval hA hcnd).mono fun e W' ⟨u, he, hu, hc⟩ => ?_
  subst he; subst hu
  have hb : Below W.heap.size W W' := hc.below (Nat.le_refl _) (by simp)
  obtain ⟨e1, e2, e3⟩ := hspec ds (trodAll_length hA).2
  refine ⟨_, rfl, ds, [], p, [], p, [], hW', ?_, ?_, ?_, hb.frame _, fun h => by cases h⟩
  · rw [e1, hres]
    exact trodAll_mk1 (t := tb) (v := .bool true) ⟨1, by simp [DataW.trod, Value.cells, htb]⟩
  · rw [e2]
    exact trodAll_below laid hb types hA (fun x hx => by simpa using hW'.lt x hx)
  · rw [e3, hvars]
    rfl

/-! ### what came in -/

section
variable {H : Type} {enc : TypeId × Value → H} {P : Program} {w : World} {base : Nat} {spare : Nat → Bool} {held : Bool}

theorem cell_spot {w : World} {a : Addr} {v : Value} (h : w.cell? a = some v) : a.spot = none := by
  unfold World.cell? at h
  split at h
  · split at h
    · cases h
    · rename_i hs; simpa using hs
  · cases h

end

end Go.Vc
end

/-
  WHAT CAME IN: the cells of a flat type, by its shape; slices of such.
-/
section
set_option linter.unusedVariables false
set_option linter.unusedSimpArgs false
namespace Go.Vc
open Go.ChangeShapes Go.WideShapes Go.RowKit

section
variable {H : Type} {enc : TypeId × Value → H} {P : Program} {w : World} {base : Nat} {spare : Nat → Bool} {held : Bool}

/-- kinds of cells -/
inductive Ck where
  | int (k : IntKind)
  | bool
  | str
  | ptr
  | slice
  | map

def Ck.fits : Ck → Value → Prop
  | .int k, v => ∃ n, v = .int k n ∧ (Lit.int k n).wf = true
  | .bool, v => ∃ b, v = .bool b
  | .str, v => ∃ s, v = .string s ∧ s.size ≤ maxLen
  | .ptr, v => ∃ p, v = .pointer p
  | .slice, v => ∃ p n c, v = .slice p n c ∧ n ≤ c ∧ c ≤ maxLen ∧ (p = none → n = 0)
  | .map, v => ∃ m, v = .map m

def Fits : List Ck → List Value → Prop
  | [], [] => True
  | k :: r, v :: vs => k.fits v ∧ Fits r vs
  | _, _ => False

def flatL (fl : TypeId → Option (List Ck)) : List Field → Nat → Option (List Ck)
  | [], _ => some []
  | f :: r, off => match fl f.type with
    | some l => match Nat.beq f.offset off, flatL fl r (off + l.length) with
      | true, some l' => some (l ++ l')
      | _, _ => none
    | none => none

def flat (P : Program) : Nat → TypeId → Option (List Ck)
  | 0, _ => none
  | d + 1, t => match P.underlying t with
    | some .bool => some [.bool]
    | some (.int k) => some [.int k]
    | some .string => some [.str]
    | some (.pointer _) => some [.ptr]
    | some (.slice _) => some [.slice]
    | some (.map ..) => some [.map]
    | some (.struct fs) => match flatL (flat P d) fs.toList 0 with
      | some l => if l.length = P.cellsOf t ∧ (fs.toList.all fun f => decide ((flat P d f.type).map (·.length) = some (P.cellsOf f.type))) = true then some l else none
      | none => none
    | _ => none

theorem fits_nil {cs : List Value} (h : Fits [] cs) : cs = [] := by
  cases cs with
  | nil => rfl
  | cons => exact h.elim

theorem fits_cons {k : Ck} {ks : List Ck} {cs : List Value} (h : Fits (k :: ks) cs) : ∃ v vs, cs = v :: vs ∧ k.fits v ∧ Fits ks vs := by
  cases cs with
  | nil => exact h.elim
  | cons v vs => exact ⟨v, vs, rfl, h.1, h.2⟩

theorem Fits.length {ks : List Ck} {cs : List Value} (h : Fits ks cs) : cs.length = ks.length := by
  induction ks generalizing cs with
  | nil => cases fits_nil h; rfl
  | cons k r ih =>
    obtain ⟨v, vs, rfl, _, h2⟩ := fits_cons h
    simp [ih h2]

theorem Fits.append {k l : List Ck} {a b : List Value} (h : Fits k a) (h' : Fits l b) : Fits (k ++ l) (a ++ b) := by
  induction k generalizing a with
  | nil => cases a with
    | nil => exact h'
    | cons => exact h.elim
  | cons x r ih => cases a with
    | nil => exact h.elim
    | cons v vs => exact ⟨h.1, ih h.2⟩

theorem mapM_all {α β : Type} {f : α → Option β} : ∀ {l : List α} {xs : List β}, l.mapM f = some xs → ∀ a ∈ l, ∃ y, f a = some y
  | [], _, _, a, ha => by cases ha
  | b :: r, xs, h, a, ha => by
    rw [List.mapM_cons] at h
    cases hb : f b with
    | none => simp [hb] at h
    | some y =>
      cases hr : r.mapM f with
      | none => simp [hb, hr] at h
      | some ys =>
        rcases List.mem_cons.1 ha with rfl | ha
        · exact ⟨y, hb⟩
        · exact mapM_all hr a ha

end

end Go.Vc
end

/-
  PLAIN DATA IN MEMORY: a class of Lean types that Go values stand for ('Go'), with what it takes to read them ('rep'); and
  WHAT A WALK OWNS: a list of blocks with their contents ('Ctx'), beside facts that stay ('Stable').
-/
section
set_option linter.unusedVariables false
set_option linter.unusedSimpArgs false
namespace Go.Vc
open Go.ChangeShapes Go.WideShapes Go.RowKit

/-! ### shapes of plain data -/
inductive Ty where
  | int (k : IntKind) | bool | str | opq
  | slice (e : Ty)
  | pair (a b : Ty)

def Ty.size : Ty → Nat
  | .pair a b => a.size + b.size
  | _ => 1

def isFs (P : Program) (f : Ty → TypeId → Bool) : List Field → Nat → Ty → Bool
  | [], _, _ => false
  | [x], off, ty => Nat.beq x.offset off && f ty x.type && Nat.beq (P.cellsOf x.type) ty.size
  | x :: y :: r, off, .pair a b => Nat.beq x.offset off && f a x.type && Nat.beq (P.cellsOf x.type) a.size && isFs P f (y :: r) (off + a.size) b
  | _, _, _ => false

/-- has the type t of the program this shape? -/
def Ty.is (P : Program) : Nat → Ty → TypeId → Bool
  | 0, _, _ => false
  | d + 1, .int k, t => match P.underlying t with | some (.int k') => decide (k' = k) | _ => false
  | d + 1, .bool, t => match P.underlying t with | some .bool => true | _ => false
  | d + 1, .str, t => match P.underlying t with | some .string => true | _ => false
  | d + 1, .opq, t => match P.underlying t with | some (.slice _) => true | _ => false
  | d + 1, .slice te, t => match P.underlying t with | some (.slice e) => Ty.is P d te e && Nat.beq (P.cellsOf e) te.size | _ => false
  | d + 1, .pair a b, t => match P.underlying t with
    | some (.struct fs) => Nat.beq (P.cellsOf t) (Ty.pair a b).size && isFs P (Ty.is P d) fs.toList 0 (.pair a b)
    | _ => false

/-- changed at most the blocks M; and M' has no older block than M -/
structure Step (M M' : List Nat) (w w' : World) : Prop where
  chg : Chg M w w'
  sub : ∀ b ∈ M', b ∈ M ∨ w.heap.size ≤ b

/-- a fact that stays as long as only the blocks M are written -/
class Stable (Φ : List Nat → World → Prop) : Prop where
  step : ∀ {M M' : List Nat} {w w' : World}, Step M M' w w' → Φ M w → Φ M' w'

structure Opens (ty : Ty) (α : Type) (rep : List Nat → World → List Value → α → Prop) : Prop where
  ap : ∀ {H : Type} {enc : TypeId × Value → H} {P : Program} {W : World} {d fuel : Nat} {t : TypeId} {cs : List Value} {x : DataW H × List MemPlace},
    Ty.is P d ty t = true → DataW.trod enc P W 0 (fun _ => true) true fuel t cs = some x → ∃ y : α, rep [] W cs y

structure OpensFs (ty : Ty) (α : Type) (rep : List Nat → World → List Value → α → Prop) : Prop where
  ap : ∀ {H : Type} {enc : TypeId × Value → H} {P : Program} {W : World} {d fuel : Nat} {fs : List Field} {off : Nat} {cs : List Value},
    isFs P (Ty.is P d) fs off ty = true → (∀ f ∈ fs, ∃ y, DataW.trod enc P W 0 (fun _ => true) true fuel f.type ((cs.drop f.offset).take (P.cellsOf f.type)) = some y) →
      off + ty.size = cs.length → ∃ y : α, rep [] W (cs.drop off) y

/-- a Lean type that stands for plain Go data -/
class Gv (α : Type) where
  ty : Ty
  rep : List Nat → World → List Value → α → Prop
  len : ∀ {M w cs x}, rep M w cs x → cs.length = ty.size
  pos : 0 < ty.size
  stable : ∀ {M M' : List Nat} {w w' : World} {cs x}, Step M M' w w' → rep M w cs x → rep M' w' cs x
  opens : Opens ty α rep
  opensFs : OpensFs ty α rep

theorem opensFs_one {ty : Ty} {α : Type} {rep : List Nat → World → List Value → α → Prop} (ho : Opens ty α rep) {H : Type} {enc : TypeId × Value → H} {P : Program} {W : World} {d fuel : Nat} {f : Field} {off : Nat} {cs : List Value}
    (h : isFs P (Ty.is P d) [f] off ty = true) (ht : ∃ y, DataW.trod enc P W 0 (fun _ => true) true fuel f.type ((cs.drop f.offset).take (P.cellsOf f.type)) = some y) (hl : off + ty.size = cs.length) : ∃ y : α, rep [] W (cs.drop off) y := by
  simp only [isFs, Bool.and_eq_true] at h
  obtain ⟨⟨h1, h2⟩, h3⟩ := h
  have h1 := Nat.eq_of_beq_eq_true h1
  have h3 := Nat.eq_of_beq_eq_true h3
  obtain ⟨y, hy⟩ := ht
  rw [h1, h3, List.take_of_length_le (by simp; omega)] at hy
  exact ho.ap h2 hy

theorem opensFs_plain {ty : Ty} {α : Type} {rep : List Nat → World → List Value → α → Prop} (hp : ∀ a b, ty ≠ .pair a b) (ho : Opens ty α rep) : OpensFs ty α rep := by
  constructor
  intro H enc P W d fuel fs off cs h ht hl
  match fs, h with
  | [f], h => exact opensFs_one ho h (ht f (by simp)) hl
  | f :: g :: r, h =>
    cases ty
    case pair => exact absurd rfl (hp _ _)
    all_goals simp [isFs] at h

/-! ### instances -/
theorem int_opens : Opens (.int .i64) Int (fun _ _ cs x => cs = [.int .i64 x] ∧ I64 x) := by
  constructor
  intro H enc P W d fuel t cs x h hx
  cases d with
  | zero => simp [Ty.is] at h
  | succ d =>
  cases fuel with
  | zero => simp [DataW.trod] at hx
  | succ fuel =>
  unfold Ty.is at h
  split at h
  · rename_i k ht
    have : k = .i64 := by simpa using h
    subst this
    unfold DataW.trod at hx
    rw [ht] at hx
    split at hx <;> simp_all
    rename_i k n hk
    obtain ⟨⟨rfl, hw⟩, _⟩ := hx
    simp only [Lit.wf, Bool.and_eq_true, decide_eq_true_eq] at hw
    subst hk
    simp [IntKind.min, IntKind.max, IntKind.signed, IntKind.bits] at hw
    unfold I64
    omega
  · cases h

instance goInt : Gv Int where
  ty := .int .i64
  rep _ _ cs x := cs = [.int .i64 x] ∧ I64 x
  len h := by rw [h.1]; rfl
  pos := by decide
  stable _ h := h
  opens := int_opens
  opensFs := opensFs_plain (ty := .int .i64) (fun _ _ h => by cases h) int_opens

theorem bool_opens : Opens .bool Bool (fun _ _ cs x => cs = [.bool x]) := by
  constructor
  intro H enc P W d fuel t cs x h hx
  cases d with
  | zero => simp [Ty.is] at h
  | succ d =>
  cases fuel with
  | zero => simp [DataW.trod] at hx
  | succ fuel =>
  unfold Ty.is at h
  split at h
  · rename_i ht
    unfold DataW.trod at hx
    rw [ht] at hx
    split at hx <;> simp_all
  · cases h

instance goBool : Gv Bool where
  ty := .bool
  rep _ _ cs x := cs = [.bool x]
  len h := by rw [h]; rfl
  pos := by decide
  stable _ h := h
  opens := bool_opens
  opensFs := opensFs_plain (ty := .bool) (fun _ _ h => by cases h) bool_opens

theorem str_opens : Opens .str ByteArray (fun _ _ cs x => cs = [.string x] ∧ x.size ≤ maxLen) := by
  constructor
  intro H enc P W d fuel t cs x h hx
  cases d with
  | zero => simp [Ty.is] at h
  | succ d =>
  cases fuel with
  | zero => simp [DataW.trod] at hx
  | succ fuel =>
  unfold Ty.is at h
  split at h
  · rename_i ht
    unfold DataW.trod at hx
    rw [ht] at hx
    split at hx <;> simp_all
  · cases h

instance goStr : Gv ByteArray where
  ty := .str
  rep _ _ cs x := cs = [.string x] ∧ x.size ≤ maxLen
  len h := by rw [h.1]; rfl
  pos := by decide
  stable _ h := h
  opens := str_opens
  opensFs := opensFs_plain (ty := .str) (fun _ _ h => by cases h) str_opens

/-- a slice of which only the length is told -/
structure Opq where
  len : Nat

theorem opq_opens : Opens .opq Opq (fun _ _ cs x => ∃ p c, cs = [.slice p x.len c] ∧ x.len ≤ c ∧ c ≤ maxLen) := by
  constructor
  intro H enc P W d fuel t cs x h hx
  cases d with
  | zero => simp [Ty.is] at h
  | succ d =>
  unfold Ty.is at h
  split at h
  · rename_i e ht
    rcases DataW.trod_slice ht hx with ⟨rfl, _⟩ | ⟨a, len, cap, _, _, _, _, rfl, _, _, hl, hm, _⟩
    · exact ⟨⟨0⟩, none, 0, rfl, by simp, by simp [maxLen]⟩
    · exact ⟨⟨len⟩, some a, cap, rfl, hl, hm⟩
  · cases h

instance goOpq : Gv Opq where
  ty := .opq
  rep _ _ cs x := ∃ p c, cs = [.slice p x.len c] ∧ x.len ≤ c ∧ c ≤ maxLen
  len h := by obtain ⟨p, c, rfl, _⟩ := h; rfl
  pos := by decide
  stable _ h := h
  opens := opq_opens
  opensFs := opensFs_plain (ty := .opq) (fun _ _ h => by cases h) opq_opens

/-- the elements of a slice lie there -/
def Sl {α : Type} [Gv α] (M : List Nat) (w : World) (p : Option Addr) (l : List α) : Prop :=
  ∀ j, (hj : j < l.length) → ∃ b o cs, p = some ⟨b, o, none⟩ ∧ b ∉ M ∧ RowAt w b (o + j * (Gv.ty α).size) cs ∧ Gv.rep M w cs l[j]

theorem Chg.row {S : List Nat} {w w' : World} (h : Chg S w w') {b o : Nat} {vs : List Value} (hc : RowAt w b o vs) (hS : b ∉ S) : RowAt w' b o vs :=
  fun j hj => h.cell (hc j hj) hS

theorem row_lt {w : World} {b o : Nat} {vs : List Value} (h : RowAt w b o vs) (hp : 0 < vs.length) : b < w.heap.size := by
  have h0 := h 0 hp
  rcases Nat.lt_or_ge b w.heap.size with h' | h'
  · exact h'
  · simp [World.cell?, Array.getElem?_eq_none h'] at h0

theorem Sl.stable {α : Type} [Gv α] {M M' : List Nat} {w w' : World} {p : Option Addr} {l : List α} (hs : Step M M' w w') (h : Sl M w p l) : Sl M' w' p l := by
  intro j hj
  obtain ⟨b, o, cs, h1, h2, h3, h4⟩ := h j hj
  have hlt := row_lt h3 (by rw [Gv.len h4]; exact Gv.pos)
  exact ⟨b, o, cs, h1, fun hm => by rcases hs.sub b hm with h | h; exact h2 h; omega, hs.chg.row h3 h2, Gv.stable hs h4⟩

def repList {α : Type} [Gv α] (M : List Nat) (w : World) (cs : List Value) (l : List α) : Prop :=
  ∃ p c, cs = [.slice p l.length c] ∧ l.length ≤ c ∧ c ≤ maxLen ∧ Sl M w p l

theorem list_build {α : Type} {p : Nat → α → Prop} : ∀ (n : Nat), (∀ j, j < n → ∃ x, p j x) → ∃ l : List α, l.length = n ∧ ∀ j, (hj : j < l.length) → p j l[j]
  | 0, _ => ⟨[], rfl, fun j hj => by simp at hj⟩
  | n + 1, h => by
    obtain ⟨l, hl, hp⟩ := list_build n fun j hj => h j (by omega)
    obtain ⟨x, hx⟩ := h n (by omega)
    refine ⟨l ++ [x], by simp [hl], fun j hj => ?_⟩
    by_cases hj' : j < l.length
    · rw [List.getElem_append_left hj']; exact hp j hj'
    · have : j = n := by simp at hj; omega
      subst this
      rw [List.getElem_append_right (by omega)]
      simpa [hl] using hx

theorem list_opens {α : Type} [Gv α] : Opens (.slice (Gv.ty α)) (List α) repList := by
  constructor
  intro H enc P W d fuel t cs x h hx
  cases d with
  | zero => simp [Ty.is] at h
  | succ d =>
  unfold Ty.is at h
  split at h
  · rename_i e ht
    simp only [Bool.and_eq_true] at h
    obtain ⟨h1, h2⟩ := h
    have hsz := Nat.eq_of_beq_eq_true h2
    rcases DataW.trod_slice ht hx with ⟨rfl, _⟩ | ⟨a, len, cap, elems, rest, m, _, rfl, _, _, hl, hm, hlen, hel, _⟩
    · exact ⟨[], none, 0, rfl, by simp, by simp [maxLen], fun j hj => by simp at hj⟩
    · have spot : 0 < len → ∃ b o, a = ⟨b, o, none⟩ := by
        intro hpos0
        have h3 := hel 0 hpos0
        rw [List.getElem?_eq_getElem (by omega)] at h3
        cases hcs : W.cells? 0 (a.add (0 * P.cellsOf e)) (P.cellsOf e) with
        | none => rw [hcs] at h3; cases h3
        | some cs =>
          rw [hcs] at h3
          obtain ⟨y, hy⟩ := (Gv.opens (α := α)).ap h1 h3
          obtain ⟨_, hn, h4⟩ := World.cells?_some hcs
          have hp := Gv.len hy
          have hpos : 0 < (Gv.ty α).size := Gv.pos
          have h5 := h4 0 (by omega)
          rw [List.getElem?_eq_getElem (by omega)] at h5
          have h6 := cell_spot h5
          obtain ⟨b, o, s⟩ := a
          simp [Addr.add] at h6
          subst h6
          exact ⟨b, o, rfl⟩
      have key : ∀ j, j < len → ∃ y : α, ∃ b o cs, some a = some ⟨b, o, none⟩ ∧ b ∉ ([] : List Nat) ∧ RowAt W b (o + j * (Gv.ty α).size) cs ∧ Gv.rep [] W cs y := by
        intro j hj
        have h3 := hel j hj
        rw [List.getElem?_eq_getElem (by omega)] at h3
        cases hcs : W.cells? 0 (a.add (j * P.cellsOf e)) (P.cellsOf e) with
        | none => rw [hcs] at h3; cases h3
        | some cs =>
          rw [hcs] at h3
          obtain ⟨y, hy⟩ := (Gv.opens (α := α)).ap h1 h3
          obtain ⟨_, hn, h4⟩ := World.cells?_some hcs
          have hp := Gv.len hy
          obtain ⟨b, o, rfl⟩ := spot (by omega)
          refine ⟨y, b, o, cs, rfl, by simp, fun i hi => ?_, hy⟩
          have h7 := h4 i (by omega)
          rw [addr_add, addr_add, hsz] at h7
          rw [h7, List.getElem?_eq_getElem hi]
      obtain ⟨l, hl1, hl2⟩ := list_build len key
      exact ⟨l, some a, cap, by rw [hl1], by omega, hm, hl2⟩
  · cases h

instance goList {α : Type} [Gv α] : Gv (List α) where
  ty := .slice (Gv.ty α)
  rep := repList
  len h := by obtain ⟨p, c, rfl, _⟩ := h; rfl
  pos := by simp [Ty.size]
  stable hs h := by obtain ⟨p, c, h1, h2, h3, h4⟩ := h; exact ⟨p, c, h1, h2, h3, h4.stable hs⟩
  opens := list_opens
  opensFs := opensFs_plain (ty := .slice (Gv.ty α)) (fun _ _ h => by cases h) list_opens

def repPair {α β : Type} [Gv α] [Gv β] (M : List Nat) (w : World) (cs : List Value) (x : α × β) : Prop :=
  ∃ a b, cs = a ++ b ∧ Gv.rep M w a x.1 ∧ Gv.rep M w b x.2

theorem pair_many {α β : Type} [Gv α] [Gv β] {H : Type} {enc : TypeId × Value → H} {P : Program} {W : World} {d fuel : Nat} {f g : Field} {r : List Field} {off : Nat} {cs : List Value}
    (h : isFs P (Ty.is P d) (f :: g :: r) off (.pair (Gv.ty α) (Gv.ty β)) = true) (ht : ∀ x ∈ f :: g :: r, ∃ y, DataW.trod enc P W 0 (fun _ => true) true fuel x.type ((cs.drop x.offset).take (P.cellsOf x.type)) = some y)
    (hl : off + (Ty.pair (Gv.ty α) (Gv.ty β)).size = cs.length) : ∃ y : α × β, repPair [] W (cs.drop off) y := by
  simp only [isFs, Bool.and_eq_true] at h
  obtain ⟨⟨⟨h1, h2⟩, h3⟩, h4⟩ := h
  have h1 := Nat.eq_of_beq_eq_true h1
  have h3 := Nat.eq_of_beq_eq_true h3
  simp only [Ty.size] at hl
  obtain ⟨y, hy⟩ := ht f (by simp)
  rw [h1, h3] at hy
  obtain ⟨a, ha⟩ := (Gv.opens (α := α)).ap h2 hy
  obtain ⟨b, hb⟩ := (Gv.opensFs (α := β)).ap h4 (fun x hx => ht x (List.mem_cons_of_mem _ hx)) (by omega)
  refine ⟨(a, b), _, _, ?_, ha, hb⟩
  rw [← List.drop_drop, List.take_append_drop]

theorem pair_opens {α β : Type} [Gv α] [Gv β] : Opens (.pair (Gv.ty α) (Gv.ty β)) (α × β) repPair := by
  constructor
  intro H enc P W d
  induction d with
  | zero => intro fuel t cs x h; simp [Ty.is] at h
  | succ d ih =>
    intro fuel t cs x h hx
    cases fuel with
    | zero => simp [DataW.trod] at hx
    | succ fuel =>
    unfold Ty.is at h
    split at h
    · rename_i fs ht
      simp only [Bool.and_eq_true] at h
      obtain ⟨h1, h2⟩ := h
      have h1 := Nat.eq_of_beq_eq_true h1
      unfold DataW.trod at hx
      rw [ht] at hx
      simp only at hx
      split at hx
      · rename_i hlen
        cases hm : (fs.toList.mapM fun f => DataW.trod enc P W 0 (fun _ => true) true fuel f.type ((cs.drop f.offset).take (P.cellsOf f.type))) with
        | none => simp [hm] at hx
        | some xs =>
          have all := mapM_all hm
          have key : ∃ y : α × β, repPair [] W (cs.drop 0) y := by
            generalize fs.toList = l at h2 all
            match l, h2, all with
            | [f], h2, all =>
              simp only [isFs, Bool.and_eq_true] at h2
              obtain ⟨⟨g1, g2⟩, g3⟩ := h2
              have g1 := Nat.eq_of_beq_eq_true g1
              have g3 := Nat.eq_of_beq_eq_true g3
              obtain ⟨y, hy⟩ := all f (by simp)
              rw [g1, g3, List.take_of_length_le (by simp; omega)] at hy
              exact ih g2 hy
            | f :: g :: r, h2, all => exact pair_many h2 all (by omega)
          simpa using key
      · cases hx
    · cases h

instance goPair {α β : Type} [Gv α] [Gv β] : Gv (α × β) where
  ty := .pair (Gv.ty α) (Gv.ty β)
  rep := repPair
  len h := by obtain ⟨a, b, rfl, h1, h2⟩ := h; simp [Gv.len h1, Gv.len h2, Ty.size]
  pos := by have : 0 < (Gv.ty α).size := Gv.pos; simp only [Ty.size]; omega
  stable hs h := by obtain ⟨a, b, h1, h2, h3⟩ := h; exact ⟨a, b, h1, Gv.stable hs h2, Gv.stable hs h3⟩
  opens := pair_opens
  opensFs := by
    constructor
    intro H enc P W d fuel fs off cs h ht hl
    match fs, h with
    | [f], h => exact opensFs_one pair_opens h (ht f (by simp)) hl
    | f :: g :: r, h => exact pair_many h ht hl

/-- a Go type told by another one -/
@[reducible] def Gv.via {α β : Type} [Gv β] (f : α → β) (g : β → α) (h : ∀ y, f (g y) = y) : Gv α where
  ty := Gv.ty β
  rep M w cs x := Gv.rep M w cs (f x)
  len := Gv.len
  pos := Gv.pos (α := β)
  stable := Gv.stable
  opens := ⟨fun h1 h2 => let ⟨y, hy⟩ := (Gv.opens (α := β)).ap h1 h2; ⟨g y, by simp only [h]; exact hy⟩⟩
  opensFs := ⟨fun h1 h2 h3 => let ⟨y, hy⟩ := (Gv.opensFs (α := β)).ap h1 h2 h3; ⟨g y, by simp only [h]; exact hy⟩⟩

theorem rep_int {M : List Nat} {w : World} {cs : List Value} {x : Int} : Gv.rep M w cs x ↔ cs = [.int .i64 x] ∧ I64 x := Iff.rfl
theorem rep_list {α : Type} [Gv α] {M : List Nat} {w : World} {cs : List Value} {l : List α} : Gv.rep M w cs l ↔ ∃ p c, cs = [.slice p l.length c] ∧ l.length ≤ c ∧ c ≤ maxLen ∧ Sl M w p l := Iff.rfl
end Go.Vc
end

/-
  WHAT A WALK OWNS: a list of blocks with their contents ('Ctx'), beside facts that stay ('Stable').
-/
section
set_option linter.unusedVariables false
set_option linter.unusedSimpArgs false
namespace Go.Vc
open Go.ChangeShapes Go.WideShapes Go.RowKit

instance instStableRep {α : Type} [Gv α] (cs : List Value) (x : α) : Stable (fun M w => Gv.rep M w cs x) := ⟨fun hs h => Gv.stable hs h⟩
instance instStableSl {α : Type} [Gv α] (p : Option Addr) (l : List α) : Stable (fun M w => Sl M w p l) := ⟨fun hs h => h.stable hs⟩
instance instStableTrue : Stable (fun _ _ => True) := ⟨fun _ _ => trivial⟩
instance instStableConst (p : Prop) : Stable (fun _ _ => p) := ⟨fun _ h => h⟩
instance instStableAnd (Φ Ψ : List Nat → World → Prop) [Stable Φ] [Stable Ψ] : Stable (fun M w => Φ M w ∧ Ψ M w) := ⟨fun hs h => ⟨Stable.step hs h.1, Stable.step hs h.2⟩⟩
instance instStableAll {ι : Sort _} (Φ : ι → List Nat → World → Prop) [∀ i, Stable (Φ i)] : Stable (fun M w => ∀ i, Φ i M w) := ⟨fun hs h i => Stable.step hs (h i)⟩
instance instStableEx {ι : Sort _} (Φ : ι → List Nat → World → Prop) [∀ i, Stable (Φ i)] : Stable (fun M w => ∃ i, Φ i M w) := ⟨fun hs ⟨i, h⟩ => ⟨i, Stable.step hs h⟩⟩
instance instStableImp (p : Prop) (Φ : List Nat → World → Prop) [Stable Φ] : Stable (fun M w => p → Φ M w) := ⟨fun hs h hp => Stable.step hs (h hp)⟩

/-- something that a walk owns: a block; a slice that grows; an object of any kind -/
inductive Own where
  | blk (b : Nat) (cs : List Value) (t : TypeId)
  | buf (p : Option Addr) (n c : Nat) (cs : List Value) (t : TypeId) (size : Nat)
  | obj (b : Nat) (o : Obj)

def Own.dom : Own → List Nat
  | .blk b _ _ => [b]
  | .buf (some a) _ _ _ _ _ => [a.block]
  | .buf none _ _ _ _ _ => []
  | .obj b _ => [b]

def Own.at (w : World) : Own → Prop
  | .blk b cs t => Blk w b cs t
  | .buf p n c cs t size => w.ownsRow 0 t size (.slice p n c) n cs
  | .obj b o => w.heap[b]? = some o

def dom (S : List Own) : List Nat := S.flatMap Own.dom

theorem Own.at_keep {w w' : World} {o : Own} (h : o.at w) (hk : ∀ b ∈ o.dom, w'.heap[b]? = w.heap[b]?) : o.at w' := by
  cases o with
  | blk b cs t => exact Blk.same h (hk b (by simp [Own.dom]))
  | obj b x => exact (hk b (by simp [Own.dom])).trans h
  | buf p n c cs t size =>
    obtain ⟨h1, h2⟩ := h
    refine ⟨h1, ?_⟩
    rcases h2 with h2 | ⟨g, cap, cur, e, h3, h4, h5⟩
    · exact .inl h2
    · cases e
      exact .inr ⟨g, c, cur, rfl, h3, (hk g (by simp [Own.dom])).trans h4, h5⟩

theorem Own.at_lt {w : World} {o : Own} (h : o.at w) : ∀ b ∈ o.dom, b < w.heap.size := by
  have key : ∀ (b : Nat) (x : Obj), w.heap[b]? = some x → b < w.heap.size := fun b x hx => (Array.getElem?_eq_some_iff.1 hx).1
  cases o with
  | blk b cs t => intro k hk; simp [Own.dom] at hk; subst hk; exact key _ _ h
  | obj b x => intro k hk; simp [Own.dom] at hk; subst hk; exact key _ _ h
  | buf p n c cs t size =>
    obtain ⟨_, h2⟩ := h
    intro k hk
    rcases h2 with ⟨h2, _⟩ | ⟨g, cap, cur, e, h3, h4, h5⟩
    · cases h2; simp [Own.dom] at hk
    · cases e; simp [Own.dom] at hk; subst hk; exact key _ _ h4

/-- WHAT A WALK THAT BEGAN AT W KNOWS: nothing that was there has changed; the blocks of S are its own, with these contents; Φ holds of the rest -/
structure Ctx (W w : World) (S : List Own) (Φ : List Nat → World → Prop) : Prop where
  chg : Chg [] W w
  own : ∀ o ∈ S, o.at w
  young : ∀ b ∈ dom S, W.heap.size ≤ b
  nodup : (dom S).Nodup
  phi : Φ (dom S) w

section
variable {W w w' : World} {S S' : List Own} {Φ Ψ : List Nat → World → Prop}

theorem mem_dom {b : Nat} {o : Own} (ho : o ∈ S) (hb : b ∈ o.dom) : b ∈ dom S := List.mem_flatMap.2 ⟨o, ho, hb⟩

theorem Ctx.start (W : World) (h : Φ [] W) : Ctx W W [] Φ := ⟨Chg.refl _ _, by simp, by simp [dom], by simp [dom], h⟩

theorem Ctx.lt (c : Ctx W w S Φ) {b : Nat} (hb : b ∈ dom S) : b < w.heap.size := by
  obtain ⟨o, ho, hb⟩ := List.mem_flatMap.1 hb
  exact Own.at_lt (c.own o ho) b hb

theorem Ctx.go [Stable Φ] (c : Ctx W w S Φ) (hs : Step (dom S) (dom S') w w') (ho : ∀ o ∈ S', o.at w') (hn : (dom S').Nodup) : Ctx W w' S' Φ := by
  refine ⟨c.chg.trans hs.chg fun b hb => .inr (c.young b hb), ho, fun b hb => ?_, hn, Stable.step hs c.phi⟩
  rcases hs.sub b hb with h | h
  · exact c.young b h
  · exact Nat.le_trans c.chg.size h

/-- a change of worlds that leaves all that is owned -/
theorem Ctx.call [Stable Φ] (c : Ctx W w S Φ) (h : Chg [] w w') : Ctx W w' S Φ :=
  c.go ⟨h.mono (by simp), fun b hb => .inl hb⟩ (fun o ho => Own.at_keep (c.own o ho) fun b hb => h.block b (c.lt (mem_dom ho hb)) (by simp)) c.nodup

theorem Ctx.draw [Stable Φ] (c : Ctx W w S Φ) (n : Nat) : Ctx W (w.drewN n) S Φ := c.call ((Chg.refl _ _).drewN n)

theorem Ctx.new' [Stable Φ] (c : Ctx W w S Φ) (o : Obj) (x : Own) (hd : x.dom = [w.heap.size]) (hx : x.at (w.alloc o)) : Ctx W (w.alloc o) (x :: S) Φ := by
  have hc : Chg [] w (w.alloc o) := (Chg.refl _ _).alloc o
  have hdom : dom (x :: S) = w.heap.size :: dom S := by simp [dom, hd]
  refine c.go ⟨hc.mono (by simp), fun b hb => ?_⟩ (fun y hy => ?_) ?_
  · rw [hdom] at hb
    rcases List.mem_cons.1 hb with rfl | hb
    · exact .inr (Nat.le_refl _)
    · exact .inl hb
  · rcases List.mem_cons.1 hy with rfl | hy
    · exact hx
    · exact Own.at_keep (c.own y hy) fun b hb => hc.block b (c.lt (mem_dom hy hb)) (by simp)
  · rw [hdom]
    exact List.nodup_cons.2 ⟨fun hm => by have := c.lt hm; omega, c.nodup⟩

theorem Ctx.new [Stable Φ] (c : Ctx W w S Φ) {cs : Array Value} {t : TypeId} (e : w' = w.alloc (.cells cs t)) : Ctx W w' (.blk w.heap.size cs.toList t :: S) Φ := by
  subst e
  exact c.new' _ _ rfl (by have := Blk.alloc_new w cs.toList t; simpa [Own.at] using this)

theorem Ctx.newObj [Stable Φ] (c : Ctx W w S Φ) {o : Obj} (e : w' = w.alloc o) : Ctx W w' (.obj w.heap.size o :: S) Φ := by
  subst e
  exact c.new' _ _ rfl (hp_alloc_new w o)

theorem dom_set {k : Nat} {o o' : Own} (hk : S[k]? = some o) : dom (S.set k o') = (S.take k).flatMap Own.dom ++ o'.dom ++ (S.drop (k + 1)).flatMap Own.dom := by
  have hlt : k < S.length := (List.getElem?_eq_some_iff.1 hk).1
  rw [List.set_eq_take_append_cons_drop, if_pos hlt]
  simp [dom]

theorem dom_at {k : Nat} {o : Own} (hk : S[k]? = some o) : dom S = (S.take k).flatMap Own.dom ++ o.dom ++ (S.drop (k + 1)).flatMap Own.dom := by
  have := dom_set (S := S) (o' := o) hk
  rwa [show S.set k o = S by
    apply List.ext_getElem?
    intro i
    rw [List.getElem?_set]
    split
    · rename_i h; subst h; split
      · exact hk.symm
      · rename_i h; exact absurd (List.getElem?_eq_some_iff.1 hk).1 h
    · rfl] at this

/-- one thing that is owned is written, or put in another place -/
theorem Ctx.upd [Stable Φ] (c : Ctx W w S Φ) {k : Nat} {o o' : Own} (hk : S[k]? = some o) (hc : Chg o.dom w w') (hd : ∀ b ∈ o'.dom, b ∈ o.dom ∨ w.heap.size ≤ b) (hn : o'.dom.Nodup) (ho : o'.at w') : Ctx W w' (S.set k o') Φ := by
  have hmem : o ∈ S := List.mem_of_getElem? hk
  have e := dom_at hk
  have hnd := c.nodup
  rw [e] at hnd
  have hlt : ∀ b ∈ (S.take k).flatMap Own.dom ++ o.dom ++ (S.drop (k + 1)).flatMap Own.dom, b < w.heap.size := fun b hb => c.lt (by rw [e]; exact hb)
  refine c.go ⟨hc.mono fun x hx => mem_dom hmem hx, fun b hb => ?_⟩ (fun y hy => ?_) ?_
  · rw [dom_set hk] at hb
    simp only [List.mem_append] at hb
    rcases hb with (hb | hb) | hb
    · left; rw [e]; simp [hb]
    · rcases hd b hb with h | h
      · left; rw [e]; simp [h]
      · exact .inr h
    · left; rw [e]; simp [hb]
  · obtain ⟨j, hj⟩ := List.getElem?_of_mem hy
    rw [List.getElem?_set] at hj
    split at hj
    · split at hj
      · cases hj; exact ho
      · cases hj
    · rename_i hne
      refine Own.at_keep (c.own y (List.mem_of_getElem? hj)) fun b hb => hc.block b (c.lt (mem_dom (List.mem_of_getElem? hj) hb)) fun hm => ?_
      -- b would stand twice
      simp only [List.nodup_append, List.mem_append] at hnd
      obtain ⟨⟨_, _, h1⟩, _, h2⟩ := hnd
      have hjl : j < S.length := (List.getElem?_eq_some_iff.1 hj).1
      by_cases hjk : j < k
      · have : b ∈ (S.take k).flatMap Own.dom := List.mem_flatMap.2 ⟨y, List.mem_of_getElem? (i := j) (by rw [List.getElem?_take_of_lt hjk]; exact hj), hb⟩
        exact absurd rfl (h1 b this b hm)
      · have : b ∈ (S.drop (k + 1)).flatMap Own.dom := List.mem_flatMap.2 ⟨y, List.mem_of_getElem? (i := j - (k + 1)) (by rw [List.getElem?_drop, show k + 1 + (j - (k + 1)) = j by omega]; exact hj), hb⟩
        exact absurd rfl (h2 b (.inr hm) b this)
  · rw [dom_set hk]
    simp only [List.nodup_append, List.mem_append] at hnd ⊢
    obtain ⟨⟨n1, n2, h1⟩, n3, h2⟩ := hnd
    refine ⟨⟨n1, hn, fun a ha b hb => ?_⟩, n3, fun a ha b hb => ?_⟩
    · rcases hd b hb with h | h
      · exact h1 a ha b h
      · have := hlt a (by simp [ha]); omega
    · rcases ha with ha | ha
      · exact h2 a (.inl ha) b hb
      · rcases hd a ha with h | h
        · exact h2 a (.inr h) b hb
        · have := hlt b (by simp [hb]); omega

theorem Ctx.put [Stable Φ] (c : Ctx W w S Φ) (k : Nat) {b i : Nat} {cs : List Value} {t : TypeId} {v : Value} (e : w' = w.setCell ⟨b, i, none⟩ v) (hk : S[k]? = some (.blk b cs t)) : Ctx W w' (S.set k (.blk b (cs.set i v) t)) Φ := by
  subst e
  exact c.upd hk ((Chg.refl _ _).setCell (by simp [Own.dom]) v) (by simp [Own.dom]) (by simp [Own.dom]) (Blk.set (c.own _ (List.mem_of_getElem? hk)) i v)

theorem Ctx.puts [Stable Φ] (c : Ctx W w S Φ) (k : Nat) {b i : Nat} {cs vs : List Value} {t : TypeId} (e : w' = w.setCells b i vs) (hk : S[k]? = some (.blk b cs t)) : Ctx W w' (S.set k (.blk b (setL cs i vs) t)) Φ := by
  subst e
  exact c.upd hk ((Chg.refl _ _).setCells (by simp [Own.dom]) i vs) (by simp [Own.dom]) (by simp [Own.dom]) (Blk.sets vs i (c.own _ (List.mem_of_getElem? hk)))

theorem Ctx.putObj [Stable Φ] (c : Ctx W w S Φ) (k : Nat) {b : Nat} {o : Obj} (o' : Obj) (hk : S[k]? = some (.obj b o)) : Ctx W (setB w b o') (S.set k (.obj b o')) Φ :=
  c.upd hk ((Chg.refl _ _).setB (by simp [Own.dom]) o') (by simp [Own.dom]) (by simp [Own.dom]) (hp_setB_same _ _ (c.lt (mem_dom (List.mem_of_getElem? hk) (by simp [Own.dom]))))

theorem Ctx.blk (c : Ctx W w S Φ) (k : Nat) {b : Nat} {cs : List Value} {t : TypeId} (hk : S[k]? = some (.blk b cs t)) : Blk w b cs t := c.own _ (List.mem_of_getElem? hk)

theorem Ctx.get (c : Ctx W w S Φ) (k : Nat) {b i : Nat} {cs : List Value} {t : TypeId} {v : Value} (hk : S[k]? = some (.blk b cs t)) (hv : cs[i]? = some v) : w.cell? ⟨b, i, none⟩ = some v := (c.blk k hk).cell_eq hv

theorem Ctx.row (c : Ctx W w S Φ) (k : Nat) {b o : Nat} {cs vs : List Value} {t : TypeId} (hk : S[k]? = some (.blk b cs t)) (hv : ∀ j, (hj : j < vs.length) → cs[o + j]? = some vs[j]) : RowAt w b o vs := (c.blk k hk).row hv

theorem Ctx.row0 (c : Ctx W w S Φ) (k : Nat) {b : Nat} {cs : List Value} {t : TypeId} (hk : S[k]? = some (.blk b cs t)) : RowAt w b 0 cs := (c.blk k hk).row0

theorem Ctx.can (c : Ctx W w S Φ) (k : Nat) {b o n : Nat} {cs : List Value} {t : TypeId} (hk : S[k]? = some (.blk b cs t)) (hn : o + n ≤ cs.length) : CanWrite w b o n := (c.blk k hk).can hn

theorem Ctx.add (c : Ctx W w S Φ) (h : Ψ (dom S) w) : Ctx W w S (fun M w => Φ M w ∧ Ψ M w) := ⟨c.chg, c.own, c.young, c.nodup, c.phi, h⟩

theorem Ctx.weak (c : Ctx W w S Φ) (h : ∀ M w, Φ M w → Ψ M w) : Ctx W w S Ψ := ⟨c.chg, c.own, c.young, c.nodup, h _ _ c.phi⟩

theorem Ctx.with (c : Ctx W w S Φ) (h : Ψ (dom S) w) : Ctx W w S Ψ := ⟨c.chg, c.own, c.young, c.nodup, h⟩

/-- what is owned and written no more is let go -/
theorem Ctx.sub [Stable Φ] (c : Ctx W w S Φ) (h : S'.Sublist S) : Ctx W w S' Φ :=
  c.go ⟨Chg.refl _ _, fun b hb => .inl (by
      obtain ⟨o, ho, hb⟩ := List.mem_flatMap.1 hb
      exact mem_dom (h.subset ho) hb)⟩ (fun o ho => c.own o (h.subset ho)) (by
    refine List.Nodup.sublist ?_ c.nodup
    clear c
    induction h with
    | slnil => exact List.Sublist.refl _
    | cons a _ ih => exact ih.trans (List.sublist_append_right _ _)
    | cons_cons a _ ih => exact List.Sublist.append (List.Sublist.refl _) ih)

theorem Ctx.drop1 [Stable Φ] {o : Own} (c : Ctx W w (o :: S) Φ) : Ctx W w S Φ := c.sub (List.sublist_cons_self _ _)

end

/-! ### slices that grow -/
section
variable {W w : World} {S : List Own} {Φ : List Nat → World → Prop}

/-- nothing yet -/
theorem Ctx.buf0 [Stable Φ] (c : Ctx W w S Φ) (t : TypeId) (size : Nat) : Ctx W w (.buf none 0 0 [] t size :: S) Φ :=
  c.go ⟨Chg.refl _ _, fun b hb => .inl (by simpa [dom, Own.dom] using hb)⟩ (fun o ho => by
    rcases List.mem_cons.1 ho with rfl | ho
    · exact World.ownsRow_nil _ _ _ _
    · exact c.own o ho) (by have := c.nodup; simpa [dom, Own.dom] using this)

/-- a block as a slice of so many elements -/
theorem Ctx.toBuf [Stable Φ] (c : Ctx W w S Φ) (k : Nat) {b : Nat} {cs : List Value} {t : TypeId} (n size : Nat) (hk : S[k]? = some (.blk b cs t)) (hl : cs.length = n * size) (hm : n ≤ maxLen) :
    Ctx W w (S.set k (.buf (some ⟨b, 0, none⟩) n n cs t size)) Φ := by
  refine c.upd hk (Chg.refl _ _) (by simp [Own.dom]) (by simp [Own.dom]) ?_
  refine ⟨hl, .inr ⟨b, n, cs.toArray, rfl, Nat.zero_le _, c.blk k hk, Nat.le_refl _, hm, by simpa using hl, ?_⟩⟩
  simp only
  rw [← hl, List.take_length]

theorem Ctx.bufLen (c : Ctx W w S Φ) (k : Nat) {p : Option Addr} {n cap : Nat} {cs : List Value} {t : TypeId} {size : Nat} (hk : S[k]? = some (.buf p n cap cs t size)) : cs.length = n * size ∧ n ≤ cap ∧ cap ≤ maxLen := by
  obtain ⟨h1, h2⟩ := c.own _ (List.mem_of_getElem? hk)
  refine ⟨h1, ?_⟩
  rcases h2 with ⟨e, rfl⟩ | ⟨g, cap', cur, e, _, _, h3, h4, _⟩
  · cases e; simp [maxLen]
  · cases e; exact ⟨h3, h4⟩

/-- append nothing -/
theorem Ctx.append0 {P : Program} (c : Ctx W w S Φ) (k : Nat) {p : Option Addr} {n cap : Nat} {cs : List Value} {t : TypeId} {size : Nat} (hk : S[k]? = some (.buf p n cap cs t size))
    {ts ty : TypeId} {i : TypeInfo} (ht : P.underlying ts = some (.slice t)) (hi : P.info? t = some i) (q : Option Addr) (c2 : Nat) :
    (Builtin.append_ #[ts, ts] ty #[.slice p n cap, .slice q 0 c2]).run P w = .ok (.slice p n cap) w := by
  obtain ⟨_, hn, _⟩ := c.bufLen k hk
  have hf : (Builtin.firstCells i.size 0 (.slice q 0 c2)).run P w = .ok #[] w := by
    cases q <;> simp [Builtin.firstCells, loadCells, loadCellsFrom]
  simp [Builtin.append_, run_underlying ht, sizeOf, typeInfo, hi, Builtin.lenOf, hn, hf, Result.andThen]
  cases p <;> simp [storeCells, Result.andThen]

/-- append to it: from a row of m elements that lies in memory -/
theorem Ctx.append [Stable Φ] {P : Program} (c : Ctx W w S Φ) (k : Nat) {p : Option Addr} {n cap : Nat} {cs : List Value} {t : TypeId} {size : Nat} (hk : S[k]? = some (.buf p n cap cs t size))
    {ts ty : TypeId} {i : TypeInfo} {z : Value} (ht : P.underlying ts = some (.slice t)) (hi : P.info? t = some i) (hz : i.zero = some z) (hs : i.size = size) (hzs : z.cells.size = size)
    {a : Addr} {m c2 : Nat} {news : List Value} (hm : 0 < m) (hl : news.length = m * size) (hnews : ∀ j u, news[j]? = some u → w.cell? (a.add j) = some u) (h1 : ∀ u ∈ news, oneC u = true)
    (hbytes : (n + m) * i.bytes ≤ 140737488355328) (hlen : n + m ≤ 140737488355328) :
    ∃ p' cap' w', (Builtin.append_ #[ts, ts] ty #[.slice p n cap, .slice (some a) m c2]).run P w = .ok (.slice p' (n + m) cap') w' ∧ Ctx W w' (S.set k (.buf p' (n + m) cap' (cs ++ news) t size)) Φ := by
  subst hs
  have h1' : ∀ u ∈ news, u.oneCell' = true := fun u hu => by have := h1 u hu; cases u <;> simp_all [oneC, Value.oneCell']
  have hown := c.own _ (List.mem_of_getElem? hk)
  obtain ⟨hcl, hown⟩ := hown
  have hlen' : (cs ++ news).length = (n + m) * i.size := by rw [List.length_append, hcl, hl, Nat.add_mul]
  -- a new array
  have grown : ∀ (old : Nat), old < n + m → (∀ x ∈ Own.dom (.buf p n cap cs t i.size), x < w.heap.size) →
      Ctx W (w.drew.alloc (.cells (cs.toArray ++ news.toArray ++ Builtin.zeroCells z.cells (grownCap w (n + m) old t - (n + m))) t))
        (S.set k (.buf (some ⟨w.heap.size, 0, none⟩) (n + m) (grownCap w (n + m) old t) (cs ++ news) t i.size)) Φ := by
    intro old ho _
    have hge := grownCap_ge w (n + m) old t
    have hcm : grownCap w (n + m) old t ≤ maxLen := grownCap_le_maxLen w (n + m) old t (by simp only [maxLen]; omega)
    refine c.upd hk (((Chg.refl _ _).drewN 1).alloc _) (by simp [Own.dom]) (by simp [Own.dom]) ⟨hlen', .inr ⟨w.heap.size, _, _, rfl, Nat.zero_le _, hp_alloc_new w.drew _, hge, hcm, ?_, ?_⟩⟩
    · simp only [Array.size_append, List.size_toArray, size_zeroCells, hzs, hcl, hl, ← Nat.add_mul]
      congr 1
      omega
    · simp only [Array.toList_append, List.append_assoc]
      rw [← List.append_assoc, ← hlen']
      exact List.take_left
  rcases hown with ⟨e, rfl⟩ | ⟨g, cap', cur, e, _, hg, hnc, hcm, hcs, htake⟩
  · cases e
    have hx : cs = [] := List.eq_nil_of_length_eq_zero (by simpa using hcl)
    subst hx
    have hr := run_append_nil (P := P) w ts ty t i z ht hi hz a m c2 news hl hnews hm (by omega) (by have hb := hbytes; simp only [Nat.zero_add] at hb; omega)
    have hgr := grown 0 (by omega) (by simp [Own.dom])
    simp only [Nat.zero_add, List.nil_append, Array.empty_append] at hgr hr ⊢
    exact ⟨_, _, _, hr, hgr⟩
  · cases e
    by_cases hroom : n + m ≤ cap
    · have hfit : n * i.size + news.length ≤ cur.size := by rw [hl, hcs, ← Nat.add_mul]; exact Nat.mul_le_mul_right _ hroom
      have hr := run_append_room (P := P) w ts ty t i ht hi g n cap cur hg a m c2 news hl hnews h1' hroom hfit
      refine ⟨_, _, _, hr, c.upd hk ⟨rfl, rfl, rfl, by simp, fun b _ hb => setRow_other w g b _ (by simpa [Own.dom] using hb)⟩ (by simp [Own.dom]) (by simp [Own.dom])
        ⟨hlen', .inr ⟨g, cap, _, rfl, Nat.zero_le _, setRow_heap w g cur _ t _ hg, hroom, hcm, ?_, ?_⟩⟩⟩
      · simp only [List.size_toArray, List.length_append, List.length_take, List.length_drop, Array.length_toList]
        omega
      · rw [htake, ← hlen']
        exact List.take_left
    · have holds : ∀ j u, cs[j]? = some u → w.cell? ((⟨g, 0, none⟩ : Addr).add j) = some u := by
        intro j u hj
        have hlt : j < cs.length := (List.getElem?_eq_some_iff.1 hj).1
        have h2 : cur[j]? = some u := by
          rw [← htake, List.getElem?_take_of_lt (by omega)] at hj
          simpa using hj
        rw [addr_add, Nat.zero_add]
        simp [World.cell?, hg, h2]
      have hr := run_append_grow (P := P) w ts ty t i z ht hi hz ⟨g, 0, none⟩ n cap cs hcl holds a m c2 news hl hnews (by omega) (by omega) (growslice_fits (by omega) hbytes)
      have hgr := grown cap (by omega) (fun x hx => c.lt (mem_dom (List.mem_of_getElem? hk) hx))
      exact ⟨_, _, _, hr, hgr⟩

/-- what lies in it -/
theorem Ctx.bufCell (c : Ctx W w S Φ) (k : Nat) {p : Option Addr} {n cap : Nat} {cs : List Value} {t : TypeId} {size : Nat} (hk : S[k]? = some (.buf p n cap cs t size)) (h0 : 0 < cs.length) :
    ∃ b, p = some ⟨b, 0, none⟩ ∧ b ∈ dom S ∧ ∀ j v, cs[j]? = some v → w.cell? ⟨b, j, none⟩ = some v ∧ w.frozen? ⟨b, j, none⟩ = false := by
  obtain ⟨h1, h2⟩ := c.own _ (List.mem_of_getElem? hk)
  rcases h2 with ⟨e, rfl⟩ | ⟨g, cap', cur, e, _, hg, hnc, hcm, hcs, htake⟩
  · simp at h1; subst h1; simp at h0
  · cases e
    refine ⟨g, rfl, mem_dom (List.mem_of_getElem? hk) (by simp [Own.dom]), fun j v hj => ?_⟩
    have hlt : j < cs.length := (List.getElem?_eq_some_iff.1 hj).1
    have h2 : cur[j]? = some v := by
      rw [← htake, List.getElem?_take_of_lt (by omega)] at hj
      simpa using hj
    exact ⟨by simp [World.cell?, hg, h2], by simp [World.frozen?, hg]⟩

/-- the elements of cells in a row -/
def Elems {α : Type} [Gv α] (M : List Nat) (w : World) (cs : List Value) (l : List α) : Prop :=
  cs.length = l.length * (Gv.ty α).size ∧ ∀ j, (hj : j < l.length) → Gv.rep M w ((cs.drop (j * (Gv.ty α).size)).take (Gv.ty α).size) l[j]

theorem Elems.nil {α : Type} [Gv α] {M : List Nat} {w : World} : Elems M w [] ([] : List α) := ⟨by simp, fun j hj => by simp at hj⟩

theorem Elems.snoc {α : Type} [Gv α] {M : List Nat} {w : World} {cs d : List Value} {l : List α} {x : α} (h : Elems M w cs l) (hx : Gv.rep M w d x) : Elems M w (cs ++ d) (l ++ [x]) := by
  have hd := Gv.len hx
  refine ⟨by simp [h.1, hd, Nat.add_mul], fun j hj => ?_⟩
  simp only [List.length_append, List.length_singleton] at hj
  by_cases hj' : j < l.length
  · rw [List.getElem_append_left hj']
    have := h.2 j hj'
    have hle : (j + 1) * (Gv.ty α).size ≤ cs.length := by rw [h.1]; exact Nat.mul_le_mul_right _ hj'
    rw [Nat.add_mul, Nat.one_mul] at hle
    rw [List.drop_append_of_le_length (by omega), List.take_append_of_le_length (by simp; omega)]
    exact this
  · have : j = l.length := by omega
    subst this
    rw [List.getElem_append_right (Nat.le_refl _), ← h.1, List.drop_left, ← hd, List.take_length]
    simpa using hx

theorem Elems.append {α : Type} [Gv α] {M : List Nat} {w : World} {cs ds : List Value} {l : List α} (h : Elems M w cs l) : ∀ {r : List α}, Elems M w ds r → Elems M w (cs ++ ds) (l ++ r) := by
  intro r hr
  refine ⟨by simp [h.1, hr.1, Nat.add_mul], fun j hj => ?_⟩
  simp only [List.length_append] at hj
  by_cases hj' : j < l.length
  · rw [List.getElem_append_left hj']
    have := h.2 j hj'
    have hle : (j + 1) * (Gv.ty α).size ≤ cs.length := by rw [h.1]; exact Nat.mul_le_mul_right _ hj'
    rw [Nat.add_mul, Nat.one_mul] at hle
    rw [List.drop_append_of_le_length (by omega), List.take_append_of_le_length (by simp; omega)]
    exact this
  · rw [List.getElem_append_right (by omega), List.drop_append, List.drop_of_length_le (by rw [h.1]; exact Nat.mul_le_mul_right _ (by omega)), List.nil_append, h.1, ← Nat.sub_mul]
    exact hr.2 _ (by omega)

instance instStableElems {α : Type} [Gv α] (cs : List Value) (l : List α) : Stable (fun M w => Elems M w cs l) := ⟨fun hs h => ⟨h.1, fun j hj => Gv.stable hs (h.2 j hj)⟩⟩

/-- a slice that grew is let go: it is plain data from now on -/
theorem Ctx.freeze [Stable Φ] {α : Type} [Gv α] {p : Option Addr} {n cap : Nat} {cs : List Value} {t : TypeId} {l : List α} (c : Ctx W w (.buf p n cap cs t (Gv.ty α).size :: S) Φ)
    (h : Elems (dom (.buf p n cap cs t (Gv.ty α).size :: S)) w cs l) : Ctx W w S Φ ∧ Sl (dom S) w p l ∧ n = l.length ∧ n ≤ cap ∧ cap ≤ maxLen := by
  have c' := c.drop1
  have hl := c.bufLen 0 rfl
  have hpos : 0 < (Gv.ty α).size := Gv.pos
  have hn : n = l.length := by
    have := hl.1.symm.trans h.1
    exact Nat.eq_of_mul_eq_mul_right hpos this
  refine ⟨c', fun j hj => ?_, hn, hl.2⟩
  have hle : (j + 1) * (Gv.ty α).size ≤ cs.length := by rw [h.1]; exact Nat.mul_le_mul_right _ hj
  rw [Nat.add_mul, Nat.one_mul] at hle
  obtain ⟨b, rfl, hb, hc⟩ := c.bufCell 0 rfl (by omega)
  refine ⟨b, 0, (cs.drop (j * (Gv.ty α).size)).take (Gv.ty α).size, rfl, ?_, fun i hi => ?_, ?_⟩
  · have hnd := c.nodup
    simp only [dom, List.flatMap_cons, Own.dom, List.nodup_append] at hnd
    exact fun hm => hnd.2.2 b (by simp) b hm rfl
  · rw [Nat.zero_add]
    refine (hc _ _ ?_).1
    simp only [List.length_take, List.length_drop] at hi
    rw [List.getElem_take, List.getElem_drop, List.getElem?_eq_getElem]
  · exact Gv.stable ⟨Chg.refl _ _, fun b hb => .inl (by simp only [dom, List.flatMap_cons, List.mem_append]; exact .inr hb)⟩ (h.2 j hj)

end

end Go.Vc
end

/-
  THE CONDITIONS OF A WALK OVER WHAT IT OWNS: blocks of local variables are known cell by cell ('Tr'), everything else is told by 'Ctx'; no world is named.
-/
section
set_option linter.unusedVariables false
set_option linter.unusedSimpArgs false
namespace Go.Vc
open Go.RowKit

abbrev PW := List Nat → World → Prop

/-- what a slot holds: a plain value, or a pointer into a block whose cells are known -/
inductive SV where
  | v (x : Value)
  | ptr (k o : Nat)

/-- a block whose cells are known; 'ver' counts the writes -/
structure Tr where
  id : Nat
  b : Nat
  ver : Nat
  cs : List Value
  t : TypeId

def Tr.own (T : Tr) : Own := .blk T.b T.cs T.t

def findT (k : Nat) : List Tr → Option Tr
  | [] => none
  | T :: r => match Nat.beq T.id k with | true => some T | false => findT k r

def setT (k : Nat) (cs : List Value) : List Tr → List Tr
  | [] => []
  | T :: r => match Nat.beq T.id k with | true => ⟨T.id, T.b, Nat.succ T.ver, cs, T.t⟩ :: r | false => T :: setT k cs r

def SV.val (L : List Tr) : SV → Value
  | .v x => x
  | .ptr k o => match findT k L with | some T => .pointer (some ⟨T.b, o, none⟩) | none => unk

/-- what is known of a frame -/
structure FrS where
  n : Nat
  l : List (Nat × SV)

def getS (i : Nat) : List (Nat × SV) → SV
  | [] => .v unk
  | (t, x) :: r => match Nat.beq t i with | true => x | false => getS i r

def valL (L : List Tr) : List (Nat × SV) → List (Nat × Value)
  | [] => []
  | (t, x) :: r => (t, x.val L) :: valL L r

def FrS.fr (L : List Tr) (s : FrS) : Fr := ⟨s.n, valL L s.l⟩

def FrS.ev (s : FrS) : Operand → SV
  | .tmp t => getS t s.l
  | .const v => .v v
  | .global g => .v (.pointer (some ⟨g, 0, none⟩))
  | .func f => .v (.func (.func f) #[] #[])

def FrS.val (s : FrS) (L : List Tr) (x : Operand) : Value := (s.ev x).val L

def FrS.put (s : FrS) (d : Option Tmp) (v : SV) : FrS :=
  match d with
  | some t => match Nat.blt t s.n with
    | true => ⟨s.n, (t, v) :: s.l⟩
    | false => s
  | none => s

theorem getL_val (L : List Tr) (i : Nat) : ∀ l : List (Nat × SV), getL i (valL L l) = (getS i l).val L
  | [] => rfl
  | (t, x) :: r => by
    simp only [valL, getL, getS]
    cases Nat.beq t i with
    | true => rfl
    | false => exact getL_val L i r

theorem fr_eval (s : FrS) (L : List Tr) (x : Operand) : (s.fr L).eval x = s.val L x := by
  cases x with
  | tmp t => exact getL_val L t s.l
  | const v => rfl
  | global g => rfl
  | func f => rfl

theorem fr_put (s : FrS) (L : List Tr) (d : Option Tmp) (v : SV) : (s.put d v).fr L = (s.fr L).put d (v.val L) := by
  cases d with
  | none => rfl
  | some t =>
    simp only [FrS.put, Fr.put, FrS.fr]
    cases Nat.blt t s.n <;> rfl

/-- the blocks that are known, later: those that there were lie where they lay; what was not written holds what it held -/
structure Ext (L L' : List Tr) : Prop where
  old : ∀ k T, findT k L = some T → ∃ T', findT k L' = some T' ∧ T'.b = T.b ∧ T'.t = T.t ∧ T.ver ≤ T'.ver ∧ (T'.ver = T.ver → T'.cs = T.cs)
  bs : (L.map Tr.b).Sublist (L'.map Tr.b)
  ids : (L.map Tr.id).Nodup → (L'.map Tr.id).Nodup

theorem Ext.refl (L : List Tr) : Ext L L := ⟨fun _ T h => ⟨T, h, rfl, rfl, Nat.le_refl _, fun _ => rfl⟩, List.Sublist.refl _, id⟩
theorem Ext.trans {A B C : List Tr} (h : Ext A B) (h' : Ext B C) : Ext A C := ⟨fun k T hk => by
  obtain ⟨T1, a1, a2, a3, a4, a5⟩ := h.old k T hk
  obtain ⟨T2, b1, b2, b3, b4, b5⟩ := h'.old k T1 a1
  exact ⟨T2, b1, b2.trans a2, b3.trans a3, Nat.le_trans a4 b4, fun e => by rw [b5 (by omega), a5 (by omega)]⟩, h.bs.trans h'.bs, fun hn => h'.ids (h.ids hn)⟩

theorem findT_id {k : Nat} {T : Tr} : ∀ {L : List Tr}, findT k L = some T → T.id = k ∧ T ∈ L
  | [], h => by cases h
  | U :: r, h => by
    unfold findT at h
    split at h
    · rename_i hb; cases h; exact ⟨Nat.eq_of_beq_eq_true hb, by simp⟩
    · obtain ⟨h1, h2⟩ := findT_id h; exact ⟨h1, List.mem_cons_of_mem _ h2⟩

theorem findT_setT {k : Nat} {cs : List Value} {T : Tr} (j : Nat) : ∀ {L : List Tr}, findT k L = some T → findT j (setT k cs L) = if j = k then some ⟨T.id, T.b, Nat.succ T.ver, cs, T.t⟩ else findT j L
  | [], h => by cases h
  | U :: r, h => by
    unfold findT at h
    unfold setT
    cases hb : Nat.beq U.id k with
    | true =>
      rw [hb] at h
      cases h
      have he := Nat.eq_of_beq_eq_true hb
      simp only [findT]
      by_cases hj : j = k
      · subst hj; rw [hb, if_pos rfl]
      · rw [if_neg hj, show Nat.beq T.id j = false by
          cases hx : Nat.beq T.id j with
          | false => rfl
          | true => exact absurd ((Nat.eq_of_beq_eq_true hx).symm.trans he) hj]
    | false =>
      rw [hb] at h
      have ih := findT_setT (cs := cs) j h
      simp only [findT]
      cases hx : Nat.beq U.id j with
      | true =>
        have := Nat.eq_of_beq_eq_true hx
        rw [if_neg (fun e => by rw [this, e] at hb; exact absurd hb (by simp))]
      | false => exact ih

theorem setT_keys (k : Nat) (cs : List Value) : ∀ L : List Tr, (setT k cs L).map Tr.b = L.map Tr.b ∧ (setT k cs L).map Tr.id = L.map Tr.id
  | [] => ⟨rfl, rfl⟩
  | T :: r => by
    unfold setT
    cases Nat.beq T.id k with
    | true => exact ⟨rfl, rfl⟩
    | false => have := setT_keys k cs r; simp [this]

theorem Ext.setT {k : Nat} {cs : List Value} {L : List Tr} {T : Tr} (h : findT k L = some T) : Ext L (setT k cs L) := by
  refine ⟨fun j U hj => ?_, by rw [(setT_keys k cs L).1]; exact List.Sublist.refl _, by rw [(setT_keys k cs L).2]; exact id⟩
  rw [findT_setT j h]
  by_cases e : j = k
  · subst e
    rw [h] at hj
    cases hj
    rw [if_pos rfl]
    exact ⟨_, rfl, rfl, rfl, Nat.le_succ _, fun hh => absurd hh (Nat.succ_ne_self _)⟩
  · rw [if_neg e]
    exact ⟨U, hj, rfl, rfl, Nat.le_refl _, fun _ => rfl⟩

theorem findT_none {k : Nat} : ∀ {L : List Tr}, findT k L = none → ∀ T ∈ L, T.id ≠ k
  | [], _, T, hT => by cases hT
  | U :: r, h, T, hT => by
    unfold findT at h
    split at h
    · cases h
    · rename_i hb
      rcases List.mem_cons.1 hT with rfl | hT
      · exact Nat.ne_of_beq_eq_false hb
      · exact findT_none h T hT

theorem Ext.new {L : List Tr} {T : Tr} (h : findT T.id L = none) : Ext L (T :: L) := by
  refine ⟨fun j U hj => ?_, List.sublist_cons_self _ _, fun hn => List.nodup_cons.2 ⟨fun hm => ?_, hn⟩⟩
  rotate_left
  · obtain ⟨U, hU, e⟩ := List.mem_map.1 hm
    exact findT_none h U hU e
  unfold findT
  cases hb : Nat.beq T.id j with
  | true => have := Nat.eq_of_beq_eq_true hb; rw [this, hj] at h; cases h
  | false => exact ⟨U, hj, rfl, rfl, Nat.le_refl _, fun _ => rfl⟩

theorem Ext.val {L L' : List Tr} (h : Ext L L') {x : SV} (hu : isU (x.val L) = false) : x.val L' = x.val L := by
  cases x with
  | v x => rfl
  | ptr k o =>
    simp only [SV.val] at hu ⊢
    cases hk : findT k L with
    | none => rw [hk] at hu; cases hu
    | some T =>
      obtain ⟨T', h1, h2, _⟩ := h.old k T hk
      simp only [h1, h2]

theorem Ext.valL {L L' : List Tr} (h : Ext L L') : ∀ {l : List (Nat × SV)}, (∀ p ∈ l, ∀ k o, p.2 = SV.ptr k o → (findT k L).isSome = true) → valL L' l = valL L l
  | [], _ => rfl
  | (t, x) :: r, hl => by
    have ih := Ext.valL h (l := r) fun p hp => hl p (List.mem_cons_of_mem _ hp)
    simp only [Go.Vc.valL, ih]
    cases x with
    | v x => rfl
    | ptr k o =>
      have := hl (t, .ptr k o) (by simp) k o rfl
      obtain ⟨T, hT⟩ := Option.isSome_iff_exists.1 this
      obtain ⟨T', h1, h2, _⟩ := h.old k T hT
      simp only [SV.val, hT, h1, h2]

/-- all pointers of the frame are ones into L -/
def WfS (L : List Tr) (s : FrS) : Prop := ∀ p ∈ s.l, ∀ k o, p.2 = SV.ptr k o → (findT k L).isSome = true

theorem WfS.ext {L L' : List Tr} {s : FrS} (h : WfS L s) (he : Ext L L') : WfS L' s := fun p hp k o e => by
  obtain ⟨T, hT⟩ := Option.isSome_iff_exists.1 (h p hp k o e)
  obtain ⟨T', h1, _⟩ := he.old k T hT
  rw [h1]; rfl

theorem WfS.fr {L L' : List Tr} {s : FrS} (h : WfS L s) (he : Ext L L') : s.fr L' = s.fr L := by
  simp only [FrS.fr, he.valL h]

theorem WfS.put {L : List Tr} {s : FrS} (h : WfS L s) {d : Option Tmp} {v : SV} (hv : ∀ k o, v = SV.ptr k o → (findT k L).isSome = true) : WfS L (s.put d v) := by
  cases d with
  | none => exact h
  | some t =>
    unfold FrS.put
    simp only
    cases Nat.blt t s.n with
    | false => exact h
    | true =>
      intro p hp k o e
      rcases List.mem_cons.1 hp with rfl | hp
      · exact hv k o e
      · exact h p hp k o e

theorem WfS.ev {L : List Tr} {s : FrS} (h : WfS L s) {x : Operand} {k o : Nat} (e : s.ev x = .ptr k o) : (findT k L).isSome = true := by
  cases x with
  | tmp t =>
    unfold FrS.ev at e
    have key : ∀ l : List (Nat × SV), getS t l = .ptr k o → ∃ p ∈ l, p.2 = .ptr k o := by
      intro l
      induction l with
      | nil => intro h; cases h
      | cons p r ih =>
        intro h
        unfold getS at h
        split at h
        · exact ⟨p, by simp, h⟩
        · obtain ⟨q, hq, hq'⟩ := ih h; exact ⟨q, List.mem_cons_of_mem _ hq, hq'⟩
    obtain ⟨p, hp, hp'⟩ := key _ e
    exact h p hp k o hp'
  | const v => cases e
  | global g => cases e
  | func f => cases e

/-- WHAT IS KNOWN AT A POINT OF THE WALK; G: what is owned beside, and that no formula names: the records of ranges over a function, and the blocks for their deferred calls -/
def CtxS (G : List Own) (W w : World) (L : List Tr) (R : List Own) (Φ : PW) : Prop := Ctx W w (R ++ (L.map Tr.own ++ G)) Φ

/-! ### one operation -/
def optP : Option Prop → Prop
  | some p => p
  | none => False

def Sc.fit : Sc → Value → Bool
  | .int k, .int k' _ => decide (k' = k)
  | .bool, .bool _ => true
  | .str, .string _ => true
  | .ptr, .pointer _ => true
  | .slice, .slice _ _ _ => true
  | .map, .map _ => true
  | .fn, .func (.func _) _ _ => true
  | .any, _ => true
  | .adr, .pointer (some ⟨_, _, none⟩) => true
  | _, _ => false

def fitL : List Sc → List Value → Bool
  | [], [] => true
  | s :: r, v :: vs => match s.fit v with | true => fitL r vs | false => false
  | _, _ => false

theorem Sc.fit_ex {s : Sc} {v : Value} {K : Value → Prop} (h : s.fit v = true) (hk : K v) : s.ex K := by
  cases s
  case adr =>
    cases v
    case pointer p =>
      rcases p with _ | ⟨b, o, s⟩
      · simp only [Sc.fit] at h; cases h
      · cases s with
        | none => exact ⟨_, _, hk⟩
        | some s => simp only [Sc.fit] at h; cases h
    all_goals simp only [Sc.fit] at h; cases h
  all_goals cases v <;> simp only [Sc.fit] at h <;> first
    | (cases h; done)
    | exact ⟨_, hk⟩
    | exact ⟨_, _, _, hk⟩
    | (have := of_decide_eq_true h; subst this; exact ⟨_, hk⟩)
    | (rename_i f _ _; cases f <;> simp only [Sc.fit] at h <;> first | (cases h; done) | exact ⟨_, _, _, hk⟩)

theorem fitL_ex : ∀ {l : List Sc} {vs : List Value} {K : List Value → Prop}, fitL l vs = true → K vs → exL l K
  | [], [], _, _, hk => hk
  | s :: r, v :: vs, _, h, hk => by
    unfold fitL at h
    split at h
    · rename_i hs; exact Sc.fit_ex hs (fitL_ex h hk)
    · cases h
  | [], _ :: _, _, h, _ => by cases h
  | _ :: _, [], _, h, _ => by cases h

/-- a load from a block that is known -/
def loadT (P : Program) (t : TypeId) (L : List Tr) (k off : Nat) (K : Value → Prop) : Prop :=
  match findT k L, P.underlying t, P.info? t with
  | some T, some d, some i =>
    match aggD d, i.zero.map Sh.of with
    | true, some (.agg l) => match Nat.beq l.length i.size && fitL l ((T.cs.drop off).take i.size) with
      | true => K (.agg ((T.cs.drop off).take i.size).toArray)
      | false => False
    | false, some (.one s) => match T.cs[off]? with
      | some v => match s with
        | .fn => ∃ (f : FuncId) (a c : Array Value), v = .func (.func f) a c ∧ K (.func (.func f) a c)
        | s => match s.fit v with
          | true => K v
          | false => False
      | none => False
    | _, _ => False
  | _, _, _ => False

def fieldT (P : Program) (t : TypeId) (k off f : Nat) (K : SV → Prop) : Prop :=
  match P.underlying t with
  | some (.struct fs) =>
    match fs[f]? with
    | some fd =>
      match P.info? fd.type with
      | some i => match Nat.beq i.size 0 with
        | false => K (.ptr k (off + fd.offset))
        | true => False
      | none => False
    | none => False
  | _ => False

def indexT (P : Program) (t : TypeId) (k off : Nat) (i : Value) (K : SV → Prop) : Prop :=
  match i, P.underlying t with
  | .int _ n, some (.array len e) => match P.info? e with
    | some ie => (0 ≤ n ∧ n < len) ∧ K (.ptr k (idx off n.toNat ie.size))
    | none => False
  | _, _ => False

def isLen (o : Oper) : Bool := match o.op with | .call c => (match c.callee with | .builtin .len => true | _ => false) | _ => false

/-- an operation that writes, makes memory or calls, in a world -/
def effA (P : Program) (wr : Bool) (ex : Nat → Option TypeId) (o : Oper) (ρ : Operand → Value) (w : World) (K : Value → World → Prop) : Prop :=
  match wr with
  | true => dynK P ex o ρ w K
  | false => effK P ex o ρ w K

section
variable (P : Program) (W : World)

/-- AN OPERATION THAT READS -/
def readS (wr : Bool) (o : Oper) (s : FrS) (L : List Tr) (R : List Own) (Φ : PW) (K : SV → Prop) : Option Prop :=
  match o.op with
  | .move x => some (K (s.ev x))
  | .assign x => some (K (s.ev x))
  | .nilCheck x => match s.ev x with
    | .ptr k off => some (K (.ptr k off))
    | .v _ => quietK P wr o (s.val L) W none fun v => K (.v v)
  | .fieldAddr t x f => match s.ev x with
    | .ptr k off => some (fieldT P t k off f K)
    | .v _ => quietK P wr o (s.val L) W none fun v => K (.v v)
  | .indexAddr t x i => match s.ev x with
    | .ptr k off => some (indexT P t k off (s.val L i) K)
    | .v _ => quietK P wr o (s.val L) W none fun v => K (.v v)
  | .load t x => match s.ev x with
    | .ptr k off => some (loadT P t L k off fun v => K (.v v))
    | .v _ => some (∀ w F, Ctx W w (R ++ F) Φ → optP (quietK P wr o (s.val L) w none fun v => K (.v v)))
  | .lookup .. => some (∀ w F, Ctx W w (R ++ F) Φ → optP (quietK P wr o (s.val L) w none fun v => K (.v v)))
  | _ => match heapOp P o (s.val L) fun v => K (.v v) with
    | false => quietK P wr o (s.val L) W none fun v => K (.v v)
    | true => match isLen o with
      | true => some (∀ w F, Ctx W w (R ++ F) Φ → optP (quietK P wr o (s.val L) w none fun v => K (.v v)))
      | false => none

/-- a store into a block that is known -/
def storeT (wr : Bool) (t : TypeId) (L : List Tr) (k off : Nat) (v : Value) (K : List Tr → Prop) : Prop :=
  match findT k L, P.info? t with
  | some T, some i =>
    match wr with
    | true => match P.underlying t with
      | some d => match aggD d with
        | true => match v with
          | .agg cs => match Nat.beq cs.toList.length i.size && Nat.ble (off + i.size) T.cs.length with
            | true => OneAll cs.toList ∧ K (setT k (setL T.cs off cs.toList) L)
            | false => False
          | _ => False
        | false => match Nat.beq i.size 1 && Nat.blt off T.cs.length with
          | true => OneAll [v] ∧ K (setT k (T.cs.set off v) L)
          | false => False
      | none => False
    | false => match v with
      | .agg cs => match Nat.beq cs.toList.length i.size && cs.toList.all oneC && Nat.ble (off + i.size) T.cs.length with
        | true => K (setT k (setL T.cs off cs.toList) L)
        | false => False
      | v => match Nat.beq i.size 1 && oneC v && Nat.blt off T.cs.length with
        | true => K (setT k (T.cs.set off v) L)
        | false => False
  | _, _ => False

/-- new memory -/
def newS (trk : Bool) (d : Option Tmp) (cs : List Value) (t : TypeId) (L : List Tr) (R : List Own) (Φ : PW) (K : SV → List Tr → List Own → PW → Prop) : Prop :=
  match trk, d with
  | true, some d => match findT d L with
    | none => ∀ b : Nat, K (.ptr d 0) (⟨d, b, 0, cs, t⟩ :: L) R Φ
    | some _ => False
  | _, _ => ∀ b : Nat, K (.v (.pointer (some ⟨b, 0, none⟩))) L (.blk b cs t :: R) Φ

/-- the cells of a slice's literal -/
def sliceCells (t : TypeId) (n : Nat) (parts : List (Nat × Value)) : Option (List Value × TypeId) :=
  match P.underlying t with
  | some (.slice e) =>
    match P.info? e, zeroOf P e with
    | some i, some z =>
      match Nat.ble (n * i.size) 16777216 && Nat.beq i.size z.cells.toList.length with
      | true =>
        match fillL (fun j => some (j * i.size, i.size)) (zeros n z.cells.toList) parts with
        | some cells => some (cells, e)
        | none => none
      | false => none
    | _, _ => none
  | _ => none

def makeS (t : TypeId) (l c : Value) (K : Nat → Nat → List Value → TypeId → Prop) : Prop :=
  match P.underlying t, l, c with
  | some (.slice e), .int .i64 l, .int .i64 c =>
    match P.info? e, zeroOf P e with
    | some i, some z =>
      (0 ≤ l ∧ l ≤ c ∧ i.bytes * c ≤ 281474976710656 ∧ c ≤ 9223372036854775807) ∧
        (match Nat.beq i.size 1 && oneC z with
          | true => K l.toNat c.toNat (List.replicate c.toNat z) e
          | false => match Nat.beq i.size z.cells.toList.length && !(Nat.beq i.size 0) with
            | true => K l.toNat c.toNat (zeros c.toNat z.cells.toList) e
            | false => False)
    | _, _ => False
  | _, _, _ => False

/-- ANY OPERATION -/
def opS (wr trk : Bool) (ex : Nat → Option TypeId) (o : Oper) (s : FrS) (L : List Tr) (R : List Own) (Φ : PW) (K : SV → List Tr → List Own → PW → Prop) : Prop :=
  match o.op with
  | .pick c x y => match s.val L c with
    | .bool b => Br b (K (s.ev x) L R Φ) (K (s.ev y) L R Φ)
    | _ => False
  | _ => match okOps (s.fr L) o && notSel o with
    | true => match readS P W wr o s L R Φ fun v => K v L R Φ with
      | some p => p
      | none => match o.op with
        | .store t x y => match s.ev x with
          | .ptr k off => storeT P wr t L k off (s.val L y) fun L => K (.v undef) L R Φ
          | .v _ => ∀ w F, Ctx W w (R ++ F) Φ → effA P wr ex o (s.val L) w fun v w' => ∃ R' Φ', Stable Φ' ∧ Ctx W w' (R' ++ F) Φ' ∧ K (.v v) L R' Φ'
        | .box t x => newS trk o.dst (s.val L x).cells.toList t L R Φ K
        | .alloc t => match zeroOf P t with
          | some z => newS trk o.dst z.cells.toList t L R Φ K
          | none => False
        | .buildSlice t n parts => match sliceCells P t n (parts.toList.map fun p => (p.1, s.val L p.2)) with
          | some (cells, e) => ∀ b : Nat, K (.v (.slice (some ⟨b, 0, none⟩) n n)) L (.blk b cells e :: R) Φ
          | none => False
        | .makeSlice t l c => makeS P t (s.val L l) (s.val L c) fun l c cells e => ∀ b : Nat, K (.v (.slice (some ⟨b, 0, none⟩) l c)) L (.blk b cells e :: R) Φ
        | .makeMap _ none => ∀ b : Nat, K (.v (.map (some b))) L (.obj b (.map #[] 0) :: R) Φ
        | .build t parts => vcBuild P t (parts.toList.map fun p => (p.1, s.val L p.2)) fun v => K (.v v) L R Φ
        | _ => ∀ w F, Ctx W w (R ++ F) Φ → effA P wr ex o (s.val L) w fun v w' => ∃ R' Φ', Stable Φ' ∧ Ctx W w' (R' ++ F) Φ' ∧ K (.v v) L R' Φ'
    | false => False

end

end Go.Vc
end

/-
  .. it suffices: one operation.
-/
section
set_option linter.unusedVariables false
set_option linter.unusedSimpArgs false
namespace Go.Vc
variable {G : List Own}
variable {ds : List Deferred}
open Go.RowKit

theorem Ctx.perm {W w : World} {S S' : List Own} {Φ : PW} [Stable Φ] (c : Ctx W w S Φ) (h : S.Perm S') : Ctx W w S' Φ := by
  have hd : (dom S).Perm (dom S') := h.flatMap_right _
  exact c.go ⟨Chg.refl _ _, fun b hb => .inl (hd.mem_iff.2 hb)⟩ (fun o ho => c.own o (h.mem_iff.2 ho)) (hd.nodup_iff.1 c.nodup)

section
variable {P : Program} {W w : World} {L : List Tr} {R : List Own} {Φ : PW}

theorem CtxS.blk (c : CtxS G W w L R Φ) {k : Nat} {T : Tr} (h : findT k L = some T) : Blk w T.b T.cs T.t :=
  c.own T.own (List.mem_append.2 (.inr (List.mem_append.2 (.inl (List.mem_map.2 ⟨T, (findT_id h).2, rfl⟩)))))

theorem CtxS.new [Stable Φ] (c : CtxS G W w L R Φ) {cs : Array Value} {t : TypeId} (d : Nat) : CtxS G W (w.alloc (.cells cs t)) (⟨d, w.heap.size, 0, cs.toList, t⟩ :: L) R Φ := by
  have := Ctx.new c (w' := w.alloc (.cells cs t)) rfl
  exact this.perm (by simpa [Tr.own] using List.perm_middle.symm)

theorem CtxS.newR [Stable Φ] (c : CtxS G W w L R Φ) {cs : Array Value} {t : TypeId} : CtxS G W (w.alloc (.cells cs t)) L (.blk w.heap.size cs.toList t :: R) Φ := Ctx.new c rfl

theorem map_setT {k : Nat} {cs : List Value} {T : Tr} : ∀ {L : List Tr}, findT k L = some T → ∃ i, (L.map Tr.own)[i]? = some T.own ∧ (setT k cs L).map Tr.own = (L.map Tr.own).set i (.blk T.b cs T.t)
  | [], h => by cases h
  | U :: r, h => by
    unfold findT at h
    unfold setT
    cases hb : Nat.beq U.id k with
    | true =>
      rw [hb] at h
      cases h
      exact ⟨0, rfl, rfl⟩
    | false =>
      rw [hb] at h
      obtain ⟨i, h1, h2⟩ := map_setT (cs := cs) h
      exact ⟨i + 1, by simpa using h1, by simp [h2]⟩

theorem CtxS.upd [Stable Φ] (c : CtxS G W w L R Φ) {k : Nat} {T : Tr} {cs : List Value} {w' : World} (h : findT k L = some T) (hc : Chg [T.b] w w') (hb : Blk w' T.b cs T.t) : CtxS G W w' (setT k cs L) R Φ := by
  obtain ⟨i, h1, h2⟩ := map_setT (cs := cs) h
  unfold CtxS at c ⊢
  have hi : i < (L.map Tr.own).length := (List.getElem?_eq_some_iff.1 h1).1
  rw [h2, show R ++ ((L.map Tr.own).set i (.blk T.b cs T.t) ++ G) = (R ++ (L.map Tr.own ++ G)).set (R.length + i) (.blk T.b cs T.t) by
    rw [List.set_append_right _ _ (by omega), List.set_append_left _ _ (by omega)]; congr 3; omega]
  refine Ctx.upd c (o := T.own) (by rw [List.getElem?_append_right (by omega)]; rw [show R.length + i - R.length = i by omega, List.getElem?_append_left hi]; exact h1) hc (by simp [Own.dom, Tr.own]) (by simp [Own.dom]) hb

theorem quiet_free {wr : Bool} {o : Oper} {ρ : Operand → Value} {K : Value → Prop} {p : Prop} (W w : World) (h : quietK P wr o ρ W none K = some p) (hf : heapOp P o ρ K = false) (hp : p) :
    ∃ v, (∀ w', (execOp ρ o).run P w' = .ok (.value v) w') ∧ K v :=
  let ⟨v, h1, h2⟩ := quietK_sound' h hp
  ⟨v, fun w' => h1 trivial w' fun e => (by rw [hf] at e; cases e), h2⟩

theorem optP_quiet {wr : Bool} {o : Oper} {ρ : Operand → Value} {K : Value → Prop} (h : optP (quietK P wr o ρ w none K)) : ∃ v, (∀ w', w'.heap = w.heap → (execOp ρ o).run P w' = .ok (.value v) w') ∧ K v := by
  unfold optP at h
  split at h
  · rename_i p hp
    obtain ⟨v, h1, h2⟩ := quietK_sound hp h
    exact ⟨v, h1 trivial, h2⟩
  · exact h.elim

theorem loadT_sound {t : TypeId} {k off : Nat} {K : Value → Prop} {T : Tr} (hT : findT k L = some T) (hb : Blk w T.b T.cs T.t) (h : loadT P t L k off K) :
    ∃ v, (∀ w', w'.heap = w.heap → (loadVar t ⟨T.b, off, none⟩).run P w' = .ok v w') ∧ K v := by
  unfold loadT at h
  rw [hT] at h
  split at h
  · rename_i T' d i e hd hi
    cases e
    have key : vcLoadG P t w none T.b off K := by
      unfold vcLoadG
      rw [hd, hi]
      simp only
      split at h
      · rename_i l ha hz
        split at h
        · rename_i hc
          simp only [Bool.and_eq_true] at hc
          simp only [ha, hz, hc.1]
          refine fitL_ex hc.2 ⟨hb.row fun j hj => ?_, h⟩
          simp only [List.length_take, List.length_drop] at hj
          rw [List.getElem_take, List.getElem_drop, List.getElem?_eq_getElem]
        · exact h.elim
      · rename_i sc ha hz
        split at h
        · rename_i v hv
          split at h
          · obtain ⟨f, a, c, rfl, h⟩ := h
            simp only [ha, hz]
            exact ⟨f, a, c, hb.cell_eq hv, h⟩
          · split at h
            · rename_i hf
              simp only [ha, hz]
              exact Sc.fit_ex hf ⟨hb.cell_eq hv, h⟩
            · exact h.elim
        · exact h.elim
      · exact h.elim
    obtain ⟨v, h1, h2⟩ := vcLoadG_sound key
    exact ⟨v, h1 trivial, h2⟩
  · exact h.elim

theorem fieldT_sound {t : TypeId} {k off f : Nat} {K : SV → Prop} {T : Tr} (hT : findT k L = some T) (h : fieldT P t k off f K) :
    ∃ off', (∀ w, (Instr.fieldAt t (.pointer (some ⟨T.b, off, none⟩)) f).run P w = .ok (.pointer (some ⟨T.b, off', none⟩)) w) ∧ K (.ptr k off') := by
  unfold fieldT at h
  split at h
  · rename_i fs ht
    split at h
    · rename_i fd hf
      split at h
      · rename_i i hi
        split at h
        · rename_i hz
          have hz : ¬ i.size = 0 := Nat.ne_of_beq_eq_false hz
          refine ⟨_, fun w => ?_, h⟩
          simp [Instr.fieldAt, run_underlying ht, Result.andThen, hf, Instr.sureAddr, fieldPlace, run_sizeOf hi, hz, addr_add]
        · exact h.elim
      · exact h.elim
    · exact h.elim
  · exact h.elim

theorem indexT_sound {t : TypeId} {k off : Nat} {i : Value} {K : SV → Prop} {T : Tr} (hT : findT k L = some T) (h : indexT P t k off i K) :
    ∃ off', (∀ w, (Instr.indexAt t (.pointer (some ⟨T.b, off, none⟩)) i).run P w = .ok (.pointer (some ⟨T.b, off', none⟩)) w) ∧ K (.ptr k off') := by
  unfold indexT at h
  split at h
  · rename_i kk n len e ht
    split at h
    · rename_i ie hi
      obtain ⟨⟨h3, h4⟩, h⟩ := h
      refine ⟨_, fun w => ?_, h⟩
      simp [Instr.indexAt, asIntOf, run_underlying ht, Result.andThen, h3, h4, run_sizeOf hi, addr_add, Instr.sureAddr, idx_eq]
    · exact h.elim
  · exact h.elim

theorem val_ptr {L : List Tr} {k off : Nat} {T : Tr} (h : findT k L = some T) : (SV.ptr k off).val L = .pointer (some ⟨T.b, off, none⟩) := by simp [SV.val, h]

theorem readS_sound {wr : Bool} {o : Oper} {s : FrS} {K : SV → Prop} {p : Prop} (hwf : WfS L s) (c : CtxS G W w L R Φ) (h : readS P W wr o s L R Φ K = some p) (hp : p) :
    ∃ sv, (∀ k o, sv = SV.ptr k o → (findT k L).isSome = true) ∧ (∀ w', w'.heap = w.heap → (execOp (s.val L) o).run P w' = .ok (.value (sv.val L)) w') ∧ K sv := by
  have viaW : ∀ {p : Prop}, heapOp P o (s.val L) (fun v => K (.v v)) = false → quietK P wr o (s.val L) W none (fun v => K (.v v)) = some p → p →
      ∃ sv, (∀ k o, sv = SV.ptr k o → (findT k L).isSome = true) ∧ (∀ w', w'.heap = w.heap → (execOp (s.val L) o).run P w' = .ok (.value (sv.val L)) w') ∧ K sv := by
    intro p hf hq hp
    obtain ⟨v, h1, h2⟩ := quiet_free W w hq hf hp
    exact ⟨.v v, fun k o e => (by cases e), fun w' _ => h1 w', h2⟩
  have viaw : optP (quietK P wr o (s.val L) w none (fun v => K (.v v))) →
      ∃ sv, (∀ k o, sv = SV.ptr k o → (findT k L).isSome = true) ∧ (∀ w', w'.heap = w.heap → (execOp (s.val L) o).run P w' = .ok (.value (sv.val L)) w') ∧ K sv := by
    intro hq
    obtain ⟨v, h1, h2⟩ := optP_quiet hq
    exact ⟨.v v, fun k o e => (by cases e), h1, h2⟩
  unfold readS at h
  split at h
  · rename_i x hop
    cases h
    exact ⟨s.ev x, fun k o e => hwf.ev e, fun w' _ => by simp [execOp, hop, FrS.val], hp⟩
  · rename_i x hop
    cases h
    exact ⟨s.ev x, fun k o e => hwf.ev e, fun w' _ => by simp [execOp, hop, FrS.val], hp⟩
  · rename_i x hop
    split at h
    · rename_i k off hx
      cases h
      obtain ⟨T, hT⟩ := Option.isSome_iff_exists.1 (hwf.ev hx)
      refine ⟨.ptr k off, fun k' o' e => by cases e; rw [hT]; rfl, fun w' _ => ?_, hp⟩
      have hv : s.val L x = .pointer (some ⟨T.b, off, none⟩) := by rw [FrS.val, hx, val_ptr hT]
      simp [execOp, hop, hv, val_ptr hT]
    · exact viaW (by simp [heapOp, hop]) h hp
  · rename_i t x f hop
    split at h
    · rename_i k off hx
      cases h
      obtain ⟨T, hT⟩ := Option.isSome_iff_exists.1 (hwf.ev hx)
      obtain ⟨off', h1, h2⟩ := fieldT_sound hT hp
      refine ⟨.ptr k off', fun k' o' e => by cases e; rw [hT]; rfl, fun w' _ => ?_, h2⟩
      have hv : s.val L x = .pointer (some ⟨T.b, off, none⟩) := by rw [FrS.val, hx, val_ptr hT]
      simp [execOp, hop, hv, val_ptr hT, h1 w', Result.andThen]
    · exact viaW (by simp [heapOp, hop]) h hp
  · rename_i t x i hop
    split at h
    · rename_i k off hx
      cases h
      obtain ⟨T, hT⟩ := Option.isSome_iff_exists.1 (hwf.ev hx)
      obtain ⟨off', h1, h2⟩ := indexT_sound hT hp
      refine ⟨.ptr k off', fun k' o' e => by cases e; rw [hT]; rfl, fun w' _ => ?_, h2⟩
      have hv : s.val L x = .pointer (some ⟨T.b, off, none⟩) := by rw [FrS.val, hx, val_ptr hT]
      simp [execOp, hop, hv, val_ptr hT, h1 w', Result.andThen]
    · exact viaW (by simp [heapOp, hop]) h hp
  · rename_i t x hop
    split at h
    · rename_i k off hx
      cases h
      obtain ⟨T, hT⟩ := Option.isSome_iff_exists.1 (hwf.ev hx)
      obtain ⟨v, h1, h2⟩ := loadT_sound hT (c.blk hT) hp
      refine ⟨.v v, fun k o e => (by cases e), fun w' hw => ?_, h2⟩
      have hv : s.val L x = .pointer (some ⟨T.b, off, none⟩) := by rw [FrS.val, hx, val_ptr hT]
      simp [execOp, hop, hv, Instr.loadAt, Instr.sureAddr, h1 w' hw, Result.andThen, SV.val]
    · cases h; exact viaw (hp w _ c)
  · cases h; exact viaw (hp w _ c)
  · split at h
    · rename_i hf; exact viaW hf h hp
    · split at h
      · cases h; exact viaw (hp w _ c)
      · cases h

theorem goOn_mono {K K' : Value → World → Prop} (hK : ∀ v w, K v w → K' v w) : ∀ {r}, goOn P K r → goOn P K' r := by
  intro r hr
  cases r with
  | ok n w' =>
    cases n <;> simp only [goOn] at hr ⊢ <;> try exact hr
    · exact hK _ _ hr
    · exact hK _ _ hr
    · exact hr.mono fun e w'' ⟨v, he, hk⟩ => ⟨v, he, hK _ _ hk⟩
  | halt x w' => exact hr

theorem cells_store {t : TypeId} {i : TypeInfo} {b off : Nat} {cs : List Value} {ty : TypeId} {vs : List Value} (hi : P.info? t = some i) (hb : Blk w b cs ty) (hn : vs.length = i.size) (h1 : ∀ v ∈ vs, oneC v = true) (hl : off + i.size ≤ cs.length) :
    (storeVar t ⟨b, off, none⟩ (.agg vs.toArray)).run P w = .ok () (w.setCells b off vs) := by
  have hcan := hb.can (o := off) (n := vs.length) (by omega)
  have hr := run_storeCells (P := P) (b := b) (o := off) vs 0 w h1 (fun j hj => by rw [Nat.zero_add]; exact hcan j hj)
  unfold storeVar
  simp only [Value.cells, Sem.run_bind, run_sizeOf hi, Result.andThen, List.size_toArray, hn, ne_eq, not_true_eq_false, if_false]
  simpa using hr

theorem storeT_sound [Stable Φ] {wr : Bool} {t : TypeId} {k off : Nat} {v : Value} {K : List Tr → Prop} {T : Tr} (hT : findT k L = some T) (c : CtxS G W w L R Φ) (h : storeT P wr t L k off v K) :
    ∃ w' L', (storeVar t ⟨T.b, off, none⟩ v).run P w = .ok () w' ∧ K L' ∧ Ext L L' ∧ CtxS G W w' L' R Φ := by
  have hb := c.blk hT
  unfold storeT at h
  rw [hT] at h
  split at h
  case h_2 => exact h.elim
  rename_i T' i e hi
  cases e
  have agg : ∀ {cs : Array Value}, cs.toList.length = i.size → (∀ v ∈ cs.toList, oneC v = true) → off + i.size ≤ T.cs.length → K (setT k (setL T.cs off cs.toList) L) →
      ∃ w' L', (storeVar t ⟨T.b, off, none⟩ (.agg cs)).run P w = .ok () w' ∧ K L' ∧ Ext L L' ∧ CtxS G W w' L' R Φ := by
    intro cs h1 h2 h3 h4
    have hr := cells_store (P := P) hi hb h1 h2 h3
    rw [Array.toArray_toList] at hr
    exact ⟨_, _, hr, h4, Ext.setT hT, c.upd hT ((Chg.refl _ _).setCells (by simp) _ _) (hb.sets _ _)⟩
  have one : ∀ {v : Value}, i.size = 1 → oneC v = true → off < T.cs.length → K (setT k (T.cs.set off v) L) →
      ∃ w' L', (storeVar t ⟨T.b, off, none⟩ v).run P w = .ok () w' ∧ K L' ∧ Ext L L' ∧ CtxS G W w' L' R Φ := by
    intro v h1 h2 h3 h4
    obtain ⟨g1, g2⟩ := hb.can (o := off) (n := 1) (by omega) 0 (by omega)
    exact ⟨_, _, run_storeVar_one hi h1 h2 g1 g2, h4, Ext.setT hT, c.upd hT ((Chg.refl _ _).setCell (by simp) _) (hb.set _ _)⟩
  split at h
  · split at h
    · split at h
      · split at h
        · split at h
          · rename_i hc
            simp only [Bool.and_eq_true] at hc
            exact agg (Nat.eq_of_beq_eq_true hc.1) h.1 (Nat.le_of_ble_eq_true hc.2) h.2
          · exact h.elim
        · exact h.elim
      · split at h
        · rename_i hc
          simp only [Bool.and_eq_true] at hc
          exact one (Nat.eq_of_beq_eq_true hc.1) (h.1 _ (by simp)) (by have h2 := hc.2; rwa [Nat.blt_eq] at h2) h.2
        · exact h.elim
    · exact h.elim
  · split at h
    · split at h
      · rename_i hc
        simp only [Bool.and_eq_true] at hc
        exact agg (Nat.eq_of_beq_eq_true hc.1.1) (fun v hv => List.all_eq_true.1 hc.1.2 v hv) (Nat.le_of_ble_eq_true hc.2) h
      · exact h.elim
    · split at h
      · rename_i hc
        simp only [Bool.and_eq_true] at hc
        exact one (Nat.eq_of_beq_eq_true hc.1.1) hc.1.2 (by have h2 := hc.2; rwa [Nat.blt_eq] at h2) h
      · exact h.elim

/-- what is asked of an operation suffices -/
theorem opS_sound [Stable Φ] {wr trk : Bool} {ex : Nat → Option TypeId} {o : Oper} {s : FrS} {a : Act} {K : SV → List Tr → List Own → PW → Prop} {K' : Value → World → Prop}
    (h : opS P W wr trk ex o s L R Φ K) (hs : Sim ds (s.fr L) a) (hwf : WfS L s) (c : CtxS G W w L R Φ)
    (hK : ∀ sv L' R' Φ' v' w', K sv L' R' Φ' → Stable Φ' → Ext L L' → (∀ k o, sv = SV.ptr k o → (findT k L').isSome = true) → CtxS G W w' L' R' Φ' → (isU (sv.val L') = false → v' = sv.val L') → K' v' w') :
    goOn P K' ((execOp a.eval o).run P w) := by
  unfold opS at h
  split at h
  · rename_i cc x y hop
    split at h
    · rename_i b hc
      have hev := fr_eval s L
      have hc' : a.eval cc = .bool b := by rw [hs.eval (by rw [hev, hc]; rfl), hev, hc]
      cases b with
      | true =>
        simp only [Br] at h
        simp only [execOp, hop, hc', asBool, Sem.run_bind, Sem.run_pure, Result.andThen, if_true, goOn]
        exact hK _ _ _ _ _ _ h inferInstance (Ext.refl _) (fun k o e => hwf.ev e) c fun hu => by rw [hs.eval (by rw [hev]; exact hu), hev]; rfl
      | false =>
        simp only [Br] at h
        simp only [execOp, hop, hc', asBool, Sem.run_bind, Sem.run_pure, Result.andThen, goOn, Bool.false_eq_true, if_false]
        exact hK _ _ _ _ _ _ h inferInstance (Ext.refl _) (fun k o e => hwf.ev e) c fun hu => by rw [hs.eval (by rw [hev]; exact hu), hev]; rfl
    · exact h.elim
  · split at h
    case h_2 => exact h.elim
    rename_i ho
    simp only [Bool.and_eq_true] at ho
    rw [exec_sim hs ho.1 ho.2, show (s.fr L).eval = s.val L from funext (fr_eval s L)]
    split at h
    · rename_i p hp
      obtain ⟨sv, h1, h2, h3⟩ := readS_sound hwf c hp h
      rw [h2 w rfl]
      exact hK _ _ _ _ _ _ h3 inferInstance (Ext.refl _) h1 c fun _ => rfl
    · have gen : (∀ w F, Ctx W w (R ++ F) Φ → effA P wr ex o (s.val L) w fun v w' => ∃ R' Φ', Stable Φ' ∧ Ctx W w' (R' ++ F) Φ' ∧ K (.v v) L R' Φ') → goOn P K' ((execOp (s.val L) o).run P w) := by
        intro h
        have h := h w _ c
        have mono : ∀ v w', (∃ R' Φ', Stable Φ' ∧ Ctx W w' (R' ++ (L.map Tr.own ++ G)) Φ' ∧ K (.v v) L R' Φ') → K' v w' := by
          rintro v w' ⟨R', Φ', h1, h2, h3⟩
          exact hK _ _ _ _ _ _ h3 h1 (Ext.refl _) (fun k o e => by cases e) h2 fun _ => rfl
        unfold effA at h
        cases wr with
        | true => exact goOn_mono mono (dynK_sound h)
        | false => exact goOn_mono mono (effK_sound h)
      have new : ∀ {cs : Array Value} {t : TypeId}, newS trk o.dst cs.toList t L R Φ K → K' (.pointer (some ⟨w.heap.size, 0, none⟩)) (w.alloc (.cells cs t)) := by
        intro cs t h
        unfold newS at h
        split at h
        · rename_i d hd _
          split at h
          · rename_i hn
            refine hK _ _ _ _ _ _ (h w.heap.size) inferInstance (Ext.new (T := ⟨d, w.heap.size, 0, cs.toList, t⟩) hn) (fun k o e => ?_) (c.new d) fun _ => ?_
            · cases e; simp [findT]
            · simp [SV.val, findT]
          · exact h.elim
        · exact hK _ _ _ _ _ _ (h w.heap.size) inferInstance (Ext.refl _) (fun k o e => by cases e) c.newR fun _ => rfl
      split at h
      · rename_i t x y hop
        split at h
        · rename_i k off hx
          obtain ⟨T, hT⟩ := Option.isSome_iff_exists.1 (hwf.ev hx)
          obtain ⟨w', L', h1, h2, h3, h4⟩ := storeT_sound hT c h
          have hv : s.val L x = .pointer (some ⟨T.b, off, none⟩) := by rw [FrS.val, hx, val_ptr hT]
          simp only [execOp, hop, hv, Instr.storeAt, Instr.sureAddr, Sem.run_bind, Sem.run_pure, Result.andThen, h1]
          exact hK _ _ _ _ _ _ h2 inferInstance h3 (fun k o e => by cases e) h4 fun _ => rfl
        · exact gen h
      · rename_i t x hop
        simp only [execOp, hop, Instr.box, newVar, newRow, newObj, Sem.run_bind, Sem.run, Sem.run_pure, Result.andThen]
        exact new h
      · rename_i t hop
        split at h
        · rename_i z hz
          simp only [execOp, hop, Instr.alloc, newVar, newRow, newObj, Sem.run_bind, run_zero hz, Sem.run, Sem.run_pure, Result.andThen]
          exact new h
        · exact h.elim
      · rename_i t n parts hop
        split at h
        · rename_i cells e hsc
          have key : vcBuildSlice P t n (parts.toList.map fun p => (p.1, s.val L p.2)) w fun v w' => v = .slice (some ⟨w.heap.size, 0, none⟩) n n ∧ w' = w.alloc (.cells cells.toArray e) := by
            unfold sliceCells at hsc
            unfold vcBuildSlice
            split at hsc
            · rename_i e' ht
              split at hsc
              · rename_i i z hi hz
                split at hsc
                · rename_i hc
                  split at hsc
                  · rename_i cells' hf
                    cases hsc
                    simp only [ht, hi, hz, hc, hf]
                    exact fun w' hw' => ⟨by simp, hw'⟩
                  · cases hsc
                · cases hsc
              · cases hsc
            · cases hsc
          rw [show (parts.toList.map fun p => (p.1, s.val L p.2)) = (parts.map fun (i, x) => (i, s.val L x)).toList by simp] at key
          obtain ⟨v, w', h1, rfl, rfl⟩ := vcBuildSlice_sound key
          simp only [execOp, hop, Sem.run_bind, h1, Sem.run_pure, Result.andThen]
          exact hK _ _ _ _ _ _ (h w.heap.size) inferInstance (Ext.refl _) (fun k o e => by cases e) (by have := c.newR (cs := cells.toArray) (t := e); simpa using this) fun _ => rfl
        · exact h.elim
      · rename_i t l cc hop
        have key : vcMakeSlice P t (s.val L l) (s.val L cc) w fun v w' => ∃ n m cells e, v = .slice (some ⟨w.heap.size, 0, none⟩) n m ∧ w' = w.alloc (.cells (List.toArray cells) e) ∧ ∀ b : Nat, K (.v (.slice (some ⟨b, 0, none⟩) n m)) L (.blk b cells e :: R) Φ := by
          unfold makeS at h
          unfold vcMakeSlice
          split at h
          · rename_i e l' c' ht e1 e2
            rw [ht, e1, e2]
            simp only
            split at h
            · rename_i i z hi hz
              rw [hi, hz]
              obtain ⟨h1, h2⟩ := h
              refine ⟨h1, ?_⟩
              split at h2
              · rename_i hc
                simp only [Bool.and_eq_true, Nat.beq_eq] at hc
                rw [if_pos hc]
                exact fun w' hw' => ⟨_, _, _, _, rfl, hw', h2⟩
              · rename_i hn
                split at h2
                · rename_i hc
                  simp only [Bool.and_eq_true, Nat.beq_eq, Bool.not_eq_true'] at hc
                  rw [if_neg (by rintro ⟨q1, q2⟩; simp [q1, q2] at hn), if_pos ⟨hc.1, Nat.ne_of_beq_eq_false hc.2⟩]
                  exact fun w' hw' => ⟨_, _, _, _, rfl, hw', h2⟩
                · exact h2.elim
            · exact h.elim
          · exact h.elim
        obtain ⟨v, w', h1, n, m, cells, e, rfl, rfl, h2⟩ := vcMakeSlice_sound key
        simp only [execOp, hop, Sem.run_bind, h1, Sem.run_pure, Result.andThen]
        exact hK _ _ _ _ _ _ (h2 w.heap.size) inferInstance (Ext.refl _) (fun k o e => by cases e) (by have := c.newR (cs := cells.toArray) (t := e); simpa using this) fun _ => rfl
      · rename_i t hop
        simp only [execOp, hop, Option.map_none, Instr.makeMap, newObj, Sem.run_bind, Sem.run, Sem.run_pure, Result.andThen]
        exact hK _ _ _ _ _ _ (h w.heap.size) inferInstance (Ext.refl _) (fun k o e => by cases e) (Ctx.newObj c rfl) fun _ => rfl
      · rename_i t parts hop
        rw [show (parts.toList.map fun p => (p.1, s.val L p.2)) = (parts.map fun (i, x) => (i, s.val L x)).toList by simp] at h
        obtain ⟨v, h1, h2⟩ := vcBuild_sound (w := w) h
        simp only [execOp, hop, Sem.run_bind, h1, Sem.run_pure, Result.andThen]
        exact hK _ _ _ _ _ _ h2 inferInstance (Ext.refl _) (fun k o e => by cases e) c fun _ => rfl
      · exact gen h

end

end Go.Vc
end

