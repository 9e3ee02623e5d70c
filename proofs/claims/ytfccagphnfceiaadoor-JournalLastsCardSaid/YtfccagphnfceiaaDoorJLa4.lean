/-
  THE CONDITIONS OF A WALK OVER WHAT IT OWNS: a function's body.
-/
import Derived.Test.YtfccagphnfceiaaDoorJLa3
import Derived.Test.YtfccagphnfceiaaDoorJLa1
import Derived.Shelf.Strings.Builder1
import Derived.Shelf.Strconv.Itoa3
import Derived.Lib.AppendStr
import Derived.Lib.LaidTab
import Derived.LaidMore
import Derived.OpenShut
import Derived.Stop.Joined
import Derived.Shelf.Small.Strs
import Derived.Shelf.Small.Wraps
import Derived.Shelf.Strings.BuilderF
import Derived.Shelf.Strings.BuilderK
import Derived.Shelf.Strconv.Atoi
import Derived.Shelf.Strconv.Itoa0
import Derived.Shelf.Strconv.Itoa1
import Derived.Shelf.LaysM
import Derived.Shelf.Strconv.Itoa2
import Derived.Shelf.Strconv.AtoiErrFast
import Derived.Shelf.Strconv.ParseIntEmpty
import Derived.Shelf.Strconv.AtoiFail
import Derived.Shelf.Strconv.Clone
import Derived.Shelf.Strconv.SyntaxError
import Derived.Shelf.LaysC
import Derived.Shelf.Strconv.ToError
import Derived.Shelf.Strconv.Lower
import Derived.Shelf.Strconv.ParseUint10
import Derived.Shelf.Strconv.ParseUint10Empty
import Derived.Shelf.Strconv.ParseUint10Any
import Derived.Shelf.Strconv.ParseInt10
import Derived.Shelf.Strconv.AtoiLong
import Derived.Shelf.Strconv.AtoiInnerAll
import Derived.Shelf.Strconv.RangeError
import Derived.Shelf.Strconv.ToErrorRange
import Derived.Shelf.Strconv.AtoiAll
import Derived.Shelf.Strconv.ParseUintEmpty
import Derived.Shelf.Strconv.ParseUint10b64
import Derived.Shelf.Strconv.ParseUint10b32
import Derived.Shelf.Strconv.ParseUint10b16
import Derived.Shelf.Strconv.ParseUint10b8
import Derived.Shelf.Strconv.ParseUint10At
import Derived.Shelf.Strings.Search1
import Derived.Shelf.Strings.Prefix
import Derived.Shelf.Strings.BuilderCap
import Derived.Shelf.Slices.Clone
import Derived.Shelf.SlicesE.Clone
import Derived.Test.YtfccagphnfceiaaDoorRows
import Derived.Lib.Bytealg

section
set_option linter.unusedVariables false
set_option linter.unusedSimpArgs false
namespace Go.Vc
variable {G : List Own}
variable {ds : List Deferred}
open Go.RowKit

structure HS where
  /-- slots whose sums may wrap; calls of function values; 0: stores of values of any kind -/
  wrap : List Nat := []
  /-- slots whose new blocks are known cell by cell -/
  track : List Nat := []
  /-- regions with guards that are walked in the text's order -/
  split : List Nat := []
  /-- regions whose calls may draw -/
  draws : List Nat := []
  /-- slots that are read outside the region that writes them -/
  keep : Option (List Nat) := none
  /-- regions whose order is drawn, and that write or call: their stages -/
  stages : List (Nat × List Sg) := []
  /-- of each loop the slots and the blocks that its rounds write -/
  loops : List (Nat × Vars × Vars) := []
  cuts : List (Nat × Vars × Vars) := []

def stageAt (k : Nat) : List (Nat × List Sg) → Option (List Sg)
  | [] => none
  | (t, l) :: r => match Nat.beq t k with | true => some l | false => stageAt k r

def hintS (k : Nat) : List (Nat × Vars × Vars) → Option (Vars × Vars)
  | [] => none
  | (t, l) :: r => match Nat.beq t k with | true => some l | false => hintS k r

def meetS (asg : List Nat) (l : Vars) (vs : List Value) (s : FrS) : FrS := ⟨s.n, cons l vs (drop s.l)⟩
where
  cons : Vars → List Value → List (Nat × SV) → List (Nat × SV)
    | (t, _) :: r, v :: vs, s => (t, .v v) :: cons r vs s
    | _, _, s => s
  drop : List (Nat × SV) → List (Nat × SV)
    | [] => []
    | (t, x) :: r => match memB t asg with | true => drop r | false => (t, x) :: drop r

def keepS (k : Option (List Nat)) (s : FrS) : FrS := match k with | none => s | some k => ⟨s.n, go k s.l⟩
where go (k : List Nat) : List (Nat × SV) → List (Nat × SV)
  | [] => []
  | (t, x) :: r => match memB t k with | true => (t, x) :: go k r | false => go k r

def tsOk (ts : Vars) (L : List Tr) : Bool := match ts with
  | [] => true
  | (k, sh) :: r => match findT k L, sh with | some _, .agg _ => tsOk r L | _, _ => false

abbrev CurI (l : Vars) : Type := Cur (List Own → PW → Nat → Prop) l
abbrev CurJ (l : Vars) : Type := Cur (List Own → PW → Prop) l

def holdsI (x : Option (List Own → PW → Nat → Prop)) (R : List Own) (Φ : PW) (n : Nat) : Prop := match x with | some I => I R Φ n | none => False
def holdsJ (x : Option (List Own → PW → Prop)) (R : List Own) (Φ : PW) : Prop := match x with | some I => I R Φ | none => False

def sameN : List Nat → List Nat → Bool
  | [], [] => true
  | a :: l, b :: m => Nat.beq a b && sameN l m
  | _, _ => false

theorem sameN_eq : ∀ {l m : List Nat}, sameN l m = true → l = m
  | [], [], _ => rfl
  | a :: l, b :: m, h => by
    simp only [sameN, Bool.and_eq_true] at h
    rw [Nat.eq_of_beq_eq_true h.1, sameN_eq h.2]
  | [], _ :: _, h => by cases h
  | _ :: _, [], h => by cases h

/-- the arguments of a round in their slots -/
def putsS : Vars → List Value → FrS → FrS
  | (t, _) :: r, v :: vs, s => putsS r vs (s.put (some t) (.v v))
  | _, _, s => s

abbrev CurA (l : Vars) : Type := Cur (Nat → Prop) l
def holdsA (x : Option (Nat → Prop)) (k : Nat) : Prop := match x with | some I => I k | none => False
/-- the arguments of the rounds have the shapes, and what is told of them -/
def FitsR (l : Vars) (A : CurA l) (xs : Nat → List Value) (N : Nat) : Prop := ∀ k, k < N → holdsA (Cur.app l A (xs k)) k
section
variable (P : Program) (W : World)

def stgBody (H : HS) (ops : Array Oper) (st : List Sg) (s : FrS) (L : List Tr) (R : List Own) (Φ : PW) (K : FrS → List Tr → List Own → PW → Prop) : Prop :=
  stgS P W (fun t => memB t H.wrap) (fun t => memB t H.track) ops st s L R Φ fun s => K (keepS H.keep s)

def quietBody (H : HS) (d : Bool) (ops : Array Oper) (s : FrS) (L : List Tr) (R : List Own) (Φ : PW) (K : FrS → List Tr → List Own → PW → Prop) : Prop :=
  ∀ w F, Ctx W w (R ++ F) Φ → qsS P (fun t => memB t H.wrap) d ops L w ops.toList [] s fun s => K (keepS H.keep s) L R Φ

def regionS (H : HS) (id : Nat) (ops : Array Oper) (draw : Bool) (s : FrS) (L : List Tr) (R : List Own) (Φ : PW) (K : FrS → List Tr → List Own → PW → Prop) : Prop :=
  match draw with
  | true => match stageAt id H.stages with
    | some st => match P.follows .mixedOrders && Region.noSelect ops && sgOk ops st (Array.replicate ops.size false) && Nat.beq (sgLen st) ops.size with
      | true => stgBody P W H ops st s L R Φ K
      | false => False
    | none => match okDraw P ops with
      | true => quietBody P W H true ops s L R Φ K
      | false => False
  | false => match guarded ops.toList && !(memB id H.split) with
    | true => quietBody P W H (memB id H.draws) ops s L R Φ K
    | false => opsS P W (fun t => memB t H.wrap) (fun t => memB t H.track) ops ops.toList s L R Φ fun s => K (keepS H.keep s)

def vcS (H : HS) : Code → (Exit → FrS → List Tr → List Own → PW → Prop) → FrS → List Tr → List Own → PW → Prop
  | .skip, Q, s, L, R, Φ => Q .normal s L R Φ
  | .region id ops draw, Q, s, L, R, Φ => regionS P W H id ops draw s L R Φ (Q .normal)
  | .seq x y, Q, s, L, R, Φ =>
    match hintS (firstReg y) H.cuts with
    | none => vcS H x (fun e s' L' R' Φ' => match e with | .normal => vcS H y Q s' L' R' Φ' | e => Q e s' L' R' Φ') s L R Φ
    | some (l, ts) =>
      match varsOk (asg x) l (s.fr L) && tsOk ts L with
      | true =>
        ∃ J : CurJ (l ++ ts), vcS H x (fun e s' L' R' Φ' => match e with
            | .normal => match knownSub (asg x) (s.fr L) (s'.fr L') && sameT ts L' L with
              | true => ∃ R1 Φ1, Stable Φ1 ∧ (∀ w F, Ctx W w (R' ++ F) Φ' → Ctx W w (R1 ++ F) Φ1) ∧ holdsJ (Cur.app (l ++ ts) J (slotsOf l (s'.fr L') ++ cellsOf ts L')) R1 Φ1
              | false => False
            | e => Q e s' L' R' Φ') s L R Φ ∧
          l.all fun vs => ts.all fun us => ∀ R' Φ', Stable Φ' → holdsJ (Cur.app (l ++ ts) J (vs ++ us)) R' Φ' → vcS H y Q (meetS (asg x) l vs s) (meetT ts us L) R' Φ'
      | false => False
  | .cond c x y, Q, s, L, R, Φ => match s.val L c with
    | .bool b => Br b (vcS H x Q s L R Φ) (vcS H y Q s L R Φ)
    | _ => False
  | .block id b, Q, s, L, R, Φ => vcS H b (fun e s' L' R' Φ' => match e with | .exit n => (match Nat.beq n id with | true => Q .normal s' L' R' Φ' | false => Q (.exit n) s' L' R' Φ') | e => Q e s' L' R' Φ') s L R Φ
  | .loop b, Q, s, L, R, Φ =>
    match hintS (firstReg b) H.loops with
    | none => False
    | some (l, ts) =>
      match varsOk (asg b) l (s.fr L) && tsOk ts L with
      | true =>
        ∃ I : CurI (l ++ ts), (∃ R1 Φ1 n1, Stable Φ1 ∧ (∀ w F, Ctx W w (R ++ F) Φ → Ctx W w (R1 ++ F) Φ1) ∧ holdsI (Cur.app (l ++ ts) I (slotsOf l (s.fr L) ++ cellsOf ts L)) R1 Φ1 n1) ∧
          l.all fun vs => ts.all fun us => ∀ R' Φ' n, Stable Φ' → holdsI (Cur.app (l ++ ts) I (vs ++ us)) R' Φ' n →
            vcS H b (fun e s' L' R'' Φ'' => match e with
              | .normal => match knownSub (asg b) (s.fr L) (s'.fr L') && sameT ts L' L with
                | true => ∃ R1 Φ1 n1, Stable Φ1 ∧ (∀ w F, Ctx W w (R'' ++ F) Φ'' → Ctx W w (R1 ++ F) Φ1) ∧ holdsI (Cur.app (l ++ ts) I (slotsOf l (s'.fr L') ++ cellsOf ts L')) R1 Φ1 n1 ∧ n1 < n
                | false => False
              | e => Q e s' L' R'' Φ'') (meetS (asg b) l vs s) (meetT ts us L) R' Φ'
      | false => False
  | .exit id, Q, s, L, R, Φ => Q (.exit id) s L R Φ
  | .label _, Q, s, L, R, Φ => Q .normal s L R Φ
  | .scope b, Q, s, L, R, Φ => vcS H b (fun e s' L' R' Φ' => match e with | .goto _ => False | e => Q e s' L' R' Φ') s L R Φ
  | .ret, Q, s, L, R, Φ => Q .ret s L R Φ
  | .rangeFunc g ps x y, Q, s, L, R, Φ =>
    match s.val L g with
    | .func (.func gf) cs lb =>
      match hintS (firstReg y) H.loops with
      | none => False
      | some (l, ts) =>
        match sameN (l.map (·.1)) ps.toList && okRound x && okRound y && tsOk ts L with
        | true => cs = #[] ∧ okFun P gf = true ∧ ∃ (N : Nat) (xs : Nat → List Value) (X : World → Prop) (A : CurA l) (I : CurI ts), Iter P gf lb N (fun k => (xs k).toArray) X ∧ FitsR l A xs N ∧
            (∃ R1 Φ1, Stable Φ1 ∧ (∀ w F, Ctx W w (R ++ F) Φ → Ctx W w (R1 ++ F) Φ1) ∧ holdsI (Cur.app ts I (cellsOf ts L)) R1 Φ1 0) ∧
            ts.all fun us => ∀ R' Φ' k, Stable Φ' → holdsI (Cur.app ts I us) R' Φ' k →
              (∀ w F, Ctx W w (R' ++ F) Φ' → X w) ∧
              (k < N → l.all fun vs => holdsA (Cur.app l A vs) k → vcS H x (fun e s1 L1 R1 Φ1 => match e with
                  | .normal => vcS H y (fun e s2 L2 R2 Φ2 => match e with
                      | .normal => match sameT ts L2 L with
                        | true => ∃ R3 Φ3, Stable Φ3 ∧ (∀ w F, Ctx W w (R2 ++ F) Φ2 → Ctx W w (R3 ++ F) Φ3) ∧ holdsI (Cur.app ts I (cellsOf ts L2)) R3 Φ3 (k + 1)
                        | false => False
                      | _ => False) s1 L1 R1 Φ1
                  | _ => False) (putsS l vs s) (meetT ts us L) R' Φ') ∧
              (k = N → Q .normal s (meetT ts us L) R' Φ')
        | false => False
    | _ => False
  | _, _, _, _, _, _ => False

def resS (s : FrS) (L : List Tr) (R : List Own) (Φ : PW) : List ResultVar → (List Value → Prop) → Prop
  | [], K => K []
  | .tmp t :: r, K => match isU ((getS t s.l).val L) with
    | true => False
    | false => resS s L R Φ r fun vs => K ((getS t s.l).val L :: vs)
  | .cell a t :: r, K => match getS a s.l with
    | .ptr k off => loadT P t L k off fun v => resS s L R Φ r fun vs => K (v :: vs)
    | .v (.pointer (some ⟨b, o, none⟩)) => ∀ w F, Ctx W w (R ++ F) Φ → vcLoadG P t w none b o fun v => resS s L R Φ r fun vs => K (v :: vs)
    | .v _ => False

def bodyS (fn : Func) (J : Value → World → Prop) : Exit → FrS → List Tr → List Own → PW → Prop
  | .normal, s, L, R, Φ | .ret, s, L, R, Φ => resS P W s L R Φ fn.results.toList fun vs => ∀ w F, Ctx W w (R ++ F) Φ → J (tupled vs) w
  | _, _, _, _, _ => False

def argS : Nat → List Value → List (Nat × SV)
  | _, [] => []
  | i, v :: r => (i, .v v) :: argS (i + 1) r

def vcFS (H : HS) (f : FuncId) (args : Array Value) (R : List Own) (Φ : PW) (J : Value → World → Prop) : Prop :=
  match P.funcs[f]? with
  | some fn => match fn.body with
    | some c => vcS P W H c (bodyS P W fn J) ⟨max fn.ntmps args.size, argS 0 args.toList⟩ [] R Φ
    | none => False
  | none => False

end

/-! ### it suffices -/
theorem keepS_fr (k : Option (List Nat)) (s : FrS) (L : List Tr) : (keepS k s).fr L = (s.fr L).keep k := by
  cases k with
  | none => rfl
  | some k =>
    have key : ∀ l : List (Nat × SV), valL L (keepS.go k l) = filterL (fun t => memB t k) (valL L l) := by
      intro l
      induction l with
      | nil => rfl
      | cons p r ih =>
        obtain ⟨t, v⟩ := p
        simp only [keepS.go, valL, filterL]
        cases memB t k with
        | true => simp only [valL, ih]
        | false => exact ih
    simp only [keepS, Fr.keep, FrS.fr, key]

theorem keepS_wf {k : Option (List Nat)} {s : FrS} {L : List Tr} (h : WfS L s) : WfS L (keepS k s) := by
  cases k with
  | none => exact h
  | some k =>
    have key : ∀ l : List (Nat × SV), ∀ p ∈ keepS.go k l, p ∈ l := by
      intro l
      induction l with
      | nil => intro p hp; exact hp
      | cons q r ih =>
        obtain ⟨t, v⟩ := q
        intro p hp
        simp only [keepS.go] at hp
        cases hb : memB t k with
        | true => rw [hb] at hp; rcases List.mem_cons.1 hp with rfl | hp; simp; exact List.mem_cons_of_mem _ (ih p hp)
        | false => rw [hb] at hp; exact List.mem_cons_of_mem _ (ih p hp)
    exact fun p hp => h p (key _ p hp)

theorem At.keep {W : World} {s : FrS} {L : List Tr} {R : List Own} {Φ : PW} {a : Act} {w : World} (h : At ds G W s L R Φ a w) (k : Option (List Nat)) : At ds G W (keepS k s) L R Φ a w :=
  ⟨by rw [keepS_fr]; exact keep_sim h.sim k, keepS_wf h.wf, h.ids, h.ctx, h.st⟩

theorem meetS_fr {asg : List Nat} {l : Vars} {vs : List Value} {s : FrS} {L L1 : List Tr} (hwf : WfS L s) (hb : ∀ k T, findT k L = some T → ∃ T', findT k L1 = some T' ∧ T'.b = T.b) : (meetS asg l vs s).fr L1 = meet asg l vs (s.fr L) := by
  have key : ∀ r : List (Nat × SV), (∀ p ∈ r, ∀ k o, p.2 = SV.ptr k o → (findT k L).isSome = true) → valL L1 (meetS.drop asg r) = filterL (fun t => !memB t asg) (valL L r) := by
    intro r
    induction r with
    | nil => intro _; rfl
    | cons p r ih =>
      obtain ⟨t, v⟩ := p
      intro h
      have ih := ih fun q hq => h q (List.mem_cons_of_mem _ hq)
      simp only [meetS.drop, valL, filterL]
      cases memB t asg with
      | true => exact ih
      | false =>
        simp only [valL, Bool.not_false, ih]
        congr 2
        cases v with
        | v x => rfl
        | ptr k o =>
          obtain ⟨T, hT⟩ := Option.isSome_iff_exists.1 (h (t, .ptr k o) (by simp) k o rfl)
          obtain ⟨T', h1, h2⟩ := hb k T hT
          simp only [SV.val, hT, h1, h2]
  have key2 : ∀ (l : Vars) (vs : List Value) (r : List (Nat × SV)), valL L1 (meetS.cons l vs r) = consAll l vs (valL L1 r) := by
    intro l
    induction l with
    | nil => intro vs r; cases vs <;> rfl
    | cons p l ih =>
      obtain ⟨t, sh⟩ := p
      intro vs r
      cases vs with
      | nil => rfl
      | cons v vs => simp only [meetS.cons, consAll, valL, ih, SV.val]
  simp only [FrS.fr, meetS, meet, putAll, Fr.drop, key2, key s.l hwf]

theorem meetS_wf {asg : List Nat} {l : Vars} {vs : List Value} {s : FrS} {L L1 : List Tr} (hwf : WfS L s) (hb : ∀ k T, findT k L = some T → ∃ T', findT k L1 = some T' ∧ T'.b = T.b) : WfS L1 (meetS asg l vs s) := by
  have key : ∀ r : List (Nat × SV), ∀ p ∈ meetS.drop asg r, p ∈ r := by
    intro r
    induction r with
    | nil => intro p hp; exact hp
    | cons q r ih =>
      obtain ⟨t, v⟩ := q
      intro p hp
      simp only [meetS.drop] at hp
      cases hm : memB t asg with
      | true => rw [hm] at hp; exact List.mem_cons_of_mem _ (ih p hp)
      | false => rw [hm] at hp; rcases List.mem_cons.1 hp with rfl | hp; simp; exact List.mem_cons_of_mem _ (ih p hp)
  have key2 : ∀ (l : Vars) (vs : List Value) (r : List (Nat × SV)), ∀ p ∈ meetS.cons l vs r, p ∈ r ∨ ∃ v, p.2 = .v v := by
    intro l
    induction l with
    | nil => intro vs r p hp; cases vs <;> exact .inl hp
    | cons q l ih =>
      obtain ⟨t, sh⟩ := q
      intro vs r p hp
      cases vs with
      | nil => exact .inl hp
      | cons v vs =>
        rcases List.mem_cons.1 hp with rfl | hp
        · exact .inr ⟨v, rfl⟩
        · exact ih vs r p hp
  intro p hp k o e
  rcases key2 _ _ _ p hp with h | ⟨v, h⟩
  · obtain ⟨T, hT⟩ := Option.isSome_iff_exists.1 (hwf p (key _ p h) k o e)
    obtain ⟨T', h1, _⟩ := hb k T hT
    rw [h1]; rfl
  · rw [h] at e; cases e

theorem holdsI_some {x : Option (List Own → PW → Nat → Prop)} {R : List Own} {Φ : PW} {n : Nat} (h : holdsI x R Φ n) : ∃ I, x = some I := by
  cases x with
  | none => exact h.elim
  | some I => exact ⟨I, rfl⟩
theorem holdsJ_some {x : Option (List Own → PW → Prop)} {R : List Own} {Φ : PW} (h : holdsJ x R Φ) : ∃ I, x = some I := by
  cases x with
  | none => exact h.elim
  | some I => exact ⟨I, rfl⟩

theorem all_append {ts : Vars} {us : List Value} {ρ : Type} {x : ρ} : ∀ {l : Vars} {vs : List Value} (_ : vs.length = l.length) {K : List Value → List Value → Prop} (_ : l.all fun vs => ts.all fun us => K vs us) {f : Cur ρ (l ++ ts)} (_ : Cur.app (l ++ ts) f (vs ++ us) = some x),
    K vs us ∧ us.length = ts.length ∧ (∀ v ∈ vs, isU v = false) ∧ (∀ u ∈ us, isU u = false) := by
  intro l
  induction l with
  | nil =>
    intro vs hl K h f hx
    cases vs with
    | nil =>
      obtain ⟨h1, h2, h3⟩ := Cur.app_all hx h
      exact ⟨h1, h2, fun v hv => (by cases hv), h3⟩
    | cons v vs => simp at hl
  | cons p r ih =>
    intro vs hl K h f hx
    obtain ⟨t, s⟩ := p
    cases vs with
    | nil => simp at hl
    | cons v vs =>
      simp only [List.cons_append] at f hx
      unfold Cur.app at hx
      split at hx
      · rename_i g hg
        obtain ⟨h1, h2⟩ := Sh.app_all hg h
        obtain ⟨h3, h4, h5, h6⟩ := ih (vs := vs) (by simpa using hl) (K := fun vs us => K (v :: vs) us) h1 hx
        refine ⟨h3, h4, fun u hu => ?_, h6⟩
        rcases List.mem_cons.1 hu with rfl | hu
        · exact h2
        · exact h5 u hu
      · cases hx

theorem slotsOf_len (l : Vars) (s : Fr) : (slotsOf l s).length = l.length := by simp [slotsOf]

theorem least_ex {p : Nat → Prop} (h : ∃ n, p n) : ∃ n, p n ∧ ∀ m, p m → n ≤ m := by
  obtain ⟨n, hn⟩ := h
  induction n using Nat.strongRecOn with
  | _ n ih =>
    by_cases hx : ∃ m, m < n ∧ p m
    · obtain ⟨m, h1, h2⟩ := hx; exact ih m h1 h2
    · exact ⟨n, hn, fun m hm => by
        rcases Nat.lt_or_ge m n with h' | h'
        · exact absurd ⟨m, h', hm⟩ hx
        · exact h'⟩

theorem Cur.app_len {ρ : Type} : ∀ {l : Vars} {f : Cur ρ l} {vs : List Value} {x : ρ}, Cur.app l f vs = some x → vs.length = l.length
  | [], _, [], _, _ => rfl
  | (t, s) :: r, f, v :: vs, x, h => by
    unfold Cur.app at h
    split at h
    · simp [Cur.app_len h]
    · cases h
  | [], _, _ :: _, _, h => by cases h
  | _ :: _, _, [], _, h => by cases h

theorem enter_ok {P : Program} {f : FuncId} (h : okFun P f = true) (args : Array Value) (w : World) : (callFunc f args).run P w = .ok (.enter f args) w := by
  unfold okFun at h
  split at h
  · rename_i fn hfn
    simp only [Bool.and_eq_true, Bool.not_eq_true'] at h
    have hb' : fn.body.isNone = false := by cases hh : fn.body <;> simp_all
    simp only [callFunc, program, Sem.run, hfn, h.2, hb', Bool.false_eq_true, if_false, Sem.run_bind, Sem.run_pure, Result.andThen]
  · cases h

theorem putsS_sim {L : List Tr} : ∀ {l : Vars} {vs : List Value} {s : FrS} {a : Act}, Sim ds (s.fr L) a → WfS L s →
    Sim ds ((putsS l vs s).fr L) { tmps := ((l.map (·.1)).zip vs).foldl (fun t p => t.setIfInBounds p.1 p.2) a.tmps, defers := a.defers } ∧ WfS L (putsS l vs s)
  | (t, sh) :: r, v :: vs, s, a, h, hw => by
    have h2 : Sim ds ((s.put (some t) (.v v)).fr L) (a.put (some t) v) := by rw [fr_put]; exact h.put _ (fun _ => rfl)
    have := putsS_sim (l := r) (vs := vs) h2 (hw.put fun k o e => (by cases e))
    simpa [putsS, Act.put] using this
  | [], vs, s, a, h, hw => by
    simp only [putsS, List.map_nil, List.zip_nil_left, List.foldl_nil]
    exact ⟨h, hw⟩
  | _ :: _, [], s, a, h, hw => by
    simp only [putsS, List.zip_nil_right, List.foldl_nil]
    exact ⟨h, hw⟩

theorem vcS_sound {P : Program} {W : World} {H : HS} : ∀ (c : Code) {rd : Option Nat} {Q' : Exit → FrS → List Tr → List Own → PW → Prop} {Q : Exit → Act → World → Prop} {s : FrS} {L : List Tr} {R : List Own} {Φ : PW} {a : Act} {w : World} {ds : List Deferred} {G : List Own},
    (rd.isSome = true → okRound c = true) → vcS P W H c Q' s L R Φ → At ds G W s L R Φ a w → (∀ e s' L' R' Φ' a' w' ds' G', Q' e s' L' R' Φ' → Tie rd ds G ds' G' → At ds' G' W s' L' R' Φ' a' w' → Ext L L' → Unch (fun t => t ∈ asg c) (s.fr L) (s'.fr L') → Q e a' w') → c.wpIn (fenceAt rd) 0 P Q a w := by
  intro c
  induction c with
  | skip => intro rd Q' Q s L R Φ a w ds G hrd h ha hQ; exact wpIn_skip (hQ _ _ _ _ _ _ _ _ _ h (Tie.refl _ _ _) ha (Ext.refl _) (Unch.refl _ _))
  | region id ops draw =>
    intro rd Q' Q s L R Φ a w ds G hrd h ha hQ
    have hD : ∀ o ∈ ops.toList, ∀ t, o.dst = some t → t ∈ dsts ops.toList := fun o ho t ht => List.mem_filterMap.2 ⟨o, ho, ht⟩
    have hD' : ∀ (j : Nat) (o : Oper) (t : Nat), ops[j]? = some o → o.dst = some t → t ∈ dsts ops.toList := fun j o t ho ht => hD o (by simpa using Array.mem_of_getElem? ho) t ht
    have hQ' : ∀ s' L' R' Φ' a' w', Q' .normal (keepS H.keep s') L' R' Φ' → At ds G W s' L' R' Φ' a' w' → Ext L L' → Unch (fun t => t ∈ dsts ops.toList) (s.fr L) (s'.fr L') → Q .normal a' w' := by
      intro s' L' R' Φ' a' w' hk ha' he hu
      exact hQ _ _ _ _ _ _ _ _ _ hk (Tie.refl _ _ _) (ha'.keep _) he (by rw [keepS_fr]; exact keep_unch hu _)
    have quiet : ∀ (d : Bool), (∀ w F, Ctx W w (R ++ F) Φ → qsS P (fun t => memB t H.wrap) d ops L w ops.toList [] s fun s => Q' .normal (keepS H.keep s) L R Φ) → wpQuiet P ops (Cls d w) (fun a' => ∀ w', Cls d w w' → Q .normal a' w') ops.toList a := by
      intro d h
      refine qsS_sound (D := fun t => t ∈ dsts ops.toList) (s0 := s.fr L) ha.st ha.ids ha.ctx (fun s' a' hk hs' hwf' hu' w' hw' => ?_) _ _ _ _ hD (fun e he => (by cases he)) (h w _ ha.ctx) (Rel.start ha.sim) ha.wf (Unch.refl _ _)
      have hc' : CtxS G W w' L R Φ := by
        have := ha.st
        cases d with
        | false => cases hw'; exact ha.ctx
        | true => obtain ⟨n, rfl⟩ := hw'; exact Ctx.draw ha.ctx n
      exact hQ' s' L R Φ a' w' hk ⟨hs', hwf', ha.ids, hc', ha.st⟩ (Ext.refl _) hu'
    simp only [vcS, regionS, stgBody, quietBody] at h
    cases draw with
    | true =>
      simp only at h
      split at h
      · rename_i st _
        split at h
        · rename_i hc
          simp only [Bool.and_eq_true, Nat.beq_eq] at hc
          obtain ⟨⟨⟨h1, h2⟩, h3⟩, h4⟩ := hc
          have := ha.st
          refine reg_any (fun hh => hrd hh) h1 ?_
          have h7 := stgS_sound (Q := onlyQ Q) (L0 := L) (s0 := s.fr L) (D := fun t => t ∈ dsts ops.toList) h2 hD' (fun s' L' R' Φ' a' w' hk ha' he hu => hQ' s' L' R' Φ' a' w' hk ha' he hu) st _ _ _ _ _ _ (w.drewN 1) h3 h ⟨ha.sim, ha.wf, ha.ids, Ctx.draw ha.ctx 1, ha.st⟩ (Ext.refl _) (Unch.refl _ _)
          rw [h4] at h7
          exact h7
        · exact h.elim
      · split at h
        · rename_i hc
          simp only [okDraw, Bool.and_eq_true] at hc
          have h1 := quiet true h
          exact reg_quiet (fun hh => hrd hh) hc.1 hc.2 (by
            have e : Cls true w = fun w' => ∃ n, w' = w.drewN n := rfl
            rw [e] at h1
            exact h1)
        · exact h.elim
    | false =>
      simp only at h
      split at h
      · have h1 := quiet (memB id H.draws) h
        refine reg_list (fun hh => hrd hh) ?_
        exact wpList_of_quiet (Q := onlyQ Q) (C := Cls (memB id H.draws) w) (Qa := fun a' => ∀ w', Cls (memB id H.draws) w w' → Q .normal a' w') (fun a' w' hw' hq => hq w' hw') _ _ _ (by cases memB id H.draws; rfl; exact ⟨0, rfl⟩) h1
      · refine reg_list (fun hh => hrd hh) ?_
        exact opsS_sound (Q := onlyQ Q) (D := fun t => t ∈ dsts ops.toList) (s0 := s.fr L) (L0 := L) hD' (fun s' L' R' Φ' a' w' hk ha' he hu => hQ' s' L' R' Φ' a' w' hk ha' he hu) _ _ _ _ _ _ _ hD h ha (Ext.refl _) (Unch.refl _ _)
  | seq x y ihx ihy =>
    intro rd Q' Q s L R Φ a w ds G hrd h ha hQ
    simp only [vcS] at h
    have hrx : rd.isSome = true → okRound x = true ∧ okRound y = true := fun hh => by have := hrd hh; simpa only [okRound, Bool.and_eq_true] using this
    refine wpIn_seq ?_
    split at h
    · refine ihx (fun hh => (hrx hh).1) h ha ?_
      intro e s' L' R' Φ' a' w' ds1 G1 hq htie ha' he hu
      have hu' : Unch (fun t => t ∈ asg (.seq x y)) (s.fr L) (s'.fr L') := hu.mono fun i hi => List.mem_append.2 (.inl hi)
      cases e with
      | normal =>
        simp only [Exit.then]
        refine ihy (fun hh => (hrx hh).2) hq ha' fun e s'' L'' R'' Φ'' a'' w'' ds2 G2 hq' htie' ha'' he' hu'' => hQ _ _ _ _ _ _ _ _ _ hq' (htie.trans htie') ha'' (he.trans he') ?_
        exact hu'.trans (hu''.mono fun i hi => List.mem_append.2 (.inr hi))
      | exit n => exact hQ _ _ _ _ _ _ _ _ _ hq htie ha' he hu'
      | goto n => exact hQ _ _ _ _ _ _ _ _ _ hq htie ha' he hu'
      | ret => exact hQ _ _ _ _ _ _ _ _ _ hq htie ha' he hu'
      | panic n => exact hQ _ _ _ _ _ _ _ _ _ hq htie ha' he hu'
      | outgrown => exact hQ _ _ _ _ _ _ _ _ _ hq htie ha' he hu'
    · rename_i l ts hl
      split at h
      · rename_i hok
        simp only [Bool.and_eq_true] at hok
        obtain ⟨hv, hn⟩ := varsOk_spec hok.1
        obtain ⟨J, h1, h2⟩ := h
        refine ihx (fun hh => (hrx hh).1) h1 ha ?_
        intro e s' L' R' Φ' a' w' ds1 G1 hq htie ha' he hu
        have hu' : Unch (fun t => t ∈ asg (.seq x y)) (s.fr L) (s'.fr L') := hu.mono fun i hi => List.mem_append.2 (.inl hi)
        cases e with
        | normal =>
          simp only [Exit.then]
          simp only at hq
          split at hq
          · rename_i hsub
            simp only [Bool.and_eq_true] at hsub
            obtain ⟨R1, Φ1, hst1, hw1, hj⟩ := hq
            obtain ⟨I, hI⟩ := holdsJ_some hj
            obtain ⟨h3, _, hk, _⟩ := all_append (slotsOf_len l _) h2 hI
            have hme := meetT_ext ts (cellsOf ts L') L
            have hb : ∀ k T, findT k L = some T → ∃ T', findT k (meetT ts (cellsOf ts L') L) = some T' ∧ T'.b = T.b := fun k T hT => by obtain ⟨T', q1, q2, _⟩ := hme.old k T hT; exact ⟨T', q1, q2⟩
            have hsim := meet_sim (s := s.fr L) ha'.sim hu (fun i => knownAll_spec hsub.1) rfl hk
            have ham : At ds1 G1 W (meetS (asg x) l (slotsOf l (s'.fr L')) s) (meetT ts (cellsOf ts L') L) R1 Φ1 a' w' :=
              ⟨by rw [meetS_fr ha.wf hb]; exact hsim, meetS_wf ha.wf hb, hme.ids ha.ids, hw1 w' _ (CtxS.meet ha'.st ha'.ctx he ha.ids hsub.2), hst1⟩
            refine ihy (fun hh => (hrx hh).2) (h3 R1 Φ1 hst1 hj) ham fun e s'' L'' R'' Φ'' a'' w'' ds2 G2 hq' htie' ha'' he' hu'' => hQ _ _ _ _ _ _ _ _ _ hq' (htie.trans htie') ha'' (hme.trans he') ?_
            refine Unch.trans (b := (meetS (asg x) l (slotsOf l (s'.fr L')) s).fr (meetT ts (cellsOf ts L') L)) ?_ (hu''.mono fun i hi => List.mem_append.2 (.inr hi))
            rw [meetS_fr ha.wf hb]
            exact meet_unch (fun v hv' => List.mem_append.2 (.inl (hv v hv').1))
          · exact hq.elim
        | exit n => exact hQ _ _ _ _ _ _ _ _ _ hq htie ha' he hu'
        | goto n => exact hQ _ _ _ _ _ _ _ _ _ hq htie ha' he hu'
        | ret => exact hQ _ _ _ _ _ _ _ _ _ hq htie ha' he hu'
        | panic n => exact hQ _ _ _ _ _ _ _ _ _ hq htie ha' he hu'
        | outgrown => exact hQ _ _ _ _ _ _ _ _ _ hq htie ha' he hu'
      · exact h.elim
  | cond c x y ihx ihy =>
    intro rd Q' Q s L R Φ a w ds G hrd h ha hQ
    simp only [vcS] at h
    split at h
    · rename_i b hb
      have hc : a.eval c = .bool b := by rw [ha.sim.eval (by rw [fr_eval, hb]; rfl), fr_eval, hb]
      cases b with
      | true => exact wpIn_cond_true hc (ihx (fun hh => by have := hrd hh; simp only [okRound, Bool.and_eq_true] at this; exact this.1) h ha fun e s' L' R' Φ' a' w' ds1 G1 hq htie ha' he hu => hQ _ _ _ _ _ _ _ _ _ hq htie ha' he (hu.mono fun i hi => List.mem_append.2 (.inl hi)))
      | false => exact wpIn_cond_false hc (ihy (fun hh => by have := hrd hh; simp only [okRound, Bool.and_eq_true] at this; exact this.2) h ha fun e s' L' R' Φ' a' w' ds1 G1 hq htie ha' he hu => hQ _ _ _ _ _ _ _ _ _ hq htie ha' he (hu.mono fun i hi => List.mem_append.2 (.inr hi)))
    · exact h.elim
  | block id b ih =>
    intro rd Q' Q s L R Φ a w ds G hrd h ha hQ
    simp only [vcS] at h
    refine wpIn_block (ih (fun hh => hrd hh) h ha ?_)
    intro e s' L' R' Φ' a' w' ds1 G1 hq htie ha' he hu
    cases e with
    | exit n =>
      simp only [Exit.inBlock]
      simp only at hq
      split at hq
      · rename_i e; rw [if_pos (Nat.eq_of_beq_eq_true e)]; exact hQ _ _ _ _ _ _ _ _ _ hq htie ha' he hu
      · rename_i e; rw [if_neg (Nat.ne_of_beq_eq_false e)]; exact hQ _ _ _ _ _ _ _ _ _ hq htie ha' he hu
    | normal => exact hQ _ _ _ _ _ _ _ _ _ hq htie ha' he hu
    | goto n => exact hQ _ _ _ _ _ _ _ _ _ hq htie ha' he hu
    | ret => exact hQ _ _ _ _ _ _ _ _ _ hq htie ha' he hu
    | panic n => exact hQ _ _ _ _ _ _ _ _ _ hq htie ha' he hu
    | outgrown => exact hQ _ _ _ _ _ _ _ _ _ hq htie ha' he hu
  | loop b ih =>
    intro rd Q' Q s L R Φ a w ds G hrd h ha hQ
    simp only [vcS] at h
    split at h
    · exact h.elim
    · rename_i l ts hl
      split at h
      · rename_i hok
        simp only [Bool.and_eq_true] at hok
        obtain ⟨hv, hn⟩ := varsOk_spec hok.1
        obtain ⟨I, ⟨R0, Φ0, n0, hst0, hw0, h0⟩, h1⟩ := h
        -- the relation, with a measure
        let Rel := fun (n : Nat) (a' : Act) (w' : World) => ∃ ds1 G1 vs us R' Φ', Tie rd ds G ds1 G1 ∧ vs.length = l.length ∧ Stable Φ' ∧ holdsI (Cur.app (l ++ ts) I (vs ++ us)) R' Φ' n ∧ Sim ds1 (meet (asg b) l vs (s.fr L)) a' ∧ CtxS G1 W w' (meetT ts us L) R' Φ'
        have hst := ha.st
        have start : Rel n0 a w := by
          obtain ⟨I', hI'⟩ := holdsI_some h0
          obtain ⟨_, _, hk, _⟩ := all_append (slotsOf_len l _) h1 hI'
          have hm := meet_sim (s := s.fr L) ha.sim (Unch.refl _ _) (fun i => knownSub_refl) rfl hk (asg := asg b) (l := l)
          refine ⟨_, _, _, _, R0, Φ0, Tie.refl _ _ _, slotsOf_len l _, hst0, h0, hm, ?_⟩
          -- the blocks as they are
          have hss : sameT ts L L = true := by
            have key : ∀ M : List Tr, (∀ T ∈ M, T ∈ L) → sameT ts L M = true := by
              intro M
              induction M with
              | nil => intro _; rfl
              | cons T r ihr =>
                intro hM
                unfold sameT
                cases memB T.id (ts.map (·.1)) with
                | true => exact ihr fun U hU => hM U (List.mem_cons_of_mem _ hU)
                | false =>
                  rw [findT_mem ha.ids (hM T (by simp))]
                  simp only [show Nat.beq T.ver T.ver = true by simp]
                  exact ihr fun U hU => hM U (List.mem_cons_of_mem _ hU)
            exact key L fun _ h => h
          exact CtxS.meet hst0 (hw0 w _ ha.ctx) (Ext.refl L) ha.ids hss
        let least := fun (a' : Act) (w' : World) (n : Nat) => Rel n a' w' ∧ ∀ m, Rel m a' w' → n ≤ m
        let mu := fun (a' : Act) (w' : World) => @dite _ (∃ n, least a' w' n) (Classical.propDecidable _) (fun hx => Classical.choose hx) (fun _ => 0)
        have hmu : ∀ a' w' n, Rel n a' w' → ∃ k, least a' w' k ∧ mu a' w' = k ∧ k ≤ n := by
          intro a' w' n hn
          have hx : ∃ k, least a' w' k := least_ex ⟨n, hn⟩
          refine ⟨Classical.choose hx, Classical.choose_spec hx, ?_, (Classical.choose_spec hx).2 n hn⟩
          show @dite _ (∃ n, least a' w' n) (Classical.propDecidable _) (fun hx => Classical.choose hx) (fun _ => 0) = _
          rw [dif_pos hx]
        refine wpIn_loop (fun a' w' => ∃ n, Rel n a' w') mu ⟨n0, start⟩ ?_
        rintro a1 w1 ⟨n1, hn1⟩
        obtain ⟨n, ⟨⟨ds1, G1, vs, us, R', Φ', htie1, hlen, hst1, hI, hs1, hc1⟩, _⟩, hmu1, _⟩ := hmu a1 w1 n1 hn1
        rw [hmu1]
        obtain ⟨I', hI'⟩ := holdsI_some hI
        obtain ⟨h2, hlu, hk, hku⟩ := all_append hlen h1 hI'
        have hme := meetT_ext ts us L
        have hb : ∀ k T, findT k L = some T → ∃ T', findT k (meetT ts us L) = some T' ∧ T'.b = T.b := fun k T hT => by obtain ⟨T', q1, q2, _⟩ := hme.old k T hT; exact ⟨T', q1, q2⟩
        have ham : At ds1 G1 W (meetS (asg b) l vs s) (meetT ts us L) R' Φ' a1 w1 := ⟨by rw [meetS_fr ha.wf hb]; exact hs1, meetS_wf ha.wf hb, hme.ids ha.ids, hc1, hst1⟩
        refine ih (fun hh => hrd hh) (h2 R' Φ' n hst1 hI) ham ?_
        intro e s' L' R'' Φ'' a' w' ds2 G2 hq htie2 ha' he hu
        have htie := htie1.trans htie2
        rw [meetS_fr ha.wf hb] at hu
        have hu' : Unch (fun t => t ∈ asg b) (s.fr L) (s'.fr L') := Unch.trans (meet_unch (fun v hv' => (hv v hv').1)) hu
        have he' : Ext L L' := hme.trans he
        cases e with
        | normal =>
          simp only [Exit.then]
          simp only at hq
          split at hq
          · rename_i hsub
            simp only [Bool.and_eq_true] at hsub
            obtain ⟨R2, Φ2, n2, hst2, hw2, hj, hlt⟩ := hq
            obtain ⟨I2, hI2⟩ := holdsI_some hj
            obtain ⟨_, _, hk2, _⟩ := all_append (slotsOf_len l _) h1 hI2
            have hsim := meet_sim (s := s.fr L) ha'.sim hu' (fun i => knownAll_spec hsub.1) rfl hk2
            have hrel : Rel n2 a' w' := ⟨_, _, _, _, R2, Φ2, htie, slotsOf_len l _, hst2, hj, hsim, hw2 w' _ (CtxS.meet ha'.st ha'.ctx he' ha.ids hsub.2)⟩
            obtain ⟨k, _, hmk, hkn⟩ := hmu a' w' n2 hrel
            exact ⟨⟨n2, hrel⟩, by rw [hmk]; omega⟩
          · exact hq.elim
        | exit n => exact hQ _ _ _ _ _ _ _ _ _ hq htie ha' he' hu'
        | goto n => exact hQ _ _ _ _ _ _ _ _ _ hq htie ha' he' hu'
        | ret => exact hQ _ _ _ _ _ _ _ _ _ hq htie ha' he' hu'
        | panic n => exact hQ _ _ _ _ _ _ _ _ _ hq htie ha' he' hu'
        | outgrown => exact hQ _ _ _ _ _ _ _ _ _ hq htie ha' he' hu'
      · exact h.elim
  | exit id => intro rd Q' Q s L R Φ a w ds G hrd h ha hQ; exact wpIn_exit (hQ _ _ _ _ _ _ _ _ _ h (Tie.refl _ _ _) ha (Ext.refl _) (Unch.refl _ _))
  | ret => intro rd Q' Q s L R Φ a w ds G hrd h ha hQ; exact wpIn_ret (hQ _ _ _ _ _ _ _ _ _ h (Tie.refl _ _ _) ha (Ext.refl _) (Unch.refl _ _))
  | rangeFunc g ps x y ihx ihy =>
    intro rd Q' Q s L R Φ a w ds G hrd h ha hQ
    cases rd with
    | some l => have := hrd rfl; cases this
    | none =>
    simp only [vcS] at h
    split at h
    · rename_i gf cs lb hg
      split at h
      · exact h.elim
      · rename_i l ts hl
        split at h
        · rename_i hok
          simp only [Bool.and_eq_true] at hok
          obtain ⟨⟨⟨hps, hrx⟩, hry⟩, hts⟩ := hok
          obtain ⟨hcs, hfn, N, xs, X, A, I, hit, hfit, ⟨R0, Φ0, hst0, hw0, h0⟩, h1⟩ := h
          subst hcs
          have hge : a.eval g = .func (.func gf) #[] lb := by rw [ha.sim.eval (by rw [fr_eval, hg]; rfl), fr_eval, hg]
          have hme : ∀ us, Ext L (meetT ts us L) := fun us => meetT_ext ts us L
          have hpl := sameN_eq hps
          have hst := ha.st
          have hss : sameT ts L L = true := by
            have key : ∀ M : List Tr, (∀ T ∈ M, T ∈ L) → sameT ts L M = true := by
              intro M
              induction M with
              | nil => intro _; rfl
              | cons T r ihr =>
                intro hM
                unfold sameT
                cases memB T.id (ts.map (·.1)) with
                | true => exact ihr fun U hU => hM U (List.mem_cons_of_mem _ hU)
                | false =>
                  rw [findT_mem ha.ids (hM T (by simp))]
                  simp only [show Nat.beq T.ver T.ver = true by simp]
                  exact ihr fun U hU => hM U (List.mem_cons_of_mem _ hU)
            exact key L fun _ h => h
          let Inv := fun (k : Nat) (Gx : List Own) (w1 : World) => ∃ us R' Φ', Stable Φ' ∧ holdsI (Cur.app ts I us) R' Φ' k ∧ CtxS Gx W w1 (meetT ts us L) R' Φ'
          have fits : ∀ k, k < N → ∃ A', Cur.app l A (xs k) = some A' := fun k hk => by
            have := hfit k hk
            unfold holdsA at this
            split at this
            · rename_i A' e; exact ⟨A', e⟩
            · exact this.elim
          have len : ∀ k, k < N → (xs k).length = l.length := fun k hk => by
            obtain ⟨A', e⟩ := fits k hk
            exact Cur.app_len e
          refine wp_range (W := W) (G := G) hge (enter_ok hfn) hit (fun k hk => by rw [List.size_toArray, len k hk, ← Array.length_toList, ← hpl, List.length_map]) Inv ?_ ?_ ?_ ?_ ?_
          · rintro k Gx w1 ⟨us, R', Φ', hs, hi, c⟩
            refine ⟨R' ++ (meetT ts us L).map Tr.own, Φ', hs, by rw [List.append_assoc]; exact c, fun w2 Gy c2 => ⟨us, R', Φ', hs, hi, by rw [List.append_assoc] at c2; exact c2⟩⟩
          · rintro k Gx w1 ⟨us, R', Φ', hs, hi, c⟩
            obtain ⟨I', hI'⟩ := holdsI_some hi
            exact ((Cur.app_all hI' h1).1 R' Φ' k hs hi).1 _ _ c
          · exact ⟨_, R0, Φ0, hst0, h0, CtxS.meet hst0 (hw0 w _ ha.ctx) (Ext.refl L) ha.ids hss⟩
          · rintro lp k Gx w1 hk ⟨us, R', Φ', hs, hi, c⟩
            obtain ⟨I', hI'⟩ := holdsI_some hi
            obtain ⟨A', hA'⟩ := fits k hk
            have h2 := ((Cur.app_all hI' h1).1 R' Φ' k hs hi).2.1 hk
            have h3 := (Cur.app_all hA' h2).1 (hfit k hk)
            have ham : At [] Gx W (putsS l (xs k) s) (meetT ts us L) R' Φ' { tmps := (ps.zip (xs k).toArray).foldl (fun t (p, v) => t.setIfInBounds p v) a.tmps, defers := [] } w1 := by
              obtain ⟨q1, q2⟩ := putsS_sim (L := meetT ts us L) (l := l) (vs := xs k) (s := s) (a := { a with defers := [] }) ⟨rfl, (by rw [ha.wf.fr (hme us)]; exact ha.sim.size), fun i hi => (by rw [ha.wf.fr (hme us)] at hi ⊢; exact ha.sim.slot i hi)⟩ (ha.wf.ext (hme us))
              refine ⟨?_, q2, (hme us).ids ha.ids, c, hs⟩
              rw [hpl] at q1
              rw [← Array.foldl_toList, Array.toList_zip]
              exact q1
            refine ihx (rd := some lp) (fun _ => hrx) h3 ham ?_
            intro e s1 L1 R1 Φ1 a1 w2 ds1 G1 hq htie ha1 he1 _
            cases e with
            | normal =>
              obtain ⟨Z, hZ, rfl, rfl⟩ := htie
              have hZ := hZ rfl
              subst hZ
              refine ⟨R1 ++ L1.map Tr.own, Φ1, ha1.st, by rw [List.append_assoc]; exact ha1.ctx, fun w3 Gx3 c3 => ?_⟩
              have ha3 : At [] Gx3 W s1 L1 R1 Φ1 a1 w3 := ⟨ha1.sim, ha1.wf, ha1.ids, by rw [List.append_assoc] at c3; exact c3, ha1.st⟩
              refine ihy (rd := some lp) (fun _ => hry) hq ha3 ?_
              intro e s2 L2 R2 Φ2 a2 w4 ds2 G2 hq2 htie2 ha2 he2 _
              cases e with
              | normal =>
                obtain ⟨Z, hZ, rfl, rfl⟩ := htie2
                have hZ := hZ rfl
                subst hZ
                simp only at hq2
                split at hq2
                · rename_i hsub
                  obtain ⟨R3, Φ3, hst3, hw3, hj⟩ := hq2
                  exact ⟨rfl, _, R3, Φ3, hst3, hj, hw3 w4 _ (CtxS.meet ha2.st ha2.ctx (((hme us).trans he1).trans he2) ha.ids hsub)⟩
                · exact hq2.elim
              | _ => exact hq2.elim
            | _ => exact hq.elim
          · rintro D w' ⟨us, R', Φ', hs, hi, c⟩
            obtain ⟨I', hI'⟩ := holdsI_some hi
            have h2 := ((Cur.app_all hI' h1).1 R' Φ' N hs hi).2.2 rfl
            refine hQ _ _ _ _ _ _ _ (mark D :: ds) (markO D :: G) h2 ⟨[D], fun hh => (by cases hh), rfl, rfl⟩ ⟨?_, ha.wf.ext (hme us), (hme us).ids ha.ids, c, hs⟩ (hme us) (by rw [ha.wf.fr (hme us)]; exact Unch.refl _ _)
            rw [ha.wf.fr (hme us)]
            exact ⟨by simp [ha.sim.defers], ha.sim.size, ha.sim.slot⟩
        · exact h.elim
    · exact h.elim
  | scope b ih =>
    intro rd Q' Q s L R Φ a w ds G hrd h ha hQ
    simp only [vcS] at h
    refine wpIn_scope (ih (fun hh => by have := hrd hh; cases this) h ha ?_)
    intro e s' L' R' Φ' a' w' ds1 G1 hq htie ha' he hu
    cases e with
    | goto n => exact hq.elim
    | normal => exact hQ _ _ _ _ _ _ _ _ _ hq htie ha' he hu
    | exit n => exact hQ _ _ _ _ _ _ _ _ _ hq htie ha' he hu
    | ret => exact hQ _ _ _ _ _ _ _ _ _ hq htie ha' he hu
    | panic n => exact hQ _ _ _ _ _ _ _ _ _ hq htie ha' he hu
    | outgrown => exact hQ _ _ _ _ _ _ _ _ _ hq htie ha' he hu
  | label l => intro rd Q' Q s L R Φ a w ds G hrd h ha hQ; exact wpIn_label (hQ _ _ _ _ _ _ _ _ _ h (Tie.refl _ _ _) ha (Ext.refl _) (Unch.refl _ _))
  | goto l => intro rd Q' Q s L R Φ a w ds G hrd h; exact h.elim
  | refuse why => intro rd Q' Q s L R Φ a w ds G hrd h; exact h.elim

theorem resS_sound {P : Program} {W : World} {s : FrS} {L : List Tr} {R : List Own} {Φ : PW} {a : Act} {w : World} (ha : At ds G W s L R Φ a w) : ∀ {l : List ResultVar} {K : List Value → Prop}, resS P W s L R Φ l K →
    ∃ vs, (l.mapM fun r => (match r with | .tmp t => pure (a.tmps.getD t undef) | .cell x t => (do loadVar t (← asAddr (a.tmps.getD x undef)) : Sem Value) : Sem Value)).run P w = .ok vs w ∧ K vs
  | [], K, h => ⟨[], by simp, h⟩
  | .tmp t :: r, K, h => by
    unfold resS at h
    split at h
    · exact h.elim
    · rename_i hu
      obtain ⟨vs, h1, h2⟩ := resS_sound ha h
      refine ⟨_, ?_, h2⟩
      have e : (s.fr L).get t = (getS t s.l).val L := getL_val L t s.l
      rw [List.mapM_cons]
      simp only [Sem.run_bind, Sem.run_pure, Result.andThen, h1, ha.sim.slot t (by rw [e]; exact hu), e]
  | .cell x t :: r, K, h => by
    unfold resS at h
    have e : (s.fr L).get x = (getS x s.l).val L := getL_val L x s.l
    have done : ∀ {b o : Nat} {K2 : Value → Prop} {v : Value}, (getS x s.l).val L = .pointer (some ⟨b, o, none⟩) → (loadVar t ⟨b, o, none⟩).run P w = .ok v w → (resS P W s L R Φ r fun vs => K (v :: vs)) →
        ∃ vs, (((ResultVar.cell x t) :: r).mapM fun r => (match r with | .tmp t => pure (a.tmps.getD t undef) | .cell x t => (do loadVar t (← asAddr (a.tmps.getD x undef)) : Sem Value) : Sem Value)).run P w = .ok vs w ∧ K vs := by
      intro b o K2 v hv hl hk
      obtain ⟨vs, h3, h4⟩ := resS_sound ha hk
      refine ⟨_, ?_, h4⟩
      rw [List.mapM_cons]
      have hx' : a.tmps.getD x undef = .pointer (some ⟨b, o, none⟩) := by rw [ha.sim.slot x (by rw [e, hv]; rfl), e, hv]
      have hra : (asAddr (a.tmps.getD x undef)).run P w = .ok ⟨b, o, none⟩ w := by rw [hx']; rfl
      simp only [Sem.run_bind, Sem.run_pure, Result.andThen, hra, hl, h3]
    split at h
    · rename_i k off hx
      have hw := ha.wf
      obtain ⟨T, hT⟩ := Option.isSome_iff_exists.1 (WfS.ev (x := .tmp x) hw (show s.ev (.tmp x) = .ptr k off from hx))
      obtain ⟨v, h1, h2⟩ := loadT_sound hT (ha.ctx.blk hT) h
      exact done (K2 := fun _ => True) (by rw [hx, val_ptr hT]) (h1 w rfl) h2
    · rename_i b o hx
      obtain ⟨v, h1, h2⟩ := vcLoadG_sound (h w _ ha.ctx)
      exact done (K2 := fun _ => True) (by rw [hx]; rfl) (h1 trivial w rfl) h2
    · exact h.elim

theorem argS_val (L : List Tr) : ∀ (l : List Value) (i : Nat), valL L (argS i l) = argSlots i l
  | [], _ => rfl
  | v :: r, i => by simp only [argS, argSlots, valL, argS_val L r (i + 1), SV.val]

theorem vcFS_sound {P : Program} {W w : World} {H : HS} {f : FuncId} {args : Array Value} {R : List Own} {Φ : PW} [hst : Stable Φ] {J : Value → World → Prop} (h : vcFS P W H f args R Φ J) (c : Ctx W w R Φ) :
    Calls P f args w fun e w' => ∃ v, e = .returned v ∧ J v w' := by
  unfold vcFS at h
  split at h
  · rename_i fn hf
    split at h
    · rename_i code hc
      have hwf : WfS [] (⟨max fn.ntmps args.size, argS 0 args.toList⟩ : FrS) := by
        have key : ∀ (l : List Value) (i : Nat), ∀ p ∈ argS i l, ∃ v, p.2 = SV.v v := by
          intro l
          induction l with
          | nil => intro i p hp; cases hp
          | cons v r ih =>
            intro i p hp
            rcases List.mem_cons.1 hp with rfl | hp
            · exact ⟨v, rfl⟩
            · exact ih _ p hp
        intro p hp k o e
        obtain ⟨v, hv⟩ := key _ _ p hp
        rw [hv] at e; cases e
      have hfr : (⟨max fn.ntmps args.size, argS 0 args.toList⟩ : FrS).fr [] = frameOf fn args := by simp only [FrS.fr, frameOf, argS_val]
      have hat : At [] [] W (⟨max fn.ntmps args.size, argS 0 args.toList⟩ : FrS) [] R Φ { tmps := args ++ Array.replicate (fn.ntmps - args.size) undef, defers := [] } w :=
        ⟨by rw [hfr]; exact frameOf_sim fn args, hwf, by simp, by simpa [CtxS] using c, hst⟩
      refine (callsIn_wide (n := 0)).1 (callsIn_of_wp_marks (F := fenceAt none) hf hc trivial (vcS_sound (rd := none) code (fun hh => (by cases hh)) h hat ?_))
      intro e s L' R' Φ' a w' ds' G' hq htie ha _ _
      obtain ⟨Z, _, rfl, rfl⟩ := htie
      have key : (resS P W s L' R' Φ' fn.results.toList fun vs => ∀ w F, Ctx W w (R' ++ F) Φ' → J (tupled vs) w) → bodyPostM (fenceAt none) 0 P fn (fun e w' => ∃ v, e = .returned v ∧ J v w') .ret a w' := by
        intro hq
        show LeavesInM Fence.wide 0 P fn a.tmps _ a.defers .returning w'
        have := ha.st
        rw [ha.sim.defers, List.append_nil]
        refine leaves_marks (Φ := Φ') Z (R' ++ L'.map Tr.own) w' (by have := ha.ctx; rw [List.append_nil] at this; rw [List.append_assoc]; exact this) fun w2 S2 c2 => ?_
        rw [List.append_assoc] at c2
        have ha2 : At (Z.map mark ++ []) S2 W s L' R' Φ' a w2 := ⟨ha.sim, ha.wf, ha.ids, c2, ha.st⟩
        obtain ⟨vs, h1, h2⟩ := resS_sound ha2 hq
        refine ⟨tupled vs, ?_, tupled vs, rfl, h2 w2 _ c2⟩
        unfold results
        rw [Array.mapM_eq_mapM_toList, map_eq_pure_bind, Sem.run_bind, Sem.run_bind]
        have e : ∀ (r : Result (List Value)), r = .ok vs w2 → (((r.andThen fun a => (pure a.toArray : Sem (Array Value)).run P).andThen fun vs => (pure (if h : vs.size = 1 then vs[0] else Value.tuple vs) : Sem Value).run P)) = .ok (tupled vs) w2 := by
          intro r hr
          subst hr
          simp only [Result.andThen, Sem.run_pure, tupled_run]
        exact e _ h1
      cases e with
      | normal => exact key hq
      | ret => exact key hq
      | _ => exact hq.elim
    · exact h.elim
  · exact h.elim

end Go.Vc
end

/-
  CONTRACTS over what a walk owns: a function that hands back a plain value, or plain data.
-/
section
set_option linter.unusedVariables false
set_option linter.unusedSimpArgs false
namespace Go.Vc

section
variable {P : Program} {W w : World} {S F : List Own} {Φ Ψ : PW}

/-- the function only looks: it hands back v, and the world is as it was -/
structure Quiet (P : Program) (f : FuncId) (args : Array Value) (v : Value) : Prop where
  go : ∀ w, Calls P f args w fun e w' => e = .returned v ∧ w' = w

/-- the function hands back v; all that is owned or known stays -/
structure Gives (P : Program) (f : FuncId) (args : Array Value) (v : Value) : Prop where
  go : ∀ (W w : World) (S : List Own) (Φ : PW), Stable Φ → Ctx W w S Φ → Calls P f args w fun e w' => e = .returned v ∧ Ctx W w' S Φ

theorem Quiet.at {f : FuncId} {args : Array Value} {v : Value} (h : Quiet P f args v) {w w0 : World} (e : w = w0) : Calls P f args w fun e w' => e = .returned v ∧ w' = w0 := by subst e; exact h.go w
theorem Quiet.gives {f : FuncId} {args : Array Value} {v : Value} (h : Quiet P f args v) : Gives P f args v :=
  ⟨fun W w S Φ _ c => (h.go w).mono fun e w' ⟨h1, h2⟩ => by subst h2; exact ⟨h1, c⟩⟩

theorem Gives.use {f : FuncId} {args : Array Value} {v : Value} (h : Gives P f args v) [hs : Stable Φ] (c : Ctx W w S Φ) {K : Ending → World → Prop} (hk : ∀ w', Ctx W w' S Φ → K (.returned v) w') : Calls P f args w K :=
  (h.go W w S Φ hs c).mono fun e w' ⟨he, c'⟩ => by subst he; exact hk w' c'

/-- .. where Φ is known -/
structure GivesIn (Φ : PW) (P : Program) (f : FuncId) (args : Array Value) (v : Value) : Prop where
  go : ∀ (W w : World) (S : List Own), Ctx W w S Φ → Calls P f args w fun e w' => e = .returned v ∧ Ctx W w' S Φ

theorem GivesIn.use {f : FuncId} {args : Array Value} {v : Value} (h : GivesIn Φ P f args v) (c : Ctx W w S Φ) {K : Ending → World → Prop} (hk : ∀ w', Ctx W w' S Φ → K (.returned v) w') : Calls P f args w K :=
  (h.go W w S c).mono fun e w' ⟨he, c'⟩ => by subst he; exact hk w' c'

theorem Gives.in [hs : Stable Φ] {f : FuncId} {args : Array Value} {v : Value} (h : Gives P f args v) : GivesIn Φ P f args v := ⟨fun W w S c => h.go W w S Φ hs c⟩

theorem gives_in [Stable Φ] {f : FuncId} {args : Array Value} {v : Value} {B : World → List Own → PW → (Value → World → Prop) → Prop}
    (run : ∀ {W w : World} {R : List Own} {Φ : PW} [Stable Φ] {J : Value → World → Prop}, Ctx W w R Φ → B W R Φ J → Calls P f args w fun e w' => ∃ v, e = .returned v ∧ J v w')
    (h : ∀ (W : World) (R : List Own), B W R Φ fun u w' => u = v ∧ Ctx W w' R Φ) : GivesIn Φ P f args v :=
  ⟨fun W w S c => calls_of (run c (h W S)) fun u w' ⟨h1, h2⟩ => ⟨by rw [h1], h2⟩⟩

/-- without the frame -/
theorem Ctx.left [Stable Φ] (c : Ctx W w (S ++ F) Φ) : Ctx W w S Φ := c.sub (List.sublist_append_left _ _)
theorem Ctx.right [Stable Φ] (c : Ctx W w (S ++ F) Φ) : Ctx W w F Φ := c.sub (List.sublist_append_right _ _)
theorem Ctx.fst [Stable Φ] [Stable Ψ] (c : Ctx W w S (fun M w => Φ M w ∧ Ψ M w)) : Ctx W w S Φ := c.weak fun _ _ h => h.1

/-- a row out of cells that are written out -/
theorem rows_of {cs vs : List Value} {o : Nat} (h : (cs.drop o).take vs.length = vs) : ∀ j, (hj : j < vs.length) → cs[o + j]? = some vs[j] := by
  intro j hj
  have h1 : ((cs.drop o).take vs.length)[j]? = vs[j]? := by rw [h]
  rw [List.getElem?_take_of_lt hj, List.getElem?_drop] at h1
  rw [h1, List.getElem?_eq_getElem hj]

end

/-! ### data that is read at several points: its cells are named -/
/-- the cells of the elements, at this place -/
def Pin {α : Type} [Gv α] (b o : Nat) (cs : List (List Value)) (l : List α) (M : List Nat) (w : World) : Prop :=
  ∀ j, (hj : j < l.length) → b ∉ M ∧ RowAt w b (o + j * (Gv.ty α).size) (cs.getD j []) ∧ Gv.rep M w (cs.getD j []) l[j]

instance instStablePin {α : Type} [Gv α] (b o : Nat) (cs : List (List Value)) (l : List α) : Stable (fun M w => Pin b o cs l M w) := ⟨fun hs h j hj => by
  obtain ⟨h2, h3, h4⟩ := h j hj
  have hlt := row_lt h3 (by rw [Gv.len h4]; exact Gv.pos)
  exact ⟨fun hm => by rcases hs.sub b hm with h | h; exact h2 h; omega, hs.chg.row h3 h2, Gv.stable hs h4⟩⟩

theorem Sl.pin {α : Type} [Gv α] {M : List Nat} {w : World} {p : Option Addr} {l : List α} (h : Sl M w p l) : ∃ b o cs, (0 < l.length → p = some ⟨b, o, none⟩) ∧ Pin b o cs l M w := by
  by_cases h0 : 0 < l.length
  · obtain ⟨b, o, _, hp, _⟩ := h 0 h0
    have key : ∀ j, j < l.length → ∃ cs : List Value, ∀ hj : j < l.length, b ∉ M ∧ RowAt w b (o + j * (Gv.ty α).size) cs ∧ Gv.rep M w cs l[j] := by
      intro j hj
      obtain ⟨b', o', cs, h1, h2, h3, h4⟩ := h j hj
      rw [hp] at h1
      cases h1
      exact ⟨cs, fun _ => ⟨h2, h3, h4⟩⟩
    obtain ⟨cs, hl, hcs⟩ := list_build l.length key
    refine ⟨b, o, cs, fun _ => hp, fun j hj => ?_⟩
    have := hcs j (by omega) hj
    rw [show cs.getD j [] = cs[j] by simp [List.getD, show j < cs.length by omega]]
    exact this
  · exact ⟨0, 0, [], fun h => absurd h h0, fun j hj => by omega⟩

theorem Ctx.pin {W w : World} {S : List Own} {Φ : PW} (c : Ctx W w S Φ) {α : Type} [Gv α] {p : Option Addr} {l : List α} (h : Sl (dom S) w p l) :
    ∃ b o cs, (0 < l.length → p = some ⟨b, o, none⟩) ∧ Ctx W w S (fun M w => Φ M w ∧ Pin b o cs l M w) := by
  obtain ⟨b, o, cs, hp, hpin⟩ := h.pin
  exact ⟨b, o, cs, hp, c.add hpin⟩

end Go.Vc
end

/-
  What is owned is laid aside while a call reads it; functions that hand back a slice of plain data.
-/
section
set_option linter.unusedVariables false
set_option linter.unusedSimpArgs false
namespace Go.Vc

section
variable {P : Program} {W w : World} {S F : List Own} {Φ Ψ : PW}

/-- what is owned, laid aside: nobody writes it -/
def Parked (W : World) (o : Own) (M : List Nat) (w : World) : Prop := o.at w ∧ ∀ b ∈ o.dom, b ∉ M ∧ W.heap.size ≤ b

instance instStableParked (W : World) (o : Own) : Stable (fun M w => Parked W o M w) := ⟨fun hs h =>
  ⟨Own.at_keep h.1 fun b hb => hs.chg.block b (Own.at_lt h.1 b hb) (h.2 b hb).1, fun b hb => ⟨fun hm => by
    rcases hs.sub b hm with h1 | h1
    · exact (h.2 b hb).1 h1
    · have := Own.at_lt h.1 b hb; omega, (h.2 b hb).2⟩⟩⟩

instance instStableMore (D : List Nat) (Φ : PW) [Stable Φ] : Stable (fun M w => Φ (D ++ M) w) := ⟨fun {M M' w w'} hs h =>
  Stable.step (Φ := Φ) (M := D ++ M) (M' := D ++ M') ⟨hs.chg.mono fun x hx => List.mem_append_right _ hx, fun b hb => by
    rcases List.mem_append.1 hb with h | h
    · exact .inl (List.mem_append_left _ h)
    · rcases hs.sub b h with h | h
      · exact .inl (List.mem_append_right _ h)
      · exact .inr h⟩ h⟩

theorem Own.nodup (o : Own) : o.dom.Nodup := by
  cases o with
  | blk => simp [Own.dom]
  | obj => simp [Own.dom]
  | buf p => cases p <;> simp [Own.dom]

theorem dom_cons (o : Own) (S : List Own) : dom (o :: S) = o.dom ++ dom S := rfl

theorem Ctx.park {o : Own} (c : Ctx W w (o :: S) Φ) : Ctx W w S (fun M w => Φ (o.dom ++ M) w ∧ Parked W o M w) :=
  ⟨c.chg, fun x hx => c.own x (List.mem_cons_of_mem _ hx), fun b hb => c.young b (by rw [dom_cons]; exact List.mem_append_right _ hb),
    (by have := c.nodup; rw [dom_cons, List.nodup_append] at this; exact this.2.1), c.phi, c.own o List.mem_cons_self, fun b hb =>
      ⟨fun hm => by have := c.nodup; rw [dom_cons, List.nodup_append] at this; exact this.2.2 b hb b hm rfl, c.young b (by rw [dom_cons]; exact List.mem_append_left _ hb)⟩⟩

/-- the slice that is laid aside is plain data -/
theorem Parked.sl {α : Type} [Gv α] {M D : List Nat} {p : Option Addr} {n cap : Nat} {cs : List Value} {t : TypeId} {l : List α} (h : Parked W (.buf p n cap cs t (Gv.ty α).size) M w)
    (he : Elems (D ++ M) w cs l) : Sl M w p l := by
  obtain ⟨⟨h1, h2⟩, h3⟩ := h
  have hpos : 0 < (Gv.ty α).size := Gv.pos
  intro j hj
  have hle : (j + 1) * (Gv.ty α).size ≤ cs.length := by rw [he.1]; exact Nat.mul_le_mul_right _ hj
  rw [Nat.add_mul, Nat.one_mul] at hle
  rcases h2 with ⟨e, rfl⟩ | ⟨g, cap', cur, e, _, hg, hnc, hcm, hcs, htake⟩
  · rw [Nat.zero_mul] at h1; omega
  · cases e
    refine ⟨g, 0, (cs.drop (j * (Gv.ty α).size)).take (Gv.ty α).size, rfl, (h3 g (by simp [Own.dom])).1, fun i hi => ?_, ?_⟩
    · rw [Nat.zero_add]
      simp only [List.length_take, List.length_drop] at hi
      rw [List.getElem_take, List.getElem_drop]
      have hlt : j * (Gv.ty α).size + i < cs.length := by omega
      have h2 : ∀ k v, k < cs.length → cs[k]? = some v → cur[k]? = some v := by
        intro k v hk hv
        rw [← htake, List.getElem?_take_of_lt (by omega)] at hv
        simpa using hv
      have h2 := h2 _ _ hlt (List.getElem?_eq_getElem hlt)
      simp [World.cell?, hg, h2]
    · exact Gv.stable ⟨Chg.refl _ _, fun b hb => .inl (List.mem_append_right _ hb)⟩ (he.2 j hj)

/-- a slice with elements lies somewhere -/
def There (p : Option Addr) (n : Nat) : Prop := 0 < n → ∃ b o, p = some ⟨b, o, none⟩
theorem Sl.there {α : Type} [Gv α] {M : List Nat} {w : World} {p : Option Addr} {l : List α} (h : Sl M w p l) : There p l.length := fun h0 => by
  obtain ⟨b, o, _, h1, _⟩ := h 0 h0
  exact ⟨b, o, h1⟩
theorem Sl.nil {α : Type} [Gv α] {M : List Nat} {w : World} {p : Option Addr} : Sl M w p ([] : List α) := fun j hj => by simp at hj

theorem GivesIn.there {f : FuncId} {args : Array Value} {v : Value} {p : Option Addr} {n : Nat} (hΦ : ∀ M w, Φ M w → There p n) (h : There p n → GivesIn Φ P f args v) : GivesIn Φ P f args v :=
  ⟨fun W w S c => (h (hΦ _ _ c.phi)).go W w S c⟩

/-- the function hands back a slice of plain data, inside mk -/
structure GivesSl (Φ : PW) (P : Program) (f : FuncId) (args : Array Value) {α : Type} [Gv α] (l : List α) (mk : Value → Value) : Prop where
  go : ∀ (W w : World) (S : List Own), Ctx W w S Φ → Calls P f args w fun e w' => ∃ p cap, e = .returned (mk (.slice p l.length cap)) ∧ l.length ≤ cap ∧ cap ≤ maxLen ∧ Ctx W w' S (fun M w => Φ M w ∧ Sl M w p l)

theorem GivesSl.use {f : FuncId} {args : Array Value} {α : Type} [Gv α] {l : List α} {mk : Value → Value} (h : GivesSl Φ P f args l mk) (c : Ctx W w S Φ) {K : Ending → World → Prop}
    (hk : ∀ p cap w', l.length ≤ cap → cap ≤ maxLen → Ctx W w' S (fun M w => Φ M w ∧ Sl M w p l) → K (.returned (mk (.slice p l.length cap))) w') : Calls P f args w K :=
  (h.go W w S c).mono fun e w' ⟨p, cap, he, h1, h2, c'⟩ => by subst he; exact hk p cap w' h1 h2 c'

theorem GivesSl.there {f : FuncId} {args : Array Value} {α : Type} [Gv α] {l : List α} {mk : Value → Value} {p : Option Addr} {n : Nat} (hΦ : ∀ M w, Φ M w → There p n) (h : There p n → GivesSl Φ P f args l mk) : GivesSl Φ P f args l mk :=
  ⟨fun W w S c => (h (hΦ _ _ c.phi)).go W w S c⟩

/-! ### append -/
def appB (P : Program) (ts t : TypeId) (size bytes : Nat) : Bool :=
  (match P.underlying ts with | some (.slice u) => decide (u = t) | _ => false) && (match P.info? t with
    | some i => (match i.zero with | some z => decide (z.cells.size = size) | none => false) && decide (i.size = size) && decide (i.bytes = bytes)
    | none => false)

theorem appB_out {ts t : TypeId} {size bytes : Nat} (h : appB P ts t size bytes = true) : ∃ i z, P.underlying ts = some (.slice t) ∧ P.info? t = some i ∧ i.zero = some z ∧ i.size = size ∧ z.cells.size = size ∧ i.bytes = bytes := by
  unfold appB at h
  rw [Bool.and_eq_true] at h
  obtain ⟨h1, h2⟩ := h
  split at h1
  · rename_i u hu
    have : u = t := by simpa using h1
    subst this
    split at h2
    · rename_i i hi
      simp only [Bool.and_eq_true] at h2
      obtain ⟨⟨h2, h3⟩, h4⟩ := h2
      split at h2
      · rename_i z hz
        exact ⟨i, z, hu, hi, hz, by simpa using h3, by simpa using h2, by simpa using h4⟩
      · cases h2
    · cases h2
  · cases h1

theorem run_app {ats : Array TypeId} {ty : TypeId} {cs : Array Bool} {args : Array Value} {v : Value} {w w' : World} (h : (Builtin.append_ ats ty args).run P w = .ok v w') : Sem.run P (builtin Builtin.append ats ty cs args) w = .ok (.value v) w' := by
  unfold builtin
  simp only [Sem.run_bind, h, Result.andThen, Sem.run_pure]

/-- append one element that was just made -/
theorem Ctx.app1 [Stable Φ] {b : Nat} {news : List Value} {t' : TypeId} {p : Option Addr} {n cap : Nat} {cs : List Value} {t : TypeId} {size bytes : Nat} (c : Ctx W w (.blk b news t' :: .buf p n cap cs t size :: S) Φ)
    {ts ty : TypeId} {kb : Array Bool} (hb : appB P ts t size bytes = true) (h0 : 0 < size) (hl : news.length = size) (h1 : (news.all fun u => oneC u) = true) (hlen : n < 100000000) (hbytes : bytes ≤ 1000) :
    ∃ p' cap' w', Sem.run P (builtin Builtin.append #[ts, ts] ty kb #[.slice p n cap, .slice (some ⟨b, 0, none⟩) 1 1]) w = .ok (.value (.slice p' (n + 1) cap')) w' ∧ (∃ g, p' = some ⟨g, 0, none⟩) ∧ Ctx W w' (.buf p' (n + 1) cap' (cs ++ news) t size :: S) Φ := by
  obtain ⟨i, z, e1, e2, e3, e4, e5, e6⟩ := appB_out hb
  have hby : (n + 1) * i.bytes ≤ 100000000 * 1000 := Nat.mul_le_mul (by omega) (by omega)
  obtain ⟨p', cap', w', h2, c'⟩ := c.append 1 rfl (ty := ty) e1 e2 e3 e4 e5 (a := ⟨b, 0, none⟩) (m := 1) (c2 := 1) (news := news) (by omega) (by rw [hl, Nat.one_mul]) (fun j u hj => by rw [addr_add, Nat.zero_add]; exact c.get 0 rfl hj)
    (fun u hu => List.all_eq_true.1 h1 u hu) (by omega) (by omega)
  refine ⟨p', cap', w', run_app h2, ?_, c'.drop1⟩
  obtain ⟨g, hg, _⟩ := c'.bufCell 1 rfl (by rw [List.length_append]; omega)
  exact ⟨g, hg⟩

/-- nothing is owned for an empty slice -/
theorem Ctx.nobuf [Stable Φ] (c : Ctx W w S Φ) (t : TypeId) (size : Nat) : Ctx W w (.buf none 0 0 [] t size :: S) Φ := c.buf0 t size

theorem Sl.less {α : Type} [Gv α] {M D : List Nat} {w : World} {p : Option Addr} {l : List α} (h : Sl (D ++ M) w p l) : Sl M w p l :=
  h.stable ⟨Chg.refl _ _, fun b hb => .inl (List.mem_append_right _ hb)⟩

/-- the function hands back a slice that it made, inside mk: the caller owns it -/
structure GivesBuf (Φ : PW) (P : Program) (f : FuncId) (args : Array Value) (n : Nat) (cells : List Value) (t : TypeId) (size : Nat) (mk : Value → Value) : Prop where
  go : ∀ (W w : World) (S : List Own), Ctx W w S Φ → Calls P f args w fun e w' => ∃ p cap, e = .returned (mk (.slice p n cap)) ∧ Ctx W w' (.buf p n cap cells t size :: S) Φ

theorem GivesBuf.use {f : FuncId} {args : Array Value} {n : Nat} {cells : List Value} {t : TypeId} {size : Nat} {mk : Value → Value} (h : GivesBuf Φ P f args n cells t size mk) (c : Ctx W w S Φ) {K : Ending → World → Prop}
    (hk : ∀ p cap w', Ctx W w' (.buf p n cap cells t size :: S) Φ → K (.returned (mk (.slice p n cap))) w') : Calls P f args w K :=
  (h.go W w S c).mono fun e w' ⟨p, cap, he, c'⟩ => by subst he; exact hk p cap w' c'

theorem GivesBuf.sl [Stable Φ] {f : FuncId} {args : Array Value} {α : Type} [Gv α] {l : List α} {cells : List Value} {t : TypeId} {mk : Value → Value} (h : GivesBuf Φ P f args l.length cells t (Gv.ty α).size mk)
    (he : ∀ M w, Φ M w → Elems M w cells l) : GivesSl Φ P f args l mk :=
  ⟨fun W w S c => (h.go W w S c).mono fun e w' ⟨p, cap, h1, c'⟩ => by
    obtain ⟨c2, hs, _, h2, h3⟩ := Ctx.freeze c' (he _ _ c'.phi)
    exact ⟨p, cap, h1, h2, h3, c2.add hs⟩⟩

/-- a block that is laid aside is plain data -/
theorem Parked.blkSl {α : Type} [Gv α] {M : List Nat} {b : Nat} {cs : List Value} {t : TypeId} {l : List α} (h : Parked W (.blk b cs t) M w) (he : Elems M w cs l) : Sl M w (some ⟨b, 0, none⟩) l := by
  obtain ⟨h1, h2⟩ := h
  have h1 : Blk w b cs t := h1
  intro j hj
  have hle : (j + 1) * (Gv.ty α).size ≤ cs.length := by rw [he.1]; exact Nat.mul_le_mul_right _ hj
  rw [Nat.add_mul, Nat.one_mul] at hle
  refine ⟨b, 0, (cs.drop (j * (Gv.ty α).size)).take (Gv.ty α).size, rfl, (h2 b (by simp [Own.dom])).1, fun i hi => ?_, he.2 j hj⟩
  simp only [List.length_take, List.length_drop] at hi
  rw [Nat.zero_add, List.getElem_take, List.getElem_drop]
  exact h1.cell_eq (List.getElem?_eq_getElem (by omega))

/-- a block that is written no more is plain data -/
theorem Ctx.freezeBlk [Stable Φ] {α : Type} [Gv α] {b : Nat} {cs : List Value} {t : TypeId} {l : List α} (c : Ctx W w (.blk b cs t :: S) Φ) (he : Elems (dom (.blk b cs t :: S)) w cs l) : Ctx W w S Φ ∧ Sl (dom S) w (some ⟨b, 0, none⟩) l := by
  have c' := c.park
  refine ⟨c.drop1, c'.phi.2.blkSl ⟨he.1, fun j hj => ?_⟩⟩
  exact Gv.stable ⟨Chg.refl _ _, fun b hb => .inl (by rw [dom_cons]; exact List.mem_append_right _ hb)⟩ (he.2 j hj)

theorem Elems.two {α : Type} [Gv α] {M : List Nat} {cs ds : List Value} {x y : α} (h1 : Gv.rep M w cs x) (h2 : Gv.rep M w ds y) : Elems M w (cs ++ ds) [x, y] := Elems.snoc (l := [x]) (Elems.snoc (l := []) (cs := []) Elems.nil h1) h2
theorem Elems.one {α : Type} [Gv α] {M : List Nat} {cs : List Value} {x : α} (h1 : Gv.rep M w cs x) : Elems M w cs [x] := Elems.snoc (l := []) (cs := []) Elems.nil h1

end

end Go.Vc
end

/-
  Writing into a slice that grows; rows of plain data out of a slice; permuting what is owned.
-/
section
set_option linter.unusedVariables false
set_option linter.unusedSimpArgs false
namespace Go.Vc

section
variable {P : Program} {W w w' : World} {S S' F : List Own} {Φ Ψ : PW}

theorem Ctx.swap [Stable Φ] {a b : Own} (c : Ctx W w (a :: b :: S) Φ) : Ctx W w (b :: a :: S) Φ := c.perm (List.Perm.swap _ _ _)

/-- a slice that grows lies in a block -/
theorem Ctx.bufBlk (c : Ctx W w S Φ) (k : Nat) {p : Option Addr} {n cap : Nat} {cs : List Value} {t : TypeId} {size : Nat} (hk : S[k]? = some (.buf p n cap cs t size)) (h0 : 0 < cs.length) :
    ∃ b cur, p = some ⟨b, 0, none⟩ ∧ Blk w b cur t ∧ cur.take (n * size) = cs ∧ n ≤ cap ∧ cap ≤ maxLen ∧ cur.length = cap * size ∧ cs.length = n * size := by
  obtain ⟨h1, h2⟩ := c.own _ (List.mem_of_getElem? hk)
  rcases h2 with ⟨e, rfl⟩ | ⟨g, cap', cur, e, _, hg, hnc, hcm, hcs, htake⟩
  · rw [Nat.zero_mul] at h1; omega
  · cases e
    exact ⟨g, cur.toList, rfl, by simpa [Blk] using hg, htake, hnc, hcm, by simpa using hcs, h1⟩

theorem Ctx.bufRow (c : Ctx W w S Φ) (k : Nat) {p : Option Addr} {n cap : Nat} {cs : List Value} {t : TypeId} {size : Nat} (hk : S[k]? = some (.buf p n cap cs t size)) {b o : Nat} (hp : p = some ⟨b, 0, none⟩) {vs : List Value}
    (hv : ∀ j, (hj : j < vs.length) → cs[o + j]? = some vs[j]) : RowAt w b o vs := by
  intro j hj
  have hlt : o + j < cs.length := (List.getElem?_eq_some_iff.1 (hv j hj)).1
  obtain ⟨b', h1, _, h2⟩ := c.bufCell k hk (by omega)
  rw [hp] at h1
  cases h1
  exact (h2 _ _ (hv j hj)).1

theorem Ctx.bufCan (c : Ctx W w S Φ) (k : Nat) {p : Option Addr} {n cap : Nat} {cs : List Value} {t : TypeId} {size : Nat} (hk : S[k]? = some (.buf p n cap cs t size)) {b o m : Nat} (hp : p = some ⟨b, 0, none⟩) (hm : o + m ≤ cs.length) : CanWrite w b o m := by
  intro j hj
  obtain ⟨b', h1, _, h2⟩ := c.bufCell k hk (by omega)
  rw [hp] at h1
  cases h1
  have := h2 (o + j) cs[o + j] (List.getElem?_eq_getElem (by omega))
  exact ⟨by rw [this.1]; rfl, this.2⟩

theorem setL_len : ∀ (vs : List Value) (cs : List Value) (o : Nat), (setL cs o vs).length = cs.length
  | [], _, _ => rfl
  | v :: r, cs, o => by unfold setL; rw [setL_len r]; simp

theorem setL_take : ∀ (vs : List Value) (cs : List Value) (o m : Nat), o + vs.length ≤ m → (setL cs o vs).take m = setL (cs.take m) o vs
  | [], _, _, _, _ => rfl
  | v :: r, cs, o, m, h => by
    unfold setL
    simp only [List.length_cons] at h
    rw [setL_take r _ _ _ (by omega), List.take_set]

theorem setL_get : ∀ (vs : List Value) (cs : List Value) (o i : Nat), (i < o ∨ o + vs.length ≤ i) → (setL cs o vs)[i]? = cs[i]?
  | [], _, _, _, _ => rfl
  | v :: r, cs, o, i, h => by
    unfold setL
    simp only [List.length_cons] at h
    rw [setL_get r _ _ _ (by omega), List.getElem?_set_ne (by omega)]

theorem setL_in : ∀ (vs : List Value) (cs : List Value) (o i : Nat), i < vs.length → o + vs.length ≤ cs.length → (setL cs o vs)[o + i]? = vs[i]?
  | [], _, _, _, h, _ => by simp at h
  | v :: r, cs, o, 0, h, hl => by
    unfold setL
    simp only [List.length_cons] at hl
    rw [setL_get r _ _ _ (by omega), Nat.add_zero, List.getElem?_set_self (by omega)]
    rfl
  | v :: r, cs, o, i + 1, h, hl => by
    unfold setL
    simp only [List.length_cons] at hl h
    rw [show o + (i + 1) = o + 1 + i by omega, setL_in r _ _ _ (by omega) (by simp; omega)]
    rfl

/-- write into it -/
theorem Ctx.bufPuts [Stable Φ] (c : Ctx W w S Φ) (k : Nat) {p : Option Addr} {n cap : Nat} {cs vs : List Value} {t : TypeId} {size : Nat} (hk : S[k]? = some (.buf p n cap cs t size)) {b o : Nat} (hp : p = some ⟨b, 0, none⟩) (h0 : 0 < cs.length) (ho : o + vs.length ≤ cs.length)
    (e : w' = w.setCells b o vs) : Ctx W w' (S.set k (.buf p n cap (setL cs o vs) t size)) Φ := by
  obtain ⟨b', cur, h1, hb, htake, hnc, hcm, hcl, hl⟩ := c.bufBlk k hk h0
  rw [hp] at h1
  cases h1
  subst e
  refine c.upd hk ((Chg.refl _ _).setCells (by subst hp; simp [Own.dom]) o vs) (fun x hx => .inl (by subst hp; exact hx)) (by subst hp; simp [Own.dom]) ?_
  have hb' := Blk.sets vs o hb
  refine ⟨by rw [setL_len, hl], .inr ⟨b, cap, (setL cur o vs).toArray, by rw [hp], Nat.zero_le _, hb', hnc, hcm, by simp [setL_len, hcl], ?_⟩⟩
  rw [← htake, setL_take _ _ _ _ (by omega)]

/-- the cells of the elements of a slice, in a row -/
theorem Sl.cells {α : Type} [Gv α] {M : List Nat} {p : Option Addr} {l : List α} (h : Sl M w p l) (h1 : ∀ M w cs (x : α), Gv.rep M w cs x → (cs.all fun u => oneC u) = true) (h0 : 0 < l.length) :
    ∃ b o news, p = some ⟨b, o, none⟩ ∧ news.length = l.length * (Gv.ty α).size ∧ (∀ j u, news[j]? = some u → w.cell? ⟨b, o + j, none⟩ = some u) ∧ Elems M w news l ∧ (news.all fun u => oneC u) = true := by
  obtain ⟨b, o, _, hp, _⟩ := h 0 h0
  have key : ∀ k, k ≤ l.length → ∃ news : List Value, news.length = k * (Gv.ty α).size ∧ (∀ j u, news[j]? = some u → w.cell? ⟨b, o + j, none⟩ = some u) ∧ Elems M w news (l.take k) ∧ (news.all fun u => oneC u) = true := by
    intro k
    induction k with
    | zero => intro _; exact ⟨[], by simp, fun j u hj => by simp at hj, by rw [List.take_zero]; exact Elems.nil, rfl⟩
    | succ k ih =>
      intro hk
      obtain ⟨news, g1, g2, g3, g4⟩ := ih (by omega)
      obtain ⟨b', o', cs, e1, _, e3, e4⟩ := h k (by omega)
      rw [hp] at e1
      cases e1
      have hlen := Gv.len e4
      refine ⟨news ++ cs, by rw [List.length_append, g1, hlen, Nat.add_mul, Nat.one_mul], fun j u hj => ?_, ?_, by rw [List.all_append, g4, h1 _ _ _ _ e4]; rfl⟩
      · by_cases hlt : j < news.length
        · rw [List.getElem?_append_left hlt] at hj
          exact g2 j u hj
        · rw [List.getElem?_append_right (by omega)] at hj
          have hl2 : j - news.length < cs.length := (List.getElem?_eq_some_iff.1 hj).1
          have := e3 (j - news.length) hl2
          rw [show o + k * (Gv.ty α).size + (j - news.length) = o + j by omega] at this
          rw [this, ← hj, List.getElem?_eq_getElem hl2]
      · rw [List.take_succ_eq_append_getElem (by omega)]
        exact g3.snoc e4
  obtain ⟨news, g1, g2, g3, g4⟩ := key l.length (Nat.le_refl _)
  rw [List.take_length] at g3
  exact ⟨b, o, news, hp, g1, g2, g3, g4⟩

/-- append a slice of plain data -/
theorem Ctx.appSl [Stable Φ] {α : Type} [Gv α] {q : Option Addr} {l : List α} {c2 : Nat} {p : Option Addr} {n cap : Nat} {cs : List Value} {t : TypeId} {bytes : Nat} (c : Ctx W w (.buf p n cap cs t (Gv.ty α).size :: S) Φ)
    {ts ty : TypeId} {kb : Array Bool} (hb : appB P ts t (Gv.ty α).size bytes = true) (h1 : ∀ M w cs (x : α), Gv.rep M w cs x → (cs.all fun u => oneC u) = true) (hsl : ∀ M w, Φ M w → Sl M w q l) (h0 : 0 < l.length) (hlen : n + l.length < 100000000) (hbytes : bytes ≤ 1000) :
    ∃ p' cap' w' news, Sem.run P (builtin Builtin.append #[ts, ts] ty kb #[.slice p n cap, .slice q l.length c2]) w = .ok (.value (.slice p' (n + l.length) cap')) w' ∧ (∃ g, p' = some ⟨g, 0, none⟩) ∧
      Ctx W w' (.buf p' (n + l.length) cap' (cs ++ news) t (Gv.ty α).size :: S) (fun M w => Φ M w ∧ Elems M w news l) := by
  obtain ⟨i, z, e1, e2, e3, e4, e5, e6⟩ := appB_out hb
  have hby : (n + l.length) * i.bytes ≤ 100000000 * 1000 := Nat.mul_le_mul (by omega) (by omega)
  obtain ⟨b, o, news, hp, g1, g2, g3, g4⟩ := (hsl _ _ c.phi).cells h1 h0
  obtain ⟨p', cap', w', h2, c'⟩ := (c.add (Ψ := fun M w => Elems M w news l) g3).append 0 rfl (ty := ty) e1 e2 e3 e4 e5 (a := ⟨b, o, none⟩) (m := l.length) (c2 := c2) (news := news) h0 g1 (fun j u hj => by rw [addr_add]; exact g2 j u hj)
    (fun u hu => List.all_eq_true.1 g4 u hu) (by omega) (by omega)
  have hpos : 0 < (Gv.ty α).size := Gv.pos
  have hl2 : 0 < l.length * (Gv.ty α).size := Nat.mul_pos h0 hpos
  refine ⟨p', cap', w', news, by rw [hp]; exact run_app h2, ?_, c'⟩
  obtain ⟨g, hg, _⟩ := c'.bufCell 0 rfl (by rw [List.length_append]; omega)
  exact ⟨g, hg⟩

end

end Go.Vc
end

/-
  Copies: what a function made and hands over; facts about single cells of a block that is laid aside.
-/
section
set_option linter.unusedVariables false
set_option linter.unusedSimpArgs false
namespace Go.Vc

section
variable {P : Program} {W w w' : World} {S S' F : List Own} {Φ Ψ : PW}

theorem Stable.less {Φ : PW} [Stable Φ] {D M : List Nat} {w : World} (h : Φ (D ++ M) w) : Φ M w :=
  Stable.step (Φ := Φ) ⟨Chg.refl _ _, fun b hb => .inl (List.mem_append_right _ hb)⟩ h


/-- the function hands back a slice that it made: the caller owns it; what its elements are, is known -/
structure GivesNew (Φ : PW) (P : Program) (f : FuncId) (args : Array Value) {α : Type} [Gv α] (l : List α) (t : TypeId) : Prop where
  go : ∀ (W w : World) (S : List Own), Ctx W w S Φ → Calls P f args w fun e w' => ∃ p cap cs, e = .returned (.slice p l.length cap) ∧ Ctx W w' (.buf p l.length cap cs t (Gv.ty α).size :: S) (fun M w => Φ M w ∧ Elems M w cs l)

theorem GivesNew.use {f : FuncId} {args : Array Value} {α : Type} [Gv α] {l : List α} {t : TypeId} (h : GivesNew Φ P f args l t) (c : Ctx W w S Φ) {K : Ending → World → Prop}
    (hk : ∀ p cap cs w', Ctx W w' (.buf p l.length cap cs t (Gv.ty α).size :: S) (fun M w => Φ M w ∧ Elems M w cs l) → K (.returned (.slice p l.length cap)) w') : Calls P f args w K :=
  (h.go W w S c).mono fun e w' ⟨p, cap, cs, he, c'⟩ => by subst he; exact hk p cap cs w' c'

theorem GivesNew.there {f : FuncId} {args : Array Value} {α : Type} [Gv α] {l : List α} {t : TypeId} {p : Option Addr} {n : Nat} (hΦ : ∀ M w, Φ M w → There p n) (h : There p n → GivesNew Φ P f args l t) : GivesNew Φ P f args l t :=
  ⟨fun W w S c => (h (hΦ _ _ c.phi)).go W w S c⟩

/-- a slice of plain data is appended to nothing: slices.Clone -/
theorem Ctx.cloned [Stable Φ] {α : Type} [Gv α] {q : Option Addr} {l : List α} {c2 : Nat} {k : Nat} {t : TypeId} {bytes : Nat} (c : Ctx W w (.blk k [] t :: S) Φ)
    {ts ty : TypeId} {kb : Array Bool} (hb : appB P ts t (Gv.ty α).size bytes = true) (h1 : ∀ M w cs (x : α), Gv.rep M w cs x → (cs.all fun u => oneC u) = true) (hsl : ∀ M w, Φ M w → Sl M w q l) (hlen : l.length < 100000000) (hbytes : bytes ≤ 1000) :
    ∃ p' cap' w' cs, Sem.run P (builtin Builtin.append #[ts, ts] ty kb #[.slice (some ⟨k, 0, none⟩) 0 0, .slice q l.length c2]) w = .ok (.value (.slice p' l.length cap')) w' ∧
      Ctx W w' (.buf p' l.length cap' cs t (Gv.ty α).size :: S) (fun M w => Φ M w ∧ Elems M w cs l) := by
  have c' : Ctx W w (.buf (some ⟨k, 0, none⟩) 0 0 [] t (Gv.ty α).size :: S) Φ := c.toBuf 0 0 (Gv.ty α).size rfl (by simp) (by simp [maxLen])
  rcases Nat.eq_zero_or_pos l.length with h0 | h0
  · obtain ⟨i, z, e1, e2, e3, e4, e5, e6⟩ := appB_out hb
    have hl : l = [] := List.eq_nil_of_length_eq_zero h0
    subst hl
    exact ⟨_, _, w, [], run_app (c'.append0 0 rfl e1 e2 q c2), c'.add Elems.nil⟩
  · obtain ⟨p', cap', w', news, h2, _, c3⟩ := c'.appSl (ty := ty) (kb := kb) (c2 := c2) hb h1 hsl h0 (by omega) hbytes
    rw [Nat.zero_add] at h2 c3
    exact ⟨p', cap', w', news, h2, c3⟩

/-- these cells lie in a block that is not written -/
def RowIn (b o : Nat) (vs : List Value) (M : List Nat) (w : World) : Prop := b ∉ M ∧ RowAt w b o vs ∧ b < w.heap.size

instance instStableRowIn (b o : Nat) (vs : List Value) : Stable (fun M w => RowIn b o vs M w) := ⟨fun hs h =>
  ⟨fun hm => by rcases hs.sub b hm with h1 | h1; exact h.1 h1; have := h.2.2; omega, hs.chg.row h.2.1 h.1, Nat.lt_of_lt_of_le h.2.2 hs.chg.size⟩⟩

theorem Parked.rowIn {M : List Nat} {b o : Nat} {cs vs : List Value} {t : TypeId} (h : Parked W (.blk b cs t) M w) (hv : ∀ j, (hj : j < vs.length) → cs[o + j]? = some vs[j]) : RowIn b o vs M w :=
  ⟨(h.2 b (by simp [Own.dom])).1, Blk.row (show Blk w b cs t from h.1) hv, Own.at_lt h.1 b (by simp [Own.dom])⟩

/-- several things that are owned, laid aside -/
def ParkedL (W : World) (Q : List Own) (M : List Nat) (w : World) : Prop := (∀ o ∈ Q, o.at w) ∧ (dom Q).Nodup ∧ ∀ b ∈ dom Q, b ∉ M ∧ W.heap.size ≤ b

instance instStableParkedL (W : World) (Q : List Own) : Stable (fun M w => ParkedL W Q M w) := ⟨fun hs h => by
  have hlt : ∀ b ∈ dom Q, b < _ := fun b hb => by
    obtain ⟨o, ho, hb⟩ := List.mem_flatMap.1 hb
    exact Own.at_lt (h.1 o ho) b hb
  exact ⟨fun o ho => Own.at_keep (h.1 o ho) fun b hb => hs.chg.block b (hlt b (mem_dom ho hb)) (h.2.2 b (mem_dom ho hb)).1, h.2.1, fun b hb => ⟨fun hm => by
    rcases hs.sub b hm with h1 | h1
    · exact (h.2.2 b hb).1 h1
    · have := hlt b hb; omega, (h.2.2 b hb).2⟩⟩⟩

/-- what holds while Q is laid aside -/
def Aside (W : World) (Q : List Own) (Φ : PW) : PW := fun M w => Φ (dom Q ++ M) w ∧ ParkedL W Q M w
instance instStableAside (W : World) (Q : List Own) (Φ : PW) [Stable Φ] : Stable (Aside W Q Φ) :=
  have h1 : Stable (fun M w => Φ (dom Q ++ M) w) := instStableMore (dom Q) Φ
  instStableAnd (fun M w => Φ (dom Q ++ M) w) (fun M w => ParkedL W Q M w)

theorem Ctx.aside {Q : List Own} (c : Ctx W w (Q ++ S) Φ) : Ctx W w S (Aside W Q Φ) := by
  have hd := dom_app Q S
  have hn := c.nodup
  rw [hd, List.nodup_append] at hn
  refine ⟨c.chg, fun x hx => c.own x (List.mem_append_right _ hx), fun b hb => c.young b (by rw [hd]; exact List.mem_append_right _ hb), hn.2.1, ?_, fun o ho => c.own o (List.mem_append_left _ ho), hn.1, fun b hb => ⟨fun hm => hn.2.2 b hb b hm rfl, c.young b (by rw [hd]; exact List.mem_append_left _ hb)⟩⟩
  have := c.phi
  rw [hd] at this
  exact this

theorem Ctx.unaside {Q : List Own} (c : Ctx W w S (Aside W Q Φ)) : Ctx W w (Q ++ S) Φ := by
  obtain ⟨h1, h2, h3, h4⟩ := c.phi
  have hd := dom_app Q S
  refine ⟨c.chg, fun x hx => ?_, fun b hb => ?_, ?_, by rw [hd]; exact h1⟩
  · rcases List.mem_append.1 hx with hx | hx
    · exact h2 x hx
    · exact c.own x hx
  · rw [hd] at hb
    rcases List.mem_append.1 hb with hb | hb
    · exact (h4 b hb).2
    · exact c.young b hb
  · rw [hd, List.nodup_append]
    exact ⟨h3, c.nodup, fun a ha b hb e => by subst e; exact (h4 a ha).1 hb⟩

theorem Aside.parked {Q : List Own} {M : List Nat} (h : Aside W Q Φ M w) {o : Own} (ho : o ∈ Q) : Parked W o M w := ⟨h.2.1 o ho, fun b hb => h.2.2.2 b (mem_dom ho hb)⟩
theorem Aside.less [Stable Φ] {Q : List Own} {M : List Nat} (h : Aside W Q Φ M w) : Φ M w := Stable.less h.1

theorem Aside.imp {Q : List Own} {Ψ : PW} {M : List Nat} (h : Aside W Q Φ M w) (hi : ∀ M w, Φ M w → Ψ M w) : Aside W Q Ψ M w := ⟨hi _ _ h.1, h.2⟩

theorem Ctx.re (c : Ctx W w S Φ) (e : S = S') : Ctx W w S' Φ := e ▸ c
theorem Ctx.bufGet (c : Ctx W w S Φ) (k : Nat) {p : Option Addr} {n cap : Nat} {cs : List Value} {t : TypeId} {size : Nat} (hk : S[k]? = some (.buf p n cap cs t size)) {b i : Nat} {v : Value} (hp : p = some ⟨b, 0, none⟩) (hv : cs[i]? = some v) : w.cell? ⟨b, i, none⟩ = some v := by
  obtain ⟨b', h1, _, h2⟩ := c.bufCell k hk (by have := (List.getElem?_eq_some_iff.1 hv).1; omega)
  rw [hp] at h1
  cases h1
  exact (h2 _ _ hv).1

end

end Go.Vc
end

/-
  THE ROW, out of a contract over owned worlds.
-/
section
set_option linter.unusedVariables false
set_option linter.unusedSimpArgs false
namespace Go.Vc
open Go.ChangeShapes Go.WideShapes Go.RowKit

section
variable {H : Type} {enc : TypeId × Value → H} {P : Program} {W : World}

/-- what came in is plain data -/
theorem open_gv {α : Type} [Gv α] (d : Nat) {t : TypeId} {v : Value} {x : DataW H} {ps : List MemPlace} (hty : Ty.is P d (Gv.ty α) t = true) (h : DataW.Trod enc P W 0 (fun _ => true) true t v x ps) : ∃ y : α, Gv.rep [] W v.cells.toList y := by
  obtain ⟨fuel, h⟩ := h
  exact Gv.opens.ap hty h

/-- .. a slice -/
theorem open_sl {α : Type} [Gv α] (d : Nat) {t e : TypeId} {v : Value} {r : Reach} {base : Nat} {x : DataW H} {ps : List MemPlace} (ht : P.underlying t = some (.slice e)) (hv : Value.okWide P W r base t v) (hty : Ty.is P d (Gv.ty (List α)) t = true)
    (h : DataW.Trod enc P W 0 (fun _ => true) true t v x ps) : ∃ (p : Option Addr) (cap : Nat) (l : List α), v = .slice p l.length cap ∧ l.length ≤ cap ∧ cap ≤ maxLen ∧ Sl [] W p l := by
  obtain ⟨a, len, cap, rfl⟩ := okWide_slice ht hv
  obtain ⟨l, hl⟩ := open_gv (α := List α) d hty h
  obtain ⟨p, c, e, h1, h2, h3⟩ := rep_list.1 hl
  simp only [Value.cells, List.cons.injEq, Value.slice.injEq, and_true] at e
  obtain ⟨rfl, rfl, rfl⟩ := e
  exact ⟨a, cap, l, rfl, h1, h2, h3⟩

/-- from a contract that knows what came in -/
theorem GivesIn.law {Φ : PW} {f : FuncId} {args : Array Value} (h : GivesIn Φ P f args (.bool true)) (h0 : Φ [] W) : Calls P f args W fun e W' => ∃ u, e = .returned u ∧ (u = .bool true ∧ Chg [] W W') :=
  (h.go W W [] (Ctx.start W h0)).mono fun e w' ⟨h1, h2⟩ => ⟨_, h1, rfl, h2.chg⟩

end

end Go.Vc
end

/-
  STRINGS.BUILDER over what a walk owns; tables that a row lays; rows with laid tables; the decimal form of ints.
-/
section
set_option linter.unusedVariables false
set_option linter.unusedSimpArgs false
namespace Go.Vc
open Go.RowKit Go.Shelf

section
variable {P : Program} {W w w' : World} {S R F : List Own} {Φ Ψ : PW}

/-- what is owned changes, and is owned no more -/
theorem Ctx.lose [Stable Φ] (c : Ctx W w (R ++ S) Φ) (h : Chg (dom R) w w') : Ctx W w' S Φ := by
  have hn := c.nodup
  rw [dom_app, List.nodup_append] at hn
  refine c.go ⟨h.mono fun x hx => by rw [dom_app]; exact List.mem_append_left _ hx, fun b hb => .inl (by rw [dom_app]; exact List.mem_append_right _ hb)⟩ (fun o ho => ?_) hn.2.1
  exact Own.at_keep (c.own o (List.mem_append_right _ ho)) fun b hb => h.block b (c.lt (mem_dom (List.mem_append_right _ ho) hb)) fun hm => hn.2.2 b hm b (mem_dom ho hb) rfl

/-- append of a string's bytes -/
theorem Ctx.appStr [Stable Φ] {p : Option Addr} {n cap : Nat} {cs : List Value} {e : TypeId} (c : Ctx W w (.buf p n cap cs e 1 :: S) Φ) {t u ty : TypeId} {kb : Array Bool} {i : TypeInfo}
    (ht : P.underlying t = some (.slice e)) (hu : P.underlying u = some .string) (hi : P.info? e = some i) (hz : i.zero = some (.int .u8 0)) (hsize : i.size = 1) (hby : i.bytes = 1) (s : ByteArray)
    (hb : n + s.size ≤ 140737488355328) (h63 : n + s.size ≤ maxLen) :
    ∃ p' cap' w', Sem.run P (builtin Builtin.append #[t, u] ty kb #[.slice p n cap, .string s]) w = .ok (.value (.slice p' (n + s.size) cap')) w' ∧ Ctx W w' (.buf p' (n + s.size) cap' (cs ++ Lib.strCells s) e 1 :: S) Φ := by
  have hown := c.own _ (List.mem_cons_self)
  obtain ⟨hcl, hown⟩ := hown
  have hxl : cs.length = n := by simpa using hcl
  have hlen : (cs ++ Lib.strCells s).length = (n + s.size) * 1 := by rw [List.length_append, hxl, Lib.strCells_length, Nat.mul_one]
  have grown : ∀ (old : Nat), old < n + s.size →
      Ctx W (w.drew.alloc (.cells (cs.toArray ++ (Lib.strCells s).toArray ++ Builtin.zeroCells (Value.int .u8 0).cells (grownCap w (n + s.size) old e - (n + s.size))) e))
        (.buf (some ⟨w.heap.size, 0, none⟩) (n + s.size) (grownCap w (n + s.size) old e) (cs ++ Lib.strCells s) e 1 :: S) Φ := by
    intro old ho
    have hge := grownCap_ge w (n + s.size) old e
    have hcm : grownCap w (n + s.size) old e ≤ maxLen := grownCap_le_maxLen w (n + s.size) old e h63
    have h := c.upd (k := 0) (o' := .buf (some ⟨w.heap.size, 0, none⟩) (n + s.size) (grownCap w (n + s.size) old e) (cs ++ Lib.strCells s) e 1) rfl (((Chg.refl _ _).drewN 1).alloc (.cells (cs.toArray ++ (Lib.strCells s).toArray ++ Builtin.zeroCells (Value.int .u8 0).cells (grownCap w (n + s.size) old e - (n + s.size))) e)) (by simp [Own.dom]) (by simp [Own.dom])
      ⟨hlen, .inr ⟨w.heap.size, _, _, rfl, Nat.zero_le _, hp_alloc_new w.drew _, hge, hcm, ?_, ?_⟩⟩
    · exact h
    · have hz1 : (Value.int IntKind.u8 0).cells.size = 1 := rfl
      simp only [Array.size_append, List.size_toArray, size_zeroCells, hz1, hxl, Lib.strCells_length]
      omega
    · simp only [Array.toList_append, List.append_assoc]
      rw [← List.append_assoc, ← hlen]
      exact List.take_left
  rcases hown with ⟨e1, rfl⟩ | ⟨g, cap', cur, e1, _, hg, hnc, hcm, hcs, htake⟩
  · cases e1
    have hx : cs = [] := List.eq_nil_of_length_eq_zero hxl
    subst hx
    by_cases hm : s.size = 0
    · have hn : Lib.strCells s = [] := List.eq_nil_of_length_eq_zero (by rw [Lib.strCells_length]; exact hm)
      refine ⟨none, 0, w, run_app ?_, by rw [hm, hn]; exact c⟩
      have hf := Lib.run_firstCells_string (P := P) w 1 s
      rw [hm] at hf
      simp [Builtin.append_, run_underlying ht, run_underlying hu, sizeOf, typeInfo, hi, hsize, Builtin.lenOf, hm, hf]
    · have hr := run_append_nil_string (P := P) w t u ty e i (.int .u8 0) ht hu hi hz s (by omega) (by omega) (by rw [hby]; omega)
      have hgr := grown 0 (by omega)
      simp only [Nat.zero_add, List.nil_append, Array.empty_append] at hgr ⊢
      have e1 : (s.data.map fun b => Value.int .u8 b.toNat) = (Lib.strCells s).toArray := by
        apply Array.ext'
        simp [Lib.strCells]
      rw [e1] at hr
      exact ⟨_, _, _, run_app hr, hgr⟩
  · cases e1
    have hcs' : cur.size = cap := by simpa using hcs
    have ht' : cur.toList.take n = cs := by simpa using htake
    by_cases hroom : n + s.size ≤ cap
    · have hr := Lib.run_append_room_string (P := P) w t u ty e i ht hu hi hsize g n cap cur hg s hroom (by omega)
      refine ⟨_, _, _, run_app hr, ?_⟩
      have h := c.upd (k := 0) (w' := w.setRow g (cur.toList.take n ++ Lib.strCells s ++ cur.toList.drop (n + s.size)).toArray) (o' := .buf (some ⟨g, 0, none⟩) (n + s.size) cap (cs ++ Lib.strCells s) e 1) rfl ⟨rfl, rfl, rfl, by simp, fun b _ hb => setRow_other w g b _ (by simpa [Own.dom] using hb)⟩ (by simp [Own.dom]) (by simp [Own.dom])
        ⟨hlen, .inr ⟨g, cap, _, rfl, Nat.zero_le _, setRow_heap w g cur _ e _ hg, hroom, hcm, ?_, ?_⟩⟩
      · exact h
      · simp only [List.size_toArray, List.length_append, List.length_take, List.length_drop, Array.length_toList, Lib.strCells_length]
        omega
      · rw [ht', ← hlen]
        exact List.take_left
    · have holds : ∀ j u, cs[j]? = some u → w.cell? ((⟨g, 0, none⟩ : Addr).add j) = some u := by
        intro j u hj
        have hlt : j < cs.length := (List.getElem?_eq_some_iff.1 hj).1
        have h2 : cur[j]? = some u := by
          rw [← ht', List.getElem?_take_of_lt (by omega)] at hj
          simpa using hj
        rw [addr_add, Nat.zero_add]
        simp [World.cell?, hg, h2]
      have hr := Lib.run_append_grow_string (P := P) w t u ty e i (.int .u8 0) ht hu hi hz ⟨g, 0, none⟩ n cap cs (by rw [hsize]; simpa using hxl) holds s (by omega) (by omega) (by rw [hby]; exact growslice_fits (by omega) (by omega))
      exact ⟨_, _, _, run_app hr, grown cap (by omega)⟩

/-- a strings.Builder (of type T, in block b) that holds these bytes (of type e) -/
def Bd (T e : TypeId) (b : Nat) (l : List UInt8) (R : List Own) : Prop :=
  ∃ (pa : Value) (p : Option Addr) (cap : Nat), (pa = .pointer none ∨ pa = .pointer (some ⟨b, 0, none⟩)) ∧ R = [.blk b [pa, .slice p l.length cap] T, .buf p l.length cap (Lib.byteCells l) e 1]

theorem Bd.fresh [Stable Φ] {T e : TypeId} {b : Nat} (c : Ctx W w (.blk b [.pointer none, .slice none 0 0] T :: S) Φ) : Ctx W w ([.blk b [.pointer none, .slice none 0 0] T, .buf none 0 0 [] e 1] ++ S) Φ :=
  ((c.buf0 e 1).perm (List.Perm.swap _ _ _))
theorem Bd.nil {T e : TypeId} {b : Nat} : Bd T e b [] [.blk b [.pointer none, .slice none 0 0] T, .buf none 0 0 [] e 1] := ⟨.pointer none, none, 0, .inl rfl, rfl⟩

end

/-! ### String -/
section
open Go.Proofs
variable {P : Program} {ρ : Ren}

theorem chg_freeze {a w : World} {D : List Nat} (h : Chg D a w) {p : Addr} (hp : p.block ∈ D) (n : Nat) : Chg D a (w.freeze p n) := by
  refine h.trans (T := D) ?_ (fun x hx => .inl hx)
  unfold World.freeze
  split
  · exact Chg.refl _ _
  · refine ⟨rfl, rfl, rfl, by simp, fun k hk hn => ?_⟩
    simp only [Array.getElem?_modify]
    rw [if_neg (fun e => hn (by rw [← e]; exact hp))]

set_option maxHeartbeats 1000000 in
set_option maxRecDepth 100000 in
theorem builder_String_some (L : Lays.n169 P ρ) (X : Builder.Extra P ρ) (b g cap : Nat) (pa : Value) (l : List UInt8) (w : World) (h0 : l ≠ []) (hbk : w.heap[b]? = some (.cells #[pa, .slice (some ⟨g, 0, none⟩) l.length cap] (ρ.t 72) (0, 0)))
    (hown : w.ownsRow 0 (ρ.t 5) 1 (.slice (some ⟨g, 0, none⟩) l.length cap) l.length (Lib.byteCells l)) :
    Calls P (ρ.f 169) #[.pointer (some ⟨b, 0, none⟩)] w fun e w' => e = .returned (.string ⟨l.toArray⟩) ∧ Chg [g] w w' := by
  have hl0 : l.length ≠ 0 := by simpa using h0
  obtain ⟨cur, hg, hnc, hcm, hcs, htake⟩ : ∃ cur, w.heap[g]? = some (.cells cur (ρ.t 5) (0, 0)) ∧ l.length ≤ cap ∧ cap ≤ maxLen ∧ cur.size = cap * 1 ∧ cur.toList.take (l.length * 1) = Lib.byteCells l := by
    rcases hown.2 with ⟨hv, _⟩ | ⟨g', cap', cur, hv, _, r⟩
    · cases hv
    · cases hv; exact ⟨cur, r⟩
  have c1 : w.drew.cell? ⟨b, 1, none⟩ = some (.slice (some ⟨g, 0, none⟩) l.length cap) := by
    have : w.drew.heap[b]? = some (.cells #[pa, .slice (some ⟨g, 0, none⟩) l.length cap] (ρ.t 72) (0, 0)) := hbk
    rw [Lib.cell_of_heap this]; rfl
  have hSD : (Builtin.unsafeSliceData_ #[(ρ.t 37)] (ρ.t 127) #[.slice (some ⟨g, 0, none⟩) l.length cap]).run P w.drew = .ok (.pointer (some ⟨g, 0, none⟩)) w.drew :=
    Lib.run_unsafeSliceData_row _ _ _ _ _ _ (by omega)
  have hUS : (Builtin.unsafeString_ #[(ρ.t 127), (ρ.t 3)] (ρ.t 9) #[.pointer (some ⟨g, 0, none⟩), .int .i64 l.length]).run P w.drew = .ok (.string ⟨l.toArray⟩) (w.drew.freeze ⟨g, 0, none⟩ l.length) := by
    refine Lib.run_unsafeString_row w.drew (ρ.t 127) (ρ.t 3) (ρ.t 9) (ρ.t 5) L.t127 X.cellsByte g cur.size (by have hg' : w.drew.heap[g]? = some (.cells cur (ρ.t 5) (0, 0)) := hg; simp [World.shape?, hg']) l h0 (by omega) (by unfold maxLen at hcm; omega) ?_
    intro j x hx
    have := hown.cells (g := g) rfl j (.int .u8 x.toNat) (by simp [Lib.byteCells, hx])
    exact this
  have mixed := L.mixed
  have t72 := L.t72; have a72 := L.a72; have z72 := L.z72; have v72 := L.v72; have u72 := run_underlying L.t72
  have t70 := L.t70; have a70 := L.a70; have z70 := L.z70; have v70 := L.v70; have u70 := run_underlying L.t70
  have t37 := L.t37; have a37 := L.a37; have z37 := L.z37; have v37 := L.v37; have u37 := run_underlying L.t37
  have t127 := L.t127; have a127 := L.a127; have z127 := L.z127; have v127 := L.v127; have u127 := run_underlying L.t127
  have t3 := L.t3; have a3 := L.a3; have z3 := L.z3; have v3 := L.v3; have u3 := run_underlying L.t3
  have t9 := L.t9; have a9 := L.a9; have z9 := L.z9; have v9 := L.v9; have u9 := run_underlying L.t9
  have t5 := X.t5; have a5 := X.a5; have z5 := X.z5; have v5 := X.v5; have u5 := run_underlying X.t5
  go_enter L.f169, Body.n169_ntmps ρ
  go_wp2
  go_region_o
  all_goals (go_wp2; go_ret; exact ⟨rfl, chg_freeze ((Chg.refl _ _).drewN 1) (p := ⟨g, 0, none⟩) (by simp) _⟩)

set_option maxHeartbeats 2000000 in
set_option maxRecDepth 100000 in
theorem builder_String_nil (L : Lays.n169 P ρ) (X : Builder.Extra P ρ) (b : Nat) (p : Value) (w : World) (hbk : w.heap[b]? = some (.cells #[p, .slice none 0 0] (ρ.t 72) (0, 0))) :
    Calls P (ρ.f 169) #[.pointer (some ⟨b, 0, none⟩)] w fun e w' => e = .returned (.string ⟨#[]⟩) ∧ Chg [] w w' := by
  have hUS := Any.unsafeString_none L X
  have c1 : w.drew.cell? ⟨b, 1, none⟩ = some (.slice none 0 0) := by
    have : w.drew.heap[b]? = some (.cells #[p, .slice none 0 0] (ρ.t 72) (0, 0)) := hbk
    rw [Lib.cell_of_heap this]; rfl
  have hSD : (Builtin.unsafeSliceData_ #[(ρ.t 37)] (ρ.t 127) #[.slice none 0 0]).run P w.drew = .ok (.pointer none) w.drew := rfl
  have mixed := L.mixed
  have t72 := L.t72; have a72 := L.a72; have z72 := L.z72; have v72 := L.v72; have u72 := run_underlying L.t72
  have t70 := L.t70; have a70 := L.a70; have z70 := L.z70; have v70 := L.v70; have u70 := run_underlying L.t70
  have t37 := L.t37; have a37 := L.a37; have z37 := L.z37; have v37 := L.v37; have u37 := run_underlying L.t37
  have t127 := L.t127; have a127 := L.a127; have z127 := L.z127; have v127 := L.v127; have u127 := run_underlying L.t127
  have t3 := L.t3; have a3 := L.a3; have z3 := L.z3; have v3 := L.v3; have u3 := run_underlying L.t3
  have t9 := L.t9; have a9 := L.a9; have z9 := L.z9; have v9 := L.v9; have u9 := run_underlying L.t9
  have t5 := X.t5; have a5 := X.a5; have z5 := X.z5; have v5 := X.v5; have u5 := run_underlying X.t5
  go_enter L.f169, Body.n169_ntmps ρ
  go_wp2
  go_region_o
  all_goals (go_wp2; go_ret; exact ⟨rfl, (Chg.refl _ _).drewN 1⟩)

set_option maxHeartbeats 2000000 in
set_option maxRecDepth 100000 in
theorem builder_String_noroom (L : Lays.n169 P ρ) (X : Builder.Extra P ρ) (b g : Nat) (p : Value) (cur : Array Value) (w : World) (hbk : w.heap[b]? = some (.cells #[p, .slice (some ⟨g, 0, none⟩) 0 0] (ρ.t 72) (0, 0))) (hg : w.heap[g]? = some (.cells cur (ρ.t 5) (0, 0))) :
    Calls P (ρ.f 169) #[.pointer (some ⟨b, 0, none⟩)] w fun e w' => e = .returned (.string ⟨#[]⟩) ∧ Chg [] w w' := by
  have hUS := Any.unsafeString_none L X
  have hlt : b < w.heap.size := by
    rcases Nat.lt_or_ge b w.heap.size with h' | h'
    · exact h'
    · simp [Array.getElem?_eq_none h'] at hbk
  have c1 : w.drew.cell? ⟨b, 1, none⟩ = some (.slice (some ⟨g, 0, none⟩) 0 0) := by
    have : w.drew.heap[b]? = some (.cells #[p, .slice (some ⟨g, 0, none⟩) 0 0] (ρ.t 72) (0, 0)) := hbk
    rw [Lib.cell_of_heap this]; rfl
  have hSD : (Builtin.unsafeSliceData_ #[(ρ.t 37)] (ρ.t 127) #[.slice (some ⟨g, 0, none⟩) 0 0]).run P w.drew = .ok (.pointer (some ⟨w.drew.heap.size, 0, none⟩)) (w.drew.alloc (.view ⟨g, 0, none⟩ (ρ.t 5))) :=
    Lib.run_unsafeSliceData_zero w.drew _ _ (ρ.t 5) L.t127 ⟨g, 0, none⟩ 0 ((ρ.t 5), cur.size) (by have hg' : w.drew.heap[g]? = some (.cells cur (ρ.t 5) (0, 0)) := hg; simp [World.shape?, hg'])
  have c2 : (w.drew.alloc (.view ⟨g, 0, none⟩ (ρ.t 5))).cell? ⟨b, 1, none⟩ = some (.slice (some ⟨g, 0, none⟩) 0 0) := by
    have : (w.drew.alloc (.view ⟨g, 0, none⟩ (ρ.t 5))).heap[b]? = _ := (Lib.alloc_old w.drew _ b hlt).trans hbk
    rw [Lib.cell_of_heap this]; rfl
  have c3 : (w.alloc (.view ⟨g, 0, none⟩ (ρ.t 5))).drew.cell? ⟨b, 1, none⟩ = some (.slice (some ⟨g, 0, none⟩) 0 0) := c2
  have c0 : w.cell? ⟨b, 1, none⟩ = some (.slice (some ⟨g, 0, none⟩) 0 0) := c1
  have mixed := L.mixed
  have t72 := L.t72; have a72 := L.a72; have z72 := L.z72; have v72 := L.v72; have u72 := run_underlying L.t72
  have t70 := L.t70; have a70 := L.a70; have z70 := L.z70; have v70 := L.v70; have u70 := run_underlying L.t70
  have t37 := L.t37; have a37 := L.a37; have z37 := L.z37; have v37 := L.v37; have u37 := run_underlying L.t37
  have t127 := L.t127; have a127 := L.a127; have z127 := L.z127; have v127 := L.v127; have u127 := run_underlying L.t127
  have t3 := L.t3; have a3 := L.a3; have z3 := L.z3; have v3 := L.v3; have u3 := run_underlying L.t3
  have t9 := L.t9; have a9 := L.a9; have z9 := L.z9; have v9 := L.v9; have u9 := run_underlying L.t9
  have t5 := X.t5; have a5 := X.a5; have z5 := X.z5; have v5 := X.v5; have u5 := run_underlying X.t5
  go_enter L.f169, Body.n169_ntmps ρ
  go_wp2
  go_region_o
  all_goals (go_wp2; go_ret; exact ⟨rfl, ((Chg.refl _ _).drewN 1).alloc _⟩)

set_option maxHeartbeats 2000000 in
set_option maxRecDepth 100000 in
theorem builder_String_room (L : Lays.n169 P ρ) (X : Builder.Extra P ρ) (b g cap : Nat) (p : Value) (w : World) (hc0 : cap ≠ 0) (hbk : w.heap[b]? = some (.cells #[p, .slice (some ⟨g, 0, none⟩) 0 cap] (ρ.t 72) (0, 0))) :
    Calls P (ρ.f 169) #[.pointer (some ⟨b, 0, none⟩)] w fun e w' => e = .returned (.string ⟨#[]⟩) ∧ Chg [] w w' := by
  have hUS := Any.unsafeString_none L X
  have c1 : w.drew.cell? ⟨b, 1, none⟩ = some (.slice (some ⟨g, 0, none⟩) 0 cap) := by
    have : w.drew.heap[b]? = some (.cells #[p, .slice (some ⟨g, 0, none⟩) 0 cap] (ρ.t 72) (0, 0)) := hbk
    rw [Lib.cell_of_heap this]; rfl
  have hSD : (Builtin.unsafeSliceData_ #[(ρ.t 37)] (ρ.t 127) #[.slice (some ⟨g, 0, none⟩) 0 cap]).run P w.drew = .ok (.pointer (some ⟨g, 0, none⟩)) w.drew :=
    Lib.run_unsafeSliceData_row _ _ _ _ _ _ hc0
  clear hc0
  have mixed := L.mixed
  have t72 := L.t72; have a72 := L.a72; have z72 := L.z72; have v72 := L.v72; have u72 := run_underlying L.t72
  have t70 := L.t70; have a70 := L.a70; have z70 := L.z70; have v70 := L.v70; have u70 := run_underlying L.t70
  have t37 := L.t37; have a37 := L.a37; have z37 := L.z37; have v37 := L.v37; have u37 := run_underlying L.t37
  have t127 := L.t127; have a127 := L.a127; have z127 := L.z127; have v127 := L.v127; have u127 := run_underlying L.t127
  have t3 := L.t3; have a3 := L.a3; have z3 := L.z3; have v3 := L.v3; have u3 := run_underlying L.t3
  have t9 := L.t9; have a9 := L.a9; have z9 := L.z9; have v9 := L.v9; have u9 := run_underlying L.t9
  have t5 := X.t5; have a5 := X.a5; have z5 := X.z5; have v5 := X.v5; have u5 := run_underlying X.t5
  go_enter L.f169, Body.n169_ntmps ρ
  go_wp2
  go_region_o
  all_goals (go_wp2; go_ret; exact ⟨rfl, (Chg.refl _ _).drewN 1⟩)

/-- (*strings.Builder).String: the builder is given up -/
theorem Bd.string {W w : World} {S R : List Own} {Φ : PW} [Stable Φ] {b : Nat} {l : List UInt8} (L : Lays.n169 P ρ) (X : Builder.Extra P ρ) (h : Bd (ρ.t 72) (ρ.t 5) b l R) (c : Ctx W w (R ++ S) Φ) {K : Ending → World → Prop}
    (hk : ∀ w', Ctx W w' S Φ → K (.returned (.string ⟨l.toArray⟩)) w') : Calls P (ρ.f 169) #[.pointer (some ⟨b, 0, none⟩)] w K := by
  obtain ⟨pa, p, cap, hpa, rfl⟩ := h
  have hbk : w.heap[b]? = some (.cells #[pa, .slice p l.length cap] (ρ.t 72) (0, 0)) := c.blk 0 rfl
  have hown : w.ownsRow 0 (ρ.t 5) 1 (.slice p l.length cap) l.length (Lib.byteCells l) := c.own _ (List.mem_cons_of_mem _ List.mem_cons_self)
  by_cases h0 : l = []
  · subst h0
    rcases hown.2 with ⟨e, _⟩ | ⟨g, cap', cur, e, _, hg, _⟩
    · cases e
      exact (builder_String_nil L X b pa w hbk).mono fun e w' ⟨he, hc⟩ => by subst he; exact hk w' (c.lose (hc.mono (by simp)))
    · cases e
      by_cases hc0 : cap = 0
      · subst hc0
        exact (builder_String_noroom L X b g pa cur w hbk hg).mono fun e w' ⟨he, hc⟩ => by subst he; exact hk w' (c.lose (hc.mono (by simp)))
      · exact (builder_String_room L X b g cap pa w hc0 hbk).mono fun e w' ⟨he, hc⟩ => by subst he; exact hk w' (c.lose (hc.mono (by simp)))
  · have hl0 : l.length ≠ 0 := by simpa using h0
    obtain ⟨g, rfl⟩ : ∃ g, p = some ⟨g, 0, none⟩ := by
      rcases hown.2 with ⟨_, hz⟩ | ⟨g, cap', cur, hv, _⟩
      · exact absurd hz hl0
      · cases hv; exact ⟨g, rfl⟩
    exact (builder_String_some L X b g cap pa l w h0 hbk hown).mono fun e w' ⟨he, hc⟩ => by subst he; exact hk w' (c.lose (hc.mono (by simp [dom, Own.dom])))

end

/-! ### tables -/
/-- a table of the library's, in a block that nobody writes -/
def Tab (P : Program) (name : String) (k : IntKind) (zs : List Int) : PW := fun M w => Lib.TabIs P w name k zs ∧ ∀ g, P.globalNamed name = some g → g ∉ M

instance instStableTab (P : Program) (name : String) (k : IntKind) (zs : List Int) : Stable (Tab P name k zs) := ⟨fun {M M' w w'} hs h => by
  obtain ⟨h1, h2⟩ := h
  unfold Lib.TabIs World.var? at h1
  cases hg : P.globalNamed name with
  | none => simp [hg] at h1
  | some g =>
    simp only [hg, Option.bind_some] at h1
    have hlt : g < w.heap.size := by
      rcases Nat.lt_or_ge g w.heap.size with h' | h'
      · exact h'
      · rw [Array.getElem?_eq_none h'] at h1; simp at h1
    refine ⟨?_, fun g' hg' hm => ?_⟩
    · unfold Lib.TabIs World.var?
      simp only [hg, Option.bind_some]
      rw [hs.chg.block g hlt (h2 g hg)]
      exact h1
    · rw [hg] at hg'
      cases hg'
      rcases hs.sub g hm with h | h
      · exact h2 g hg h
      · omega⟩

theorem Tab.start {P : Program} {name : String} {k : IntKind} {zs : List Int} {w : World} (h : Lib.TabIs P w name k zs) : Tab P name k zs [] w := ⟨h, fun _ _ => by simp⟩

theorem chg_grow {w : World} {k : Nat} {os : Array Obj} : Chg [] w (Sort.grow (w.drewN k) os) :=
  ⟨rfl, rfl, rfl, by show w.heap.size ≤ (w.heap ++ os).size; rw [Array.size_append]; omega, fun j hj _ => by
    show (w.heap ++ os)[j]? = w.heap[j]?
    rw [Array.getElem?_append_left hj]⟩

/-- strconv.Itoa -/
theorem itoa_in {P : Program} {f : FuncId} {Φ : PW} [Stable Φ] {name : String} (hI : ∀ (n : Int), -9223372036854775808 ≤ n → n ≤ 9223372036854775807 → ∀ w, Lib.TabIs P w name .u64 Lib.pow10Tab →
      Calls P f #[.int .i64 n] w fun e w' => e = .returned (.string ⟨(Lib.itoa n).toArray⟩) ∧ ∃ k os, w' = Sort.grow (w.drewN k) os)
    (hΦ : ∀ M w, Φ M w → Tab P name .u64 Lib.pow10Tab M w) (n : Int) (h : I64 n) : GivesIn Φ P f #[.int .i64 n] (.string ⟨(Lib.itoa n).toArray⟩) :=
  ⟨fun W w S c => (hI n (by unfold I64 at h; omega) (by unfold I64 at h; omega) w (hΦ _ _ c.phi).1).mono fun e w' ⟨he, k, os, hw⟩ => ⟨he, by rw [hw]; exact c.call chg_grow⟩⟩

/-! ### rows with laid tables -/
open Go.ChangeShapes Go.WideShapes Go.ChangeAt

/-- the row: true, and what came in reads as it did; tables are laid -/
theorem lawTrueLaid {H : Type} {enc : TypeId × Value → H} {C : Checked} {os : Os} {f : FuncId} {fn : Func} {s : ChangeSpec} {conds : List PathCond} {apart fresh handsOn : Bool} {tb : TypeId} {ld : List (String × DataW Unit)}
    (own : ownKnob C.prog.godebug = none) (started : os.Started) (noInit : C.prog.inits.idxOf? f = none) (hfn : C.prog.funcs[f]? = some fn)
    (laid : laidOutB C.prog = true) (hvars : s.vars = []) (hspec : ∀ ds : List (DataW H), ds.length = fn.params.toList.length → (s.fn H (ds ++ [])).results = [.lit (.bool true)] ∧ (s.fn H (ds ++ [])).args = ds ∧ (s.fn H (ds ++ [])).vars = [])
    (hres : fn.resultTypes = #[tb]) (htb : C.prog.underlying tb = some .bool)
    (types : (fn.params.toList.all fun t => C.prog.readableRec t && decide (t < C.prog.types.size)) = true)
    (witness : ∃ (w : World) (tape : Tape) (i : Input), w.os = os ∧ (w.forCall tape i).Shaped C.prog ∧ i.vars = [] ∧ Input.okWide C.prog (w.forCall tape i) .any w.heap.size f i ∧
      ((s.pre enc C.prog fn conds apart (w.forCall tape i).memory i.args ∧ laidMetH C.prog ld (w.forCall tape i).memory) ∧ sizedMet enc C.prog fn (OpenSpec.ofChange s) apart (w.forCall tape i).memory i.args) ∧ Assume.holds {} C.prog (lone (Frame.enter C.prog f i.args .normal) [] (w.forCall tape i)))
    (contract : ∀ (W : World) (base : Nat) (args : Array Value) (ds : List (DataW H)) (p : List MemPlace),
      (∀ (j : Nat) t v, fn.params[j]? = some t → args[j]? = some v → Value.okWide C.prog W .any base t v) →
      DataW.TrodAll enc C.prog W 0 (fun _ => true) true fn.params.toList args.toList ds p →
      conds.all (PathCond.test C.prog ⟨fn.params.toList, ds, s.plain.varTypes C.prog, []⟩) = true → laidMetH C.prog ld W →
      Calls C.prog f args W fun e W' => ∃ u, e = .returned u ∧ (u = .bool true ∧ Chg [] W W')) :
    ReturnsInHanded {} C os f .any (fun w args => (s.pre enc C.prog fn conds apart w args ∧ laidMetH C.prog ld w) ∧ sizedMet enc C.prog fn (OpenSpec.ofChange s) apart w args) (s.post enc C.prog fn apart fresh handsOn false) := by
  refine returnsInHanded_of_change_and (X := fun w _ => laidMetH C.prog ld w) (fun _ _ _ hh h => h.of_heap hh) own started noInit hfn witness ?_
  intro W base args ds gs before hval hW hcnd _ hL _
  have hW' := hW
  obtain ⟨p, q, hA, hV, rfl, _, _⟩ := hW
  rw [hvars] at hV
  obtain ⟨rfl, rfl⟩ := trodVars_none hV
  simp only [List.append_nil] at hW'
  refine (contract W base args ds p hval hA hcnd hL).mono fun e W' ⟨u, he, hu, hc⟩ => ?_
  subst he; subst hu
  have hb : Below W.heap.size W W' := hc.below (Nat.le_refl _) (by simp)
  obtain ⟨e1, e2, e3⟩ := hspec ds (trodAll_length hA).2
  refine ⟨_, rfl, ds, [], p, [], p, [], hW', ?_, ?_, ?_, hb.frame _, fun h => by cases h⟩
  · rw [e1, hres]
    exact trodAll_mk1 (t := tb) (v := .bool true) ⟨1, by simp [DataW.trod, Value.cells, htb]⟩
  · rw [e2]
    exact trodAll_below laid hb types hA (fun x hx => by simpa using hW'.lt x hx)
  · rw [e3, hvars]
    rfl

end Go.Vc
end

/-
  Layings of the kit's shelf at this seat's numbers (printed by the kit's own tools).
-/
section
set_option linter.unusedVariables false
namespace Go.Proofs
open Go.Shelf

def Tryd.lays169_ren : Go.Shelf.Ren := ⟨fun | 169 => 54 | n => n, fun | 70 => 96 | 9 => 9 | 0 => 0 | 72 => 98 | 37 => 29 | 127 => 107 | 3 => 3 | 5 => 5 | n => n, fun | n => n⟩
theorem Tryd.lays169 : Go.Proofs.Lays.n169 Tryd.prog Tryd.lays169_ren := {
  mixed := by kernel_rfl
  f169 := Tryd.func54.trans (congrArg some (by kernel_rfl))
  t0 := Tryd.underlying0
  a0 := Tryd.isAgg0
  z0 := Tryd.sizeOf0
  v0 := Tryd.zeroValue0
  t3 := Tryd.underlying3
  a3 := Tryd.isAgg3
  z3 := Tryd.sizeOf3
  v3 := Tryd.zeroValue3
  t9 := Tryd.underlying9
  a9 := Tryd.isAgg9
  z9 := Tryd.sizeOf9
  v9 := Tryd.zeroValue9
  t37 := Tryd.underlying29
  a37 := Tryd.isAgg29
  z37 := Tryd.sizeOf29
  v37 := Tryd.zeroValue29
  t70 := Tryd.underlying96
  a70 := Tryd.isAgg96
  z70 := Tryd.sizeOf96
  v70 := Tryd.zeroValue96
  t72 := Tryd.underlying98
  a72 := Tryd.isAgg98
  z72 := Tryd.sizeOf98
  v72 := Tryd.zeroValue98
  t127 := Tryd.underlying107
  a127 := Tryd.isAgg107
  z127 := Tryd.sizeOf107
  v127 := Tryd.zeroValue107 }
theorem Tryd.Builder_Extra_169 : Builder.Extra Tryd.prog Tryd.lays169_ren := {
  sizeBuilder := by kernel_rfl
  liesBuilder := by kernel_rfl
  t5 := Tryd.underlying5
  a5 := Tryd.isAgg5
  z5 := Tryd.sizeOf5
  v5 := Tryd.zeroValue5
  infoByte := by kernel_rfl
  cellsByte := by kernel_rfl
  sizeByte := by kernel_rfl
  neB5 := by decide }
def Tryd.lays137_ren : Go.Shelf.Ren := ⟨fun | 137 => 49 | 217 => 61 | 266 => 72 | n => n, fun | 9 => 9 | 5 => 5 | 3 => 3 | n => n, fun | n => n⟩
theorem Tryd.lays137 : Go.Proofs.Lays.n137 Tryd.prog Tryd.lays137_ren := {
  mixed := by kernel_rfl
  f137 := Tryd.func49.trans (congrArg some (by kernel_rfl))
  f217 := Tryd.func61.trans (congrArg some (by kernel_rfl))
  f266 := Tryd.func72.trans (congrArg some (by kernel_rfl))
  t3 := Tryd.underlying3
  a3 := Tryd.isAgg3
  z3 := Tryd.sizeOf3
  v3 := Tryd.zeroValue3
  t5 := Tryd.underlying5
  a5 := Tryd.isAgg5
  z5 := Tryd.sizeOf5
  v5 := Tryd.zeroValue5
  t9 := Tryd.underlying9
  a9 := Tryd.isAgg9
  z9 := Tryd.sizeOf9
  v9 := Tryd.zeroValue9 }
def Tryd.lays103_ren : Go.Shelf.Ren := ⟨fun | 103 => 51 | 210 => 64 | 206 => 78 | n => n, fun | 9 => 9 | 4 => 4 | 24 => 88 | 3 => 3 | n => n, fun | n => n⟩
theorem Tryd.lays103 : Go.Proofs.Lays.n103 Tryd.prog Tryd.lays103_ren := {
  mixed := by kernel_rfl
  f103 := Tryd.func51.trans (congrArg some (by kernel_rfl))
  f206 := Tryd.func78.trans (congrArg some (by kernel_rfl))
  f210 := Tryd.func64.trans (congrArg some (by kernel_rfl))
  t3 := Tryd.underlying3
  a3 := Tryd.isAgg3
  z3 := Tryd.sizeOf3
  v3 := Tryd.zeroValue3
  t4 := Tryd.underlying4
  a4 := Tryd.isAgg4
  z4 := Tryd.sizeOf4
  v4 := Tryd.zeroValue4
  t9 := Tryd.underlying9
  a9 := Tryd.isAgg9
  z9 := Tryd.sizeOf9
  v9 := Tryd.zeroValue9
  t24 := Tryd.underlying88
  a24 := Tryd.isAgg88
  z24 := Tryd.sizeOf88
  v24 := Tryd.zeroValue88 }
def Tryd.laysM171_ren : Go.Shelf.Ren := ⟨fun | 171 => 30 | 243 => 45 | 246 => 56 | 283 => 67 | 284 => 68 | 285 => 69 | 286 => 70 | 129 => 81 | 317 => 80 | 318 => 82 | 319 => 83 | 320 => 84 | 337 => 88 | 338 => 89 | n => n, fun | 3 => 3 | 9 => 9 | 2 => 2 | 4 => 4 | 171 => 109 | 0 => 0 | 53 => 110 | 37 => 29 | 5 => 5 | 173 => 113 | 212 => 127 | 51 => 128 | 20 => 20 | 213 => 129 | 46 => 28 | 232 => 143 | 233 => 144 | n => n, fun | 17 => 1 | 18 => 5 | 19 => 6 | n => n⟩
theorem Tryd.laysM171 : Go.Proofs.LaysM.n171 Tryd.prog Tryd.laysM171_ren := {
  mixed := by kernel_rfl
  f129 := Tryd.func81.trans (congrArg some (by kernel_rfl))
  f171 := Tryd.func30.trans (congrArg some (by kernel_rfl))
  f243 := Tryd.func45.trans (congrArg some (by kernel_rfl))
  f246 := Tryd.func56.trans (congrArg some (by kernel_rfl))
  f283 := Tryd.func67.trans (congrArg some (by kernel_rfl))
  f284 := Tryd.func68.trans (congrArg some (by kernel_rfl))
  f285 := Tryd.func69.trans (congrArg some (by kernel_rfl))
  f286 := Tryd.func70.trans (congrArg some (by kernel_rfl))
  f317 := Tryd.func80.trans (congrArg some (by kernel_rfl))
  f318 := Tryd.func82.trans (congrArg some (by kernel_rfl))
  f319 := Tryd.func83.trans (congrArg some (by kernel_rfl))
  f320 := Tryd.func84.trans (congrArg some (by kernel_rfl))
  f337 := Tryd.func88.trans (congrArg some (by kernel_rfl))
  f338 := Tryd.func89.trans (congrArg some (by kernel_rfl))
  t0 := Tryd.underlying0
  a0 := Tryd.isAgg0
  z0 := Tryd.sizeOf0
  v0 := Tryd.zeroValue0
  t2 := Tryd.underlying2
  a2 := Tryd.isAgg2
  z2 := Tryd.sizeOf2
  v2 := Tryd.zeroValue2
  t3 := Tryd.underlying3
  a3 := Tryd.isAgg3
  z3 := Tryd.sizeOf3
  v3 := Tryd.zeroValue3
  t4 := Tryd.underlying4
  a4 := Tryd.isAgg4
  z4 := Tryd.sizeOf4
  v4 := Tryd.zeroValue4
  t5 := Tryd.underlying5
  a5 := Tryd.isAgg5
  z5 := Tryd.sizeOf5
  v5 := Tryd.zeroValue5
  t9 := Tryd.underlying9
  a9 := Tryd.isAgg9
  z9 := Tryd.sizeOf9
  v9 := Tryd.zeroValue9
  t20 := Tryd.underlying20
  a20 := Tryd.isAgg20
  z20 := Tryd.sizeOf20
  v20 := Tryd.zeroValue20
  t37 := Tryd.underlying29
  a37 := Tryd.isAgg29
  z37 := Tryd.sizeOf29
  v37 := Tryd.zeroValue29
  t46 := Tryd.underlying28
  a46 := Tryd.isAgg28
  z46 := Tryd.sizeOf28
  v46 := Tryd.zeroValue28
  t51 := Tryd.underlying128
  a51 := Tryd.isAgg128
  z51 := Tryd.sizeOf128
  v51 := Tryd.zeroValue128
  t53 := Tryd.underlying110
  a53 := Tryd.isAgg110
  z53 := Tryd.sizeOf110
  v53 := Tryd.zeroValue110
  t171 := Tryd.underlying109
  a171 := Tryd.isAgg109
  z171 := Tryd.sizeOf109
  v171 := Tryd.zeroValue109
  t173 := Tryd.underlying113
  a173 := Tryd.isAgg113
  z173 := Tryd.sizeOf113
  v173 := Tryd.zeroValue113
  t212 := Tryd.underlying127
  a212 := Tryd.isAgg127
  z212 := Tryd.sizeOf127
  v212 := Tryd.zeroValue127
  t213 := Tryd.underlying129
  a213 := Tryd.isAgg129
  z213 := Tryd.sizeOf129
  t232 := Tryd.underlying143
  a232 := Tryd.isAgg143
  z232 := Tryd.sizeOf143
  v232 := Tryd.zeroValue143
  t233 := Tryd.underlying144
  a233 := Tryd.isAgg144
  z233 := Tryd.sizeOf144
  v233 := Tryd.zeroValue144
  g17 := by kernel_rfl
  g18 := by kernel_rfl
  g19 := by kernel_rfl
  i0 := by kernel_rfl
  i2 := by kernel_rfl
  i3 := by kernel_rfl
  i4 := by kernel_rfl
  i5 := by kernel_rfl
  i9 := by kernel_rfl
  i20 := by kernel_rfl
  i37 := by kernel_rfl
  i46 := by kernel_rfl
  i51 := by kernel_rfl
  i53 := by kernel_rfl
  i171 := by kernel_rfl
  i173 := by kernel_rfl
  i212 := by kernel_rfl
  i232 := by kernel_rfl
  i233 := by kernel_rfl
  m17 := by kernel_rfl
  m18 := by kernel_rfl
  m19 := by kernel_rfl }
def Tryd.lays171_ren : Go.Shelf.Ren := ⟨fun | 171 => 30 | 243 => 45 | 246 => 56 | 283 => 67 | 284 => 68 | 285 => 69 | 286 => 70 | 129 => 81 | 317 => 80 | 318 => 82 | 319 => 83 | 320 => 84 | 337 => 88 | 338 => 89 | n => n, fun | 3 => 3 | 9 => 9 | 2 => 2 | 4 => 4 | 171 => 109 | 0 => 0 | 53 => 110 | 37 => 29 | 5 => 5 | 173 => 113 | 212 => 127 | 51 => 128 | 20 => 20 | 213 => 129 | 46 => 28 | 232 => 143 | 233 => 144 | n => n, fun | 17 => 1 | 18 => 5 | 19 => 6 | n => n⟩
theorem Tryd.lays171 : Go.Proofs.Lays.n171 Tryd.prog Tryd.lays171_ren := {
  mixed := by kernel_rfl
  f129 := Tryd.func81.trans (congrArg some (by kernel_rfl))
  f171 := Tryd.func30.trans (congrArg some (by kernel_rfl))
  f243 := Tryd.func45.trans (congrArg some (by kernel_rfl))
  f246 := Tryd.func56.trans (congrArg some (by kernel_rfl))
  f283 := Tryd.func67.trans (congrArg some (by kernel_rfl))
  f284 := Tryd.func68.trans (congrArg some (by kernel_rfl))
  f285 := Tryd.func69.trans (congrArg some (by kernel_rfl))
  f286 := Tryd.func70.trans (congrArg some (by kernel_rfl))
  f317 := Tryd.func80.trans (congrArg some (by kernel_rfl))
  f318 := Tryd.func82.trans (congrArg some (by kernel_rfl))
  f319 := Tryd.func83.trans (congrArg some (by kernel_rfl))
  f320 := Tryd.func84.trans (congrArg some (by kernel_rfl))
  f337 := Tryd.func88.trans (congrArg some (by kernel_rfl))
  f338 := Tryd.func89.trans (congrArg some (by kernel_rfl))
  t0 := Tryd.underlying0
  a0 := Tryd.isAgg0
  z0 := Tryd.sizeOf0
  v0 := Tryd.zeroValue0
  t2 := Tryd.underlying2
  a2 := Tryd.isAgg2
  z2 := Tryd.sizeOf2
  v2 := Tryd.zeroValue2
  t3 := Tryd.underlying3
  a3 := Tryd.isAgg3
  z3 := Tryd.sizeOf3
  v3 := Tryd.zeroValue3
  t4 := Tryd.underlying4
  a4 := Tryd.isAgg4
  z4 := Tryd.sizeOf4
  v4 := Tryd.zeroValue4
  t5 := Tryd.underlying5
  a5 := Tryd.isAgg5
  z5 := Tryd.sizeOf5
  v5 := Tryd.zeroValue5
  t9 := Tryd.underlying9
  a9 := Tryd.isAgg9
  z9 := Tryd.sizeOf9
  v9 := Tryd.zeroValue9
  t20 := Tryd.underlying20
  a20 := Tryd.isAgg20
  z20 := Tryd.sizeOf20
  v20 := Tryd.zeroValue20
  t37 := Tryd.underlying29
  a37 := Tryd.isAgg29
  z37 := Tryd.sizeOf29
  v37 := Tryd.zeroValue29
  t46 := Tryd.underlying28
  a46 := Tryd.isAgg28
  z46 := Tryd.sizeOf28
  v46 := Tryd.zeroValue28
  t51 := Tryd.underlying128
  a51 := Tryd.isAgg128
  z51 := Tryd.sizeOf128
  v51 := Tryd.zeroValue128
  t53 := Tryd.underlying110
  a53 := Tryd.isAgg110
  z53 := Tryd.sizeOf110
  v53 := Tryd.zeroValue110
  t171 := Tryd.underlying109
  a171 := Tryd.isAgg109
  z171 := Tryd.sizeOf109
  v171 := Tryd.zeroValue109
  t173 := Tryd.underlying113
  a173 := Tryd.isAgg113
  z173 := Tryd.sizeOf113
  v173 := Tryd.zeroValue113
  t212 := Tryd.underlying127
  a212 := Tryd.isAgg127
  z212 := Tryd.sizeOf127
  v212 := Tryd.zeroValue127
  t213 := Tryd.underlying129
  a213 := Tryd.isAgg129
  z213 := Tryd.sizeOf129
  t232 := Tryd.underlying143
  a232 := Tryd.isAgg143
  z232 := Tryd.sizeOf143
  v232 := Tryd.zeroValue143
  t233 := Tryd.underlying144
  a233 := Tryd.isAgg144
  z233 := Tryd.sizeOf144
  v233 := Tryd.zeroValue144
  g17 := by kernel_rfl
  g18 := by kernel_rfl
  g19 := by kernel_rfl }
def Tryd.laysC172_ren : Go.Shelf.Ren := ⟨fun | 172 => 50 | 244 => 62 | 245 => 63 | 247 => 73 | 279 => 74 | 280 => 75 | 281 => 76 | 282 => 77 | 287 => 85 | 316 => 86 | 171 => 30 | 205 => 87 | 321 => 90 | 322 => 91 | 243 => 45 | 246 => 56 | 283 => 67 | 284 => 68 | 285 => 69 | 286 => 70 | 129 => 81 | 317 => 80 | 318 => 82 | 319 => 83 | 320 => 84 | 337 => 88 | 338 => 89 | n => n, fun | 9 => 9 | 3 => 3 | 75 => 92 | 76 => 93 | 4 => 4 | 5 => 5 | 167 => 116 | 37 => 29 | 0 => 0 | 85 => 117 | 2 => 2 | 168 => 119 | 53 => 110 | 175 => 132 | 46 => 28 | 210 => 135 | 127 => 107 | 145 => 142 | 143 => 140 | 21 => 21 | 171 => 109 | 173 => 113 | 212 => 127 | 51 => 128 | 20 => 20 | 213 => 129 | 232 => 143 | 233 => 144 | 80 => 37 | n => n, fun | 15 => 3 | 16 => 4 | 17 => 1 | 18 => 5 | 19 => 6 | n => n⟩
theorem Tryd.laysC172 : Go.Proofs.LaysC.n172 Tryd.prog Tryd.laysC172_ren := {
  mixed := by kernel_rfl
  f129 := Tryd.func81.trans (congrArg some (by kernel_rfl))
  f171 := Tryd.func30.trans (congrArg some (by kernel_rfl))
  f172 := Tryd.func50.trans (congrArg some (by kernel_rfl))
  f205 := Tryd.func87.trans (congrArg some (by kernel_rfl))
  f243 := Tryd.func45.trans (congrArg some (by kernel_rfl))
  f244 := Tryd.func62.trans (congrArg some (by kernel_rfl))
  f245 := Tryd.func63.trans (congrArg some (by kernel_rfl))
  f246 := Tryd.func56.trans (congrArg some (by kernel_rfl))
  f247 := Tryd.func73.trans (congrArg some (by kernel_rfl))
  f279 := Tryd.func74.trans (congrArg some (by kernel_rfl))
  f280 := Tryd.func75.trans (congrArg some (by kernel_rfl))
  f281 := Tryd.func76.trans (congrArg some (by kernel_rfl))
  f282 := Tryd.func77.trans (congrArg some (by kernel_rfl))
  f283 := Tryd.func67.trans (congrArg some (by kernel_rfl))
  f284 := Tryd.func68.trans (congrArg some (by kernel_rfl))
  f285 := Tryd.func69.trans (congrArg some (by kernel_rfl))
  f286 := Tryd.func70.trans (congrArg some (by kernel_rfl))
  f287 := Tryd.func85.trans (congrArg some (by kernel_rfl))
  f316 := Tryd.func86.trans (congrArg some (by kernel_rfl))
  f317 := Tryd.func80.trans (congrArg some (by kernel_rfl))
  f318 := Tryd.func82.trans (congrArg some (by kernel_rfl))
  f319 := Tryd.func83.trans (congrArg some (by kernel_rfl))
  f320 := Tryd.func84.trans (congrArg some (by kernel_rfl))
  f321 := Tryd.func90.trans (congrArg some (by kernel_rfl))
  f322 := Tryd.func91.trans (congrArg some (by kernel_rfl))
  f337 := Tryd.func88.trans (congrArg some (by kernel_rfl))
  f338 := Tryd.func89.trans (congrArg some (by kernel_rfl))
  t0 := Tryd.underlying0
  a0 := Tryd.isAgg0
  z0 := Tryd.sizeOf0
  v0 := Tryd.zeroValue0
  t2 := Tryd.underlying2
  a2 := Tryd.isAgg2
  z2 := Tryd.sizeOf2
  v2 := Tryd.zeroValue2
  t3 := Tryd.underlying3
  a3 := Tryd.isAgg3
  z3 := Tryd.sizeOf3
  v3 := Tryd.zeroValue3
  t4 := Tryd.underlying4
  a4 := Tryd.isAgg4
  z4 := Tryd.sizeOf4
  v4 := Tryd.zeroValue4
  t5 := Tryd.underlying5
  a5 := Tryd.isAgg5
  z5 := Tryd.sizeOf5
  v5 := Tryd.zeroValue5
  t9 := Tryd.underlying9
  a9 := Tryd.isAgg9
  z9 := Tryd.sizeOf9
  v9 := Tryd.zeroValue9
  t20 := Tryd.underlying20
  a20 := Tryd.isAgg20
  z20 := Tryd.sizeOf20
  v20 := Tryd.zeroValue20
  t21 := Tryd.underlying21
  a21 := Tryd.isAgg21
  z21 := Tryd.sizeOf21
  v21 := Tryd.zeroValue21
  t37 := Tryd.underlying29
  a37 := Tryd.isAgg29
  z37 := Tryd.sizeOf29
  v37 := Tryd.zeroValue29
  t46 := Tryd.underlying28
  a46 := Tryd.isAgg28
  z46 := Tryd.sizeOf28
  v46 := Tryd.zeroValue28
  t51 := Tryd.underlying128
  a51 := Tryd.isAgg128
  z51 := Tryd.sizeOf128
  v51 := Tryd.zeroValue128
  t53 := Tryd.underlying110
  a53 := Tryd.isAgg110
  z53 := Tryd.sizeOf110
  v53 := Tryd.zeroValue110
  t75 := Tryd.underlying92
  a75 := Tryd.isAgg92
  z75 := Tryd.sizeOf92
  v75 := Tryd.zeroValue92
  t76 := Tryd.underlying93
  a76 := Tryd.isAgg93
  z76 := Tryd.sizeOf93
  v76 := Tryd.zeroValue93
  t85 := Tryd.underlying117
  a85 := Tryd.isAgg117
  z85 := Tryd.sizeOf117
  v85 := Tryd.zeroValue117
  t127 := Tryd.underlying107
  a127 := Tryd.isAgg107
  z127 := Tryd.sizeOf107
  v127 := Tryd.zeroValue107
  t143 := Tryd.underlying140
  a143 := Tryd.isAgg140
  z143 := Tryd.sizeOf140
  v143 := Tryd.zeroValue140
  t145 := Tryd.underlying142
  a145 := Tryd.isAgg142
  z145 := Tryd.sizeOf142
  v145 := Tryd.zeroValue142
  t167 := Tryd.underlying116
  a167 := Tryd.isAgg116
  z167 := Tryd.sizeOf116
  v167 := Tryd.zeroValue116
  t168 := Tryd.underlying119
  a168 := Tryd.isAgg119
  z168 := Tryd.sizeOf119
  v168 := Tryd.zeroValue119
  t171 := Tryd.underlying109
  a171 := Tryd.isAgg109
  z171 := Tryd.sizeOf109
  v171 := Tryd.zeroValue109
  t173 := Tryd.underlying113
  a173 := Tryd.isAgg113
  z173 := Tryd.sizeOf113
  v173 := Tryd.zeroValue113
  t175 := Tryd.underlying132
  a175 := Tryd.isAgg132
  z175 := Tryd.sizeOf132
  v175 := Tryd.zeroValue132
  t210 := Tryd.underlying135
  a210 := Tryd.isAgg135
  z210 := Tryd.sizeOf135
  v210 := Tryd.zeroValue135
  t212 := Tryd.underlying127
  a212 := Tryd.isAgg127
  z212 := Tryd.sizeOf127
  v212 := Tryd.zeroValue127
  t213 := Tryd.underlying129
  a213 := Tryd.isAgg129
  z213 := Tryd.sizeOf129
  t232 := Tryd.underlying143
  a232 := Tryd.isAgg143
  z232 := Tryd.sizeOf143
  v232 := Tryd.zeroValue143
  t233 := Tryd.underlying144
  a233 := Tryd.isAgg144
  z233 := Tryd.sizeOf144
  v233 := Tryd.zeroValue144
  g15 := by kernel_rfl
  g16 := by kernel_rfl
  g17 := by kernel_rfl
  g18 := by kernel_rfl
  g19 := by kernel_rfl
  t80 := Tryd.underlying37
  a80 := Tryd.isAgg37
  z80 := Tryd.sizeOf37
  v80 := Tryd.zeroValue37
  i0 := by kernel_rfl
  i2 := by kernel_rfl
  i3 := by kernel_rfl
  i4 := by kernel_rfl
  i5 := by kernel_rfl
  i9 := by kernel_rfl
  i20 := by kernel_rfl
  i21 := by kernel_rfl
  i37 := by kernel_rfl
  i46 := by kernel_rfl
  i51 := by kernel_rfl
  i53 := by kernel_rfl
  i75 := by kernel_rfl
  i76 := by kernel_rfl
  i80 := by kernel_rfl
  i85 := by kernel_rfl
  i127 := by kernel_rfl
  i143 := by kernel_rfl
  i145 := by kernel_rfl
  i167 := by kernel_rfl
  i168 := by kernel_rfl
  i171 := by kernel_rfl
  i173 := by kernel_rfl
  i175 := by kernel_rfl
  i210 := by kernel_rfl
  i212 := by kernel_rfl
  i232 := by kernel_rfl
  i233 := by kernel_rfl
  m15 := by kernel_rfl
  m16 := by kernel_rfl
  m17 := by kernel_rfl
  m18 := by kernel_rfl
  m19 := by kernel_rfl
  c0 := by kernel_rfl
  c2 := by kernel_rfl
  c3 := by kernel_rfl
  c4 := by kernel_rfl
  c5 := by kernel_rfl
  c9 := by kernel_rfl
  c20 := by kernel_rfl
  c21 := by kernel_rfl
  c37 := by kernel_rfl
  c46 := by kernel_rfl
  c51 := by kernel_rfl
  c53 := by kernel_rfl
  c75 := by kernel_rfl
  c76 := by kernel_rfl
  c80 := by kernel_rfl
  c85 := by kernel_rfl
  c127 := by kernel_rfl
  c143 := by kernel_rfl
  c145 := by kernel_rfl
  c167 := by kernel_rfl
  c168 := by kernel_rfl
  c171 := by kernel_rfl
  c173 := by kernel_rfl
  c175 := by kernel_rfl
  c210 := by kernel_rfl
  c212 := by kernel_rfl
  c213 := by kernel_rfl
  c232 := by kernel_rfl
  c233 := by kernel_rfl }

end Go.Proofs
end

/-
  The conditions of the walks of some functions, one formula each; 'B<f>_run' says that they suffice. The formulas are printed by a program; the kernel compares them with the functions' code.
-/
section
namespace Go.Proofs.YtfccagphnfceiaaDoor
set_option linter.unusedVariables false
set_option linter.unusedSimpArgs false
set_option maxRecDepth 100000
open Go.Vc

abbrev F.erratalaw06_JournalLasts : Nat := 6
abbrev F.erratalaw06_small : Nat := 7
abbrev F.disk_New : Nat := 8
abbrev F.wire_Int : Nat := 9
abbrev F.disk_Disk_Write : Nat := 10
abbrev F.journal_Open : Nat := 11
abbrev F.wire_Open : Nat := 12
abbrev F.wire_Reader_Num : Nat := 13
abbrev F.wire_Reader_Done : Nat := 14
abbrev F.wire_Reader_Left : Nat := 15
abbrev F.wire_Reader_Text : Nat := 16
abbrev F.errataref01_SameTexts : Nat := 17
abbrev F.journal_Journal_All : Nat := 18
abbrev F.erratalaw06_texts : Nat := 19
abbrev F.journal_Journal_Append : Nat := 20
abbrev F.journal_Journal_Cut : Nat := 21
abbrev F.journal_Journal_Get : Nat := 22
abbrev F.erratalaw06_few : Nat := 23
abbrev F.disk_Disk_Lose : Nat := 24
abbrev F.disk_Disk_Crash : Nat := 25
abbrev F.disk_Disk_Start : Nat := 26
abbrev F.disk_Disk_Arm : Nat := 27
abbrev F.erratalaw06_disky : Nat := 28
abbrev F.journal_Journal_Len : Nat := 29
abbrev F.strconv_Itoa : Nat := 30
abbrev F.disk_Disk_ends : Nat := 31
abbrev F.disk_Disk_write : Nat := 32
abbrev F.disk_Disk_Sync : Nat := 33
abbrev F.cell_Open : Nat := 34
abbrev F.journal_numbers : Nat := 35
abbrev F.disk_Disk_Read : Nat := 36
abbrev F.journal_read : Nat := 37
abbrev F.wire_Reader_number : Nat := 38
abbrev F.wire_Reader_fail : Nat := 39
abbrev F.wire_Reader_close : Nat := 40
abbrev F.journal_form : Nat := 41
abbrev F.journal_Journal_note : Nat := 42
abbrev F.disk_put : Nat := 43
abbrev F.slices_Clone_int_int : Nat := 44
abbrev F.disk_Disk_may : Nat := 46
abbrev F.disk_Disk_settle : Nat := 47
abbrev F.cell_Cell_Get : Nat := 48
abbrev F.strings_IndexByte : Nat := 49
abbrev F.strconv_Atoi : Nat := 50
abbrev F.strings_CutPrefix : Nat := 51
abbrev F.strings_Builder_WriteString : Nat := 52
abbrev F.wire_Text : Nat := 53
abbrev F.strings_Builder_String : Nat := 54
abbrev F.cell_Cell_Set : Nat := 55
abbrev F.slices_DeleteFunc_disk_sector_disk_sector : Nat := 57
abbrev F.disk_Disk_settle_1 : Nat := 58
abbrev F.maps_DeleteFunc_map_disk_sectorbool_disk_sector_bool : Nat := 59
abbrev F.disk_Disk_settle_2 : Nat := 60
abbrev F.strings_Builder_copyCheck : Nat := 65
abbrev F.cell_header : Nat := 66
abbrev F.slices_IndexFunc_disk_sector_disk_sector : Nat := 71
end Go.Proofs.YtfccagphnfceiaaDoor
end

/-
  The conditions of the walks of some functions, one formula each; 'B<f>_run' says that they suffice. The formulas are printed by a program; the kernel compares them with the functions' code.
-/
section
namespace Go.Proofs.YtfccagphnfceiaaDoor
set_option linter.unusedVariables false
set_option linter.unusedSimpArgs false
set_option maxRecDepth 100000
open Go.Vc

/-- wire.Int -/
def Bwire_Int (n : Int) (W : World) (R : List Own) (Φ : PW) (J : Value → World → Prop) : Prop :=
  ∀ (w0 : World) (R1 : List Own), Ctx W w0 (R ++ R1) Φ → Calls Tryd.prog F.strconv_Itoa #[Value.int IntKind.i64 n] w0 fun (e2 : Ending) (w3 : World) => ∃ (s4 : ByteArray), e2 =
  Ending.returned (Value.string s4) ∧ ∃ (R5 : List Own), ∃ (Φ6 : PW), Stable Φ6 ∧ Ctx W w3 (R5 ++ R1) Φ6 ∧ (s4.size + (ByteArray.mk #[OfNat.ofNat 59]).size).le 9223372036854775807 ∧ ∀ (w7 :
  World) (R8 : List Own), Ctx W w7 (R5 ++ R8) Φ6 → J (Value.string (s4 ++ ByteArray.mk #[OfNat.ofNat 59])) w7

theorem Bwire_Int_run (n : Int) {W w : World} {R : List Own} {Φ : PW} [Stable Φ] {J : Value → World → Prop} (c : Ctx W w R Φ) (h : Bwire_Int n W R Φ J) : Calls Tryd.prog F.wire_Int #[.int .i64 n] w fun e w' => ∃ v, e = .returned v ∧ J v w' :=
  vcFS_sound (H := { keep := some [0, 2] }) (by rw [show vcFS Tryd.prog W { keep := some [0, 2] } F.wire_Int #[.int .i64 n] R Φ J = Bwire_Int n W R Φ J by kernel_rfl]; exact h) c

/-- wire.Open -/
def Bwire_Open (s : ByteArray) (W : World) (R : List Own) (Φ : PW) (J : Value → World → Prop) : Prop :=
  ∀ (k0 : Nat) (w1 : World) (R2 : List Own), Ctx W w1 (Own.blk k0 [Value.string s, Value.bool false] 73 :: R ++ R2) Φ → J (Value.pointer (some (Addr.mk k0 0 none))) w1

theorem Bwire_Open_run (s : ByteArray) {W w : World} {R : List Own} {Φ : PW} [Stable Φ] {J : Value → World → Prop} (c : Ctx W w R Φ) (h : Bwire_Open s W R Φ J) : Calls Tryd.prog F.wire_Open #[.string s] w fun e w' => ∃ v, e = .returned v ∧ J v w' :=
  vcFS_sound (H := { keep := some [0, 2] }) (by rw [show vcFS Tryd.prog W { keep := some [0, 2] } F.wire_Open #[.string s] R Φ J = Bwire_Open s W R Φ J by kernel_rfl]; exact h) c

/-- (*wire.Reader).Num -/
def Bwire_Reader_Num (rB rO : Nat) (W : World) (R : List Own) (Φ : PW) (J : Value → World → Prop) : Prop :=
  ∀ (w0 : World) (R1 : List Own), Ctx W w0 (R ++ R1) Φ → Calls Tryd.prog F.wire_Reader_number #[Value.pointer (some (Addr.mk rB rO none)), Value.int IntKind.u8 59, Value.int IntKind.i64 0] w0
  fun (e2 : Ending) (w3 : World) => ∃ (n4 : Int), e2 = Ending.returned (Value.int IntKind.i64 n4) ∧ ∃ (R5 : List Own), ∃ (Φ6 : PW), Stable Φ6 ∧ Ctx W w3 (R5 ++ R1) Φ6 ∧ ∀ (w7 : World) (R8 :
  List Own), Ctx W w7 (R5 ++ R8) Φ6 → J (Value.int IntKind.i64 n4) w7

theorem Bwire_Reader_Num_run (rB rO : Nat) {W w : World} {R : List Own} {Φ : PW} [Stable Φ] {J : Value → World → Prop} (c : Ctx W w R Φ) (h : Bwire_Reader_Num rB rO W R Φ J) : Calls Tryd.prog F.wire_Reader_Num #[.pointer (some ⟨rB, rO, none⟩)] w fun e w' => ∃ v, e = .returned v ∧ J v w' :=
  vcFS_sound (H := { keep := some [0, 2] }) (by rw [show vcFS Tryd.prog W { keep := some [0, 2] } F.wire_Reader_Num #[.pointer (some ⟨rB, rO, none⟩)] R Φ J = Bwire_Reader_Num rB rO W R Φ J by kernel_rfl]; exact h) c

/-- (*wire.Reader).Done -/
def Bwire_Reader_Done (rB rO : Nat) (W : World) (R : List Own) (Φ : PW) (J : Value → World → Prop) : Prop :=
  ∀ (w0 : World) (R1 : List Own), Ctx W w0 (R ++ R1) Φ → ∃ (c2 : Bool), w0.cell? (Addr.mk rB (rO + 1) none) = some (Value.bool c2) ∧ ∃ (s3 : ByteArray), ((!c2) = true → w0.cell? (Addr.mk rB
  rO none) = some (Value.string s3)) ∧ ∀ (w4 : World) (R5 : List Own), Ctx W w4 (R ++ R5) Φ → J (Value.bool (!c2 && decide (s3 = ByteArray.mk #[]))) w4

theorem Bwire_Reader_Done_run (rB rO : Nat) {W w : World} {R : List Own} {Φ : PW} [Stable Φ] {J : Value → World → Prop} (c : Ctx W w R Φ) (h : Bwire_Reader_Done rB rO W R Φ J) : Calls Tryd.prog F.wire_Reader_Done #[.pointer (some ⟨rB, rO, none⟩)] w fun e w' => ∃ v, e = .returned v ∧ J v w' :=
  vcFS_sound (H := { keep := some [0, 2] }) (by rw [show vcFS Tryd.prog W { keep := some [0, 2] } F.wire_Reader_Done #[.pointer (some ⟨rB, rO, none⟩)] R Φ J = Bwire_Reader_Done rB rO W R Φ J by kernel_rfl]; exact h) c

/-- (*wire.Reader).Left -/
def Bwire_Reader_Left (rB rO : Nat) (W : World) (R : List Own) (Φ : PW) (J : Value → World → Prop) : Prop :=
  ∀ (w0 : World) (R1 : List Own), Ctx W w0 (R ++ R1) Φ → ∃ (s2 : ByteArray), w0.cell? (Addr.mk rB rO none) = some (Value.string s2) ∧ ∀ (w3 : World) (R4 : List Own), Ctx W w3 (R ++ R4) Φ → J
  (Value.int IntKind.i64 (↑s2.size : Int)) w3

theorem Bwire_Reader_Left_run (rB rO : Nat) {W w : World} {R : List Own} {Φ : PW} [Stable Φ] {J : Value → World → Prop} (c : Ctx W w R Φ) (h : Bwire_Reader_Left rB rO W R Φ J) : Calls Tryd.prog F.wire_Reader_Left #[.pointer (some ⟨rB, rO, none⟩)] w fun e w' => ∃ v, e = .returned v ∧ J v w' :=
  vcFS_sound (H := { keep := some [0, 2] }) (by rw [show vcFS Tryd.prog W { keep := some [0, 2] } F.wire_Reader_Left #[.pointer (some ⟨rB, rO, none⟩)] R Φ J = Bwire_Reader_Left rB rO W R Φ J by kernel_rfl]; exact h) c

/-- (*wire.Reader).Text -/
def Bwire_Reader_Text (rB rO : Nat) (W : World) (R : List Own) (Φ : PW) (J : Value → World → Prop) : Prop :=
  ∀ (w0 : World) (R1 : List Own), Ctx W w0 (R ++ R1) Φ → Calls Tryd.prog F.wire_Reader_number #[Value.pointer (some (Addr.mk rB rO none)), Value.int IntKind.u8 58, Value.int IntKind.i64 0] w0
  fun (e2 : Ending) (w3 : World) => ∃ (n4 : Int), e2 = Ending.returned (Value.int IntKind.i64 n4) ∧ ∃ (R5 : List Own), ∃ (Φ6 : PW), Stable Φ6 ∧ Ctx W w3 (R5 ++ R1) Φ6 ∧ ∀ (w7 : World) (R8 :
  List Own), Ctx W w7 (R5 ++ R8) Φ6 → ∃ (s9 : ByteArray), w7.cell? (Addr.mk rB rO none) = some (Value.string s9) ∧ Br (decide ((↑s9.size : Int) < n4)) (∀ (w10 : World) (R11 : List Own), Ctx W
  w10 (R5 ++ R11) Φ6 → Calls Tryd.prog F.wire_Reader_fail #[Value.pointer (some (Addr.mk rB rO none))] w10 fun (e12 : Ending) (w13 : World) => e12 = Ending.returned (Value.tuple #[]) ∧ ∃ (R14
  : List Own), ∃ (Φ15 : PW), Stable Φ15 ∧ Ctx W w13 (R14 ++ R11) Φ15 ∧ ∀ (w16 : World) (R17 : List Own), Ctx W w16 (R14 ++ R17) Φ15 → J (Value.string (ByteArray.mk #[])) w16) (∀ (w18 : World)
  (R19 : List Own), Ctx W w18 (R5 ++ R19) Φ6 → ∃ (s20 : ByteArray), w18.cell? (Addr.mk rB rO none) = some (Value.string s20) ∧ (0 ≤ n4 ∧ n4 ≤ (↑s20.size : Int)) ∧ ∀ (w21 : World) (R22 : List
  Own), Ctx W w21 (R5 ++ R22) Φ6 → ∃ (s23 : ByteArray), w21.cell? (Addr.mk rB rO none) = some (Value.string s23) ∧ (0 ≤ n4 ∧ n4 ≤ (↑s23.size : Int) ∧ s23.size ≤ s23.size) ∧ ∀ (w24 : World)
  (R25 : List Own), Ctx W w24 (R5 ++ R25) Φ6 → CanWrite w24 rB rO 1 ∧ ∀ (w26 : World), w26 = w24.setCell (Addr.mk rB rO none) (Value.string (s23.extract n4.toNat s23.size)) → ∃ (R27 : List
  Own), ∃ (Φ28 : PW), Stable Φ28 ∧ Ctx W w26 (R27 ++ R25) Φ28 ∧ ∀ (w29 : World) (R30 : List Own), Ctx W w29 (R27 ++ R30) Φ28 → Calls Tryd.prog F.wire_Reader_close #[Value.pointer (some
  (Addr.mk rB rO none)), Value.string (ByteArray.mk #[OfNat.ofNat 44])] w29 fun (e31 : Ending) (w32 : World) => e31 = Ending.returned (Value.tuple #[]) ∧ ∃ (R33 : List Own), ∃ (Φ34 : PW),
  Stable Φ34 ∧ Ctx W w32 (R33 ++ R30) Φ34 ∧ ∀ (w35 : World) (R36 : List Own), Ctx W w35 (R33 ++ R36) Φ34 → ∃ (c37 : Bool), w35.cell? (Addr.mk rB (rO + 1) none) = some (Value.bool c37) ∧ Br
  c37 (∀ (w38 : World) (R39 : List Own), Ctx W w38 (R33 ++ R39) Φ34 → J (Value.string (ByteArray.mk #[])) w38) (∀ (w40 : World) (R41 : List Own), Ctx W w40 (R33 ++ R41) Φ34 → J (Value.string
  (s20.extract 0 n4.toNat)) w40))

theorem Bwire_Reader_Text_run (rB rO : Nat) {W w : World} {R : List Own} {Φ : PW} [Stable Φ] {J : Value → World → Prop} (c : Ctx W w R Φ) (h : Bwire_Reader_Text rB rO W R Φ J) : Calls Tryd.prog F.wire_Reader_Text #[.pointer (some ⟨rB, rO, none⟩)] w fun e w' => ∃ v, e = .returned v ∧ J v w' :=
  vcFS_sound (H := { keep := some [0, 2, 3, 4, 13, 36] }) (by rw [show vcFS Tryd.prog W { keep := some [0, 2, 3, 4, 13, 36] } F.wire_Reader_Text #[.pointer (some ⟨rB, rO, none⟩)] R Φ J = Bwire_Reader_Text rB rO W R Φ J by kernel_rfl]; exact h) c

/-- (*wire.Reader).number -/
def Bwire_Reader_number (rB rO : Nat) (endx : Int) (least : Int) (W : World) (R : List Own) (Φ : PW) (J : Value → World → Prop) : Prop :=
  ∀ (w0 : World) (R1 : List Own), Ctx W w0 (R ++ R1) Φ → ∃ (s2 : ByteArray), w0.cell? (Addr.mk rB rO none) = some (Value.string s2) ∧ ∃ (s3 : ByteArray), w0.cell? (Addr.mk rB rO none) = some
  (Value.string s3) ∧ (0 ≤ min (↑s3.size : Int) 21 ∧ min (↑s3.size : Int) 21 ≤ (↑s2.size : Int)) ∧ ∀ (w4 : World) (R5 : List Own), Ctx W w4 (R ++ R5) Φ → Calls Tryd.prog F.strings_IndexByte
  #[Value.string (s2.extract 0 (min (↑s3.size : Int) 21).toNat), Value.int IntKind.u8 endx] w4 fun (e6 : Ending) (w7 : World) => ∃ (n8 : Int), e6 = Ending.returned (Value.int IntKind.i64 n8)
  ∧ ∃ (R9 : List Own), ∃ (Φ10 : PW), Stable Φ10 ∧ Ctx W w7 (R9 ++ R5) Φ10 ∧ Br (decide (n8 < 0)) (∀ (w11 : World) (R12 : List Own), Ctx W w11 (R9 ++ R12) Φ10 → Calls Tryd.prog
  F.wire_Reader_fail #[Value.pointer (some (Addr.mk rB rO none))] w11 fun (e13 : Ending) (w14 : World) => e13 = Ending.returned (Value.tuple #[]) ∧ ∃ (R15 : List Own), ∃ (Φ16 : PW), Stable
  Φ16 ∧ Ctx W w14 (R15 ++ R12) Φ16 ∧ ∀ (w17 : World) (R18 : List Own), Ctx W w17 (R15 ++ R18) Φ16 → J (Value.int IntKind.i64 0) w17) ((0 ≤ n8 ∧ n8 ≤ (↑(s2.extract 0 (min (↑s3.size : Int)
  21).toNat).size : Int)) ∧ ∀ (w19 : World) (R20 : List Own), Ctx W w19 (R9 ++ R20) Φ10 → Calls Tryd.prog F.strconv_Atoi #[Value.string ((s2.extract 0 (min (↑s3.size : Int) 21).toNat).extract
  0 n8.toNat)] w19 fun (e21 : Ending) (w22 : World) => (∃ (n23 : Int), e21 = Ending.returned (Value.tuple #[Value.int IntKind.i64 n23, Value.nilIface]) ∧ ∃ (R24 : List Own), ∃ (Φ25 : PW),
  Stable Φ25 ∧ Ctx W w22 (R24 ++ R20) Φ25 ∧ ∃ (R26 : List Own), ∃ (Φ27 : PW), Stable Φ27 ∧ (∀ (w28 : World) (R29 : List Own), Ctx W w28 (R24 ++ R29) Φ25 → Ctx W w28 (R26 ++ R29) Φ27) ∧ ∃ (c30
  : Bool), (∀ (w31 : World), Sem.run Tryd.prog ((eqGuard BinOp.neq 92 (Operand.tmp 36) (Operand.const Value.nilIface) Value.nilIface Value.nilIface) >>= fun _ => binOp BinOp.neq 92
  Value.nilIface Value.nilIface) w31 = Result.ok (Value.bool c30) w31) ∧ Br c30 (∀ (w33 : World) (R34 : List Own), Ctx W w33 (R24 ++ R34) Φ25 → Calls Tryd.prog F.wire_Reader_fail
  #[Value.pointer (some (Addr.mk rB rO none))] w33 fun (e35 : Ending) (w36 : World) => e35 = Ending.returned (Value.tuple #[]) ∧ ∃ (R37 : List Own), ∃ (Φ38 : PW), Stable Φ38 ∧ Ctx W w36 (R37
  ++ R34) Φ38 ∧ ∀ (w39 : World) (R40 : List Own), Ctx W w39 (R37 ++ R40) Φ38 → J (Value.int IntKind.i64 0) w39) ((0 ≤ n8 ∧ n8 ≤ (↑(s2.extract 0 (min (↑s3.size : Int) 21).toNat).size : Int)) ∧
  ∀ (w41 : World) (R42 : List Own), Ctx W w41 (R24 ++ R42) Φ25 → Calls Tryd.prog F.strconv_Itoa #[Value.int IntKind.i64 n23] w41 fun (e43 : Ending) (w44 : World) => ∃ (s45 : ByteArray), e43 =
  Ending.returned (Value.string s45) ∧ ∃ (R46 : List Own), ∃ (Φ47 : PW), Stable Φ47 ∧ Ctx W w44 (R46 ++ R42) Φ47 ∧ (∀ (w48 : World) (R49 : List Own), Ctx W w48 (R46 ++ R49) Φ47 → Ctx W w48
  (R26 ++ R49) Φ27) ∧ Br (decide (s45 ≠ (s2.extract 0 (min (↑s3.size : Int) 21).toNat).extract 0 n8.toNat)) (∀ (w50 : World) (R51 : List Own), Ctx W w50 (R46 ++ R51) Φ47 → Calls Tryd.prog
  F.wire_Reader_fail #[Value.pointer (some (Addr.mk rB rO none))] w50 fun (e52 : Ending) (w53 : World) => e52 = Ending.returned (Value.tuple #[]) ∧ ∃ (R54 : List Own), ∃ (Φ55 : PW), Stable
  Φ55 ∧ Ctx W w53 (R54 ++ R51) Φ55 ∧ ∀ (w56 : World) (R57 : List Own), Ctx W w56 (R54 ++ R57) Φ55 → J (Value.int IntKind.i64 0) w56) (Br (decide (n23 < least)) (∀ (w58 : World) (R59 : List
  Own), Ctx W w58 (R46 ++ R59) Φ47 → Calls Tryd.prog F.wire_Reader_fail #[Value.pointer (some (Addr.mk rB rO none))] w58 fun (e60 : Ending) (w61 : World) => e60 = Ending.returned (Value.tuple
  #[]) ∧ ∃ (R62 : List Own), ∃ (Φ63 : PW), Stable Φ63 ∧ Ctx W w61 (R62 ++ R59) Φ63 ∧ ∀ (w64 : World) (R65 : List Own), Ctx W w64 (R62 ++ R65) Φ63 → J (Value.int IntKind.i64 0) w64) (∀ (w66 :
  World) (R67 : List Own), Ctx W w66 (R46 ++ R67) Φ47 → ∃ (s68 : ByteArray), w66.cell? (Addr.mk rB rO none) = some (Value.string s68) ∧ I64 (n8 + 1) ∧ (0 ≤ n8 + 1 ∧ n8 + 1 ≤ (↑s68.size : Int)
  ∧ s68.size ≤ s68.size) ∧ ∀ (w69 : World) (R70 : List Own), Ctx W w69 (R46 ++ R70) Φ47 → CanWrite w69 rB rO 1 ∧ ∀ (w71 : World), w71 = w69.setCell (Addr.mk rB rO none) (Value.string
  (s68.extract (n8 + 1).toNat s68.size)) → ∃ (R72 : List Own), ∃ (Φ73 : PW), Stable Φ73 ∧ Ctx W w71 (R72 ++ R70) Φ73 ∧ ∀ (w74 : World) (R75 : List Own), Ctx W w74 (R72 ++ R75) Φ73 → J
  (Value.int IntKind.i64 n23) w74)))) ∨ ∃ (n76 : Int), ∃ (u77 : TypeId), ∃ (v78 : Value), e21 = Ending.returned (Value.tuple #[Value.int IntKind.i64 n76, Value.iface u77 v78]) ∧ ∃ (R79 : List
  Own), ∃ (Φ80 : PW), Stable Φ80 ∧ Ctx W w22 (R79 ++ R20) Φ80 ∧ ∃ (R81 : List Own), ∃ (Φ82 : PW), Stable Φ82 ∧ (∀ (w83 : World) (R84 : List Own), Ctx W w83 (R79 ++ R84) Φ80 → Ctx W w83 (R81
  ++ R84) Φ82) ∧ ∃ (c85 : Bool), (∀ (w86 : World), Sem.run Tryd.prog ((eqGuard BinOp.neq 92 (Operand.tmp 36) (Operand.const Value.nilIface) (Value.iface u77 v78) Value.nilIface) >>= fun _ =>
  binOp BinOp.neq 92 (Value.iface u77 v78) Value.nilIface) w86 = Result.ok (Value.bool c85) w86) ∧ Br c85 (∀ (w88 : World) (R89 : List Own), Ctx W w88 (R79 ++ R89) Φ80 → Calls Tryd.prog
  F.wire_Reader_fail #[Value.pointer (some (Addr.mk rB rO none))] w88 fun (e90 : Ending) (w91 : World) => e90 = Ending.returned (Value.tuple #[]) ∧ ∃ (R92 : List Own), ∃ (Φ93 : PW), Stable
  Φ93 ∧ Ctx W w91 (R92 ++ R89) Φ93 ∧ ∀ (w94 : World) (R95 : List Own), Ctx W w94 (R92 ++ R95) Φ93 → J (Value.int IntKind.i64 0) w94) ((0 ≤ n8 ∧ n8 ≤ (↑(s2.extract 0 (min (↑s3.size : Int)
  21).toNat).size : Int)) ∧ ∀ (w96 : World) (R97 : List Own), Ctx W w96 (R79 ++ R97) Φ80 → Calls Tryd.prog F.strconv_Itoa #[Value.int IntKind.i64 n76] w96 fun (e98 : Ending) (w99 : World) =>
  ∃ (s100 : ByteArray), e98 = Ending.returned (Value.string s100) ∧ ∃ (R101 : List Own), ∃ (Φ102 : PW), Stable Φ102 ∧ Ctx W w99 (R101 ++ R97) Φ102 ∧ (∀ (w103 : World) (R104 : List Own), Ctx W
  w103 (R101 ++ R104) Φ102 → Ctx W w103 (R81 ++ R104) Φ82) ∧ Br (decide (s100 ≠ (s2.extract 0 (min (↑s3.size : Int) 21).toNat).extract 0 n8.toNat)) (∀ (w105 : World) (R106 : List Own), Ctx W
  w105 (R101 ++ R106) Φ102 → Calls Tryd.prog F.wire_Reader_fail #[Value.pointer (some (Addr.mk rB rO none))] w105 fun (e107 : Ending) (w108 : World) => e107 = Ending.returned (Value.tuple
  #[]) ∧ ∃ (R109 : List Own), ∃ (Φ110 : PW), Stable Φ110 ∧ Ctx W w108 (R109 ++ R106) Φ110 ∧ ∀ (w111 : World) (R112 : List Own), Ctx W w111 (R109 ++ R112) Φ110 → J (Value.int IntKind.i64 0)
  w111) (Br (decide (n76 < least)) (∀ (w113 : World) (R114 : List Own), Ctx W w113 (R101 ++ R114) Φ102 → Calls Tryd.prog F.wire_Reader_fail #[Value.pointer (some (Addr.mk rB rO none))] w113
  fun (e115 : Ending) (w116 : World) => e115 = Ending.returned (Value.tuple #[]) ∧ ∃ (R117 : List Own), ∃ (Φ118 : PW), Stable Φ118 ∧ Ctx W w116 (R117 ++ R114) Φ118 ∧ ∀ (w119 : World) (R120 :
  List Own), Ctx W w119 (R117 ++ R120) Φ118 → J (Value.int IntKind.i64 0) w119) (∀ (w121 : World) (R122 : List Own), Ctx W w121 (R101 ++ R122) Φ102 → ∃ (s123 : ByteArray), w121.cell? (Addr.mk
  rB rO none) = some (Value.string s123) ∧ I64 (n8 + 1) ∧ (0 ≤ n8 + 1 ∧ n8 + 1 ≤ (↑s123.size : Int) ∧ s123.size ≤ s123.size) ∧ ∀ (w124 : World) (R125 : List Own), Ctx W w124 (R101 ++ R125)
  Φ102 → CanWrite w124 rB rO 1 ∧ ∀ (w126 : World), w126 = w124.setCell (Addr.mk rB rO none) (Value.string (s123.extract (n8 + 1).toNat s123.size)) → ∃ (R127 : List Own), ∃ (Φ128 : PW), Stable
  Φ128 ∧ Ctx W w126 (R127 ++ R125) Φ128 ∧ ∀ (w129 : World) (R130 : List Own), Ctx W w129 (R127 ++ R130) Φ128 → J (Value.int IntKind.i64 n76) w129))))

theorem Bwire_Reader_number_run (rB rO : Nat) (endx : Int) (least : Int) {W w : World} {R : List Own} {Φ : PW} [Stable Φ] {J : Value → World → Prop} (c : Ctx W w R Φ) (h : Bwire_Reader_number rB rO endx least W R Φ J) : Calls Tryd.prog F.wire_Reader_number #[.pointer (some ⟨rB, rO, none⟩), .int .u8 endx, .int .i64 least] w fun e w' => ∃ v, e = .returned v ∧ J v w' :=
  vcFS_sound (H := { keep := some [0, 1, 2, 6, 7, 8, 9, 10, 26, 50], stages := [(7, [.held [(0, true), (1, true), (2, true), (3, true), (5, true), (6, true), (7, true), (4, false)], .stage [8, 9, 10, 11, 12, 13, 14] none])] }) (by rw [show vcFS Tryd.prog W { keep := some [0, 1, 2, 6, 7, 8, 9, 10, 26, 50], stages := [(7, [.held [(0, true), (1, true), (2, true), (3, true), (5, true), (6, true), (7, true), (4, false)], .stage [8, 9, 10, 11, 12, 13, 14] none])] } F.wire_Reader_number #[.pointer (some ⟨rB, rO, none⟩), .int .u8 endx, .int .i64 least] R Φ J = Bwire_Reader_number rB rO endx least W R Φ J by kernel_rfl]; exact h) c

/-- (*wire.Reader).fail -/
def Bwire_Reader_fail (rB rO : Nat) (W : World) (R : List Own) (Φ : PW) (J : Value → World → Prop) : Prop :=
  ∀ (w0 : World) (R1 : List Own), Ctx W w0 (R ++ R1) Φ → CanWrite w0 rB rO 1 ∧ ∀ (w2 : World), w2 = w0.setCell (Addr.mk rB rO none) (Value.string (ByteArray.mk #[])) → ∃ (R3 : List Own), ∃
  (Φ4 : PW), Stable Φ4 ∧ Ctx W w2 (R3 ++ R1) Φ4 ∧ ∀ (w5 : World) (R6 : List Own), Ctx W w5 (R3 ++ R6) Φ4 → CanWrite w5 rB (rO + 1) 1 ∧ ∀ (w7 : World), w7 = w5.setCell (Addr.mk rB (rO + 1)
  none) (Value.bool true) → ∃ (R8 : List Own), ∃ (Φ9 : PW), Stable Φ9 ∧ Ctx W w7 (R8 ++ R6) Φ9 ∧ ∀ (w10 : World) (R11 : List Own), Ctx W w10 (R8 ++ R11) Φ9 → J (Value.tuple #[]) w10

theorem Bwire_Reader_fail_run (rB rO : Nat) {W w : World} {R : List Own} {Φ : PW} [Stable Φ] {J : Value → World → Prop} (c : Ctx W w R Φ) (h : Bwire_Reader_fail rB rO W R Φ J) : Calls Tryd.prog F.wire_Reader_fail #[.pointer (some ⟨rB, rO, none⟩)] w fun e w' => ∃ v, e = .returned v ∧ J v w' :=
  vcFS_sound (H := { keep := some [] }) (by rw [show vcFS Tryd.prog W { keep := some [] } F.wire_Reader_fail #[.pointer (some ⟨rB, rO, none⟩)] R Φ J = Bwire_Reader_fail rB rO W R Φ J by kernel_rfl]; exact h) c

/-- (*wire.Reader).close -/
def Bwire_Reader_close (rB rO : Nat) (endx : ByteArray) (W : World) (R : List Own) (Φ : PW) (J : Value → World → Prop) : Prop :=
  ∀ (w0 : World) (R1 : List Own), Ctx W w0 (R ++ R1) Φ → ∃ (s2 : ByteArray), w0.cell? (Addr.mk rB rO none) = some (Value.string s2) ∧ ∀ (w3 : World) (R4 : List Own), Ctx W w3 (R ++ R4) Φ →
  Calls Tryd.prog F.strings_CutPrefix #[Value.string s2, Value.string endx] w3 fun (e5 : Ending) (w6 : World) => ∃ (s7 : ByteArray), ∃ (c8 : Bool), e5 = Ending.returned (Value.tuple
  #[Value.string s7, Value.bool c8]) ∧ ∃ (R9 : List Own), ∃ (Φ10 : PW), Stable Φ10 ∧ Ctx W w6 (R9 ++ R4) Φ10 ∧ ∀ (w11 : World) (R12 : List Own), Ctx W w11 (R9 ++ R12) Φ10 → CanWrite w11 rB rO
  1 ∧ ∀ (w13 : World), w13 = w11.setCell (Addr.mk rB rO none) (Value.string s7) → ∃ (R14 : List Own), ∃ (Φ15 : PW), Stable Φ15 ∧ Ctx W w13 (R14 ++ R12) Φ15 ∧ Br (!c8) (∀ (w16 : World) (R17 :
  List Own), Ctx W w16 (R14 ++ R17) Φ15 → Calls Tryd.prog F.wire_Reader_fail #[Value.pointer (some (Addr.mk rB rO none))] w16 fun (e18 : Ending) (w19 : World) => e18 = Ending.returned
  (Value.tuple #[]) ∧ ∃ (R20 : List Own), ∃ (Φ21 : PW), Stable Φ21 ∧ Ctx W w19 (R20 ++ R17) Φ21 ∧ ∀ (w22 : World) (R23 : List Own), Ctx W w22 (R20 ++ R23) Φ21 → J (Value.tuple #[]) w22) (∀
  (w24 : World) (R25 : List Own), Ctx W w24 (R14 ++ R25) Φ15 → J (Value.tuple #[]) w24)

theorem Bwire_Reader_close_run (rB rO : Nat) (endx : ByteArray) {W w : World} {R : List Own} {Φ : PW} [Stable Φ] {J : Value → World → Prop} (c : Ctx W w R Φ) (h : Bwire_Reader_close rB rO endx W R Φ J) : Calls Tryd.prog F.wire_Reader_close #[.pointer (some ⟨rB, rO, none⟩), .string endx] w fun e w' => ∃ v, e = .returned v ∧ J v w' :=
  vcFS_sound (H := { keep := some [0, 4, 5, 20] }) (by rw [show vcFS Tryd.prog W { keep := some [0, 4, 5, 20] } F.wire_Reader_close #[.pointer (some ⟨rB, rO, none⟩), .string endx] R Φ J = Bwire_Reader_close rB rO endx W R Φ J by kernel_rfl]; exact h) c

/-- (*strings.Builder).WriteString -/
def Bstrings_Builder_WriteString (bB bO : Nat) (s : ByteArray) (W : World) (R : List Own) (Φ : PW) (J : Value → World → Prop) : Prop :=
  ∀ (w0 : World) (R1 : List Own), Ctx W w0 (R ++ R1) Φ → Calls Tryd.prog F.strings_Builder_copyCheck #[Value.pointer (some (Addr.mk bB bO none))] w0 fun (e2 : Ending) (w3 : World) => e2 =
  Ending.returned (Value.tuple #[]) ∧ ∃ (R4 : List Own), ∃ (Φ5 : PW), Stable Φ5 ∧ Ctx W w3 (R4 ++ R1) Φ5 ∧ ∀ (w6 : World) (R7 : List Own), Ctx W w6 (R4 ++ R7) Φ5 → ∃ (p8 : Option Addr), ∃ (k9
  : Nat), ∃ (k10 : Nat), w6.cell? (Addr.mk bB (bO + 1) none) = some (Value.slice p8 k9 k10) ∧ ∀ (w11 : World) (R12 : List Own), Ctx W w11 (R4 ++ R12) Φ5 → ∃ (p13 : Option Addr), ∃ (k14 :
  Nat), ∃ (k15 : Nat), ∃ (w16 : World), Sem.run Tryd.prog (builtin Builtin.append #[29, 9] 29 #[false, false] #[Value.slice p8 k9 k10, Value.string s]) w11 = Result.ok (Next.value
  (Value.slice p13 k14 k15)) w16 ∧ ∃ (R17 : List Own), ∃ (Φ18 : PW), Stable Φ18 ∧ Ctx W w16 (R17 ++ R12) Φ18 ∧ ∀ (w19 : World) (R20 : List Own), Ctx W w19 (R17 ++ R20) Φ18 → CanWrite w19 bB
  (bO + 1) 1 ∧ ∀ (w21 : World), w21 = w19.setCell (Addr.mk bB (bO + 1) none) (Value.slice p13 k14 k15) → ∃ (R22 : List Own), ∃ (Φ23 : PW), Stable Φ23 ∧ Ctx W w21 (R22 ++ R20) Φ23 ∧ ∀ (w24 :
  World) (R25 : List Own), Ctx W w24 (R22 ++ R25) Φ23 → J (Value.tuple #[Value.int IntKind.i64 (↑s.size : Int), Value.nilIface]) w24

theorem Bstrings_Builder_WriteString_run (bB bO : Nat) (s : ByteArray) {W w : World} {R : List Own} {Φ : PW} [Stable Φ] {J : Value → World → Prop} (c : Ctx W w R Φ) (h : Bstrings_Builder_WriteString bB bO s W R Φ J) : Calls Tryd.prog F.strings_Builder_WriteString #[.pointer (some ⟨bB, bO, none⟩), .string s] w fun e w' => ∃ v, e = .returned v ∧ J v w' :=
  vcFS_sound (H := { keep := some [0, 1, 4, 5] }) (by rw [show vcFS Tryd.prog W { keep := some [0, 1, 4, 5] } F.strings_Builder_WriteString #[.pointer (some ⟨bB, bO, none⟩), .string s] R Φ J = Bstrings_Builder_WriteString bB bO s W R Φ J by kernel_rfl]; exact h) c

/-- wire.Text -/
def Bwire_Text (s : ByteArray) (W : World) (R : List Own) (Φ : PW) (J : Value → World → Prop) : Prop :=
  ∀ (w0 : World) (R1 : List Own), Ctx W w0 (R ++ R1) Φ → Calls Tryd.prog F.strconv_Itoa #[Value.int IntKind.i64 (↑s.size : Int)] w0 fun (e2 : Ending) (w3 : World) => ∃ (s4 : ByteArray), e2 =
  Ending.returned (Value.string s4) ∧ ∃ (R5 : List Own), ∃ (Φ6 : PW), Stable Φ6 ∧ Ctx W w3 (R5 ++ R1) Φ6 ∧ (s4.size + (ByteArray.mk #[OfNat.ofNat 58]).size).le 9223372036854775807 ∧ ((s4 ++
  ByteArray.mk #[OfNat.ofNat 58]).size + s.size).le 9223372036854775807 ∧ ((s4 ++ ByteArray.mk #[OfNat.ofNat 58] ++ s).size + (ByteArray.mk #[OfNat.ofNat 44]).size).le 9223372036854775807 ∧ ∀
  (w7 : World) (R8 : List Own), Ctx W w7 (R5 ++ R8) Φ6 → J (Value.string (s4 ++ ByteArray.mk #[OfNat.ofNat 58] ++ s ++ ByteArray.mk #[OfNat.ofNat 44])) w7

theorem Bwire_Text_run (s : ByteArray) {W w : World} {R : List Own} {Φ : PW} [Stable Φ] {J : Value → World → Prop} (c : Ctx W w R Φ) (h : Bwire_Text s W R Φ J) : Calls Tryd.prog F.wire_Text #[.string s] w fun e w' => ∃ v, e = .returned v ∧ J v w' :=
  vcFS_sound (H := { keep := some [0, 2] }) (by rw [show vcFS Tryd.prog W { keep := some [0, 2] } F.wire_Text #[.string s] R Φ J = Bwire_Text s W R Φ J by kernel_rfl]; exact h) c

end Go.Proofs.YtfccagphnfceiaaDoor
end

/-
  The walks of strings.Builder, of the decimal form of ints, and of the encodings of ints and texts.
-/
section
set_option linter.unusedVariables false
set_option linter.unusedSimpArgs false
namespace Go.Proofs.YtfccagphnfceiaaDoor
open Go.Vc


abbrev BdT (b : Nat) (l : List UInt8) (R : List Own) : Prop := Bd 98 5 b l R

theorem bd_info : ∃ j, Tryd.prog.info? 98 = some j ∧ j.size = 2 := by
  have h : (Tryd.prog.info? 98).map (·.size) = some 2 := by kernel_rfl
  exact Option.map_eq_some_iff.1 h

set_option maxHeartbeats 1000000 in
set_option maxRecDepth 100000 in
theorem copyCheck_used (b : Nat) (w : World) (h0 : w.cell? ⟨b, 0, none⟩ = some (.pointer (some ⟨b, 0, none⟩))) :
    Calls Tryd.prog 65 #[.pointer (some ⟨b, 0, none⟩)] w fun e w' => e = .returned (.tuple #[]) ∧ w' = w := by
  obtain ⟨j, hj, _⟩ := bd_info
  go_enter Tryd.func65, Tryd.ntmps65
  go_wp2
  rw [Lib.run_neq_ptr_same w _ Tryd.underlying96 hj]
  go_wp2
  go_end0
  exact ⟨rfl, rfl⟩

set_option maxHeartbeats 1000000 in
set_option maxRecDepth 100000 in
theorem copyCheck_fresh (b : Nat) (w : World) (h0 : w.cell? ⟨b, 0, none⟩ = some (.pointer none)) (hsh : w.shape? b = some (98, 2)) (hfz : w.frozen? ⟨b, 0, none⟩ = false) :
    Calls Tryd.prog 65 #[.pointer (some ⟨b, 0, none⟩)] w fun e w' => e = .returned (.tuple #[]) ∧ w' = w.setCell ⟨b, 0, none⟩ (.pointer (some ⟨b, 0, none⟩)) := by
  obtain ⟨j, hj, hjs⟩ := bd_info
  go_enter Tryd.func65, Tryd.ntmps65
  go_wp2
  rw [Lib.run_to_unsafe w ⟨b, 0, none⟩ Tryd.underlying96 Tryd.underlying123 hj (by rw [hjs]; decide) hsh (Nat.zero_lt_succ 1)]
  simp only [Result.andThen]
  rw [Oper.upon_value]
  go_wp2
  rw [run_callFunc_extern Tryd.func79 (by kernel_rfl) (by kernel_rfl) (by kernel_rfl) (e := Extern.AbiNoEscape.same) (by kernel_rfl)]
  rw [Lib.run_noEscape]
  simp only [Result.andThen]
  rw [Oper.upon_value]
  go_wp2
  rw [Lib.run_from_unsafe w ⟨b, 0, none⟩ Tryd.underlying123 Tryd.underlying96 hj hsh (by kernel_rfl)]
  simp only [Result.andThen]
  rw [Oper.upon_value]
  go_wp2
  go_end0
  exact ⟨rfl, rfl⟩

theorem copyCheck_use {W w : World} {S : List Own} {Φ : PW} [Stable Φ] {b : Nat} {pa v : Value} (hp : pa = .pointer none ∨ pa = .pointer (some ⟨b, 0, none⟩)) (c : Ctx W w (.blk b [pa, v] 98 :: S) Φ) {K : Ending → World → Prop}
    (hk : ∀ w', Ctx W w' (.blk b [.pointer (some ⟨b, 0, none⟩), v] 98 :: S) Φ → K (.returned (.tuple #[])) w') : Calls Tryd.prog F.strings_Builder_copyCheck #[.pointer (some ⟨b, 0, none⟩)] w K := by
  have hb : w.heap[b]? = some (.cells #[pa, v] 98 (0, 0)) := c.blk 0 rfl
  rcases hp with rfl | rfl
  · exact (copyCheck_fresh b w (c.get 0 rfl rfl) (by simp [World.shape?, hb]) (by simp [World.frozen?, hb])).mono fun e w' ⟨he, hw⟩ => by
      subst he
      exact hk w' (c.put 0 hw rfl)
  · exact (copyCheck_used b w (c.get 0 rfl rfl)).mono fun e w' ⟨he, hw⟩ => by
      subst he; subst hw
      exact hk w' c

theorem byte_info : ∃ i, Tryd.prog.info? 5 = some i ∧ i.zero = some (.int .u8 0) ∧ i.size = 1 ∧ i.bytes = 1 := by
  have h : (Tryd.prog.info? 5).map (fun i => (i.zero, i.size, i.bytes)) = some (some (.int .u8 0), 1, 1) := by kernel_rfl
  obtain ⟨i, hi, he⟩ := Option.map_eq_some_iff.1 h
  simp only [Prod.mk.injEq] at he
  exact ⟨i, hi, he⟩

theorem strCells_bytes (s : ByteArray) : Lib.strCells s = Lib.byteCells s.data.toList := rfl

theorem WriteString_use {W w : World} {S R : List Own} {Φ : PW} [Stable Φ] {b : Nat} {l : List UInt8} (s : ByteArray) (h : BdT b l R) (c : Ctx W w (R ++ S) Φ) (hlen : l.length + s.size ≤ 100000000000) {K : Ending → World → Prop}
    (hk : ∀ R' w', BdT b (l ++ s.data.toList) R' → Ctx W w' (R' ++ S) Φ → K (.returned (.tuple #[.int .i64 s.size, .nilIface])) w') : Calls Tryd.prog F.strings_Builder_WriteString #[.pointer (some ⟨b, 0, none⟩), .string s] w K := by
  obtain ⟨pa, p, cap, hpa, rfl⟩ := h
  obtain ⟨i, hi, hz, hsz, hby⟩ := byte_info
  refine (Bstrings_Builder_WriteString_run b 0 s (J := fun u w' => K (.returned u) w') c ?_).mono fun e w' ⟨v, he, hj⟩ => by rw [he]; exact hj
  refine fun w G c => copyCheck_use hpa c fun w c => ⟨rfl, [.blk b [.pointer (some ⟨b, 0, none⟩), .slice p l.length cap] 98, .buf p l.length cap (Lib.byteCells l) 5 1] ++ S, Φ, inferInstance, c, fun w G c => ⟨p, l.length, cap, c.get 0 rfl rfl, fun w G c => ?_⟩⟩
  obtain ⟨p', cap', w', hrun, c'⟩ := Ctx.appStr (P := Tryd.prog) (t := 29) (u := 9) (ty := 29) (kb := #[false, false]) (c.swap) Tryd.underlying29 Tryd.underlying9 hi hz hsz hby s (by omega) (by unfold maxLen; omega)
  refine ⟨p', _, cap', w', hrun, [.blk b [.pointer (some ⟨b, 0, none⟩), .slice p l.length cap] 98, .buf p' (l.length + s.size) cap' (Lib.byteCells l ++ Lib.strCells s) 5 1] ++ S, Φ, inferInstance, c'.swap, fun w G c => ⟨c.can 0 rfl (by simp), fun w' hw' => ?_⟩⟩
  refine ⟨[.blk b [.pointer (some ⟨b, 0, none⟩), .slice p' (l.length + s.size) cap'] 98, .buf p' (l.length + s.size) cap' (Lib.byteCells l ++ Lib.strCells s) 5 1] ++ S, Φ, inferInstance, c.put 0 hw' rfl, fun w G c => hk [.blk b [.pointer (some ⟨b, 0, none⟩), .slice p' (l.length + s.size) cap'] 98, .buf p' (l.length + s.size) cap' (Lib.byteCells l ++ Lib.strCells s) 5 1] w ⟨_, p', cap', .inr rfl, ?_⟩ c.left⟩
  have hl : (l ++ s.data.toList).length = l.length + s.size := by rw [List.length_append, Array.length_toList]; rfl
  rw [hl, strCells_bytes, Lib.byteCells_append]

theorem String_use {W w : World} {S R : List Own} {Φ : PW} [Stable Φ] {b : Nat} {l : List UInt8} (h : BdT b l R) (c : Ctx W w (R ++ S) Φ) {K : Ending → World → Prop}
    (hk : ∀ w', Ctx W w' S Φ → K (.returned (.string ⟨l.toArray⟩)) w') : Calls Tryd.prog F.strings_Builder_String #[.pointer (some ⟨b, 0, none⟩)] w K :=
  Bd.string Tryd.lays169 Tryd.Builder_Extra_169 h c hk

end Go.Proofs.YtfccagphnfceiaaDoor
end

/-
  Lists in order: what the steps of a stable sort do (in plain Lean).
-/
section
set_option linter.unusedVariables false
set_option linter.unusedSimpArgs false
namespace Go.Vc

section
variable {ε : Type} {le : ε → ε → Prop}

/-- a total preorder -/
structure Ord (le : ε → ε → Prop) : Prop where
  total : ∀ x y, le x y ∨ le y x
  trans : ∀ x y z, le x y → le y z → le x z

theorem Ord.refl (h : Ord le) (x : ε) : le x x := (h.total x x).elim id id

abbrev Asc (le : ε → ε → Prop) (l : List ε) : Prop := l.Pairwise le

/-- chunks of one length, each in order, and a rest -/
structure Chunks (le : ε → ε → Prop) (bs : Nat) (cs : List (List ε)) (rest : List ε) : Prop where
  len : ∀ c ∈ cs, c.length = bs
  asc : ∀ c ∈ cs, Asc le c
  last : Asc le rest
  short : rest.length < bs

end

end Go.Vc
end

/-
  Values, rows and deltas in order (in plain Lean).
-/
section
set_option linter.unusedVariables false
set_option linter.unusedSimpArgs false
namespace Go.Proofs.YtfccagphnfceiaaDoor
open Go.Vc

structure ValD where
  kind : Int
  num : Int
  text : ByteArray
instance : Gv ValD := Gv.via (β := Int × Int × ByteArray) (fun x => (x.kind, x.num, x.text)) (fun y => ⟨y.1, y.2.1, y.2.2⟩) (fun _ => rfl)

structure DeltaD where
  time : Int
  row : List ValD
  n : Int
instance : Gv DeltaD := Gv.via (β := Int × List ValD × Int) (fun x => (x.time, x.row, x.n)) (fun y => ⟨y.1, y.2.1, y.2.2⟩) (fun _ => rfl)

abbrev ValD.v (x : ValD) : Value := .agg #[.int .i64 x.kind, .int .i64 x.num, .string x.text]

theorem val_ext {x y : ValD} : x = y ↔ (x.kind = y.kind ∧ (x.num = y.num ∧ x.text = y.text)) := by
  cases x; cases y; simp
instance : DecidableEq ValD := fun _ _ => decidable_of_iff _ val_ext.symm

/-! ### comparisons of three answers -/
structure Cmp {α : Type} (c : α → α → Int) : Prop where
  eq : ∀ x y, c x y = 0 ↔ x = y
  anti : ∀ x y, 0 < c x y ↔ c y x < 0
  trans : ∀ x y z, c x y < 0 → c y z < 0 → c x z < 0
  bd : ∀ x y, -1 ≤ c x y ∧ c x y ≤ 1

theorem Cmp.refl {α : Type} {c : α → α → Int} (h : Cmp c) (x : α) : c x x = 0 := (h.eq x x).2 rfl
def cmpI (x y : Int) : Int := if x < y then -1 else if y < x then 1 else 0

def cmpT (a b : ByteArray) : Int := Lib.compareBytes a.data.toList b.data.toList
def orI : List Int → Int
  | [] => 0
  | x :: r => if x ≠ 0 then x else orI r

theorem orI_two (a b : Int) : orI [a, b] = if a ≠ 0 then a else b := by
  unfold orI orI orI
  split
  · rfl
  · split
    · rfl
    · omega

/-- first the one, then the other -/
def lex {α β : Type} (c : α → α → Int) (d : β → β → Int) (x y : α × β) : Int := if c x.1 y.1 ≠ 0 then c x.1 y.1 else d x.2 y.2

theorem Cmp.on {α β : Type} {c : β → β → Int} (h : Cmp c) (f : α → β) (hf : ∀ x y, f x = f y → x = y) : Cmp (fun x y => c (f x) (f y)) :=
  ⟨fun x y => ⟨fun e => hf _ _ ((h.eq _ _).1 e), fun e => by rw [e]; exact h.refl _⟩, fun x y => h.anti _ _, fun x y z => h.trans _ _ _, fun x y => h.bd _ _⟩

abbrev cmpL (x y : ValD) : List Int := [cmpI x.kind y.kind, cmpI x.num y.num, cmpT x.text y.text]
def cmpV (x y : ValD) : Int := orI (cmpL x y)

def cmpR : List ValD → List ValD → Int
  | [], [] => 0
  | [], _ :: _ => -1
  | _ :: _, [] => 1
  | a :: ar, b :: br => if cmpV a b ≠ 0 then cmpV a b else cmpR ar br

/-! ### deltas -/
abbrev Key : Type := Int × List ValD
abbrev DeltaD.key (x : DeltaD) : Key := (x.time, x.row)
def cmpK (x y : Key) : Int := lex cmpI cmpR x y
abbrev cmpDL (x y : DeltaD) : List Int := [cmpI x.time y.time, cmpR x.row y.row]
def cmpD (x y : DeltaD) : Int := orI (cmpDL x y)
theorem cmpD_key (x y : DeltaD) : cmpD x y = cmpK x.key y.key := by
  unfold cmpD cmpDL cmpK lex
  rw [orI_two]
end Go.Proofs.YtfccagphnfceiaaDoor
end

