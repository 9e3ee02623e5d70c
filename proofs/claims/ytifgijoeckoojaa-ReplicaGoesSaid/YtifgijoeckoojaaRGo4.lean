/-
  THE CONDITIONS OF A WALK OVER WHAT IT OWNS: a function's body.
-/
import Derived.Test.YtifgijoeckoojaaRGo3

section
set_option linter.unusedVariables false
set_option linter.unusedSimpArgs false
namespace Go.Vc
variable {G : List Own}
variable {ds : List Deferred}
open Go.RowKit

structure HS where
  /-- slots whose sums may wrap; calls of function values; 0: stores of values of any kind -/
  wrap : List Nat := []
  /-- slots whose new blocks are known cell by cell -/
  track : List Nat := []
  /-- regions with guards that are walked in the text's order -/
  split : List Nat := []
  /-- regions whose calls may draw -/
  draws : List Nat := []
  /-- slots that are read outside the region that writes them -/
  keep : Option (List Nat) := none
  /-- regions whose order is drawn, and that write or call: their stages -/
  stages : List (Nat × List Sg) := []
  /-- of each loop the slots and the blocks that its rounds write -/
  loops : List (Nat × Vars × Vars) := []
  cuts : List (Nat × Vars × Vars) := []

def stageAt (k : Nat) : List (Nat × List Sg) → Option (List Sg)
  | [] => none
  | (t, l) :: r => match Nat.beq t k with | true => some l | false => stageAt k r

def hintS (k : Nat) : List (Nat × Vars × Vars) → Option (Vars × Vars)
  | [] => none
  | (t, l) :: r => match Nat.beq t k with | true => some l | false => hintS k r

def meetS (asg : List Nat) (l : Vars) (vs : List Value) (s : FrS) : FrS := ⟨s.n, cons l vs (drop s.l)⟩
where
  cons : Vars → List Value → List (Nat × SV) → List (Nat × SV)
    | (t, _) :: r, v :: vs, s => (t, .v v) :: cons r vs s
    | _, _, s => s
  drop : List (Nat × SV) → List (Nat × SV)
    | [] => []
    | (t, x) :: r => match memB t asg with | true => drop r | false => (t, x) :: drop r

def keepS (k : Option (List Nat)) (s : FrS) : FrS := match k with | none => s | some k => ⟨s.n, go k s.l⟩
where go (k : List Nat) : List (Nat × SV) → List (Nat × SV)
  | [] => []
  | (t, x) :: r => match memB t k with | true => (t, x) :: go k r | false => go k r

def tsOk (ts : Vars) (L : List Tr) : Bool := match ts with
  | [] => true
  | (k, sh) :: r => match findT k L, sh with | some _, .agg _ => tsOk r L | _, _ => false

abbrev CurI (l : Vars) : Type := Cur (List Own → PW → Nat → Prop) l
abbrev CurJ (l : Vars) : Type := Cur (List Own → PW → Prop) l

def holdsI (x : Option (List Own → PW → Nat → Prop)) (R : List Own) (Φ : PW) (n : Nat) : Prop := match x with | some I => I R Φ n | none => False
def holdsJ (x : Option (List Own → PW → Prop)) (R : List Own) (Φ : PW) : Prop := match x with | some I => I R Φ | none => False

def sameN : List Nat → List Nat → Bool
  | [], [] => true
  | a :: l, b :: m => Nat.beq a b && sameN l m
  | _, _ => false

theorem sameN_eq : ∀ {l m : List Nat}, sameN l m = true → l = m
  | [], [], _ => rfl
  | a :: l, b :: m, h => by
    simp only [sameN, Bool.and_eq_true] at h
    rw [Nat.eq_of_beq_eq_true h.1, sameN_eq h.2]
  | [], _ :: _, h => by cases h
  | _ :: _, [], h => by cases h

/-- the arguments of a round in their slots -/
def putsS : Vars → List Value → FrS → FrS
  | (t, _) :: r, v :: vs, s => putsS r vs (s.put (some t) (.v v))
  | _, _, s => s

abbrev CurA (l : Vars) : Type := Cur (Nat → Prop) l
def holdsA (x : Option (Nat → Prop)) (k : Nat) : Prop := match x with | some I => I k | none => False
/-- the arguments of the rounds have the shapes, and what is told of them -/
def FitsR (l : Vars) (A : CurA l) (xs : Nat → List Value) (N : Nat) : Prop := ∀ k, k < N → holdsA (Cur.app l A (xs k)) k
section
variable (P : Program) (W : World)

def stgBody (H : HS) (ops : Array Oper) (st : List Sg) (s : FrS) (L : List Tr) (R : List Own) (Φ : PW) (K : FrS → List Tr → List Own → PW → Prop) : Prop :=
  stgS P W (fun t => memB t H.wrap) (fun t => memB t H.track) ops st s L R Φ fun s => K (keepS H.keep s)

def quietBody (H : HS) (d : Bool) (ops : Array Oper) (s : FrS) (L : List Tr) (R : List Own) (Φ : PW) (K : FrS → List Tr → List Own → PW → Prop) : Prop :=
  ∀ w F, Ctx W w (R ++ F) Φ → qsS P (fun t => memB t H.wrap) d ops L w ops.toList [] s fun s => K (keepS H.keep s) L R Φ

def regionS (H : HS) (id : Nat) (ops : Array Oper) (draw : Bool) (s : FrS) (L : List Tr) (R : List Own) (Φ : PW) (K : FrS → List Tr → List Own → PW → Prop) : Prop :=
  match draw with
  | true => match stageAt id H.stages with
    | some st => match P.follows .mixedOrders && Region.noSelect ops && sgOk ops st (Array.replicate ops.size false) && Nat.beq (sgLen st) ops.size with
      | true => stgBody P W H ops st s L R Φ K
      | false => False
    | none => match okDraw P ops with
      | true => quietBody P W H true ops s L R Φ K
      | false => False
  | false => match guarded ops.toList && !(memB id H.split) with
    | true => quietBody P W H (memB id H.draws) ops s L R Φ K
    | false => opsS P W (fun t => memB t H.wrap) (fun t => memB t H.track) ops ops.toList s L R Φ fun s => K (keepS H.keep s)

def vcS (H : HS) : Code → (Exit → FrS → List Tr → List Own → PW → Prop) → FrS → List Tr → List Own → PW → Prop
  | .skip, Q, s, L, R, Φ => Q .normal s L R Φ
  | .region id ops draw, Q, s, L, R, Φ => regionS P W H id ops draw s L R Φ (Q .normal)
  | .seq x y, Q, s, L, R, Φ =>
    match hintS (firstReg y) H.cuts with
    | none => vcS H x (fun e s' L' R' Φ' => match e with | .normal => vcS H y Q s' L' R' Φ' | e => Q e s' L' R' Φ') s L R Φ
    | some (l, ts) =>
      match varsOk (asg x) l (s.fr L) && tsOk ts L with
      | true =>
        ∃ J : CurJ (l ++ ts), vcS H x (fun e s' L' R' Φ' => match e with
            | .normal => match knownSub (asg x) (s.fr L) (s'.fr L') && sameT ts L' L with
              | true => ∃ R1 Φ1, Stable Φ1 ∧ (∀ w F, Ctx W w (R' ++ F) Φ' → Ctx W w (R1 ++ F) Φ1) ∧ holdsJ (Cur.app (l ++ ts) J (slotsOf l (s'.fr L') ++ cellsOf ts L')) R1 Φ1
              | false => False
            | e => Q e s' L' R' Φ') s L R Φ ∧
          l.all fun vs => ts.all fun us => ∀ R' Φ', Stable Φ' → holdsJ (Cur.app (l ++ ts) J (vs ++ us)) R' Φ' → vcS H y Q (meetS (asg x) l vs s) (meetT ts us L) R' Φ'
      | false => False
  | .cond c x y, Q, s, L, R, Φ => match s.val L c with
    | .bool b => Br b (vcS H x Q s L R Φ) (vcS H y Q s L R Φ)
    | _ => False
  | .block id b, Q, s, L, R, Φ => vcS H b (fun e s' L' R' Φ' => match e with | .exit n => (match Nat.beq n id with | true => Q .normal s' L' R' Φ' | false => Q (.exit n) s' L' R' Φ') | e => Q e s' L' R' Φ') s L R Φ
  | .loop b, Q, s, L, R, Φ =>
    match hintS (firstReg b) H.loops with
    | none => False
    | some (l, ts) =>
      match varsOk (asg b) l (s.fr L) && tsOk ts L with
      | true =>
        ∃ I : CurI (l ++ ts), (∃ R1 Φ1 n1, Stable Φ1 ∧ (∀ w F, Ctx W w (R ++ F) Φ → Ctx W w (R1 ++ F) Φ1) ∧ holdsI (Cur.app (l ++ ts) I (slotsOf l (s.fr L) ++ cellsOf ts L)) R1 Φ1 n1) ∧
          l.all fun vs => ts.all fun us => ∀ R' Φ' n, Stable Φ' → holdsI (Cur.app (l ++ ts) I (vs ++ us)) R' Φ' n →
            vcS H b (fun e s' L' R'' Φ'' => match e with
              | .normal => match knownSub (asg b) (s.fr L) (s'.fr L') && sameT ts L' L with
                | true => ∃ R1 Φ1 n1, Stable Φ1 ∧ (∀ w F, Ctx W w (R'' ++ F) Φ'' → Ctx W w (R1 ++ F) Φ1) ∧ holdsI (Cur.app (l ++ ts) I (slotsOf l (s'.fr L') ++ cellsOf ts L')) R1 Φ1 n1 ∧ n1 < n
                | false => False
              | e => Q e s' L' R'' Φ'') (meetS (asg b) l vs s) (meetT ts us L) R' Φ'
      | false => False
  | .exit id, Q, s, L, R, Φ => Q (.exit id) s L R Φ
  | .label _, Q, s, L, R, Φ => Q .normal s L R Φ
  | .scope b, Q, s, L, R, Φ => vcS H b (fun e s' L' R' Φ' => match e with | .goto _ => False | e => Q e s' L' R' Φ') s L R Φ
  | .ret, Q, s, L, R, Φ => Q .ret s L R Φ
  | .rangeFunc g ps x y, Q, s, L, R, Φ =>
    match s.val L g with
    | .func (.func gf) cs lb =>
      match hintS (firstReg y) H.loops with
      | none => False
      | some (l, ts) =>
        match sameN (l.map (·.1)) ps.toList && okRound x && okRound y && tsOk ts L with
        | true => cs = #[] ∧ okFun P gf = true ∧ ∃ (N : Nat) (xs : Nat → List Value) (X : World → Prop) (A : CurA l) (I : CurI ts), Iter P gf lb N (fun k => (xs k).toArray) X ∧ FitsR l A xs N ∧
            (∃ R1 Φ1, Stable Φ1 ∧ (∀ w F, Ctx W w (R ++ F) Φ → Ctx W w (R1 ++ F) Φ1) ∧ holdsI (Cur.app ts I (cellsOf ts L)) R1 Φ1 0) ∧
            ts.all fun us => ∀ R' Φ' k, Stable Φ' → holdsI (Cur.app ts I us) R' Φ' k →
              (∀ w F, Ctx W w (R' ++ F) Φ' → X w) ∧
              (k < N → l.all fun vs => holdsA (Cur.app l A vs) k → vcS H x (fun e s1 L1 R1 Φ1 => match e with
                  | .normal => vcS H y (fun e s2 L2 R2 Φ2 => match e with
                      | .normal => match sameT ts L2 L with
                        | true => ∃ R3 Φ3, Stable Φ3 ∧ (∀ w F, Ctx W w (R2 ++ F) Φ2 → Ctx W w (R3 ++ F) Φ3) ∧ holdsI (Cur.app ts I (cellsOf ts L2)) R3 Φ3 (k + 1)
                        | false => False
                      | _ => False) s1 L1 R1 Φ1
                  | _ => False) (putsS l vs s) (meetT ts us L) R' Φ') ∧
              (k = N → Q .normal s (meetT ts us L) R' Φ')
        | false => False
    | _ => False
  | _, _, _, _, _, _ => False

def resS (s : FrS) (L : List Tr) (R : List Own) (Φ : PW) : List ResultVar → (List Value → Prop) → Prop
  | [], K => K []
  | .tmp t :: r, K => match isU ((getS t s.l).val L) with
    | true => False
    | false => resS s L R Φ r fun vs => K ((getS t s.l).val L :: vs)
  | .cell a t :: r, K => match getS a s.l with
    | .ptr k off => loadT P t L k off fun v => resS s L R Φ r fun vs => K (v :: vs)
    | .v (.pointer (some ⟨b, o, none⟩)) => ∀ w F, Ctx W w (R ++ F) Φ → vcLoadG P t w none b o fun v => resS s L R Φ r fun vs => K (v :: vs)
    | .v _ => False

def bodyS (fn : Func) (J : Value → World → Prop) : Exit → FrS → List Tr → List Own → PW → Prop
  | .normal, s, L, R, Φ | .ret, s, L, R, Φ => resS P W s L R Φ fn.results.toList fun vs => ∀ w F, Ctx W w (R ++ F) Φ → J (tupled vs) w
  | _, _, _, _, _ => False

def argS : Nat → List Value → List (Nat × SV)
  | _, [] => []
  | i, v :: r => (i, .v v) :: argS (i + 1) r

def vcFS (H : HS) (f : FuncId) (args : Array Value) (R : List Own) (Φ : PW) (J : Value → World → Prop) : Prop :=
  match P.funcs[f]? with
  | some fn => match fn.body with
    | some c => vcS P W H c (bodyS P W fn J) ⟨max fn.ntmps args.size, argS 0 args.toList⟩ [] R Φ
    | none => False
  | none => False

end

/-! ### it suffices -/
theorem keepS_fr (k : Option (List Nat)) (s : FrS) (L : List Tr) : (keepS k s).fr L = (s.fr L).keep k := by
  cases k with
  | none => rfl
  | some k =>
    have key : ∀ l : List (Nat × SV), valL L (keepS.go k l) = filterL (fun t => memB t k) (valL L l) := by
      intro l
      induction l with
      | nil => rfl
      | cons p r ih =>
        obtain ⟨t, v⟩ := p
        simp only [keepS.go, valL, filterL]
        cases memB t k with
        | true => simp only [valL, ih]
        | false => exact ih
    simp only [keepS, Fr.keep, FrS.fr, key]

theorem keepS_wf {k : Option (List Nat)} {s : FrS} {L : List Tr} (h : WfS L s) : WfS L (keepS k s) := by
  cases k with
  | none => exact h
  | some k =>
    have key : ∀ l : List (Nat × SV), ∀ p ∈ keepS.go k l, p ∈ l := by
      intro l
      induction l with
      | nil => intro p hp; exact hp
      | cons q r ih =>
        obtain ⟨t, v⟩ := q
        intro p hp
        simp only [keepS.go] at hp
        cases hb : memB t k with
        | true => rw [hb] at hp; rcases List.mem_cons.1 hp with rfl | hp; simp; exact List.mem_cons_of_mem _ (ih p hp)
        | false => rw [hb] at hp; exact List.mem_cons_of_mem _ (ih p hp)
    exact fun p hp => h p (key _ p hp)

theorem At.keep {W : World} {s : FrS} {L : List Tr} {R : List Own} {Φ : PW} {a : Act} {w : World} (h : At ds G W s L R Φ a w) (k : Option (List Nat)) : At ds G W (keepS k s) L R Φ a w :=
  ⟨by rw [keepS_fr]; exact keep_sim h.sim k, keepS_wf h.wf, h.ids, h.ctx, h.st⟩

theorem meetS_fr {asg : List Nat} {l : Vars} {vs : List Value} {s : FrS} {L L1 : List Tr} (hwf : WfS L s) (hb : ∀ k T, findT k L = some T → ∃ T', findT k L1 = some T' ∧ T'.b = T.b) : (meetS asg l vs s).fr L1 = meet asg l vs (s.fr L) := by
  have key : ∀ r : List (Nat × SV), (∀ p ∈ r, ∀ k o, p.2 = SV.ptr k o → (findT k L).isSome = true) → valL L1 (meetS.drop asg r) = filterL (fun t => !memB t asg) (valL L r) := by
    intro r
    induction r with
    | nil => intro _; rfl
    | cons p r ih =>
      obtain ⟨t, v⟩ := p
      intro h
      have ih := ih fun q hq => h q (List.mem_cons_of_mem _ hq)
      simp only [meetS.drop, valL, filterL]
      cases memB t asg with
      | true => exact ih
      | false =>
        simp only [valL, Bool.not_false, ih]
        congr 2
        cases v with
        | v x => rfl
        | ptr k o =>
          obtain ⟨T, hT⟩ := Option.isSome_iff_exists.1 (h (t, .ptr k o) (by simp) k o rfl)
          obtain ⟨T', h1, h2⟩ := hb k T hT
          simp only [SV.val, hT, h1, h2]
  have key2 : ∀ (l : Vars) (vs : List Value) (r : List (Nat × SV)), valL L1 (meetS.cons l vs r) = consAll l vs (valL L1 r) := by
    intro l
    induction l with
    | nil => intro vs r; cases vs <;> rfl
    | cons p l ih =>
      obtain ⟨t, sh⟩ := p
      intro vs r
      cases vs with
      | nil => rfl
      | cons v vs => simp only [meetS.cons, consAll, valL, ih, SV.val]
  simp only [FrS.fr, meetS, meet, putAll, Fr.drop, key2, key s.l hwf]

theorem meetS_wf {asg : List Nat} {l : Vars} {vs : List Value} {s : FrS} {L L1 : List Tr} (hwf : WfS L s) (hb : ∀ k T, findT k L = some T → ∃ T', findT k L1 = some T' ∧ T'.b = T.b) : WfS L1 (meetS asg l vs s) := by
  have key : ∀ r : List (Nat × SV), ∀ p ∈ meetS.drop asg r, p ∈ r := by
    intro r
    induction r with
    | nil => intro p hp; exact hp
    | cons q r ih =>
      obtain ⟨t, v⟩ := q
      intro p hp
      simp only [meetS.drop] at hp
      cases hm : memB t asg with
      | true => rw [hm] at hp; exact List.mem_cons_of_mem _ (ih p hp)
      | false => rw [hm] at hp; rcases List.mem_cons.1 hp with rfl | hp; simp; exact List.mem_cons_of_mem _ (ih p hp)
  have key2 : ∀ (l : Vars) (vs : List Value) (r : List (Nat × SV)), ∀ p ∈ meetS.cons l vs r, p ∈ r ∨ ∃ v, p.2 = .v v := by
    intro l
    induction l with
    | nil => intro vs r p hp; cases vs <;> exact .inl hp
    | cons q l ih =>
      obtain ⟨t, sh⟩ := q
      intro vs r p hp
      cases vs with
      | nil => exact .inl hp
      | cons v vs =>
        rcases List.mem_cons.1 hp with rfl | hp
        · exact .inr ⟨v, rfl⟩
        · exact ih vs r p hp
  intro p hp k o e
  rcases key2 _ _ _ p hp with h | ⟨v, h⟩
  · obtain ⟨T, hT⟩ := Option.isSome_iff_exists.1 (hwf p (key _ p h) k o e)
    obtain ⟨T', h1, _⟩ := hb k T hT
    rw [h1]; rfl
  · rw [h] at e; cases e

theorem holdsI_some {x : Option (List Own → PW → Nat → Prop)} {R : List Own} {Φ : PW} {n : Nat} (h : holdsI x R Φ n) : ∃ I, x = some I := by
  cases x with
  | none => exact h.elim
  | some I => exact ⟨I, rfl⟩
theorem holdsJ_some {x : Option (List Own → PW → Prop)} {R : List Own} {Φ : PW} (h : holdsJ x R Φ) : ∃ I, x = some I := by
  cases x with
  | none => exact h.elim
  | some I => exact ⟨I, rfl⟩

theorem all_append {ts : Vars} {us : List Value} {ρ : Type} {x : ρ} : ∀ {l : Vars} {vs : List Value} (_ : vs.length = l.length) {K : List Value → List Value → Prop} (_ : l.all fun vs => ts.all fun us => K vs us) {f : Cur ρ (l ++ ts)} (_ : Cur.app (l ++ ts) f (vs ++ us) = some x),
    K vs us ∧ us.length = ts.length ∧ (∀ v ∈ vs, isU v = false) ∧ (∀ u ∈ us, isU u = false) := by
  intro l
  induction l with
  | nil =>
    intro vs hl K h f hx
    cases vs with
    | nil =>
      obtain ⟨h1, h2, h3⟩ := Cur.app_all hx h
      exact ⟨h1, h2, fun v hv => (by cases hv), h3⟩
    | cons v vs => simp at hl
  | cons p r ih =>
    intro vs hl K h f hx
    obtain ⟨t, s⟩ := p
    cases vs with
    | nil => simp at hl
    | cons v vs =>
      simp only [List.cons_append] at f hx
      unfold Cur.app at hx
      split at hx
      · rename_i g hg
        obtain ⟨h1, h2⟩ := Sh.app_all hg h
        obtain ⟨h3, h4, h5, h6⟩ := ih (vs := vs) (by simpa using hl) (K := fun vs us => K (v :: vs) us) h1 hx
        refine ⟨h3, h4, fun u hu => ?_, h6⟩
        rcases List.mem_cons.1 hu with rfl | hu
        · exact h2
        · exact h5 u hu
      · cases hx

theorem slotsOf_len (l : Vars) (s : Fr) : (slotsOf l s).length = l.length := by simp [slotsOf]

theorem least_ex {p : Nat → Prop} (h : ∃ n, p n) : ∃ n, p n ∧ ∀ m, p m → n ≤ m := by
  obtain ⟨n, hn⟩ := h
  induction n using Nat.strongRecOn with
  | _ n ih =>
    by_cases hx : ∃ m, m < n ∧ p m
    · obtain ⟨m, h1, h2⟩ := hx; exact ih m h1 h2
    · exact ⟨n, hn, fun m hm => by
        rcases Nat.lt_or_ge m n with h' | h'
        · exact absurd ⟨m, h', hm⟩ hx
        · exact h'⟩

theorem Cur.app_len {ρ : Type} : ∀ {l : Vars} {f : Cur ρ l} {vs : List Value} {x : ρ}, Cur.app l f vs = some x → vs.length = l.length
  | [], _, [], _, _ => rfl
  | (t, s) :: r, f, v :: vs, x, h => by
    unfold Cur.app at h
    split at h
    · simp [Cur.app_len h]
    · cases h
  | [], _, _ :: _, _, h => by cases h
  | _ :: _, _, [], _, h => by cases h

theorem enter_ok {P : Program} {f : FuncId} (h : okFun P f = true) (args : Array Value) (w : World) : (callFunc f args).run P w = .ok (.enter f args) w := by
  unfold okFun at h
  split at h
  · rename_i fn hfn
    simp only [Bool.and_eq_true, Bool.not_eq_true'] at h
    have hb' : fn.body.isNone = false := by cases hh : fn.body <;> simp_all
    simp only [callFunc, program, Sem.run, hfn, h.2, hb', Bool.false_eq_true, if_false, Sem.run_bind, Sem.run_pure, Result.andThen]
  · cases h

theorem putsS_sim {L : List Tr} : ∀ {l : Vars} {vs : List Value} {s : FrS} {a : Act}, Sim ds (s.fr L) a → WfS L s →
    Sim ds ((putsS l vs s).fr L) { tmps := ((l.map (·.1)).zip vs).foldl (fun t p => t.setIfInBounds p.1 p.2) a.tmps, defers := a.defers } ∧ WfS L (putsS l vs s)
  | (t, sh) :: r, v :: vs, s, a, h, hw => by
    have h2 : Sim ds ((s.put (some t) (.v v)).fr L) (a.put (some t) v) := by rw [fr_put]; exact h.put _ (fun _ => rfl)
    have := putsS_sim (l := r) (vs := vs) h2 (hw.put fun k o e => (by cases e))
    simpa [putsS, Act.put] using this
  | [], vs, s, a, h, hw => by
    simp only [putsS, List.map_nil, List.zip_nil_left, List.foldl_nil]
    exact ⟨h, hw⟩
  | _ :: _, [], s, a, h, hw => by
    simp only [putsS, List.zip_nil_right, List.foldl_nil]
    exact ⟨h, hw⟩

theorem vcS_sound {P : Program} {W : World} {H : HS} : ∀ (c : Code) {rd : Option Nat} {Q' : Exit → FrS → List Tr → List Own → PW → Prop} {Q : Exit → Act → World → Prop} {s : FrS} {L : List Tr} {R : List Own} {Φ : PW} {a : Act} {w : World} {ds : List Deferred} {G : List Own},
    (rd.isSome = true → okRound c = true) → vcS P W H c Q' s L R Φ → At ds G W s L R Φ a w → (∀ e s' L' R' Φ' a' w' ds' G', Q' e s' L' R' Φ' → Tie rd ds G ds' G' → At ds' G' W s' L' R' Φ' a' w' → Ext L L' → Unch (fun t => t ∈ asg c) (s.fr L) (s'.fr L') → Q e a' w') → c.wpIn (fenceAt rd) 0 P Q a w := by
  intro c
  induction c with
  | skip => intro rd Q' Q s L R Φ a w ds G hrd h ha hQ; exact wpIn_skip (hQ _ _ _ _ _ _ _ _ _ h (Tie.refl _ _ _) ha (Ext.refl _) (Unch.refl _ _))
  | region id ops draw =>
    intro rd Q' Q s L R Φ a w ds G hrd h ha hQ
    have hD : ∀ o ∈ ops.toList, ∀ t, o.dst = some t → t ∈ dsts ops.toList := fun o ho t ht => List.mem_filterMap.2 ⟨o, ho, ht⟩
    have hD' : ∀ (j : Nat) (o : Oper) (t : Nat), ops[j]? = some o → o.dst = some t → t ∈ dsts ops.toList := fun j o t ho ht => hD o (by simpa using Array.mem_of_getElem? ho) t ht
    have hQ' : ∀ s' L' R' Φ' a' w', Q' .normal (keepS H.keep s') L' R' Φ' → At ds G W s' L' R' Φ' a' w' → Ext L L' → Unch (fun t => t ∈ dsts ops.toList) (s.fr L) (s'.fr L') → Q .normal a' w' := by
      intro s' L' R' Φ' a' w' hk ha' he hu
      exact hQ _ _ _ _ _ _ _ _ _ hk (Tie.refl _ _ _) (ha'.keep _) he (by rw [keepS_fr]; exact keep_unch hu _)
    have quiet : ∀ (d : Bool), (∀ w F, Ctx W w (R ++ F) Φ → qsS P (fun t => memB t H.wrap) d ops L w ops.toList [] s fun s => Q' .normal (keepS H.keep s) L R Φ) → wpQuiet P ops (Cls d w) (fun a' => ∀ w', Cls d w w' → Q .normal a' w') ops.toList a := by
      intro d h
      refine qsS_sound (D := fun t => t ∈ dsts ops.toList) (s0 := s.fr L) ha.st ha.ids ha.ctx (fun s' a' hk hs' hwf' hu' w' hw' => ?_) _ _ _ _ hD (fun e he => (by cases he)) (h w _ ha.ctx) (Rel.start ha.sim) ha.wf (Unch.refl _ _)
      have hc' : CtxS G W w' L R Φ := by
        have := ha.st
        cases d with
        | false => cases hw'; exact ha.ctx
        | true => obtain ⟨n, rfl⟩ := hw'; exact Ctx.draw ha.ctx n
      exact hQ' s' L R Φ a' w' hk ⟨hs', hwf', ha.ids, hc', ha.st⟩ (Ext.refl _) hu'
    simp only [vcS, regionS, stgBody, quietBody] at h
    cases draw with
    | true =>
      simp only at h
      split at h
      · rename_i st _
        split at h
        · rename_i hc
          simp only [Bool.and_eq_true, Nat.beq_eq] at hc
          obtain ⟨⟨⟨h1, h2⟩, h3⟩, h4⟩ := hc
          have := ha.st
          refine reg_any (fun hh => hrd hh) h1 ?_
          have h7 := stgS_sound (Q := onlyQ Q) (L0 := L) (s0 := s.fr L) (D := fun t => t ∈ dsts ops.toList) h2 hD' (fun s' L' R' Φ' a' w' hk ha' he hu => hQ' s' L' R' Φ' a' w' hk ha' he hu) st _ _ _ _ _ _ (w.drewN 1) h3 h ⟨ha.sim, ha.wf, ha.ids, Ctx.draw ha.ctx 1, ha.st⟩ (Ext.refl _) (Unch.refl _ _)
          rw [h4] at h7
          exact h7
        · exact h.elim
      · split at h
        · rename_i hc
          simp only [okDraw, Bool.and_eq_true] at hc
          have h1 := quiet true h
          exact reg_quiet (fun hh => hrd hh) hc.1 hc.2 (by
            have e : Cls true w = fun w' => ∃ n, w' = w.drewN n := rfl
            rw [e] at h1
            exact h1)
        · exact h.elim
    | false =>
      simp only at h
      split at h
      · have h1 := quiet (memB id H.draws) h
        refine reg_list (fun hh => hrd hh) ?_
        exact wpList_of_quiet (Q := onlyQ Q) (C := Cls (memB id H.draws) w) (Qa := fun a' => ∀ w', Cls (memB id H.draws) w w' → Q .normal a' w') (fun a' w' hw' hq => hq w' hw') _ _ _ (by cases memB id H.draws; rfl; exact ⟨0, rfl⟩) h1
      · refine reg_list (fun hh => hrd hh) ?_
        exact opsS_sound (Q := onlyQ Q) (D := fun t => t ∈ dsts ops.toList) (s0 := s.fr L) (L0 := L) hD' (fun s' L' R' Φ' a' w' hk ha' he hu => hQ' s' L' R' Φ' a' w' hk ha' he hu) _ _ _ _ _ _ _ hD h ha (Ext.refl _) (Unch.refl _ _)
  | seq x y ihx ihy =>
    intro rd Q' Q s L R Φ a w ds G hrd h ha hQ
    simp only [vcS] at h
    have hrx : rd.isSome = true → okRound x = true ∧ okRound y = true := fun hh => by have := hrd hh; simpa only [okRound, Bool.and_eq_true] using this
    refine wpIn_seq ?_
    split at h
    · refine ihx (fun hh => (hrx hh).1) h ha ?_
      intro e s' L' R' Φ' a' w' ds1 G1 hq htie ha' he hu
      have hu' : Unch (fun t => t ∈ asg (.seq x y)) (s.fr L) (s'.fr L') := hu.mono fun i hi => List.mem_append.2 (.inl hi)
      cases e with
      | normal =>
        simp only [Exit.then]
        refine ihy (fun hh => (hrx hh).2) hq ha' fun e s'' L'' R'' Φ'' a'' w'' ds2 G2 hq' htie' ha'' he' hu'' => hQ _ _ _ _ _ _ _ _ _ hq' (htie.trans htie') ha'' (he.trans he') ?_
        exact hu'.trans (hu''.mono fun i hi => List.mem_append.2 (.inr hi))
      | exit n => exact hQ _ _ _ _ _ _ _ _ _ hq htie ha' he hu'
      | goto n => exact hQ _ _ _ _ _ _ _ _ _ hq htie ha' he hu'
      | ret => exact hQ _ _ _ _ _ _ _ _ _ hq htie ha' he hu'
      | panic n => exact hQ _ _ _ _ _ _ _ _ _ hq htie ha' he hu'
      | outgrown => exact hQ _ _ _ _ _ _ _ _ _ hq htie ha' he hu'
    · rename_i l ts hl
      split at h
      · rename_i hok
        simp only [Bool.and_eq_true] at hok
        obtain ⟨hv, hn⟩ := varsOk_spec hok.1
        obtain ⟨J, h1, h2⟩ := h
        refine ihx (fun hh => (hrx hh).1) h1 ha ?_
        intro e s' L' R' Φ' a' w' ds1 G1 hq htie ha' he hu
        have hu' : Unch (fun t => t ∈ asg (.seq x y)) (s.fr L) (s'.fr L') := hu.mono fun i hi => List.mem_append.2 (.inl hi)
        cases e with
        | normal =>
          simp only [Exit.then]
          simp only at hq
          split at hq
          · rename_i hsub
            simp only [Bool.and_eq_true] at hsub
            obtain ⟨R1, Φ1, hst1, hw1, hj⟩ := hq
            obtain ⟨I, hI⟩ := holdsJ_some hj
            obtain ⟨h3, _, hk, _⟩ := all_append (slotsOf_len l _) h2 hI
            have hme := meetT_ext ts (cellsOf ts L') L
            have hb : ∀ k T, findT k L = some T → ∃ T', findT k (meetT ts (cellsOf ts L') L) = some T' ∧ T'.b = T.b := fun k T hT => by obtain ⟨T', q1, q2, _⟩ := hme.old k T hT; exact ⟨T', q1, q2⟩
            have hsim := meet_sim (s := s.fr L) ha'.sim hu (fun i => knownAll_spec hsub.1) rfl hk
            have ham : At ds1 G1 W (meetS (asg x) l (slotsOf l (s'.fr L')) s) (meetT ts (cellsOf ts L') L) R1 Φ1 a' w' :=
              ⟨by rw [meetS_fr ha.wf hb]; exact hsim, meetS_wf ha.wf hb, hme.ids ha.ids, hw1 w' _ (CtxS.meet ha'.st ha'.ctx he ha.ids hsub.2), hst1⟩
            refine ihy (fun hh => (hrx hh).2) (h3 R1 Φ1 hst1 hj) ham fun e s'' L'' R'' Φ'' a'' w'' ds2 G2 hq' htie' ha'' he' hu'' => hQ _ _ _ _ _ _ _ _ _ hq' (htie.trans htie') ha'' (hme.trans he') ?_
            refine Unch.trans (b := (meetS (asg x) l (slotsOf l (s'.fr L')) s).fr (meetT ts (cellsOf ts L') L)) ?_ (hu''.mono fun i hi => List.mem_append.2 (.inr hi))
            rw [meetS_fr ha.wf hb]
            exact meet_unch (fun v hv' => List.mem_append.2 (.inl (hv v hv').1))
          · exact hq.elim
        | exit n => exact hQ _ _ _ _ _ _ _ _ _ hq htie ha' he hu'
        | goto n => exact hQ _ _ _ _ _ _ _ _ _ hq htie ha' he hu'
        | ret => exact hQ _ _ _ _ _ _ _ _ _ hq htie ha' he hu'
        | panic n => exact hQ _ _ _ _ _ _ _ _ _ hq htie ha' he hu'
        | outgrown => exact hQ _ _ _ _ _ _ _ _ _ hq htie ha' he hu'
      · exact h.elim
  | cond c x y ihx ihy =>
    intro rd Q' Q s L R Φ a w ds G hrd h ha hQ
    simp only [vcS] at h
    split at h
    · rename_i b hb
      have hc : a.eval c = .bool b := by rw [ha.sim.eval (by rw [fr_eval, hb]; rfl), fr_eval, hb]
      cases b with
      | true => exact wpIn_cond_true hc (ihx (fun hh => by have := hrd hh; simp only [okRound, Bool.and_eq_true] at this; exact this.1) h ha fun e s' L' R' Φ' a' w' ds1 G1 hq htie ha' he hu => hQ _ _ _ _ _ _ _ _ _ hq htie ha' he (hu.mono fun i hi => List.mem_append.2 (.inl hi)))
      | false => exact wpIn_cond_false hc (ihy (fun hh => by have := hrd hh; simp only [okRound, Bool.and_eq_true] at this; exact this.2) h ha fun e s' L' R' Φ' a' w' ds1 G1 hq htie ha' he hu => hQ _ _ _ _ _ _ _ _ _ hq htie ha' he (hu.mono fun i hi => List.mem_append.2 (.inr hi)))
    · exact h.elim
  | block id b ih =>
    intro rd Q' Q s L R Φ a w ds G hrd h ha hQ
    simp only [vcS] at h
    refine wpIn_block (ih (fun hh => hrd hh) h ha ?_)
    intro e s' L' R' Φ' a' w' ds1 G1 hq htie ha' he hu
    cases e with
    | exit n =>
      simp only [Exit.inBlock]
      simp only at hq
      split at hq
      · rename_i e; rw [if_pos (Nat.eq_of_beq_eq_true e)]; exact hQ _ _ _ _ _ _ _ _ _ hq htie ha' he hu
      · rename_i e; rw [if_neg (Nat.ne_of_beq_eq_false e)]; exact hQ _ _ _ _ _ _ _ _ _ hq htie ha' he hu
    | normal => exact hQ _ _ _ _ _ _ _ _ _ hq htie ha' he hu
    | goto n => exact hQ _ _ _ _ _ _ _ _ _ hq htie ha' he hu
    | ret => exact hQ _ _ _ _ _ _ _ _ _ hq htie ha' he hu
    | panic n => exact hQ _ _ _ _ _ _ _ _ _ hq htie ha' he hu
    | outgrown => exact hQ _ _ _ _ _ _ _ _ _ hq htie ha' he hu
  | loop b ih =>
    intro rd Q' Q s L R Φ a w ds G hrd h ha hQ
    simp only [vcS] at h
    split at h
    · exact h.elim
    · rename_i l ts hl
      split at h
      · rename_i hok
        simp only [Bool.and_eq_true] at hok
        obtain ⟨hv, hn⟩ := varsOk_spec hok.1
        obtain ⟨I, ⟨R0, Φ0, n0, hst0, hw0, h0⟩, h1⟩ := h
        -- the relation, with a measure
        let Rel := fun (n : Nat) (a' : Act) (w' : World) => ∃ ds1 G1 vs us R' Φ', Tie rd ds G ds1 G1 ∧ vs.length = l.length ∧ Stable Φ' ∧ holdsI (Cur.app (l ++ ts) I (vs ++ us)) R' Φ' n ∧ Sim ds1 (meet (asg b) l vs (s.fr L)) a' ∧ CtxS G1 W w' (meetT ts us L) R' Φ'
        have hst := ha.st
        have start : Rel n0 a w := by
          obtain ⟨I', hI'⟩ := holdsI_some h0
          obtain ⟨_, _, hk, _⟩ := all_append (slotsOf_len l _) h1 hI'
          have hm := meet_sim (s := s.fr L) ha.sim (Unch.refl _ _) (fun i => knownSub_refl) rfl hk (asg := asg b) (l := l)
          refine ⟨_, _, _, _, R0, Φ0, Tie.refl _ _ _, slotsOf_len l _, hst0, h0, hm, ?_⟩
          -- the blocks as they are
          have hss : sameT ts L L = true := by
            have key : ∀ M : List Tr, (∀ T ∈ M, T ∈ L) → sameT ts L M = true := by
              intro M
              induction M with
              | nil => intro _; rfl
              | cons T r ihr =>
                intro hM
                unfold sameT
                cases memB T.id (ts.map (·.1)) with
                | true => exact ihr fun U hU => hM U (List.mem_cons_of_mem _ hU)
                | false =>
                  rw [findT_mem ha.ids (hM T (by simp))]
                  simp only [show Nat.beq T.ver T.ver = true by simp]
                  exact ihr fun U hU => hM U (List.mem_cons_of_mem _ hU)
            exact key L fun _ h => h
          exact CtxS.meet hst0 (hw0 w _ ha.ctx) (Ext.refl L) ha.ids hss
        let least := fun (a' : Act) (w' : World) (n : Nat) => Rel n a' w' ∧ ∀ m, Rel m a' w' → n ≤ m
        let mu := fun (a' : Act) (w' : World) => @dite _ (∃ n, least a' w' n) (Classical.propDecidable _) (fun hx => Classical.choose hx) (fun _ => 0)
        have hmu : ∀ a' w' n, Rel n a' w' → ∃ k, least a' w' k ∧ mu a' w' = k ∧ k ≤ n := by
          intro a' w' n hn
          have hx : ∃ k, least a' w' k := least_ex ⟨n, hn⟩
          refine ⟨Classical.choose hx, Classical.choose_spec hx, ?_, (Classical.choose_spec hx).2 n hn⟩
          show @dite _ (∃ n, least a' w' n) (Classical.propDecidable _) (fun hx => Classical.choose hx) (fun _ => 0) = _
          rw [dif_pos hx]
        refine wpIn_loop (fun a' w' => ∃ n, Rel n a' w') mu ⟨n0, start⟩ ?_
        rintro a1 w1 ⟨n1, hn1⟩
        obtain ⟨n, ⟨⟨ds1, G1, vs, us, R', Φ', htie1, hlen, hst1, hI, hs1, hc1⟩, _⟩, hmu1, _⟩ := hmu a1 w1 n1 hn1
        rw [hmu1]
        obtain ⟨I', hI'⟩ := holdsI_some hI
        obtain ⟨h2, hlu, hk, hku⟩ := all_append hlen h1 hI'
        have hme := meetT_ext ts us L
        have hb : ∀ k T, findT k L = some T → ∃ T', findT k (meetT ts us L) = some T' ∧ T'.b = T.b := fun k T hT => by obtain ⟨T', q1, q2, _⟩ := hme.old k T hT; exact ⟨T', q1, q2⟩
        have ham : At ds1 G1 W (meetS (asg b) l vs s) (meetT ts us L) R' Φ' a1 w1 := ⟨by rw [meetS_fr ha.wf hb]; exact hs1, meetS_wf ha.wf hb, hme.ids ha.ids, hc1, hst1⟩
        refine ih (fun hh => hrd hh) (h2 R' Φ' n hst1 hI) ham ?_
        intro e s' L' R'' Φ'' a' w' ds2 G2 hq htie2 ha' he hu
        have htie := htie1.trans htie2
        rw [meetS_fr ha.wf hb] at hu
        have hu' : Unch (fun t => t ∈ asg b) (s.fr L) (s'.fr L') := Unch.trans (meet_unch (fun v hv' => (hv v hv').1)) hu
        have he' : Ext L L' := hme.trans he
        cases e with
        | normal =>
          simp only [Exit.then]
          simp only at hq
          split at hq
          · rename_i hsub
            simp only [Bool.and_eq_true] at hsub
            obtain ⟨R2, Φ2, n2, hst2, hw2, hj, hlt⟩ := hq
            obtain ⟨I2, hI2⟩ := holdsI_some hj
            obtain ⟨_, _, hk2, _⟩ := all_append (slotsOf_len l _) h1 hI2
            have hsim := meet_sim (s := s.fr L) ha'.sim hu' (fun i => knownAll_spec hsub.1) rfl hk2
            have hrel : Rel n2 a' w' := ⟨_, _, _, _, R2, Φ2, htie, slotsOf_len l _, hst2, hj, hsim, hw2 w' _ (CtxS.meet ha'.st ha'.ctx he' ha.ids hsub.2)⟩
            obtain ⟨k, _, hmk, hkn⟩ := hmu a' w' n2 hrel
            exact ⟨⟨n2, hrel⟩, by rw [hmk]; omega⟩
          · exact hq.elim
        | exit n => exact hQ _ _ _ _ _ _ _ _ _ hq htie ha' he' hu'
        | goto n => exact hQ _ _ _ _ _ _ _ _ _ hq htie ha' he' hu'
        | ret => exact hQ _ _ _ _ _ _ _ _ _ hq htie ha' he' hu'
        | panic n => exact hQ _ _ _ _ _ _ _ _ _ hq htie ha' he' hu'
        | outgrown => exact hQ _ _ _ _ _ _ _ _ _ hq htie ha' he' hu'
      · exact h.elim
  | exit id => intro rd Q' Q s L R Φ a w ds G hrd h ha hQ; exact wpIn_exit (hQ _ _ _ _ _ _ _ _ _ h (Tie.refl _ _ _) ha (Ext.refl _) (Unch.refl _ _))
  | ret => intro rd Q' Q s L R Φ a w ds G hrd h ha hQ; exact wpIn_ret (hQ _ _ _ _ _ _ _ _ _ h (Tie.refl _ _ _) ha (Ext.refl _) (Unch.refl _ _))
  | rangeFunc g ps x y ihx ihy =>
    intro rd Q' Q s L R Φ a w ds G hrd h ha hQ
    cases rd with
    | some l => have := hrd rfl; cases this
    | none =>
    simp only [vcS] at h
    split at h
    · rename_i gf cs lb hg
      split at h
      · exact h.elim
      · rename_i l ts hl
        split at h
        · rename_i hok
          simp only [Bool.and_eq_true] at hok
          obtain ⟨⟨⟨hps, hrx⟩, hry⟩, hts⟩ := hok
          obtain ⟨hcs, hfn, N, xs, X, A, I, hit, hfit, ⟨R0, Φ0, hst0, hw0, h0⟩, h1⟩ := h
          subst hcs
          have hge : a.eval g = .func (.func gf) #[] lb := by rw [ha.sim.eval (by rw [fr_eval, hg]; rfl), fr_eval, hg]
          have hme : ∀ us, Ext L (meetT ts us L) := fun us => meetT_ext ts us L
          have hpl := sameN_eq hps
          have hst := ha.st
          have hss : sameT ts L L = true := by
            have key : ∀ M : List Tr, (∀ T ∈ M, T ∈ L) → sameT ts L M = true := by
              intro M
              induction M with
              | nil => intro _; rfl
              | cons T r ihr =>
                intro hM
                unfold sameT
                cases memB T.id (ts.map (·.1)) with
                | true => exact ihr fun U hU => hM U (List.mem_cons_of_mem _ hU)
                | false =>
                  rw [findT_mem ha.ids (hM T (by simp))]
                  simp only [show Nat.beq T.ver T.ver = true by simp]
                  exact ihr fun U hU => hM U (List.mem_cons_of_mem _ hU)
            exact key L fun _ h => h
          let Inv := fun (k : Nat) (Gx : List Own) (w1 : World) => ∃ us R' Φ', Stable Φ' ∧ holdsI (Cur.app ts I us) R' Φ' k ∧ CtxS Gx W w1 (meetT ts us L) R' Φ'
          have fits : ∀ k, k < N → ∃ A', Cur.app l A (xs k) = some A' := fun k hk => by
            have := hfit k hk
            unfold holdsA at this
            split at this
            · rename_i A' e; exact ⟨A', e⟩
            · exact this.elim
          have len : ∀ k, k < N → (xs k).length = l.length := fun k hk => by
            obtain ⟨A', e⟩ := fits k hk
            exact Cur.app_len e
          refine wp_range (W := W) (G := G) hge (enter_ok hfn) hit (fun k hk => by rw [List.size_toArray, len k hk, ← Array.length_toList, ← hpl, List.length_map]) Inv ?_ ?_ ?_ ?_ ?_
          · rintro k Gx w1 ⟨us, R', Φ', hs, hi, c⟩
            refine ⟨R' ++ (meetT ts us L).map Tr.own, Φ', hs, by rw [List.append_assoc]; exact c, fun w2 Gy c2 => ⟨us, R', Φ', hs, hi, by rw [List.append_assoc] at c2; exact c2⟩⟩
          · rintro k Gx w1 ⟨us, R', Φ', hs, hi, c⟩
            obtain ⟨I', hI'⟩ := holdsI_some hi
            exact ((Cur.app_all hI' h1).1 R' Φ' k hs hi).1 _ _ c
          · exact ⟨_, R0, Φ0, hst0, h0, CtxS.meet hst0 (hw0 w _ ha.ctx) (Ext.refl L) ha.ids hss⟩
          · rintro lp k Gx w1 hk ⟨us, R', Φ', hs, hi, c⟩
            obtain ⟨I', hI'⟩ := holdsI_some hi
            obtain ⟨A', hA'⟩ := fits k hk
            have h2 := ((Cur.app_all hI' h1).1 R' Φ' k hs hi).2.1 hk
            have h3 := (Cur.app_all hA' h2).1 (hfit k hk)
            have ham : At [] Gx W (putsS l (xs k) s) (meetT ts us L) R' Φ' { tmps := (ps.zip (xs k).toArray).foldl (fun t (p, v) => t.setIfInBounds p v) a.tmps, defers := [] } w1 := by
              obtain ⟨q1, q2⟩ := putsS_sim (L := meetT ts us L) (l := l) (vs := xs k) (s := s) (a := { a with defers := [] }) ⟨rfl, (by rw [ha.wf.fr (hme us)]; exact ha.sim.size), fun i hi => (by rw [ha.wf.fr (hme us)] at hi ⊢; exact ha.sim.slot i hi)⟩ (ha.wf.ext (hme us))
              refine ⟨?_, q2, (hme us).ids ha.ids, c, hs⟩
              rw [hpl] at q1
              rw [← Array.foldl_toList, Array.toList_zip]
              exact q1
            refine ihx (rd := some lp) (fun _ => hrx) h3 ham ?_
            intro e s1 L1 R1 Φ1 a1 w2 ds1 G1 hq htie ha1 he1 _
            cases e with
            | normal =>
              obtain ⟨Z, hZ, rfl, rfl⟩ := htie
              have hZ := hZ rfl
              subst hZ
              refine ⟨R1 ++ L1.map Tr.own, Φ1, ha1.st, by rw [List.append_assoc]; exact ha1.ctx, fun w3 Gx3 c3 => ?_⟩
              have ha3 : At [] Gx3 W s1 L1 R1 Φ1 a1 w3 := ⟨ha1.sim, ha1.wf, ha1.ids, by rw [List.append_assoc] at c3; exact c3, ha1.st⟩
              refine ihy (rd := some lp) (fun _ => hry) hq ha3 ?_
              intro e s2 L2 R2 Φ2 a2 w4 ds2 G2 hq2 htie2 ha2 he2 _
              cases e with
              | normal =>
                obtain ⟨Z, hZ, rfl, rfl⟩ := htie2
                have hZ := hZ rfl
                subst hZ
                simp only at hq2
                split at hq2
                · rename_i hsub
                  obtain ⟨R3, Φ3, hst3, hw3, hj⟩ := hq2
                  exact ⟨rfl, _, R3, Φ3, hst3, hj, hw3 w4 _ (CtxS.meet ha2.st ha2.ctx (((hme us).trans he1).trans he2) ha.ids hsub)⟩
                · exact hq2.elim
              | _ => exact hq2.elim
            | _ => exact hq.elim
          · rintro D w' ⟨us, R', Φ', hs, hi, c⟩
            obtain ⟨I', hI'⟩ := holdsI_some hi
            have h2 := ((Cur.app_all hI' h1).1 R' Φ' N hs hi).2.2 rfl
            refine hQ _ _ _ _ _ _ _ (mark D :: ds) (markO D :: G) h2 ⟨[D], fun hh => (by cases hh), rfl, rfl⟩ ⟨?_, ha.wf.ext (hme us), (hme us).ids ha.ids, c, hs⟩ (hme us) (by rw [ha.wf.fr (hme us)]; exact Unch.refl _ _)
            rw [ha.wf.fr (hme us)]
            exact ⟨by simp [ha.sim.defers], ha.sim.size, ha.sim.slot⟩
        · exact h.elim
    · exact h.elim
  | scope b ih =>
    intro rd Q' Q s L R Φ a w ds G hrd h ha hQ
    simp only [vcS] at h
    refine wpIn_scope (ih (fun hh => by have := hrd hh; cases this) h ha ?_)
    intro e s' L' R' Φ' a' w' ds1 G1 hq htie ha' he hu
    cases e with
    | goto n => exact hq.elim
    | normal => exact hQ _ _ _ _ _ _ _ _ _ hq htie ha' he hu
    | exit n => exact hQ _ _ _ _ _ _ _ _ _ hq htie ha' he hu
    | ret => exact hQ _ _ _ _ _ _ _ _ _ hq htie ha' he hu
    | panic n => exact hQ _ _ _ _ _ _ _ _ _ hq htie ha' he hu
    | outgrown => exact hQ _ _ _ _ _ _ _ _ _ hq htie ha' he hu
  | label l => intro rd Q' Q s L R Φ a w ds G hrd h ha hQ; exact wpIn_label (hQ _ _ _ _ _ _ _ _ _ h (Tie.refl _ _ _) ha (Ext.refl _) (Unch.refl _ _))
  | goto l => intro rd Q' Q s L R Φ a w ds G hrd h; exact h.elim
  | refuse why => intro rd Q' Q s L R Φ a w ds G hrd h; exact h.elim

theorem resS_sound {P : Program} {W : World} {s : FrS} {L : List Tr} {R : List Own} {Φ : PW} {a : Act} {w : World} (ha : At ds G W s L R Φ a w) : ∀ {l : List ResultVar} {K : List Value → Prop}, resS P W s L R Φ l K →
    ∃ vs, (l.mapM fun r => (match r with | .tmp t => pure (a.tmps.getD t undef) | .cell x t => (do loadVar t (← asAddr (a.tmps.getD x undef)) : Sem Value) : Sem Value)).run P w = .ok vs w ∧ K vs
  | [], K, h => ⟨[], by simp, h⟩
  | .tmp t :: r, K, h => by
    unfold resS at h
    split at h
    · exact h.elim
    · rename_i hu
      obtain ⟨vs, h1, h2⟩ := resS_sound ha h
      refine ⟨_, ?_, h2⟩
      have e : (s.fr L).get t = (getS t s.l).val L := getL_val L t s.l
      rw [List.mapM_cons]
      simp only [Sem.run_bind, Sem.run_pure, Result.andThen, h1, ha.sim.slot t (by rw [e]; exact hu), e]
  | .cell x t :: r, K, h => by
    unfold resS at h
    have e : (s.fr L).get x = (getS x s.l).val L := getL_val L x s.l
    have done : ∀ {b o : Nat} {K2 : Value → Prop} {v : Value}, (getS x s.l).val L = .pointer (some ⟨b, o, none⟩) → (loadVar t ⟨b, o, none⟩).run P w = .ok v w → (resS P W s L R Φ r fun vs => K (v :: vs)) →
        ∃ vs, (((ResultVar.cell x t) :: r).mapM fun r => (match r with | .tmp t => pure (a.tmps.getD t undef) | .cell x t => (do loadVar t (← asAddr (a.tmps.getD x undef)) : Sem Value) : Sem Value)).run P w = .ok vs w ∧ K vs := by
      intro b o K2 v hv hl hk
      obtain ⟨vs, h3, h4⟩ := resS_sound ha hk
      refine ⟨_, ?_, h4⟩
      rw [List.mapM_cons]
      have hx' : a.tmps.getD x undef = .pointer (some ⟨b, o, none⟩) := by rw [ha.sim.slot x (by rw [e, hv]; rfl), e, hv]
      have hra : (asAddr (a.tmps.getD x undef)).run P w = .ok ⟨b, o, none⟩ w := by rw [hx']; rfl
      simp only [Sem.run_bind, Sem.run_pure, Result.andThen, hra, hl, h3]
    split at h
    · rename_i k off hx
      have hw := ha.wf
      obtain ⟨T, hT⟩ := Option.isSome_iff_exists.1 (WfS.ev (x := .tmp x) hw (show s.ev (.tmp x) = .ptr k off from hx))
      obtain ⟨v, h1, h2⟩ := loadT_sound hT (ha.ctx.blk hT) h
      exact done (K2 := fun _ => True) (by rw [hx, val_ptr hT]) (h1 w rfl) h2
    · rename_i b o hx
      obtain ⟨v, h1, h2⟩ := vcLoadG_sound (h w _ ha.ctx)
      exact done (K2 := fun _ => True) (by rw [hx]; rfl) (h1 trivial w rfl) h2
    · exact h.elim

theorem argS_val (L : List Tr) : ∀ (l : List Value) (i : Nat), valL L (argS i l) = argSlots i l
  | [], _ => rfl
  | v :: r, i => by simp only [argS, argSlots, valL, argS_val L r (i + 1), SV.val]

theorem vcFS_sound {P : Program} {W w : World} {H : HS} {f : FuncId} {args : Array Value} {R : List Own} {Φ : PW} [hst : Stable Φ] {J : Value → World → Prop} (h : vcFS P W H f args R Φ J) (c : Ctx W w R Φ) :
    Calls P f args w fun e w' => ∃ v, e = .returned v ∧ J v w' := by
  unfold vcFS at h
  split at h
  · rename_i fn hf
    split at h
    · rename_i code hc
      have hwf : WfS [] (⟨max fn.ntmps args.size, argS 0 args.toList⟩ : FrS) := by
        have key : ∀ (l : List Value) (i : Nat), ∀ p ∈ argS i l, ∃ v, p.2 = SV.v v := by
          intro l
          induction l with
          | nil => intro i p hp; cases hp
          | cons v r ih =>
            intro i p hp
            rcases List.mem_cons.1 hp with rfl | hp
            · exact ⟨v, rfl⟩
            · exact ih _ p hp
        intro p hp k o e
        obtain ⟨v, hv⟩ := key _ _ p hp
        rw [hv] at e; cases e
      have hfr : (⟨max fn.ntmps args.size, argS 0 args.toList⟩ : FrS).fr [] = frameOf fn args := by simp only [FrS.fr, frameOf, argS_val]
      have hat : At [] [] W (⟨max fn.ntmps args.size, argS 0 args.toList⟩ : FrS) [] R Φ { tmps := args ++ Array.replicate (fn.ntmps - args.size) undef, defers := [] } w :=
        ⟨by rw [hfr]; exact frameOf_sim fn args, hwf, by simp, by simpa [CtxS] using c, hst⟩
      refine (callsIn_wide (n := 0)).1 (callsIn_of_wp_marks (F := fenceAt none) hf hc trivial (vcS_sound (rd := none) code (fun hh => (by cases hh)) h hat ?_))
      intro e s L' R' Φ' a w' ds' G' hq htie ha _ _
      obtain ⟨Z, _, rfl, rfl⟩ := htie
      have key : (resS P W s L' R' Φ' fn.results.toList fun vs => ∀ w F, Ctx W w (R' ++ F) Φ' → J (tupled vs) w) → bodyPostM (fenceAt none) 0 P fn (fun e w' => ∃ v, e = .returned v ∧ J v w') .ret a w' := by
        intro hq
        show LeavesInM Fence.wide 0 P fn a.tmps _ a.defers .returning w'
        have := ha.st
        rw [ha.sim.defers, List.append_nil]
        refine leaves_marks (Φ := Φ') Z (R' ++ L'.map Tr.own) w' (by have := ha.ctx; rw [List.append_nil] at this; rw [List.append_assoc]; exact this) fun w2 S2 c2 => ?_
        rw [List.append_assoc] at c2
        have ha2 : At (Z.map mark ++ []) S2 W s L' R' Φ' a w2 := ⟨ha.sim, ha.wf, ha.ids, c2, ha.st⟩
        obtain ⟨vs, h1, h2⟩ := resS_sound ha2 hq
        refine ⟨tupled vs, ?_, tupled vs, rfl, h2 w2 _ c2⟩
        unfold results
        rw [Array.mapM_eq_mapM_toList, map_eq_pure_bind, Sem.run_bind, Sem.run_bind]
        have e : ∀ (r : Result (List Value)), r = .ok vs w2 → (((r.andThen fun a => (pure a.toArray : Sem (Array Value)).run P).andThen fun vs => (pure (if h : vs.size = 1 then vs[0] else Value.tuple vs) : Sem Value).run P)) = .ok (tupled vs) w2 := by
          intro r hr
          subst hr
          simp only [Result.andThen, Sem.run_pure, tupled_run]
        exact e _ h1
      cases e with
      | normal => exact key hq
      | ret => exact key hq
      | _ => exact hq.elim
    · exact h.elim
  · exact h.elim

end Go.Vc
end

