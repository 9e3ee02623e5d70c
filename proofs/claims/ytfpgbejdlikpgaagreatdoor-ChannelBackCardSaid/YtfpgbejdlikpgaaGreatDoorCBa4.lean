/-
  THE CONDITIONS OF A WALK OVER WHAT IT OWNS: a function's body.
-/
import Derived.Test.YtfpgbejdlikpgaaGreatDoorCBa3
import Derived.Test.YtfpgbejdlikpgaaGreatDoorRows

section
set_option linter.unusedVariables false
set_option linter.unusedSimpArgs false
namespace Go.Vc
variable {G : List Own}
variable {ds : List Deferred}
open Go.RowKit

structure HS where
  /-- slots whose sums may wrap; calls of function values; 0: stores of values of any kind -/
  wrap : List Nat := []
  /-- slots whose new blocks are known cell by cell -/
  track : List Nat := []
  /-- regions with guards that are walked in the text's order -/
  split : List Nat := []
  /-- regions whose calls may draw -/
  draws : List Nat := []
  /-- slots that are read outside the region that writes them -/
  keep : Option (List Nat) := none
  /-- regions whose order is drawn, and that write or call: their stages -/
  stages : List (Nat × List Sg) := []
  /-- of each loop the slots and the blocks that its rounds write -/
  loops : List (Nat × Vars × Vars) := []
  cuts : List (Nat × Vars × Vars) := []

def stageAt (k : Nat) : List (Nat × List Sg) → Option (List Sg)
  | [] => none
  | (t, l) :: r => match Nat.beq t k with | true => some l | false => stageAt k r

def hintS (k : Nat) : List (Nat × Vars × Vars) → Option (Vars × Vars)
  | [] => none
  | (t, l) :: r => match Nat.beq t k with | true => some l | false => hintS k r

def meetS (asg : List Nat) (l : Vars) (vs : List Value) (s : FrS) : FrS := ⟨s.n, cons l vs (drop s.l)⟩
where
  cons : Vars → List Value → List (Nat × SV) → List (Nat × SV)
    | (t, _) :: r, v :: vs, s => (t, .v v) :: cons r vs s
    | _, _, s => s
  drop : List (Nat × SV) → List (Nat × SV)
    | [] => []
    | (t, x) :: r => match memB t asg with | true => drop r | false => (t, x) :: drop r

def keepS (k : Option (List Nat)) (s : FrS) : FrS := match k with | none => s | some k => ⟨s.n, go k s.l⟩
where go (k : List Nat) : List (Nat × SV) → List (Nat × SV)
  | [] => []
  | (t, x) :: r => match memB t k with | true => (t, x) :: go k r | false => go k r

def tsOk (ts : Vars) (L : List Tr) : Bool := match ts with
  | [] => true
  | (k, sh) :: r => match findT k L, sh with | some _, .agg _ => tsOk r L | _, _ => false

abbrev CurI (l : Vars) : Type := Cur (List Own → PW → Nat → Prop) l
abbrev CurJ (l : Vars) : Type := Cur (List Own → PW → Prop) l

def holdsI (x : Option (List Own → PW → Nat → Prop)) (R : List Own) (Φ : PW) (n : Nat) : Prop := match x with | some I => I R Φ n | none => False
def holdsJ (x : Option (List Own → PW → Prop)) (R : List Own) (Φ : PW) : Prop := match x with | some I => I R Φ | none => False

def sameN : List Nat → List Nat → Bool
  | [], [] => true
  | a :: l, b :: m => Nat.beq a b && sameN l m
  | _, _ => false

theorem sameN_eq : ∀ {l m : List Nat}, sameN l m = true → l = m
  | [], [], _ => rfl
  | a :: l, b :: m, h => by
    simp only [sameN, Bool.and_eq_true] at h
    rw [Nat.eq_of_beq_eq_true h.1, sameN_eq h.2]
  | [], _ :: _, h => by cases h
  | _ :: _, [], h => by cases h

/-- the arguments of a round in their slots -/
def putsS : Vars → List Value → FrS → FrS
  | (t, _) :: r, v :: vs, s => putsS r vs (s.put (some t) (.v v))
  | _, _, s => s

abbrev CurA (l : Vars) : Type := Cur (Nat → Prop) l
def holdsA (x : Option (Nat → Prop)) (k : Nat) : Prop := match x with | some I => I k | none => False
/-- the arguments of the rounds have the shapes, and what is told of them -/
def FitsR (l : Vars) (A : CurA l) (xs : Nat → List Value) (N : Nat) : Prop := ∀ k, k < N → holdsA (Cur.app l A (xs k)) k
section
variable (P : Program) (W : World)

def stgBody (H : HS) (ops : Array Oper) (st : List Sg) (s : FrS) (L : List Tr) (R : List Own) (Φ : PW) (K : FrS → List Tr → List Own → PW → Prop) : Prop :=
  stgS P W (fun t => memB t H.wrap) (fun t => memB t H.track) ops st s L R Φ fun s => K (keepS H.keep s)

def quietBody (H : HS) (d : Bool) (ops : Array Oper) (s : FrS) (L : List Tr) (R : List Own) (Φ : PW) (K : FrS → List Tr → List Own → PW → Prop) : Prop :=
  ∀ w F, Ctx W w (R ++ F) Φ → qsS P (fun t => memB t H.wrap) d ops L w ops.toList [] s fun s => K (keepS H.keep s) L R Φ

def regionS (H : HS) (id : Nat) (ops : Array Oper) (draw : Bool) (s : FrS) (L : List Tr) (R : List Own) (Φ : PW) (K : FrS → List Tr → List Own → PW → Prop) : Prop :=
  match draw with
  | true => match stageAt id H.stages with
    | some st => match P.follows .mixedOrders && Region.noSelect ops && sgOk ops st (Array.replicate ops.size false) && Nat.beq (sgLen st) ops.size with
      | true => stgBody P W H ops st s L R Φ K
      | false => False
    | none => match okDraw P ops with
      | true => quietBody P W H true ops s L R Φ K
      | false => False
  | false => match guarded ops.toList && !(memB id H.split) with
    | true => quietBody P W H (memB id H.draws) ops s L R Φ K
    | false => opsS P W (fun t => memB t H.wrap) (fun t => memB t H.track) ops ops.toList s L R Φ fun s => K (keepS H.keep s)

def vcS (H : HS) : Code → (Exit → FrS → List Tr → List Own → PW → Prop) → FrS → List Tr → List Own → PW → Prop
  | .skip, Q, s, L, R, Φ => Q .normal s L R Φ
  | .region id ops draw, Q, s, L, R, Φ => regionS P W H id ops draw s L R Φ (Q .normal)
  | .seq x y, Q, s, L, R, Φ =>
    match hintS (firstReg y) H.cuts with
    | none => vcS H x (fun e s' L' R' Φ' => match e with | .normal => vcS H y Q s' L' R' Φ' | e => Q e s' L' R' Φ') s L R Φ
    | some (l, ts) =>
      match varsOk (asg x) l (s.fr L) && tsOk ts L with
      | true =>
        ∃ J : CurJ (l ++ ts), vcS H x (fun e s' L' R' Φ' => match e with
            | .normal => match knownSub (asg x) (s.fr L) (s'.fr L') && sameT ts L' L with
              | true => ∃ R1 Φ1, Stable Φ1 ∧ (∀ w F, Ctx W w (R' ++ F) Φ' → Ctx W w (R1 ++ F) Φ1) ∧ holdsJ (Cur.app (l ++ ts) J (slotsOf l (s'.fr L') ++ cellsOf ts L')) R1 Φ1
              | false => False
            | e => Q e s' L' R' Φ') s L R Φ ∧
          l.all fun vs => ts.all fun us => ∀ R' Φ', Stable Φ' → holdsJ (Cur.app (l ++ ts) J (vs ++ us)) R' Φ' → vcS H y Q (meetS (asg x) l vs s) (meetT ts us L) R' Φ'
      | false => False
  | .cond c x y, Q, s, L, R, Φ => match s.val L c with
    | .bool b => Br b (vcS H x Q s L R Φ) (vcS H y Q s L R Φ)
    | _ => False
  | .block id b, Q, s, L, R, Φ => vcS H b (fun e s' L' R' Φ' => match e with | .exit n => (match Nat.beq n id with | true => Q .normal s' L' R' Φ' | false => Q (.exit n) s' L' R' Φ') | e => Q e s' L' R' Φ') s L R Φ
  | .loop b, Q, s, L, R, Φ =>
    match hintS (firstReg b) H.loops with
    | none => False
    | some (l, ts) =>
      match varsOk (asg b) l (s.fr L) && tsOk ts L with
      | true =>
        ∃ I : CurI (l ++ ts), (∃ R1 Φ1 n1, Stable Φ1 ∧ (∀ w F, Ctx W w (R ++ F) Φ → Ctx W w (R1 ++ F) Φ1) ∧ holdsI (Cur.app (l ++ ts) I (slotsOf l (s.fr L) ++ cellsOf ts L)) R1 Φ1 n1) ∧
          l.all fun vs => ts.all fun us => ∀ R' Φ' n, Stable Φ' → holdsI (Cur.app (l ++ ts) I (vs ++ us)) R' Φ' n →
            vcS H b (fun e s' L' R'' Φ'' => match e with
              | .normal => match knownSub (asg b) (s.fr L) (s'.fr L') && sameT ts L' L with
                | true => ∃ R1 Φ1 n1, Stable Φ1 ∧ (∀ w F, Ctx W w (R'' ++ F) Φ'' → Ctx W w (R1 ++ F) Φ1) ∧ holdsI (Cur.app (l ++ ts) I (slotsOf l (s'.fr L') ++ cellsOf ts L')) R1 Φ1 n1 ∧ n1 < n
                | false => False
              | e => Q e s' L' R'' Φ'') (meetS (asg b) l vs s) (meetT ts us L) R' Φ'
      | false => False
  | .exit id, Q, s, L, R, Φ => Q (.exit id) s L R Φ
  | .ret, Q, s, L, R, Φ => Q .ret s L R Φ
  | .rangeFunc g ps x y, Q, s, L, R, Φ =>
    match s.val L g with
    | .func (.func gf) cs lb =>
      match hintS (firstReg y) H.loops with
      | none => False
      | some (l, ts) =>
        match sameN (l.map (·.1)) ps.toList && okRound x && okRound y && tsOk ts L with
        | true => cs = #[] ∧ okFun P gf = true ∧ ∃ (N : Nat) (xs : Nat → List Value) (X : World → Prop) (A : CurA l) (I : CurI ts), Iter P gf lb N (fun k => (xs k).toArray) X ∧ FitsR l A xs N ∧
            (∃ R1 Φ1, Stable Φ1 ∧ (∀ w F, Ctx W w (R ++ F) Φ → Ctx W w (R1 ++ F) Φ1) ∧ holdsI (Cur.app ts I (cellsOf ts L)) R1 Φ1 0) ∧
            ts.all fun us => ∀ R' Φ' k, Stable Φ' → holdsI (Cur.app ts I us) R' Φ' k →
              (∀ w F, Ctx W w (R' ++ F) Φ' → X w) ∧
              (k < N → l.all fun vs => holdsA (Cur.app l A vs) k → vcS H x (fun e s1 L1 R1 Φ1 => match e with
                  | .normal => vcS H y (fun e s2 L2 R2 Φ2 => match e with
                      | .normal => match sameT ts L2 L with
                        | true => ∃ R3 Φ3, Stable Φ3 ∧ (∀ w F, Ctx W w (R2 ++ F) Φ2 → Ctx W w (R3 ++ F) Φ3) ∧ holdsI (Cur.app ts I (cellsOf ts L2)) R3 Φ3 (k + 1)
                        | false => False
                      | _ => False) s1 L1 R1 Φ1
                  | _ => False) (putsS l vs s) (meetT ts us L) R' Φ') ∧
              (k = N → Q .normal s (meetT ts us L) R' Φ')
        | false => False
    | _ => False
  | _, _, _, _, _, _ => False

def resS (s : FrS) (L : List Tr) (R : List Own) (Φ : PW) : List ResultVar → (List Value → Prop) → Prop
  | [], K => K []
  | .tmp t :: r, K => match isU ((getS t s.l).val L) with
    | true => False
    | false => resS s L R Φ r fun vs => K ((getS t s.l).val L :: vs)
  | .cell a t :: r, K => match getS a s.l with
    | .ptr k off => loadT P t L k off fun v => resS s L R Φ r fun vs => K (v :: vs)
    | .v (.pointer (some ⟨b, o, none⟩)) => ∀ w F, Ctx W w (R ++ F) Φ → vcLoadG P t w none b o fun v => resS s L R Φ r fun vs => K (v :: vs)
    | .v _ => False

def bodyS (fn : Func) (J : Value → World → Prop) : Exit → FrS → List Tr → List Own → PW → Prop
  | .normal, s, L, R, Φ | .ret, s, L, R, Φ => resS P W s L R Φ fn.results.toList fun vs => ∀ w F, Ctx W w (R ++ F) Φ → J (tupled vs) w
  | _, _, _, _, _ => False

def argS : Nat → List Value → List (Nat × SV)
  | _, [] => []
  | i, v :: r => (i, .v v) :: argS (i + 1) r

def vcFS (H : HS) (f : FuncId) (args : Array Value) (R : List Own) (Φ : PW) (J : Value → World → Prop) : Prop :=
  match P.funcs[f]? with
  | some fn => match fn.body with
    | some c => vcS P W H c (bodyS P W fn J) ⟨max fn.ntmps args.size, argS 0 args.toList⟩ [] R Φ
    | none => False
  | none => False

end

/-! ### it suffices -/
theorem keepS_fr (k : Option (List Nat)) (s : FrS) (L : List Tr) : (keepS k s).fr L = (s.fr L).keep k := by
  cases k with
  | none => rfl
  | some k =>
    have key : ∀ l : List (Nat × SV), valL L (keepS.go k l) = filterL (fun t => memB t k) (valL L l) := by
      intro l
      induction l with
      | nil => rfl
      | cons p r ih =>
        obtain ⟨t, v⟩ := p
        simp only [keepS.go, valL, filterL]
        cases memB t k with
        | true => simp only [valL, ih]
        | false => exact ih
    simp only [keepS, Fr.keep, FrS.fr, key]

theorem keepS_wf {k : Option (List Nat)} {s : FrS} {L : List Tr} (h : WfS L s) : WfS L (keepS k s) := by
  cases k with
  | none => exact h
  | some k =>
    have key : ∀ l : List (Nat × SV), ∀ p ∈ keepS.go k l, p ∈ l := by
      intro l
      induction l with
      | nil => intro p hp; exact hp
      | cons q r ih =>
        obtain ⟨t, v⟩ := q
        intro p hp
        simp only [keepS.go] at hp
        cases hb : memB t k with
        | true => rw [hb] at hp; rcases List.mem_cons.1 hp with rfl | hp; simp; exact List.mem_cons_of_mem _ (ih p hp)
        | false => rw [hb] at hp; exact List.mem_cons_of_mem _ (ih p hp)
    exact fun p hp => h p (key _ p hp)

theorem At.keep {W : World} {s : FrS} {L : List Tr} {R : List Own} {Φ : PW} {a : Act} {w : World} (h : At ds G W s L R Φ a w) (k : Option (List Nat)) : At ds G W (keepS k s) L R Φ a w :=
  ⟨by rw [keepS_fr]; exact keep_sim h.sim k, keepS_wf h.wf, h.ids, h.ctx, h.st⟩

theorem meetS_fr {asg : List Nat} {l : Vars} {vs : List Value} {s : FrS} {L L1 : List Tr} (hwf : WfS L s) (hb : ∀ k T, findT k L = some T → ∃ T', findT k L1 = some T' ∧ T'.b = T.b) : (meetS asg l vs s).fr L1 = meet asg l vs (s.fr L) := by
  have key : ∀ r : List (Nat × SV), (∀ p ∈ r, ∀ k o, p.2 = SV.ptr k o → (findT k L).isSome = true) → valL L1 (meetS.drop asg r) = filterL (fun t => !memB t asg) (valL L r) := by
    intro r
    induction r with
    | nil => intro _; rfl
    | cons p r ih =>
      obtain ⟨t, v⟩ := p
      intro h
      have ih := ih fun q hq => h q (List.mem_cons_of_mem _ hq)
      simp only [meetS.drop, valL, filterL]
      cases memB t asg with
      | true => exact ih
      | false =>
        simp only [valL, Bool.not_false, ih]
        congr 2
        cases v with
        | v x => rfl
        | ptr k o =>
          obtain ⟨T, hT⟩ := Option.isSome_iff_exists.1 (h (t, .ptr k o) (by simp) k o rfl)
          obtain ⟨T', h1, h2⟩ := hb k T hT
          simp only [SV.val, hT, h1, h2]
  have key2 : ∀ (l : Vars) (vs : List Value) (r : List (Nat × SV)), valL L1 (meetS.cons l vs r) = consAll l vs (valL L1 r) := by
    intro l
    induction l with
    | nil => intro vs r; cases vs <;> rfl
    | cons p l ih =>
      obtain ⟨t, sh⟩ := p
      intro vs r
      cases vs with
      | nil => rfl
      | cons v vs => simp only [meetS.cons, consAll, valL, ih, SV.val]
  simp only [FrS.fr, meetS, meet, putAll, Fr.drop, key2, key s.l hwf]

theorem meetS_wf {asg : List Nat} {l : Vars} {vs : List Value} {s : FrS} {L L1 : List Tr} (hwf : WfS L s) (hb : ∀ k T, findT k L = some T → ∃ T', findT k L1 = some T' ∧ T'.b = T.b) : WfS L1 (meetS asg l vs s) := by
  have key : ∀ r : List (Nat × SV), ∀ p ∈ meetS.drop asg r, p ∈ r := by
    intro r
    induction r with
    | nil => intro p hp; exact hp
    | cons q r ih =>
      obtain ⟨t, v⟩ := q
      intro p hp
      simp only [meetS.drop] at hp
      cases hm : memB t asg with
      | true => rw [hm] at hp; exact List.mem_cons_of_mem _ (ih p hp)
      | false => rw [hm] at hp; rcases List.mem_cons.1 hp with rfl | hp; simp; exact List.mem_cons_of_mem _ (ih p hp)
  have key2 : ∀ (l : Vars) (vs : List Value) (r : List (Nat × SV)), ∀ p ∈ meetS.cons l vs r, p ∈ r ∨ ∃ v, p.2 = .v v := by
    intro l
    induction l with
    | nil => intro vs r p hp; cases vs <;> exact .inl hp
    | cons q l ih =>
      obtain ⟨t, sh⟩ := q
      intro vs r p hp
      cases vs with
      | nil => exact .inl hp
      | cons v vs =>
        rcases List.mem_cons.1 hp with rfl | hp
        · exact .inr ⟨v, rfl⟩
        · exact ih vs r p hp
  intro p hp k o e
  rcases key2 _ _ _ p hp with h | ⟨v, h⟩
  · obtain ⟨T, hT⟩ := Option.isSome_iff_exists.1 (hwf p (key _ p h) k o e)
    obtain ⟨T', h1, _⟩ := hb k T hT
    rw [h1]; rfl
  · rw [h] at e; cases e

theorem holdsI_some {x : Option (List Own → PW → Nat → Prop)} {R : List Own} {Φ : PW} {n : Nat} (h : holdsI x R Φ n) : ∃ I, x = some I := by
  cases x with
  | none => exact h.elim
  | some I => exact ⟨I, rfl⟩
theorem holdsJ_some {x : Option (List Own → PW → Prop)} {R : List Own} {Φ : PW} (h : holdsJ x R Φ) : ∃ I, x = some I := by
  cases x with
  | none => exact h.elim
  | some I => exact ⟨I, rfl⟩

theorem all_append {ts : Vars} {us : List Value} {ρ : Type} {x : ρ} : ∀ {l : Vars} {vs : List Value} (_ : vs.length = l.length) {K : List Value → List Value → Prop} (_ : l.all fun vs => ts.all fun us => K vs us) {f : Cur ρ (l ++ ts)} (_ : Cur.app (l ++ ts) f (vs ++ us) = some x),
    K vs us ∧ us.length = ts.length ∧ (∀ v ∈ vs, isU v = false) ∧ (∀ u ∈ us, isU u = false) := by
  intro l
  induction l with
  | nil =>
    intro vs hl K h f hx
    cases vs with
    | nil =>
      obtain ⟨h1, h2, h3⟩ := Cur.app_all hx h
      exact ⟨h1, h2, fun v hv => (by cases hv), h3⟩
    | cons v vs => simp at hl
  | cons p r ih =>
    intro vs hl K h f hx
    obtain ⟨t, s⟩ := p
    cases vs with
    | nil => simp at hl
    | cons v vs =>
      simp only [List.cons_append] at f hx
      unfold Cur.app at hx
      split at hx
      · rename_i g hg
        obtain ⟨h1, h2⟩ := Sh.app_all hg h
        obtain ⟨h3, h4, h5, h6⟩ := ih (vs := vs) (by simpa using hl) (K := fun vs us => K (v :: vs) us) h1 hx
        refine ⟨h3, h4, fun u hu => ?_, h6⟩
        rcases List.mem_cons.1 hu with rfl | hu
        · exact h2
        · exact h5 u hu
      · cases hx

theorem slotsOf_len (l : Vars) (s : Fr) : (slotsOf l s).length = l.length := by simp [slotsOf]

theorem least_ex {p : Nat → Prop} (h : ∃ n, p n) : ∃ n, p n ∧ ∀ m, p m → n ≤ m := by
  obtain ⟨n, hn⟩ := h
  induction n using Nat.strongRecOn with
  | _ n ih =>
    by_cases hx : ∃ m, m < n ∧ p m
    · obtain ⟨m, h1, h2⟩ := hx; exact ih m h1 h2
    · exact ⟨n, hn, fun m hm => by
        rcases Nat.lt_or_ge m n with h' | h'
        · exact absurd ⟨m, h', hm⟩ hx
        · exact h'⟩

theorem Cur.app_len {ρ : Type} : ∀ {l : Vars} {f : Cur ρ l} {vs : List Value} {x : ρ}, Cur.app l f vs = some x → vs.length = l.length
  | [], _, [], _, _ => rfl
  | (t, s) :: r, f, v :: vs, x, h => by
    unfold Cur.app at h
    split at h
    · simp [Cur.app_len h]
    · cases h
  | [], _, _ :: _, _, h => by cases h
  | _ :: _, _, [], _, h => by cases h

theorem enter_ok {P : Program} {f : FuncId} (h : okFun P f = true) (args : Array Value) (w : World) : (callFunc f args).run P w = .ok (.enter f args) w := by
  unfold okFun at h
  split at h
  · rename_i fn hfn
    simp only [Bool.and_eq_true, Bool.not_eq_true'] at h
    have hb' : fn.body.isNone = false := by cases hh : fn.body <;> simp_all
    simp only [callFunc, program, Sem.run, hfn, h.2, hb', Bool.false_eq_true, if_false, Sem.run_bind, Sem.run_pure, Result.andThen]
  · cases h

theorem putsS_sim {L : List Tr} : ∀ {l : Vars} {vs : List Value} {s : FrS} {a : Act}, Sim ds (s.fr L) a → WfS L s →
    Sim ds ((putsS l vs s).fr L) { tmps := ((l.map (·.1)).zip vs).foldl (fun t p => t.setIfInBounds p.1 p.2) a.tmps, defers := a.defers } ∧ WfS L (putsS l vs s)
  | (t, sh) :: r, v :: vs, s, a, h, hw => by
    have h2 : Sim ds ((s.put (some t) (.v v)).fr L) (a.put (some t) v) := by rw [fr_put]; exact h.put _ (fun _ => rfl)
    have := putsS_sim (l := r) (vs := vs) h2 (hw.put fun k o e => (by cases e))
    simpa [putsS, Act.put] using this
  | [], vs, s, a, h, hw => by
    simp only [putsS, List.map_nil, List.zip_nil_left, List.foldl_nil]
    exact ⟨h, hw⟩
  | _ :: _, [], s, a, h, hw => by
    simp only [putsS, List.zip_nil_right, List.foldl_nil]
    exact ⟨h, hw⟩

theorem vcS_sound {P : Program} {W : World} {H : HS} : ∀ (c : Code) {rd : Option Nat} {Q' : Exit → FrS → List Tr → List Own → PW → Prop} {Q : Exit → Act → World → Prop} {s : FrS} {L : List Tr} {R : List Own} {Φ : PW} {a : Act} {w : World} {ds : List Deferred} {G : List Own},
    (rd.isSome = true → okRound c = true) → vcS P W H c Q' s L R Φ → At ds G W s L R Φ a w → (∀ e s' L' R' Φ' a' w' ds' G', Q' e s' L' R' Φ' → Tie rd ds G ds' G' → At ds' G' W s' L' R' Φ' a' w' → Ext L L' → Unch (fun t => t ∈ asg c) (s.fr L) (s'.fr L') → Q e a' w') → c.wpIn (fenceAt rd) 0 P Q a w := by
  intro c
  induction c with
  | skip => intro rd Q' Q s L R Φ a w ds G hrd h ha hQ; exact wpIn_skip (hQ _ _ _ _ _ _ _ _ _ h (Tie.refl _ _ _) ha (Ext.refl _) (Unch.refl _ _))
  | region id ops draw =>
    intro rd Q' Q s L R Φ a w ds G hrd h ha hQ
    have hD : ∀ o ∈ ops.toList, ∀ t, o.dst = some t → t ∈ dsts ops.toList := fun o ho t ht => List.mem_filterMap.2 ⟨o, ho, ht⟩
    have hD' : ∀ (j : Nat) (o : Oper) (t : Nat), ops[j]? = some o → o.dst = some t → t ∈ dsts ops.toList := fun j o t ho ht => hD o (by simpa using Array.mem_of_getElem? ho) t ht
    have hQ' : ∀ s' L' R' Φ' a' w', Q' .normal (keepS H.keep s') L' R' Φ' → At ds G W s' L' R' Φ' a' w' → Ext L L' → Unch (fun t => t ∈ dsts ops.toList) (s.fr L) (s'.fr L') → Q .normal a' w' := by
      intro s' L' R' Φ' a' w' hk ha' he hu
      exact hQ _ _ _ _ _ _ _ _ _ hk (Tie.refl _ _ _) (ha'.keep _) he (by rw [keepS_fr]; exact keep_unch hu _)
    have quiet : ∀ (d : Bool), (∀ w F, Ctx W w (R ++ F) Φ → qsS P (fun t => memB t H.wrap) d ops L w ops.toList [] s fun s => Q' .normal (keepS H.keep s) L R Φ) → wpQuiet P ops (Cls d w) (fun a' => ∀ w', Cls d w w' → Q .normal a' w') ops.toList a := by
      intro d h
      refine qsS_sound (D := fun t => t ∈ dsts ops.toList) (s0 := s.fr L) ha.st ha.ids ha.ctx (fun s' a' hk hs' hwf' hu' w' hw' => ?_) _ _ _ _ hD (fun e he => (by cases he)) (h w _ ha.ctx) (Rel.start ha.sim) ha.wf (Unch.refl _ _)
      have hc' : CtxS G W w' L R Φ := by
        have := ha.st
        cases d with
        | false => cases hw'; exact ha.ctx
        | true => obtain ⟨n, rfl⟩ := hw'; exact Ctx.draw ha.ctx n
      exact hQ' s' L R Φ a' w' hk ⟨hs', hwf', ha.ids, hc', ha.st⟩ (Ext.refl _) hu'
    simp only [vcS, regionS, stgBody, quietBody] at h
    cases draw with
    | true =>
      simp only at h
      split at h
      · rename_i st _
        split at h
        · rename_i hc
          simp only [Bool.and_eq_true, Nat.beq_eq] at hc
          obtain ⟨⟨⟨h1, h2⟩, h3⟩, h4⟩ := hc
          have := ha.st
          refine reg_any (fun hh => hrd hh) h1 ?_
          have h7 := stgS_sound (Q := onlyQ Q) (L0 := L) (s0 := s.fr L) (D := fun t => t ∈ dsts ops.toList) h2 hD' (fun s' L' R' Φ' a' w' hk ha' he hu => hQ' s' L' R' Φ' a' w' hk ha' he hu) st _ _ _ _ _ _ (w.drewN 1) h3 h ⟨ha.sim, ha.wf, ha.ids, Ctx.draw ha.ctx 1, ha.st⟩ (Ext.refl _) (Unch.refl _ _)
          rw [h4] at h7
          exact h7
        · exact h.elim
      · split at h
        · rename_i hc
          simp only [okDraw, Bool.and_eq_true] at hc
          have h1 := quiet true h
          exact reg_quiet (fun hh => hrd hh) hc.1 hc.2 (by
            have e : Cls true w = fun w' => ∃ n, w' = w.drewN n := rfl
            rw [e] at h1
            exact h1)
        · exact h.elim
    | false =>
      simp only at h
      split at h
      · have h1 := quiet (memB id H.draws) h
        refine reg_list (fun hh => hrd hh) ?_
        exact wpList_of_quiet (Q := onlyQ Q) (C := Cls (memB id H.draws) w) (Qa := fun a' => ∀ w', Cls (memB id H.draws) w w' → Q .normal a' w') (fun a' w' hw' hq => hq w' hw') _ _ _ (by cases memB id H.draws; rfl; exact ⟨0, rfl⟩) h1
      · refine reg_list (fun hh => hrd hh) ?_
        exact opsS_sound (Q := onlyQ Q) (D := fun t => t ∈ dsts ops.toList) (s0 := s.fr L) (L0 := L) hD' (fun s' L' R' Φ' a' w' hk ha' he hu => hQ' s' L' R' Φ' a' w' hk ha' he hu) _ _ _ _ _ _ _ hD h ha (Ext.refl _) (Unch.refl _ _)
  | seq x y ihx ihy =>
    intro rd Q' Q s L R Φ a w ds G hrd h ha hQ
    simp only [vcS] at h
    have hrx : rd.isSome = true → okRound x = true ∧ okRound y = true := fun hh => by have := hrd hh; simpa only [okRound, Bool.and_eq_true] using this
    refine wpIn_seq ?_
    split at h
    · refine ihx (fun hh => (hrx hh).1) h ha ?_
      intro e s' L' R' Φ' a' w' ds1 G1 hq htie ha' he hu
      have hu' : Unch (fun t => t ∈ asg (.seq x y)) (s.fr L) (s'.fr L') := hu.mono fun i hi => List.mem_append.2 (.inl hi)
      cases e with
      | normal =>
        simp only [Exit.then]
        refine ihy (fun hh => (hrx hh).2) hq ha' fun e s'' L'' R'' Φ'' a'' w'' ds2 G2 hq' htie' ha'' he' hu'' => hQ _ _ _ _ _ _ _ _ _ hq' (htie.trans htie') ha'' (he.trans he') ?_
        exact hu'.trans (hu''.mono fun i hi => List.mem_append.2 (.inr hi))
      | exit n => exact hQ _ _ _ _ _ _ _ _ _ hq htie ha' he hu'
      | goto n => exact hQ _ _ _ _ _ _ _ _ _ hq htie ha' he hu'
      | ret => exact hQ _ _ _ _ _ _ _ _ _ hq htie ha' he hu'
      | panic n => exact hQ _ _ _ _ _ _ _ _ _ hq htie ha' he hu'
      | outgrown => exact hQ _ _ _ _ _ _ _ _ _ hq htie ha' he hu'
    · rename_i l ts hl
      split at h
      · rename_i hok
        simp only [Bool.and_eq_true] at hok
        obtain ⟨hv, hn⟩ := varsOk_spec hok.1
        obtain ⟨J, h1, h2⟩ := h
        refine ihx (fun hh => (hrx hh).1) h1 ha ?_
        intro e s' L' R' Φ' a' w' ds1 G1 hq htie ha' he hu
        have hu' : Unch (fun t => t ∈ asg (.seq x y)) (s.fr L) (s'.fr L') := hu.mono fun i hi => List.mem_append.2 (.inl hi)
        cases e with
        | normal =>
          simp only [Exit.then]
          simp only at hq
          split at hq
          · rename_i hsub
            simp only [Bool.and_eq_true] at hsub
            obtain ⟨R1, Φ1, hst1, hw1, hj⟩ := hq
            obtain ⟨I, hI⟩ := holdsJ_some hj
            obtain ⟨h3, _, hk, _⟩ := all_append (slotsOf_len l _) h2 hI
            have hme := meetT_ext ts (cellsOf ts L') L
            have hb : ∀ k T, findT k L = some T → ∃ T', findT k (meetT ts (cellsOf ts L') L) = some T' ∧ T'.b = T.b := fun k T hT => by obtain ⟨T', q1, q2, _⟩ := hme.old k T hT; exact ⟨T', q1, q2⟩
            have hsim := meet_sim (s := s.fr L) ha'.sim hu (fun i => knownAll_spec hsub.1) rfl hk
            have ham : At ds1 G1 W (meetS (asg x) l (slotsOf l (s'.fr L')) s) (meetT ts (cellsOf ts L') L) R1 Φ1 a' w' :=
              ⟨by rw [meetS_fr ha.wf hb]; exact hsim, meetS_wf ha.wf hb, hme.ids ha.ids, hw1 w' _ (CtxS.meet ha'.st ha'.ctx he ha.ids hsub.2), hst1⟩
            refine ihy (fun hh => (hrx hh).2) (h3 R1 Φ1 hst1 hj) ham fun e s'' L'' R'' Φ'' a'' w'' ds2 G2 hq' htie' ha'' he' hu'' => hQ _ _ _ _ _ _ _ _ _ hq' (htie.trans htie') ha'' (hme.trans he') ?_
            refine Unch.trans (b := (meetS (asg x) l (slotsOf l (s'.fr L')) s).fr (meetT ts (cellsOf ts L') L)) ?_ (hu''.mono fun i hi => List.mem_append.2 (.inr hi))
            rw [meetS_fr ha.wf hb]
            exact meet_unch (fun v hv' => List.mem_append.2 (.inl (hv v hv').1))
          · exact hq.elim
        | exit n => exact hQ _ _ _ _ _ _ _ _ _ hq htie ha' he hu'
        | goto n => exact hQ _ _ _ _ _ _ _ _ _ hq htie ha' he hu'
        | ret => exact hQ _ _ _ _ _ _ _ _ _ hq htie ha' he hu'
        | panic n => exact hQ _ _ _ _ _ _ _ _ _ hq htie ha' he hu'
        | outgrown => exact hQ _ _ _ _ _ _ _ _ _ hq htie ha' he hu'
      · exact h.elim
  | cond c x y ihx ihy =>
    intro rd Q' Q s L R Φ a w ds G hrd h ha hQ
    simp only [vcS] at h
    split at h
    · rename_i b hb
      have hc : a.eval c = .bool b := by rw [ha.sim.eval (by rw [fr_eval, hb]; rfl), fr_eval, hb]
      cases b with
      | true => exact wpIn_cond_true hc (ihx (fun hh => by have := hrd hh; simp only [okRound, Bool.and_eq_true] at this; exact this.1) h ha fun e s' L' R' Φ' a' w' ds1 G1 hq htie ha' he hu => hQ _ _ _ _ _ _ _ _ _ hq htie ha' he (hu.mono fun i hi => List.mem_append.2 (.inl hi)))
      | false => exact wpIn_cond_false hc (ihy (fun hh => by have := hrd hh; simp only [okRound, Bool.and_eq_true] at this; exact this.2) h ha fun e s' L' R' Φ' a' w' ds1 G1 hq htie ha' he hu => hQ _ _ _ _ _ _ _ _ _ hq htie ha' he (hu.mono fun i hi => List.mem_append.2 (.inr hi)))
    · exact h.elim
  | block id b ih =>
    intro rd Q' Q s L R Φ a w ds G hrd h ha hQ
    simp only [vcS] at h
    refine wpIn_block (ih (fun hh => hrd hh) h ha ?_)
    intro e s' L' R' Φ' a' w' ds1 G1 hq htie ha' he hu
    cases e with
    | exit n =>
      simp only [Exit.inBlock]
      simp only at hq
      split at hq
      · rename_i e; rw [if_pos (Nat.eq_of_beq_eq_true e)]; exact hQ _ _ _ _ _ _ _ _ _ hq htie ha' he hu
      · rename_i e; rw [if_neg (Nat.ne_of_beq_eq_false e)]; exact hQ _ _ _ _ _ _ _ _ _ hq htie ha' he hu
    | normal => exact hQ _ _ _ _ _ _ _ _ _ hq htie ha' he hu
    | goto n => exact hQ _ _ _ _ _ _ _ _ _ hq htie ha' he hu
    | ret => exact hQ _ _ _ _ _ _ _ _ _ hq htie ha' he hu
    | panic n => exact hQ _ _ _ _ _ _ _ _ _ hq htie ha' he hu
    | outgrown => exact hQ _ _ _ _ _ _ _ _ _ hq htie ha' he hu
  | loop b ih =>
    intro rd Q' Q s L R Φ a w ds G hrd h ha hQ
    simp only [vcS] at h
    split at h
    · exact h.elim
    · rename_i l ts hl
      split at h
      · rename_i hok
        simp only [Bool.and_eq_true] at hok
        obtain ⟨hv, hn⟩ := varsOk_spec hok.1
        obtain ⟨I, ⟨R0, Φ0, n0, hst0, hw0, h0⟩, h1⟩ := h
        -- the relation, with a measure
        let Rel := fun (n : Nat) (a' : Act) (w' : World) => ∃ ds1 G1 vs us R' Φ', Tie rd ds G ds1 G1 ∧ vs.length = l.length ∧ Stable Φ' ∧ holdsI (Cur.app (l ++ ts) I (vs ++ us)) R' Φ' n ∧ Sim ds1 (meet (asg b) l vs (s.fr L)) a' ∧ CtxS G1 W w' (meetT ts us L) R' Φ'
        have hst := ha.st
        have start : Rel n0 a w := by
          obtain ⟨I', hI'⟩ := holdsI_some h0
          obtain ⟨_, _, hk, _⟩ := all_append (slotsOf_len l _) h1 hI'
          have hm := meet_sim (s := s.fr L) ha.sim (Unch.refl _ _) (fun i => knownSub_refl) rfl hk (asg := asg b) (l := l)
          refine ⟨_, _, _, _, R0, Φ0, Tie.refl _ _ _, slotsOf_len l _, hst0, h0, hm, ?_⟩
          -- the blocks as they are
          have hss : sameT ts L L = true := by
            have key : ∀ M : List Tr, (∀ T ∈ M, T ∈ L) → sameT ts L M = true := by
              intro M
              induction M with
              | nil => intro _; rfl
              | cons T r ihr =>
                intro hM
                unfold sameT
                cases memB T.id (ts.map (·.1)) with
                | true => exact ihr fun U hU => hM U (List.mem_cons_of_mem _ hU)
                | false =>
                  rw [findT_mem ha.ids (hM T (by simp))]
                  simp only [show Nat.beq T.ver T.ver = true by simp]
                  exact ihr fun U hU => hM U (List.mem_cons_of_mem _ hU)
            exact key L fun _ h => h
          exact CtxS.meet hst0 (hw0 w _ ha.ctx) (Ext.refl L) ha.ids hss
        let least := fun (a' : Act) (w' : World) (n : Nat) => Rel n a' w' ∧ ∀ m, Rel m a' w' → n ≤ m
        let mu := fun (a' : Act) (w' : World) => @dite _ (∃ n, least a' w' n) (Classical.propDecidable _) (fun hx => Classical.choose hx) (fun _ => 0)
        have hmu : ∀ a' w' n, Rel n a' w' → ∃ k, least a' w' k ∧ mu a' w' = k ∧ k ≤ n := by
          intro a' w' n hn
          have hx : ∃ k, least a' w' k := least_ex ⟨n, hn⟩
          refine ⟨Classical.choose hx, Classical.choose_spec hx, ?_, (Classical.choose_spec hx).2 n hn⟩
          show @dite _ (∃ n, least a' w' n) (Classical.propDecidable _) (fun hx => Classical.choose hx) (fun _ => 0) = _
          rw [dif_pos hx]
        refine wpIn_loop (fun a' w' => ∃ n, Rel n a' w') mu ⟨n0, start⟩ ?_
        rintro a1 w1 ⟨n1, hn1⟩
        obtain ⟨n, ⟨⟨ds1, G1, vs, us, R', Φ', htie1, hlen, hst1, hI, hs1, hc1⟩, _⟩, hmu1, _⟩ := hmu a1 w1 n1 hn1
        rw [hmu1]
        obtain ⟨I', hI'⟩ := holdsI_some hI
        obtain ⟨h2, hlu, hk, hku⟩ := all_append hlen h1 hI'
        have hme := meetT_ext ts us L
        have hb : ∀ k T, findT k L = some T → ∃ T', findT k (meetT ts us L) = some T' ∧ T'.b = T.b := fun k T hT => by obtain ⟨T', q1, q2, _⟩ := hme.old k T hT; exact ⟨T', q1, q2⟩
        have ham : At ds1 G1 W (meetS (asg b) l vs s) (meetT ts us L) R' Φ' a1 w1 := ⟨by rw [meetS_fr ha.wf hb]; exact hs1, meetS_wf ha.wf hb, hme.ids ha.ids, hc1, hst1⟩
        refine ih (fun hh => hrd hh) (h2 R' Φ' n hst1 hI) ham ?_
        intro e s' L' R'' Φ'' a' w' ds2 G2 hq htie2 ha' he hu
        have htie := htie1.trans htie2
        rw [meetS_fr ha.wf hb] at hu
        have hu' : Unch (fun t => t ∈ asg b) (s.fr L) (s'.fr L') := Unch.trans (meet_unch (fun v hv' => (hv v hv').1)) hu
        have he' : Ext L L' := hme.trans he
        cases e with
        | normal =>
          simp only [Exit.then]
          simp only at hq
          split at hq
          · rename_i hsub
            simp only [Bool.and_eq_true] at hsub
            obtain ⟨R2, Φ2, n2, hst2, hw2, hj, hlt⟩ := hq
            obtain ⟨I2, hI2⟩ := holdsI_some hj
            obtain ⟨_, _, hk2, _⟩ := all_append (slotsOf_len l _) h1 hI2
            have hsim := meet_sim (s := s.fr L) ha'.sim hu' (fun i => knownAll_spec hsub.1) rfl hk2
            have hrel : Rel n2 a' w' := ⟨_, _, _, _, R2, Φ2, htie, slotsOf_len l _, hst2, hj, hsim, hw2 w' _ (CtxS.meet ha'.st ha'.ctx he' ha.ids hsub.2)⟩
            obtain ⟨k, _, hmk, hkn⟩ := hmu a' w' n2 hrel
            exact ⟨⟨n2, hrel⟩, by rw [hmk]; omega⟩
          · exact hq.elim
        | exit n => exact hQ _ _ _ _ _ _ _ _ _ hq htie ha' he' hu'
        | goto n => exact hQ _ _ _ _ _ _ _ _ _ hq htie ha' he' hu'
        | ret => exact hQ _ _ _ _ _ _ _ _ _ hq htie ha' he' hu'
        | panic n => exact hQ _ _ _ _ _ _ _ _ _ hq htie ha' he' hu'
        | outgrown => exact hQ _ _ _ _ _ _ _ _ _ hq htie ha' he' hu'
      · exact h.elim
  | exit id => intro rd Q' Q s L R Φ a w ds G hrd h ha hQ; exact wpIn_exit (hQ _ _ _ _ _ _ _ _ _ h (Tie.refl _ _ _) ha (Ext.refl _) (Unch.refl _ _))
  | ret => intro rd Q' Q s L R Φ a w ds G hrd h ha hQ; exact wpIn_ret (hQ _ _ _ _ _ _ _ _ _ h (Tie.refl _ _ _) ha (Ext.refl _) (Unch.refl _ _))
  | rangeFunc g ps x y ihx ihy =>
    intro rd Q' Q s L R Φ a w ds G hrd h ha hQ
    cases rd with
    | some l => have := hrd rfl; cases this
    | none =>
    simp only [vcS] at h
    split at h
    · rename_i gf cs lb hg
      split at h
      · exact h.elim
      · rename_i l ts hl
        split at h
        · rename_i hok
          simp only [Bool.and_eq_true] at hok
          obtain ⟨⟨⟨hps, hrx⟩, hry⟩, hts⟩ := hok
          obtain ⟨hcs, hfn, N, xs, X, A, I, hit, hfit, ⟨R0, Φ0, hst0, hw0, h0⟩, h1⟩ := h
          subst hcs
          have hge : a.eval g = .func (.func gf) #[] lb := by rw [ha.sim.eval (by rw [fr_eval, hg]; rfl), fr_eval, hg]
          have hme : ∀ us, Ext L (meetT ts us L) := fun us => meetT_ext ts us L
          have hpl := sameN_eq hps
          have hst := ha.st
          have hss : sameT ts L L = true := by
            have key : ∀ M : List Tr, (∀ T ∈ M, T ∈ L) → sameT ts L M = true := by
              intro M
              induction M with
              | nil => intro _; rfl
              | cons T r ihr =>
                intro hM
                unfold sameT
                cases memB T.id (ts.map (·.1)) with
                | true => exact ihr fun U hU => hM U (List.mem_cons_of_mem _ hU)
                | false =>
                  rw [findT_mem ha.ids (hM T (by simp))]
                  simp only [show Nat.beq T.ver T.ver = true by simp]
                  exact ihr fun U hU => hM U (List.mem_cons_of_mem _ hU)
            exact key L fun _ h => h
          let Inv := fun (k : Nat) (Gx : List Own) (w1 : World) => ∃ us R' Φ', Stable Φ' ∧ holdsI (Cur.app ts I us) R' Φ' k ∧ CtxS Gx W w1 (meetT ts us L) R' Φ'
          have fits : ∀ k, k < N → ∃ A', Cur.app l A (xs k) = some A' := fun k hk => by
            have := hfit k hk
            unfold holdsA at this
            split at this
            · rename_i A' e; exact ⟨A', e⟩
            · exact this.elim
          have len : ∀ k, k < N → (xs k).length = l.length := fun k hk => by
            obtain ⟨A', e⟩ := fits k hk
            exact Cur.app_len e
          refine wp_range (W := W) (G := G) hge (enter_ok hfn) hit (fun k hk => by rw [List.size_toArray, len k hk, ← Array.length_toList, ← hpl, List.length_map]) Inv ?_ ?_ ?_ ?_ ?_
          · rintro k Gx w1 ⟨us, R', Φ', hs, hi, c⟩
            refine ⟨R' ++ (meetT ts us L).map Tr.own, Φ', hs, by rw [List.append_assoc]; exact c, fun w2 Gy c2 => ⟨us, R', Φ', hs, hi, by rw [List.append_assoc] at c2; exact c2⟩⟩
          · rintro k Gx w1 ⟨us, R', Φ', hs, hi, c⟩
            obtain ⟨I', hI'⟩ := holdsI_some hi
            exact ((Cur.app_all hI' h1).1 R' Φ' k hs hi).1 _ _ c
          · exact ⟨_, R0, Φ0, hst0, h0, CtxS.meet hst0 (hw0 w _ ha.ctx) (Ext.refl L) ha.ids hss⟩
          · rintro lp k Gx w1 hk ⟨us, R', Φ', hs, hi, c⟩
            obtain ⟨I', hI'⟩ := holdsI_some hi
            obtain ⟨A', hA'⟩ := fits k hk
            have h2 := ((Cur.app_all hI' h1).1 R' Φ' k hs hi).2.1 hk
            have h3 := (Cur.app_all hA' h2).1 (hfit k hk)
            have ham : At [] Gx W (putsS l (xs k) s) (meetT ts us L) R' Φ' { tmps := (ps.zip (xs k).toArray).foldl (fun t (p, v) => t.setIfInBounds p v) a.tmps, defers := [] } w1 := by
              obtain ⟨q1, q2⟩ := putsS_sim (L := meetT ts us L) (l := l) (vs := xs k) (s := s) (a := { a with defers := [] }) ⟨rfl, (by rw [ha.wf.fr (hme us)]; exact ha.sim.size), fun i hi => (by rw [ha.wf.fr (hme us)] at hi ⊢; exact ha.sim.slot i hi)⟩ (ha.wf.ext (hme us))
              refine ⟨?_, q2, (hme us).ids ha.ids, c, hs⟩
              rw [hpl] at q1
              rw [← Array.foldl_toList, Array.toList_zip]
              exact q1
            refine ihx (rd := some lp) (fun _ => hrx) h3 ham ?_
            intro e s1 L1 R1 Φ1 a1 w2 ds1 G1 hq htie ha1 he1 _
            cases e with
            | normal =>
              obtain ⟨Z, hZ, rfl, rfl⟩ := htie
              have hZ := hZ rfl
              subst hZ
              refine ⟨R1 ++ L1.map Tr.own, Φ1, ha1.st, by rw [List.append_assoc]; exact ha1.ctx, fun w3 Gx3 c3 => ?_⟩
              have ha3 : At [] Gx3 W s1 L1 R1 Φ1 a1 w3 := ⟨ha1.sim, ha1.wf, ha1.ids, by rw [List.append_assoc] at c3; exact c3, ha1.st⟩
              refine ihy (rd := some lp) (fun _ => hry) hq ha3 ?_
              intro e s2 L2 R2 Φ2 a2 w4 ds2 G2 hq2 htie2 ha2 he2 _
              cases e with
              | normal =>
                obtain ⟨Z, hZ, rfl, rfl⟩ := htie2
                have hZ := hZ rfl
                subst hZ
                simp only at hq2
                split at hq2
                · rename_i hsub
                  obtain ⟨R3, Φ3, hst3, hw3, hj⟩ := hq2
                  exact ⟨rfl, _, R3, Φ3, hst3, hj, hw3 w4 _ (CtxS.meet ha2.st ha2.ctx (((hme us).trans he1).trans he2) ha.ids hsub)⟩
                · exact hq2.elim
              | _ => exact hq2.elim
            | _ => exact hq.elim
          · rintro D w' ⟨us, R', Φ', hs, hi, c⟩
            obtain ⟨I', hI'⟩ := holdsI_some hi
            have h2 := ((Cur.app_all hI' h1).1 R' Φ' N hs hi).2.2 rfl
            refine hQ _ _ _ _ _ _ _ (mark D :: ds) (markO D :: G) h2 ⟨[D], fun hh => (by cases hh), rfl, rfl⟩ ⟨?_, ha.wf.ext (hme us), (hme us).ids ha.ids, c, hs⟩ (hme us) (by rw [ha.wf.fr (hme us)]; exact Unch.refl _ _)
            rw [ha.wf.fr (hme us)]
            exact ⟨by simp [ha.sim.defers], ha.sim.size, ha.sim.slot⟩
        · exact h.elim
    · exact h.elim
  | scope b => intro rd Q' Q s L R Φ a w ds G hrd h; exact h.elim
  | label l => intro rd Q' Q s L R Φ a w ds G hrd h; exact h.elim
  | goto l => intro rd Q' Q s L R Φ a w ds G hrd h; exact h.elim
  | refuse why => intro rd Q' Q s L R Φ a w ds G hrd h; exact h.elim

theorem resS_sound {P : Program} {W : World} {s : FrS} {L : List Tr} {R : List Own} {Φ : PW} {a : Act} {w : World} (ha : At ds G W s L R Φ a w) : ∀ {l : List ResultVar} {K : List Value → Prop}, resS P W s L R Φ l K →
    ∃ vs, (l.mapM fun r => (match r with | .tmp t => pure (a.tmps.getD t undef) | .cell x t => (do loadVar t (← asAddr (a.tmps.getD x undef)) : Sem Value) : Sem Value)).run P w = .ok vs w ∧ K vs
  | [], K, h => ⟨[], by simp, h⟩
  | .tmp t :: r, K, h => by
    unfold resS at h
    split at h
    · exact h.elim
    · rename_i hu
      obtain ⟨vs, h1, h2⟩ := resS_sound ha h
      refine ⟨_, ?_, h2⟩
      have e : (s.fr L).get t = (getS t s.l).val L := getL_val L t s.l
      rw [List.mapM_cons]
      simp only [Sem.run_bind, Sem.run_pure, Result.andThen, h1, ha.sim.slot t (by rw [e]; exact hu), e]
  | .cell x t :: r, K, h => by
    unfold resS at h
    have e : (s.fr L).get x = (getS x s.l).val L := getL_val L x s.l
    have done : ∀ {b o : Nat} {K2 : Value → Prop} {v : Value}, (getS x s.l).val L = .pointer (some ⟨b, o, none⟩) → (loadVar t ⟨b, o, none⟩).run P w = .ok v w → (resS P W s L R Φ r fun vs => K (v :: vs)) →
        ∃ vs, (((ResultVar.cell x t) :: r).mapM fun r => (match r with | .tmp t => pure (a.tmps.getD t undef) | .cell x t => (do loadVar t (← asAddr (a.tmps.getD x undef)) : Sem Value) : Sem Value)).run P w = .ok vs w ∧ K vs := by
      intro b o K2 v hv hl hk
      obtain ⟨vs, h3, h4⟩ := resS_sound ha hk
      refine ⟨_, ?_, h4⟩
      rw [List.mapM_cons]
      have hx' : a.tmps.getD x undef = .pointer (some ⟨b, o, none⟩) := by rw [ha.sim.slot x (by rw [e, hv]; rfl), e, hv]
      have hra : (asAddr (a.tmps.getD x undef)).run P w = .ok ⟨b, o, none⟩ w := by rw [hx']; rfl
      simp only [Sem.run_bind, Sem.run_pure, Result.andThen, hra, hl, h3]
    split at h
    · rename_i k off hx
      have hw := ha.wf
      obtain ⟨T, hT⟩ := Option.isSome_iff_exists.1 (WfS.ev (x := .tmp x) hw (show s.ev (.tmp x) = .ptr k off from hx))
      obtain ⟨v, h1, h2⟩ := loadT_sound hT (ha.ctx.blk hT) h
      exact done (K2 := fun _ => True) (by rw [hx, val_ptr hT]) (h1 w rfl) h2
    · rename_i b o hx
      obtain ⟨v, h1, h2⟩ := vcLoadG_sound (h w _ ha.ctx)
      exact done (K2 := fun _ => True) (by rw [hx]; rfl) (h1 trivial w rfl) h2
    · exact h.elim

theorem argS_val (L : List Tr) : ∀ (l : List Value) (i : Nat), valL L (argS i l) = argSlots i l
  | [], _ => rfl
  | v :: r, i => by simp only [argS, argSlots, valL, argS_val L r (i + 1), SV.val]

theorem vcFS_sound {P : Program} {W w : World} {H : HS} {f : FuncId} {args : Array Value} {R : List Own} {Φ : PW} [hst : Stable Φ] {J : Value → World → Prop} (h : vcFS P W H f args R Φ J) (c : Ctx W w R Φ) :
    Calls P f args w fun e w' => ∃ v, e = .returned v ∧ J v w' := by
  unfold vcFS at h
  split at h
  · rename_i fn hf
    split at h
    · rename_i code hc
      have hwf : WfS [] (⟨max fn.ntmps args.size, argS 0 args.toList⟩ : FrS) := by
        have key : ∀ (l : List Value) (i : Nat), ∀ p ∈ argS i l, ∃ v, p.2 = SV.v v := by
          intro l
          induction l with
          | nil => intro i p hp; cases hp
          | cons v r ih =>
            intro i p hp
            rcases List.mem_cons.1 hp with rfl | hp
            · exact ⟨v, rfl⟩
            · exact ih _ p hp
        intro p hp k o e
        obtain ⟨v, hv⟩ := key _ _ p hp
        rw [hv] at e; cases e
      have hfr : (⟨max fn.ntmps args.size, argS 0 args.toList⟩ : FrS).fr [] = frameOf fn args := by simp only [FrS.fr, frameOf, argS_val]
      have hat : At [] [] W (⟨max fn.ntmps args.size, argS 0 args.toList⟩ : FrS) [] R Φ { tmps := args ++ Array.replicate (fn.ntmps - args.size) undef, defers := [] } w :=
        ⟨by rw [hfr]; exact frameOf_sim fn args, hwf, by simp, by simpa [CtxS] using c, hst⟩
      refine (callsIn_wide (n := 0)).1 (callsIn_of_wp_marks (F := fenceAt none) hf hc trivial (vcS_sound (rd := none) code (fun hh => (by cases hh)) h hat ?_))
      intro e s L' R' Φ' a w' ds' G' hq htie ha _ _
      obtain ⟨Z, _, rfl, rfl⟩ := htie
      have key : (resS P W s L' R' Φ' fn.results.toList fun vs => ∀ w F, Ctx W w (R' ++ F) Φ' → J (tupled vs) w) → bodyPostM (fenceAt none) 0 P fn (fun e w' => ∃ v, e = .returned v ∧ J v w') .ret a w' := by
        intro hq
        show LeavesInM Fence.wide 0 P fn a.tmps _ a.defers .returning w'
        have := ha.st
        rw [ha.sim.defers, List.append_nil]
        refine leaves_marks (Φ := Φ') Z (R' ++ L'.map Tr.own) w' (by have := ha.ctx; rw [List.append_nil] at this; rw [List.append_assoc]; exact this) fun w2 S2 c2 => ?_
        rw [List.append_assoc] at c2
        have ha2 : At (Z.map mark ++ []) S2 W s L' R' Φ' a w2 := ⟨ha.sim, ha.wf, ha.ids, c2, ha.st⟩
        obtain ⟨vs, h1, h2⟩ := resS_sound ha2 hq
        refine ⟨tupled vs, ?_, tupled vs, rfl, h2 w2 _ c2⟩
        unfold results
        rw [Array.mapM_eq_mapM_toList, map_eq_pure_bind, Sem.run_bind, Sem.run_bind]
        have e : ∀ (r : Result (List Value)), r = .ok vs w2 → (((r.andThen fun a => (pure a.toArray : Sem (Array Value)).run P).andThen fun vs => (pure (if h : vs.size = 1 then vs[0] else Value.tuple vs) : Sem Value).run P)) = .ok (tupled vs) w2 := by
          intro r hr
          subst hr
          simp only [Result.andThen, Sem.run_pure, tupled_run]
        exact e _ h1
      cases e with
      | normal => exact key hq
      | ret => exact key hq
      | _ => exact hq.elim
    · exact h.elim
  · exact h.elim

end Go.Vc
end

/-
  The conditions of the walks of some functions, one formula each; 'B<f>_run' says that they suffice. The formulas are printed by a program; the kernel compares them with the functions' code.
-/
section
namespace Go.Proofs.YtfpgbejdlikpgaaGreatDoor
set_option linter.unusedVariables false
set_option linter.unusedSimpArgs false
set_option maxRecDepth 100000
open Go.Vc

abbrev F.erratalaw36_ChannelBack : Nat := 4
abbrev F.erratalaw36_small : Nat := 5
abbrev F.channel_New : Nat := 6
abbrev F.erratalaw36_few : Nat := 8
abbrev F.erratalaw36_right : Nat := 9
abbrev F.channel_Channel_Take : Nat := 10
abbrev F.channel_Channel_Send : Nat := 14
abbrev F.channel_Right : Nat := 16
abbrev F.errataref36_Right : Nat := 17
abbrev F.channel_Channel_Len : Nat := 18
abbrev F.channel_Channel_Free : Nat := 19
abbrev F.channel_Channel_Sent : Nat := 20
abbrev F.errataref36_SameList : Nat := 21
abbrev F.channel_Channel_List : Nat := 22
abbrev F.channel_Channel_Bytes : Nat := 23
abbrev F.channel_Read : Nat := 25
abbrev F.errataref36_Read : Nat := 26
abbrev F.channel_ReadMessage : Nat := 27
abbrev F.errataref36_ReadMessage : Nat := 28
abbrev F.errataref36_Same : Nat := 29
abbrev F.channel_MessageBytes : Nat := 30
abbrev F.erratalaw36_mark : Nat := 31
abbrev F.errataref36_Few : Nat := 32
abbrev F.channel_Channel_Head : Nat := 33
abbrev F.channel_clone : Nat := 37
abbrev F.delta_Consolidated : Nat := 39
abbrev F.slices_ContainsFunc_api_Delta_api_Delta : Nat := 40
abbrev F.channel_Right_1 : Nat := 41
abbrev F.value_RightRow : Nat := 42
abbrev F.errataref28_Consolidated : Nat := 43
abbrev F.errataref03_RightRow : Nat := 44
abbrev F.wire_Int : Nat := 45
abbrev F.wire_Num : Nat := 46
abbrev F.wire_Text : Nat := 47
abbrev F.errataref01_Int : Nat := 48
abbrev F.errataref01_Num : Nat := 49
abbrev F.errataref01_Text : Nat := 50
abbrev F.wire_Open : Nat := 52
abbrev F.wire_Reader_Int : Nat := 53
abbrev F.wire_Reader_Num : Nat := 54
abbrev F.wire_Reader_Text : Nat := 55
abbrev F.wire_Reader_Done : Nat := 56
abbrev F.errataref01_Open : Nat := 57
abbrev F.errataref01_Reader_Int : Nat := 58
abbrev F.errataref01_Reader_Num : Nat := 59
abbrev F.errataref01_Reader_Left : Nat := 60
abbrev F.errataref01_Reader_Text : Nat := 61
abbrev F.errataref01_Reader_Done : Nat := 62
abbrev F.delta_Read : Nat := 63
abbrev F.errataref28_Read : Nat := 64
abbrev F.errataref03_Same : Nat := 65
abbrev F.delta_Bytes : Nat := 66
abbrev F.slices_Clone_api_Delta_api_Delta : Nat := 68
abbrev F.slices_Clone_api_Value_api_Value : Nat := 69
abbrev F.delta_compare : Nat := 70
abbrev F.slices_IndexFunc_api_Delta_api_Delta : Nat := 71
abbrev F.value_all : Nat := 72
abbrev F.errataref28_Compare : Nat := 73
abbrev F.errataref03_All : Nat := 74
abbrev F.strconv_Itoa : Nat := 75
abbrev F.errataref01_digits : Nat := 76
abbrev F.errataref28_Bytes : Nat := 77
abbrev F.wire_Reader_number : Nat := 78
abbrev F.wire_Reader_fail : Nat := 79
abbrev F.wire_Reader_close : Nat := 80
abbrev F.errataref01_Reader_ahead : Nat := 81
abbrev F.errataref01_Reader_number : Nat := 82
abbrev F.errataref01_Reader_fail : Nat := 83
abbrev F.errataref01_Reader_close : Nat := 84
abbrev F.value_ReadRow : Nat := 85
abbrev F.errataref03_ReadRow : Nat := 86
abbrev F.errataref03_CompareRows : Nat := 87
abbrev F.delta_Consolidate : Nat := 88
abbrev F.strings_Builder_WriteString : Nat := 89
abbrev F.value_RowBytes : Nat := 90
abbrev F.strings_Builder_String : Nat := 91
abbrev F.cmp_Or_int : Nat := 92
abbrev F.cmp_Compare_int : Nat := 93
abbrev F.value_CompareRows : Nat := 94
abbrev F.slices_ContainsFunc_api_Value_api_Value : Nat := 95
abbrev F.value_all_1 : Nat := 96
abbrev F.value_Right : Nat := 97
abbrev F.errataref03_Right : Nat := 98
abbrev F.errataref28_Consolidate : Nat := 100
abbrev F.errataref03_RowBytes : Nat := 101
abbrev F.strings_IndexByte : Nat := 102
abbrev F.strconv_Atoi : Nat := 103
abbrev F.strings_CutPrefix : Nat := 104
abbrev F.errataref01_Back : Nat := 105
abbrev F.wire_Reader_Left : Nat := 106
abbrev F.value_take : Nat := 107
abbrev F.errataref03_Compare : Nat := 108
abbrev F.slices_SortStableFunc_api_Delta_api_Delta : Nat := 109
abbrev F.strings_Builder_copyCheck : Nat := 110
abbrev F.value_Bytes : Nat := 111
abbrev F.cmp_isNaN_int : Nat := 112
abbrev F.slices_CompareFunc_api_Value__api_Value_api_Value_api_Value : Nat := 113
abbrev F.value_Compare : Nat := 114
abbrev F.slices_IndexFunc_api_Value_api_Value : Nat := 115
abbrev F.value_Int : Nat := 116
abbrev F.value_Text : Nat := 117
abbrev F.value_Bool : Nat := 118
abbrev F.errataref28_sorted : Nat := 120
abbrev F.errataref28_clone : Nat := 121
abbrev F.errataref03_Bytes : Nat := 122
abbrev F.slices_stableCmpFunc_api_Delta : Nat := 127
abbrev F.strings_Compare : Nat := 129
abbrev F.slices_insertionSortCmpFunc_api_Delta : Nat := 141
abbrev F.slices_symMergeCmpFunc_api_Delta : Nat := 142
abbrev F.slices_rotateCmpFunc_api_Delta : Nat := 152
abbrev F.slices_swapRangeCmpFunc_api_Delta : Nat := 158
/-- errataref03.RightRow -/
def Berrataref03_RightRow (rP : Option Addr) (rN rC : Nat) (W : World) (R : List Own) (Φ : PW) (J : Value → World → Prop) : Prop :=
  Br (decide ((↑rN : Int) ≤ 12)) (∀ (w0 : World) (R1 : List Own), Ctx W w0 (R ++ R1) Φ → Calls Tryz.prog F.errataref03_All #[Value.slice rP rN rC] w0 fun (e2 : Ending) (w3 : World) => ∃ (c4 :
  Bool), e2 = Ending.returned (Value.bool c4) ∧ ∃ (R5 : List Own), ∃ (Φ6 : PW), Stable Φ6 ∧ Ctx W w3 (R5 ++ R1) Φ6 ∧ ∀ (w7 : World) (R8 : List Own), Ctx W w7 (R5 ++ R8) Φ6 → J (Value.bool c4)
  w7) (∀ (w9 : World) (R10 : List Own), Ctx W w9 (R ++ R10) Φ → J (Value.bool false) w9)

theorem Berrataref03_RightRow_run (rP : Option Addr) (rN rC : Nat) {W w : World} {R : List Own} {Φ : PW} [Stable Φ] {J : Value → World → Prop} (c : Ctx W w R Φ) (h : Berrataref03_RightRow rP rN rC W R Φ J) : Calls Tryz.prog F.errataref03_RightRow #[.slice rP rN rC] w fun e w' => ∃ v, e = .returned v ∧ J v w' :=
  vcFS_sound (H := { keep := some [0, 2], split := [1] }) (by rw [show vcFS Tryz.prog W { keep := some [0, 2], split := [1] } F.errataref03_RightRow #[.slice rP rN rC] R Φ J = Berrataref03_RightRow rP rN rC W R Φ J by kernel_rfl]; exact h) c

/-- slices.Clone[[]api.Delta,api.Delta] -/
def Bslices_Clone_api_Delta_api_Delta (sP : Option Addr) (sN sC : Nat) (W : World) (R : List Own) (Φ : PW) (J : Value → World → Prop) : Prop :=
  Br sP.isNone (∀ (w0 : World) (R1 : List Own), Ctx W w0 (R ++ R1) Φ → J (Value.slice none 0 0) w0) (∀ (k2 : Nat) (w3 : World) (R4 : List Own), Ctx W w3 (Own.blk k2 [] 62 :: R ++ R4) Φ → ∃
  (p5 : Option Addr), ∃ (k6 : Nat), ∃ (k7 : Nat), ∃ (w8 : World), Sem.run Tryz.prog (builtin Builtin.append #[30, 30] 30 #[false, false] #[Value.slice (some (Addr.mk k2 0 none)) 0 0,
  Value.slice sP sN sC]) w3 = Result.ok (Next.value (Value.slice p5 k6 k7)) w8 ∧ ∃ (R9 : List Own), ∃ (Φ10 : PW), Stable Φ10 ∧ Ctx W w8 (R9 ++ R4) Φ10 ∧ ∀ (w11 : World) (R12 : List Own), Ctx
  W w11 (R9 ++ R12) Φ10 → J (Value.slice p5 k6 k7) w11)

theorem Bslices_Clone_api_Delta_api_Delta_run (sP : Option Addr) (sN sC : Nat) {W w : World} {R : List Own} {Φ : PW} [Stable Φ] {J : Value → World → Prop} (c : Ctx W w R Φ) (h : Bslices_Clone_api_Delta_api_Delta sP sN sC W R Φ J) : Calls Tryz.prog F.slices_Clone_api_Delta_api_Delta #[.slice sP sN sC] w fun e w' => ∃ v, e = .returned v ∧ J v w' :=
  vcFS_sound (H := { keep := some [0, 2, 4] }) (by rw [show vcFS Tryz.prog W { keep := some [0, 2, 4] } F.slices_Clone_api_Delta_api_Delta #[.slice sP sN sC] R Φ J = Bslices_Clone_api_Delta_api_Delta sP sN sC W R Φ J by kernel_rfl]; exact h) c

/-- slices.Clone[[]api.Value,api.Value] -/
def Bslices_Clone_api_Value_api_Value (sP : Option Addr) (sN sC : Nat) (W : World) (R : List Own) (Φ : PW) (J : Value → World → Prop) : Prop :=
  Br sP.isNone (∀ (w0 : World) (R1 : List Own), Ctx W w0 (R ++ R1) Φ → J (Value.slice none 0 0) w0) (∀ (k2 : Nat) (w3 : World) (R4 : List Own), Ctx W w3 (Own.blk k2 [] 83 :: R ++ R4) Φ → ∃
  (p5 : Option Addr), ∃ (k6 : Nat), ∃ (k7 : Nat), ∃ (w8 : World), Sem.run Tryz.prog (builtin Builtin.append #[60, 60] 60 #[false, false] #[Value.slice (some (Addr.mk k2 0 none)) 0 0,
  Value.slice sP sN sC]) w3 = Result.ok (Next.value (Value.slice p5 k6 k7)) w8 ∧ ∃ (R9 : List Own), ∃ (Φ10 : PW), Stable Φ10 ∧ Ctx W w8 (R9 ++ R4) Φ10 ∧ ∀ (w11 : World) (R12 : List Own), Ctx
  W w11 (R9 ++ R12) Φ10 → J (Value.slice p5 k6 k7) w11)

theorem Bslices_Clone_api_Value_api_Value_run (sP : Option Addr) (sN sC : Nat) {W w : World} {R : List Own} {Φ : PW} [Stable Φ] {J : Value → World → Prop} (c : Ctx W w R Φ) (h : Bslices_Clone_api_Value_api_Value sP sN sC W R Φ J) : Calls Tryz.prog F.slices_Clone_api_Value_api_Value #[.slice sP sN sC] w fun e w' => ∃ v, e = .returned v ∧ J v w' :=
  vcFS_sound (H := { keep := some [0, 2, 4] }) (by rw [show vcFS Tryz.prog W { keep := some [0, 2, 4] } F.slices_Clone_api_Value_api_Value #[.slice sP sN sC] R Φ J = Bslices_Clone_api_Value_api_Value sP sN sC W R Φ J by kernel_rfl]; exact h) c

/-- delta.compare -/
-- known blocks: 2 a, 3 b
def Bdelta_compare (a0 : Int) (a1P : Option Addr) (a1N a1C : Nat) (a2 : Int) (b0 : Int) (b1P : Option Addr) (b1N b1C : Nat) (b2 : Int) (W : World) (R : List Own) (Φ : PW) (J : Value → World → Prop) : Prop :=
  ∀ (b b : Nat), ∃ (R0 : List Own), ∃ (Φ1 : PW), Stable Φ1 ∧ (∀ (w2 : World) (R3 : List Own), Ctx W w2 (R ++ R3) Φ → Ctx W w2 (R0 ++ R3) Φ1) ∧ ∀ (w4 : World) (R5 : List Own), Ctx W w4 (R ++
  R5) Φ → Calls Tryz.prog F.cmp_Compare_int #[Value.int IntKind.i64 a0, Value.int IntKind.i64 b0] w4 fun (e6 : Ending) (w7 : World) => ∃ (n8 : Int), e6 = Ending.returned (Value.int
  IntKind.i64 n8) ∧ ∃ (R9 : List Own), ∃ (Φ10 : PW), Stable Φ10 ∧ Ctx W w7 (R9 ++ R5) Φ10 ∧ (∀ (w11 : World) (R12 : List Own), Ctx W w11 (R9 ++ R12) Φ10 → Ctx W w11 (R0 ++ R12) Φ1) ∧ ∀ (w13 :
  World) (R14 : List Own), Ctx W w13 (R9 ++ R14) Φ10 → Calls Tryz.prog F.value_CompareRows #[Value.slice a1P a1N a1C, Value.slice b1P b1N b1C] w13 fun (e15 : Ending) (w16 : World) => ∃ (n17 :
  Int), e15 = Ending.returned (Value.int IntKind.i64 n17) ∧ ∃ (R18 : List Own), ∃ (Φ19 : PW), Stable Φ19 ∧ Ctx W w16 (R18 ++ R14) Φ19 ∧ ∀ (k20 : Nat) (w21 : World) (R22 : List Own), Ctx W w21
  (Own.blk k20 [Value.int IntKind.i64 n8, Value.int IntKind.i64 n17] 3 :: R18 ++ R22) Φ19 → Calls Tryz.prog F.cmp_Or_int #[Value.slice (some (Addr.mk k20 0 none)) 2 2] w21 fun (e23 : Ending)
  (w24 : World) => ∃ (n25 : Int), e23 = Ending.returned (Value.int IntKind.i64 n25) ∧ ∃ (R26 : List Own), ∃ (Φ27 : PW), Stable Φ27 ∧ Ctx W w24 (R26 ++ R22) Φ27 ∧ ∀ (w28 : World) (R29 : List
  Own), Ctx W w28 (R26 ++ R29) Φ27 → J (Value.int IntKind.i64 n25) w28

theorem Bdelta_compare_run (a0 : Int) (a1P : Option Addr) (a1N a1C : Nat) (a2 : Int) (b0 : Int) (b1P : Option Addr) (b1N b1C : Nat) (b2 : Int) {W w : World} {R : List Own} {Φ : PW} [Stable Φ] {J : Value → World → Prop} (c : Ctx W w R Φ) (h : Bdelta_compare a0 a1P a1N a1C a2 b0 b1P b1N b1C b2 W R Φ J) : Calls Tryz.prog F.delta_compare #[.agg #[.int .i64 a0, .slice a1P a1N a1C, .int .i64 a2], .agg #[.int .i64 b0, .slice b1P b1N b1C, .int .i64 b2]] w fun e w' => ∃ v, e = .returned v ∧ J v w' :=
  vcFS_sound (H := { keep := some [2, 3, 4], track := [2, 3], stages := [(1, [.held [(0, true), (2, true), (5, true), (7, true), (1, true), (3, true), (6, true), (8, true), (4, false)], .stage [] (some 9), .stage [] (some 10), .stage [] (some 11), .stage [12] none])] }) (by rw [show vcFS Tryz.prog W { keep := some [2, 3, 4], track := [2, 3], stages := [(1, [.held [(0, true), (2, true), (5, true), (7, true), (1, true), (3, true), (6, true), (8, true), (4, false)], .stage [] (some 9), .stage [] (some 10), .stage [] (some 11), .stage [12] none])] } F.delta_compare #[.agg #[.int .i64 a0, .slice a1P a1N a1C, .int .i64 a2], .agg #[.int .i64 b0, .slice b1P b1N b1C, .int .i64 b2]] R Φ J = Bdelta_compare a0 a1P a1N a1C a2 b0 b1P b1N b1C b2 W R Φ J by kernel_rfl]; exact h) c

/-- errataref03.All -/
-- loop at region 2: 3 i; blocks 
def Berrataref03_All (rP : Option Addr) (rN rC : Nat) (W : World) (R : List Own) (Φ : PW) (J : Value → World → Prop) : Prop :=
  exI fun (I0 : Int → List Own → PW → Nat → Prop) => (∃ (R1 : List Own), ∃ (Φ2 : PW), ∃ (k3 : Nat), Stable Φ2 ∧ (∀ (w4 : World) (R5 : List Own), Ctx W w4 (R ++ R5) Φ → Ctx W w4 (R1 ++ R5) Φ2)
  ∧ I0 0 R1 Φ2 k3) ∧ ∀ (n6 : Int) (R7 : List Own) (I8 : List Nat → World → Prop) (k9 : Nat), Stable I8 → I0 n6 R7 I8 k9 → Br (decide (n6 < (↑rN : Int))) ((0 ≤ n6 ∧ n6 < (↑rN : Int)) ∧ ptrK
  none rP fun (k10 k11 : Nat) => ∀ (w12 : World) (R13 : List Own), Ctx W w12 (R7 ++ R13) I8 → ∃ (n14 : Int), ∃ (n15 : Int), ∃ (s16 : ByteArray), RowAt w12 k10 (k11 + n6.toNat * 3) [Value.int
  IntKind.i64 n14, Value.int IntKind.i64 n15, Value.string s16] ∧ ∀ (w17 : World) (R18 : List Own), Ctx W w17 (R7 ++ R18) I8 → Calls Tryz.prog F.errataref03_Right #[Value.agg #[Value.int
  IntKind.i64 n14, Value.int IntKind.i64 n15, Value.string s16]] w17 fun (e19 : Ending) (w20 : World) => ∃ (c21 : Bool), e19 = Ending.returned (Value.bool c21) ∧ ∃ (R22 : List Own), ∃ (Φ23 :
  PW), Stable Φ23 ∧ Ctx W w20 (R22 ++ R18) Φ23 ∧ Br (!c21) (∀ (w24 : World) (R25 : List Own), Ctx W w24 (R22 ++ R25) Φ23 → J (Value.bool false) w24) (I64 (n6 + 1) ∧ ∃ (R26 : List Own), ∃ (Φ27
  : PW), ∃ (k28 : Nat), Stable Φ27 ∧ (∀ (w29 : World) (R30 : List Own), Ctx W w29 (R22 ++ R30) Φ23 → Ctx W w29 (R26 ++ R30) Φ27) ∧ I0 (n6 + 1) R26 Φ27 k28 ∧ k28 < k9)) (∀ (w31 : World) (R32 :
  List Own), Ctx W w31 (R7 ++ R32) I8 → J (Value.bool true) w31)

theorem Berrataref03_All_run (rP : Option Addr) (rN rC : Nat) {W w : World} {R : List Own} {Φ : PW} [Stable Φ] {J : Value → World → Prop} (c : Ctx W w R Φ) (h : Berrataref03_All rP rN rC W R Φ J) : Calls Tryz.prog F.errataref03_All #[.slice rP rN rC] w fun e w' => ∃ v, e = .returned v ∧ J v w' :=
  vcFS_sound (H := { keep := some [0, 2, 3, 7, 15], loops := [(2, [(3, .one (.int .i64))], [])] }) (by rw [show vcFS Tryz.prog W { keep := some [0, 2, 3, 7, 15], loops := [(2, [(3, .one (.int .i64))], [])] } F.errataref03_All #[.slice rP rN rC] R Φ J = Berrataref03_All rP rN rC W R Φ J by kernel_rfl]; exact h) c

/-- delta.Consolidate -/
-- loop at region 6: 6 k; blocks 5 d
-- loop at region 4: 3 s, 4 out; blocks 
-- known blocks: 5 d
def Bdelta_Consolidate (lP : Option Addr) (lN lC : Nat) (W : World) (R : List Own) (Φ : PW) (J : Value → World → Prop) : Prop :=
  ∀ (w0 : World) (R1 : List Own), Ctx W w0 (R ++ R1) Φ → Calls Tryz.prog F.slices_Clone_api_Delta_api_Delta #[Value.slice lP lN lC] w0 fun (e2 : Ending) (w3 : World) => ∃ (p4 : Option Addr),
  ∃ (k5 : Nat), ∃ (k6 : Nat), e2 = Ending.returned (Value.slice p4 k5 k6) ∧ ∃ (R7 : List Own), ∃ (Φ8 : PW), Stable Φ8 ∧ Ctx W w3 (R7 ++ R1) Φ8 ∧ ∀ (w9 : World) (R10 : List Own), Ctx W w9 (R7
  ++ R10) Φ8 → Calls Tryz.prog F.slices_SortStableFunc_api_Delta_api_Delta #[Value.slice p4 k5 k6, Value.func (Fn.func 70) #[] #[]] w9 fun (e11 : Ending) (w12 : World) => e11 =
  Ending.returned (Value.tuple #[]) ∧ ∃ (R13 : List Own), ∃ (Φ14 : PW), Stable Φ14 ∧ Ctx W w12 (R13 ++ R10) Φ14 ∧ exI fun (I15 : Option Addr → Nat → Nat → Option Addr → Nat → Nat → List Own →
  PW → Nat → Prop) => (∃ (R16 : List Own), ∃ (Φ17 : PW), ∃ (k18 : Nat), Stable Φ17 ∧ (∀ (w19 : World) (R20 : List Own), Ctx W w19 (R13 ++ R20) Φ14 → Ctx W w19 (R16 ++ R20) Φ17) ∧ I15 p4 k5 k6
  none 0 0 R16 Φ17 k18) ∧ ∀ (p21 : Option Addr) (k22 k23 : Nat) (p24 : Option Addr) (k25 k26 : Nat) (R27 : List Own) (I28 : List Nat → World → Prop) (k29 : Nat), Stable I28 → I15 p21 k22 k23
  p24 k25 k26 R27 I28 k29 → Br (decide (0 < (↑k22 : Int))) (((0 : Int) ≤ 0 ∧ 0 < (↑k22 : Int)) ∧ ptrK none p21 fun (k30 k31 : Nat) => ∀ (w32 : World) (R33 : List Own), Ctx W w32 (R27 ++ R33)
  I28 → ∃ (n34 : Int), ∃ (p35 : Option Addr), ∃ (k36 : Nat), ∃ (k37 : Nat), ∃ (n38 : Int), RowAt w32 k30 k31 [Value.int IntKind.i64 n34, Value.slice p35 k36 k37, Value.int IntKind.i64 n38] ∧
  ∀ (b : Nat), exI fun (I39 : Int → Int → Option Addr → Nat → Nat → Int → List Own → PW → Nat → Prop) => (∃ (R40 : List Own), ∃ (Φ41 : PW), ∃ (k42 : Nat), Stable Φ41 ∧ (∀ (w43 : World) (R44 :
  List Own), Ctx W w43 (R27 ++ R44) I28 → Ctx W w43 (R40 ++ R44) Φ41) ∧ I39 1 n34 p35 k36 k37 n38 R40 Φ41 k42) ∧ ∀ (n45 n46 : Int) (p47 : Option Addr) (k48 k49 : Nat) (n50 : Int) (R51 : List
  Own) (I52 : List Nat → World → Prop) (k53 : Nat), Stable I52 → I39 n45 n46 p47 k48 k49 n50 R51 I52 k53 → ∃ (R54 : List Own), ∃ (Φ55 : PW), Stable Φ55 ∧ (∀ (w56 : World) (R57 : List Own),
  Ctx W w56 (R51 ++ R57) I52 → Ctx W w56 (R54 ++ R57) Φ55) ∧ Br (decide (n45 < (↑k22 : Int))) ((0 ≤ n45 ∧ n45 < (↑k22 : Int)) ∧ ptrK none p21 fun (k58 k59 : Nat) => ∃ (n60 : Int), ∃ (p61 :
  Option Addr), ∃ (k62 : Nat), ∃ (k63 : Nat), ∃ (n64 : Int), (∀ (w65 : World) (R66 : List Own), Ctx W w65 (R54 ++ R66) Φ55 → ∃ (n67 : Int), ∃ (p68 : Option Addr), ∃ (k69 : Nat), ∃ (k70 :
  Nat), ∃ (n71 : Int), RowAt w65 k58 (k59 + n45.toNat * 3) [Value.int IntKind.i64 n67, Value.slice p68 k69 k70, Value.int IntKind.i64 n71] ∧ Value.agg #[Value.int IntKind.i64 n67, Value.slice
  p68 k69 k70, Value.int IntKind.i64 n71] = Value.agg #[Value.int IntKind.i64 n60, Value.slice p61 k62 k63, Value.int IntKind.i64 n64]) ∧ ∀ (w72 : World) (R73 : List Own), Ctx W w72 (R51 ++
  R73) I52 → Calls Tryz.prog F.delta_compare #[Value.agg #[Value.int IntKind.i64 n46, Value.slice p47 k48 k49, Value.int IntKind.i64 n50], Value.agg #[Value.int IntKind.i64 n60, Value.slice
  p61 k62 k63, Value.int IntKind.i64 n64]] w72 fun (e74 : Ending) (w75 : World) => ∃ (n76 : Int), e74 = Ending.returned (Value.int IntKind.i64 n76) ∧ ∃ (R77 : List Own), ∃ (Φ78 : PW), Stable
  Φ78 ∧ Ctx W w75 (R77 ++ R73) Φ78 ∧ Br (decide (n76 = 0)) ((0 ≤ n45 ∧ n45 < (↑k22 : Int)) ∧ ptrK none p21 fun (k79 k80 : Nat) => ∀ (w81 : World) (R82 : List Own), Ctx W w81 (R77 ++ R82) Φ78
  → ∃ (n83 : Int), w81.cell? (Addr.mk k79 (k80 + n45.toNat * 3 + 2) none) = some (Value.int IntKind.i64 n83) ∧ I64 (n45 + 1) ∧ ∃ (R84 : List Own), ∃ (Φ85 : PW), ∃ (k86 : Nat), Stable Φ85 ∧ (∀
  (w87 : World) (R88 : List Own), Ctx W w87 (R77 ++ R88) Φ78 → Ctx W w87 (R84 ++ R88) Φ85) ∧ I39 (n45 + 1) n46 p47 k48 k49 (IntKind.i64.wrap (n50 + n83)) R84 Φ85 k86 ∧ k86 < k53) (Br (decide
  (n50 ≠ 0)) (∀ (w89 : World) (R90 : List Own), Ctx W w89 (R77 ++ R90) Φ78 → Calls Tryz.prog F.slices_Clone_api_Value_api_Value #[Value.slice p47 k48 k49] w89 fun (e91 : Ending) (w92 : World)
  => ∃ (p93 : Option Addr), ∃ (k94 : Nat), ∃ (k95 : Nat), e91 = Ending.returned (Value.slice p93 k94 k95) ∧ ∃ (R96 : List Own), ∃ (Φ97 : PW), Stable Φ97 ∧ Ctx W w92 (R96 ++ R90) Φ97 ∧ ∀ (k98
  : Nat) (w99 : World) (R100 : List Own), Ctx W w99 (Own.blk k98 [Value.int IntKind.i64 n46, Value.slice p93 k94 k95, Value.int IntKind.i64 n50] 62 :: R96 ++ R100) Φ97 → ∃ (p101 : Option
  Addr), ∃ (k102 : Nat), ∃ (k103 : Nat), ∃ (w104 : World), Sem.run Tryz.prog (builtin Builtin.append #[30, 30] 30 #[false, false] #[Value.slice p24 k25 k26, Value.slice (some (Addr.mk k98 0
  none)) 1 1]) w99 = Result.ok (Next.value (Value.slice p101 k102 k103)) w104 ∧ ∃ (R105 : List Own), ∃ (Φ106 : PW), Stable Φ106 ∧ Ctx W w104 (R105 ++ R100) Φ106 ∧ (0 ≤ n45 ∧ n45 ≤ (↑k22 :
  Int) ∧ k22 ≤ k23) ∧ ∃ (R107 : List Own), ∃ (Φ108 : PW), ∃ (k109 : Nat), Stable Φ108 ∧ (∀ (w110 : World) (R111 : List Own), Ctx W w110 (R105 ++ R111) Φ106 → Ctx W w110 (R107 ++ R111) Φ108) ∧
  I15 (subPtr p21 3 n45.toNat k23) (k22 - n45.toNat) (k23 - n45.toNat) p101 k102 k103 R107 Φ108 k109 ∧ k109 < k29) ((0 ≤ n45 ∧ n45 ≤ (↑k22 : Int) ∧ k22 ≤ k23) ∧ ∃ (R112 : List Own), ∃ (Φ113 :
  PW), ∃ (k114 : Nat), Stable Φ113 ∧ (∀ (w115 : World) (R116 : List Own), Ctx W w115 (R77 ++ R116) Φ78 → Ctx W w115 (R112 ++ R116) Φ113) ∧ I15 (subPtr p21 3 n45.toNat k23) (k22 - n45.toNat)
  (k23 - n45.toNat) p24 k25 k26 R112 Φ113 k114 ∧ k114 < k29))) (Br (decide (n50 ≠ 0)) (∀ (w117 : World) (R118 : List Own), Ctx W w117 (R51 ++ R118) I52 → Calls Tryz.prog
  F.slices_Clone_api_Value_api_Value #[Value.slice p47 k48 k49] w117 fun (e119 : Ending) (w120 : World) => ∃ (p121 : Option Addr), ∃ (k122 : Nat), ∃ (k123 : Nat), e119 = Ending.returned
  (Value.slice p121 k122 k123) ∧ ∃ (R124 : List Own), ∃ (Φ125 : PW), Stable Φ125 ∧ Ctx W w120 (R124 ++ R118) Φ125 ∧ ∀ (k126 : Nat) (w127 : World) (R128 : List Own), Ctx W w127 (Own.blk k126
  [Value.int IntKind.i64 n46, Value.slice p121 k122 k123, Value.int IntKind.i64 n50] 62 :: R124 ++ R128) Φ125 → ∃ (p129 : Option Addr), ∃ (k130 : Nat), ∃ (k131 : Nat), ∃ (w132 : World),
  Sem.run Tryz.prog (builtin Builtin.append #[30, 30] 30 #[false, false] #[Value.slice p24 k25 k26, Value.slice (some (Addr.mk k126 0 none)) 1 1]) w127 = Result.ok (Next.value (Value.slice
  p129 k130 k131)) w132 ∧ ∃ (R133 : List Own), ∃ (Φ134 : PW), Stable Φ134 ∧ Ctx W w132 (R133 ++ R128) Φ134 ∧ (0 ≤ n45 ∧ n45 ≤ (↑k22 : Int) ∧ k22 ≤ k23) ∧ ∃ (R135 : List Own), ∃ (Φ136 : PW), ∃
  (k137 : Nat), Stable Φ136 ∧ (∀ (w138 : World) (R139 : List Own), Ctx W w138 (R133 ++ R139) Φ134 → Ctx W w138 (R135 ++ R139) Φ136) ∧ I15 (subPtr p21 3 n45.toNat k23) (k22 - n45.toNat) (k23 -
  n45.toNat) p129 k130 k131 R135 Φ136 k137 ∧ k137 < k29) ((0 ≤ n45 ∧ n45 ≤ (↑k22 : Int) ∧ k22 ≤ k23) ∧ ∃ (R140 : List Own), ∃ (Φ141 : PW), ∃ (k142 : Nat), Stable Φ141 ∧ (∀ (w143 : World)
  (R144 : List Own), Ctx W w143 (R51 ++ R144) I52 → Ctx W w143 (R140 ++ R144) Φ141) ∧ I15 (subPtr p21 3 n45.toNat k23) (k22 - n45.toNat) (k23 - n45.toNat) p24 k25 k26 R140 Φ141 k142 ∧ k142 <
  k29))) (∀ (w145 : World) (R146 : List Own), Ctx W w145 (R27 ++ R146) I28 → J (Value.slice p24 k25 k26) w145)

theorem Bdelta_Consolidate_run (lP : Option Addr) (lN lC : Nat) {W w : World} {R : List Own} {Φ : PW} [Stable Φ] {J : Value → World → Prop} (c : Ctx W w R Φ) (h : Bdelta_Consolidate lP lN lC W R Φ J) : Calls Tryz.prog F.delta_Consolidate #[.slice lP lN lC] w fun e w' => ∃ v, e = .returned v ∧ J v w' :=
  vcFS_sound (H := { keep := some [0, 2, 3, 4, 5, 6, 13, 29, 43], wrap := [37], track := [5], stages := [(6, [.held [(0, true), (1, true), (2, true), (3, true), (4, true), (5, true), (6, true), (7, true), (8, true), (9, true)], .stage [] (some 10), .stage [11, 12] none]), (7, [.stage [0, 2, 3, 1, 4, 5, 6, 7, 8] (some 9)])], loops := [(6, [(6, .one (.int .i64))], [(5, .agg [.int .i64, .slice, .int .i64])]), (4, [(3, .one (.slice)), (4, .one (.slice))], [])] }) (by rw [show vcFS Tryz.prog W { keep := some [0, 2, 3, 4, 5, 6, 13, 29, 43], wrap := [37], track := [5], stages := [(6, [.held [(0, true), (1, true), (2, true), (3, true), (4, true), (5, true), (6, true), (7, true), (8, true), (9, true)], .stage [] (some 10), .stage [11, 12] none]), (7, [.stage [0, 2, 3, 1, 4, 5, 6, 7, 8] (some 9)])], loops := [(6, [(6, .one (.int .i64))], [(5, .agg [.int .i64, .slice, .int .i64])]), (4, [(3, .one (.slice)), (4, .one (.slice))], [])] } F.delta_Consolidate #[.slice lP lN lC] R Φ J = Bdelta_Consolidate lP lN lC W R Φ J by kernel_rfl]; exact h) c

/-- cmp.Or[int] -/
-- loop at region 3: 8 ; blocks 
def Bcmp_Or_int (valsP : Option Addr) (valsN valsC : Nat) (W : World) (R : List Own) (Φ : PW) (J : Value → World → Prop) : Prop :=
  exI fun (I0 : Int → List Own → PW → Nat → Prop) => (∃ (R1 : List Own), ∃ (Φ2 : PW), ∃ (k3 : Nat), Stable Φ2 ∧ (∀ (w4 : World) (R5 : List Own), Ctx W w4 (R ++ R5) Φ → Ctx W w4 (R1 ++ R5) Φ2)
  ∧ I0 0 R1 Φ2 k3) ∧ ∀ (n6 : Int) (R7 : List Own) (I8 : List Nat → World → Prop) (k9 : Nat), Stable I8 → I0 n6 R7 I8 k9 → Br (decide (n6 < (↑valsN : Int))) ((0 ≤ n6 ∧ n6 < (↑valsN : Int)) ∧
  ptrK none valsP fun (k10 k11 : Nat) => ∀ (w12 : World) (R13 : List Own), Ctx W w12 (R7 ++ R13) I8 → ∃ (n14 : Int), w12.cell? (Addr.mk k10 (k11 + n6.toNat) none) = some (Value.int
  IntKind.i64 n14) ∧ Br (decide (n14 ≠ 0)) (∀ (w15 : World) (R16 : List Own), Ctx W w15 (R7 ++ R16) I8 → J (Value.int IntKind.i64 n14) w15) (I64 (n6 + 1) ∧ ∃ (R17 : List Own), ∃ (Φ18 : PW), ∃
  (k19 : Nat), Stable Φ18 ∧ (∀ (w20 : World) (R21 : List Own), Ctx W w20 (R7 ++ R21) I8 → Ctx W w20 (R17 ++ R21) Φ18) ∧ I0 (n6 + 1) R17 Φ18 k19 ∧ k19 < k9)) (∀ (w22 : World) (R23 : List Own),
  Ctx W w22 (R7 ++ R23) I8 → J (Value.int IntKind.i64 0) w22)

theorem Bcmp_Or_int_run (valsP : Option Addr) (valsN valsC : Nat) {W w : World} {R : List Own} {Φ : PW} [Stable Φ] {J : Value → World → Prop} (c : Ctx W w R Φ) (h : Bcmp_Or_int valsP valsN valsC W R Φ J) : Calls Tryz.prog F.cmp_Or_int #[.slice valsP valsN valsC] w fun e w' => ∃ v, e = .returned v ∧ J v w' :=
  vcFS_sound (H := { keep := some [0, 2, 3, 5, 6, 7, 8, 9, 14], loops := [(3, [(8, .one (.int .i64))], [])] }) (by rw [show vcFS Tryz.prog W { keep := some [0, 2, 3, 5, 6, 7, 8, 9, 14], loops := [(3, [(8, .one (.int .i64))], [])] } F.cmp_Or_int #[.slice valsP valsN valsC] R Φ J = Bcmp_Or_int valsP valsN valsC W R Φ J by kernel_rfl]; exact h) c

/-- cmp.Compare[int] -/
def Bcmp_Compare_int (x : Int) (y : Int) (W : World) (R : List Own) (Φ : PW) (J : Value → World → Prop) : Prop :=
  ∀ (w0 : World) (R1 : List Own), Ctx W w0 (R ++ R1) Φ → Calls Tryz.prog F.cmp_isNaN_int #[Value.int IntKind.i64 x] w0 fun (e2 : Ending) (w3 : World) => ∃ (c4 : Bool), e2 = Ending.returned
  (Value.bool c4) ∧ ∃ (R5 : List Own), ∃ (Φ6 : PW), Stable Φ6 ∧ Ctx W w3 (R5 ++ R1) Φ6 ∧ ∀ (w7 : World) (R8 : List Own), Ctx W w7 (R5 ++ R8) Φ6 → Calls Tryz.prog F.cmp_isNaN_int #[Value.int
  IntKind.i64 y] w7 fun (e9 : Ending) (w10 : World) => ∃ (c11 : Bool), e9 = Ending.returned (Value.bool c11) ∧ ∃ (R12 : List Own), ∃ (Φ13 : PW), Stable Φ13 ∧ Ctx W w10 (R12 ++ R8) Φ13 ∧ Br c4
  (Br c11 (∀ (w14 : World) (R15 : List Own), Ctx W w14 (R12 ++ R15) Φ13 → J (Value.int IntKind.i64 0) w14) (∀ (w16 : World) (R17 : List Own), Ctx W w16 (R12 ++ R17) Φ13 → J (Value.int
  IntKind.i64 (-1)) w16)) (Br c11 (∀ (w18 : World) (R19 : List Own), Ctx W w18 (R12 ++ R19) Φ13 → J (Value.int IntKind.i64 1) w18) (Br (decide (x < y)) (∀ (w20 : World) (R21 : List Own), Ctx
  W w20 (R12 ++ R21) Φ13 → J (Value.int IntKind.i64 (-1)) w20) (Br (decide (y < x)) (∀ (w22 : World) (R23 : List Own), Ctx W w22 (R12 ++ R23) Φ13 → J (Value.int IntKind.i64 1) w22) (∀ (w24 :
  World) (R25 : List Own), Ctx W w24 (R12 ++ R25) Φ13 → J (Value.int IntKind.i64 0) w24))))

theorem Bcmp_Compare_int_run (x : Int) (y : Int) {W w : World} {R : List Own} {Φ : PW} [Stable Φ] {J : Value → World → Prop} (c : Ctx W w R Φ) (h : Bcmp_Compare_int x y W R Φ J) : Calls Tryz.prog F.cmp_Compare_int #[.int .i64 x, .int .i64 y] w fun e w' => ∃ v, e = .returned v ∧ J v w' :=
  vcFS_sound (H := { keep := some [0, 1, 4, 5, 6, 11, 12, 13, 16, 19] }) (by rw [show vcFS Tryz.prog W { keep := some [0, 1, 4, 5, 6, 11, 12, 13, 16, 19] } F.cmp_Compare_int #[.int .i64 x, .int .i64 y] R Φ J = Bcmp_Compare_int x y W R Φ J by kernel_rfl]; exact h) c

/-- value.CompareRows -/
def Bvalue_CompareRows (aP : Option Addr) (aN aC : Nat) (bP : Option Addr) (bN bC : Nat) (W : World) (R : List Own) (Φ : PW) (J : Value → World → Prop) : Prop :=
  ∀ (w0 : World) (R1 : List Own), Ctx W w0 (R ++ R1) Φ → Calls Tryz.prog F.slices_CompareFunc_api_Value__api_Value_api_Value_api_Value #[Value.slice aP aN aC, Value.slice bP bN bC, Value.func
  (Fn.func 114) #[] #[]] w0 fun (e2 : Ending) (w3 : World) => ∃ (n4 : Int), e2 = Ending.returned (Value.int IntKind.i64 n4) ∧ ∃ (R5 : List Own), ∃ (Φ6 : PW), Stable Φ6 ∧ Ctx W w3 (R5 ++ R1)
  Φ6 ∧ ∀ (w7 : World) (R8 : List Own), Ctx W w7 (R5 ++ R8) Φ6 → J (Value.int IntKind.i64 n4) w7

theorem Bvalue_CompareRows_run (aP : Option Addr) (aN aC : Nat) (bP : Option Addr) (bN bC : Nat) {W w : World} {R : List Own} {Φ : PW} [Stable Φ] {J : Value → World → Prop} (c : Ctx W w R Φ) (h : Bvalue_CompareRows aP aN aC bP bN bC W R Φ J) : Calls Tryz.prog F.value_CompareRows #[.slice aP aN aC, .slice bP bN bC] w fun e w' => ∃ v, e = .returned v ∧ J v w' :=
  vcFS_sound (H := { keep := some [0, 1, 4] }) (by rw [show vcFS Tryz.prog W { keep := some [0, 1, 4] } F.value_CompareRows #[.slice aP aN aC, .slice bP bN bC] R Φ J = Bvalue_CompareRows aP aN aC bP bN bC W R Φ J by kernel_rfl]; exact h) c

/-- errataref03.Right -/
-- known blocks: 1 v
def Berrataref03_Right (v0 : Int) (v1 : Int) (v2 : ByteArray) (W : World) (R : List Own) (Φ : PW) (J : Value → World → Prop) : Prop :=
  ∀ (b : Nat), Br (decide (v0 = 0)) (∀ (w0 : World) (R1 : List Own), Ctx W w0 (R ++ R1) Φ → J (Value.bool (decide (v2 = ByteArray.mk #[]))) w0) (Br (decide (v0 = 1)) (∀ (w2 : World) (R3 :
  List Own), Ctx W w2 (R ++ R3) Φ → ∀ (w4 : World) (R5 : List Own), Ctx W w4 (R ++ R5) Φ → J (Value.bool (decide (v1 = 0) && decide ((↑v2.size : Int) ≤ 200))) w4) (∀ (w6 : World) (R7 : List
  Own), Ctx W w6 (R ++ R7) Φ → ∀ (w8 : World) (R9 : List Own), Ctx W w8 (R ++ R9) Φ → J (Value.bool (decide (v0 = 2) && (decide (v1 = 0) || decide (v1 = 1)) && decide (v2 = ByteArray.mk
  #[]))) w8))

theorem Berrataref03_Right_run (v0 : Int) (v1 : Int) (v2 : ByteArray) {W w : World} {R : List Own} {Φ : PW} [Stable Φ] {J : Value → World → Prop} (c : Ctx W w R Φ) (h : Berrataref03_Right v0 v1 v2 W R Φ J) : Calls Tryz.prog F.errataref03_Right #[.agg #[.int .i64 v0, .int .i64 v1, .string v2]] w fun e w' => ∃ v, e = .returned v ∧ J v w' :=
  vcFS_sound (H := { keep := some [1, 2, 5, 11], track := [1] }) (by rw [show vcFS Tryz.prog W { keep := some [1, 2, 5, 11], track := [1] } F.errataref03_Right #[.agg #[.int .i64 v0, .int .i64 v1, .string v2]] R Φ J = Berrataref03_Right v0 v1 v2 W R Φ J by kernel_rfl]; exact h) c

/-- slices.SortStableFunc[[]api.Delta,api.Delta] -/
def Bslices_SortStableFunc_api_Delta_api_Delta (xP : Option Addr) (xN xC : Nat) (cmpF : FuncId) (cmpC : Array Value) (W : World) (R : List Own) (Φ : PW) (J : Value → World → Prop) : Prop :=
  ∀ (w0 : World) (R1 : List Own), Ctx W w0 (R ++ R1) Φ → Calls Tryz.prog F.slices_stableCmpFunc_api_Delta #[Value.slice xP xN xC, Value.int IntKind.i64 (↑xN : Int), Value.func (Fn.func cmpF)
  #[] cmpC] w0 fun (e2 : Ending) (w3 : World) => e2 = Ending.returned (Value.tuple #[]) ∧ ∃ (R4 : List Own), ∃ (Φ5 : PW), Stable Φ5 ∧ Ctx W w3 (R4 ++ R1) Φ5 ∧ ∀ (w6 : World) (R7 : List Own),
  Ctx W w6 (R4 ++ R7) Φ5 → J (Value.tuple #[]) w6

theorem Bslices_SortStableFunc_api_Delta_api_Delta_run (xP : Option Addr) (xN xC : Nat) (cmpF : FuncId) (cmpC : Array Value) {W w : World} {R : List Own} {Φ : PW} [Stable Φ] {J : Value → World → Prop} (c : Ctx W w R Φ) (h : Bslices_SortStableFunc_api_Delta_api_Delta xP xN xC cmpF cmpC W R Φ J) : Calls Tryz.prog F.slices_SortStableFunc_api_Delta_api_Delta #[.slice xP xN xC, .func (.func cmpF) #[] cmpC] w fun e w' => ∃ v, e = .returned v ∧ J v w' :=
  vcFS_sound (H := { keep := some [] }) (by rw [show vcFS Tryz.prog W { keep := some [] } F.slices_SortStableFunc_api_Delta_api_Delta #[.slice xP xN xC, .func (.func cmpF) #[] cmpC] R Φ J = Bslices_SortStableFunc_api_Delta_api_Delta xP xN xC cmpF cmpC W R Φ J by kernel_rfl]; exact h) c

/-- cmp.isNaN[int] -/
def Bcmp_isNaN_int (x : Int) (W : World) (R : List Own) (Φ : PW) (J : Value → World → Prop) : Prop :=
  ∀ (w0 : World) (R1 : List Own), Ctx W w0 (R ++ R1) Φ → J (Value.bool (decide (x ≠ x))) w0

theorem Bcmp_isNaN_int_run (x : Int) {W w : World} {R : List Own} {Φ : PW} [Stable Φ] {J : Value → World → Prop} (c : Ctx W w R Φ) (h : Bcmp_isNaN_int x W R Φ J) : Calls Tryz.prog F.cmp_isNaN_int #[.int .i64 x] w fun e w' => ∃ v, e = .returned v ∧ J v w' :=
  vcFS_sound (H := { keep := some [0, 2] }) (by rw [show vcFS Tryz.prog W { keep := some [0, 2] } F.cmp_isNaN_int #[.int .i64 x] R Φ J = Bcmp_isNaN_int x W R Φ J by kernel_rfl]; exact h) c

/-- slices.CompareFunc[[]api.Value,[]api.Value,api.Value,api.Value] -/
-- loop at region 2: 13 ; blocks 
-- known blocks: 8 v1, 9 v2
def Bslices_CompareFunc_api_Value__api_Value_api_Value_api_Value (s1P : Option Addr) (s1N s1C : Nat) (s2P : Option Addr) (s2N s2C : Nat) (cmpF : FuncId) (cmpC : Array Value) (W : World) (R : List Own) (Φ : PW) (J : Value → World → Prop) : Prop :=
  exI fun (I0 : Int → List Own → PW → Nat → Prop) => (∃ (R1 : List Own), ∃ (Φ2 : PW), ∃ (k3 : Nat), Stable Φ2 ∧ (∀ (w4 : World) (R5 : List Own), Ctx W w4 (R ++ R5) Φ → Ctx W w4 (R1 ++ R5) Φ2)
  ∧ I0 0 R1 Φ2 k3) ∧ ∀ (n6 : Int) (R7 : List Own) (I8 : List Nat → World → Prop) (k9 : Nat), Stable I8 → I0 n6 R7 I8 k9 → Br (decide (n6 < (↑s1N : Int))) ((0 ≤ n6 ∧ n6 < (↑s1N : Int)) ∧ ptrK
  none s1P fun (k10 k11 : Nat) => ∀ (w12 : World) (R13 : List Own), Ctx W w12 (R7 ++ R13) I8 → ∃ (n14 : Int), ∃ (n15 : Int), ∃ (s16 : ByteArray), RowAt w12 k10 (k11 + n6.toNat * 3) [Value.int
  IntKind.i64 n14, Value.int IntKind.i64 n15, Value.string s16] ∧ ∀ (b : Nat), Br (decide ((↑s2N : Int) ≤ n6)) (∀ (w17 : World) (R18 : List Own), Ctx W w17 (R7 ++ R18) I8 → J (Value.int
  IntKind.i64 1) w17) ((0 ≤ n6 ∧ n6 < (↑s2N : Int)) ∧ ptrK none s2P fun (k19 k20 : Nat) => ∀ (w21 : World) (R22 : List Own), Ctx W w21 (R7 ++ R22) I8 → ∃ (n23 : Int), ∃ (n24 : Int), ∃ (s25 :
  ByteArray), RowAt w21 k19 (k20 + n6.toNat * 3) [Value.int IntKind.i64 n23, Value.int IntKind.i64 n24, Value.string s25] ∧ ∀ (b : Nat) (w26 : World) (R27 : List Own), Ctx W w26 (R7 ++ R27)
  I8 → okFun Tryz.prog cmpF = true ∧ Calls Tryz.prog cmpF (Array.mk (Value.agg #[Value.int IntKind.i64 n14, Value.int IntKind.i64 n15, Value.string s16] :: Value.agg #[Value.int IntKind.i64
  n23, Value.int IntKind.i64 n24, Value.string s25] :: cmpC.toList)) w26 fun (e28 : Ending) (w29 : World) => ∃ (n30 : Int), e28 = Ending.returned (Value.int IntKind.i64 n30) ∧ ∃ (R31 : List
  Own), ∃ (Φ32 : PW), Stable Φ32 ∧ Ctx W w29 (R31 ++ R27) Φ32 ∧ Br (decide (n30 ≠ 0)) (∀ (w33 : World) (R34 : List Own), Ctx W w33 (R31 ++ R34) Φ32 → J (Value.int IntKind.i64 n30) w33) (I64
  (n6 + 1) ∧ ∃ (R35 : List Own), ∃ (Φ36 : PW), ∃ (k37 : Nat), Stable Φ36 ∧ (∀ (w38 : World) (R39 : List Own), Ctx W w38 (R31 ++ R39) Φ32 → Ctx W w38 (R35 ++ R39) Φ36) ∧ I0 (n6 + 1) R35 Φ36
  k37 ∧ k37 < k9))) (Br (decide ((↑s1N : Int) < (↑s2N : Int))) (∀ (w40 : World) (R41 : List Own), Ctx W w40 (R7 ++ R41) I8 → J (Value.int IntKind.i64 (-1)) w40) (∀ (w42 : World) (R43 : List
  Own), Ctx W w42 (R7 ++ R43) I8 → J (Value.int IntKind.i64 0) w42))

theorem Bslices_CompareFunc_api_Value__api_Value_api_Value_api_Value_run (s1P : Option Addr) (s1N s1C : Nat) (s2P : Option Addr) (s2N s2C : Nat) (cmpF : FuncId) (cmpC : Array Value) {W w : World} {R : List Own} {Φ : PW} [Stable Φ] {J : Value → World → Prop} (c : Ctx W w R Φ) (h : Bslices_CompareFunc_api_Value__api_Value_api_Value_api_Value s1P s1N s1C s2P s2N s2C cmpF cmpC W R Φ J) : Calls Tryz.prog F.slices_CompareFunc_api_Value__api_Value_api_Value_api_Value #[.slice s1P s1N s1C, .slice s2P s2N s2C, .func (.func cmpF) #[] cmpC] w fun e w' => ∃ v, e = .returned v ∧ J v w' :=
  vcFS_sound (H := { keep := some [0, 1, 2, 6, 7, 8, 9, 10, 11, 12, 13, 14, 21, 31, 38], wrap := [29], track := [8, 9], loops := [(2, [(13, .one (.int .i64))], [])] }) (by rw [show vcFS Tryz.prog W { keep := some [0, 1, 2, 6, 7, 8, 9, 10, 11, 12, 13, 14, 21, 31, 38], wrap := [29], track := [8, 9], loops := [(2, [(13, .one (.int .i64))], [])] } F.slices_CompareFunc_api_Value__api_Value_api_Value_api_Value #[.slice s1P s1N s1C, .slice s2P s2N s2C, .func (.func cmpF) #[] cmpC] R Φ J = Bslices_CompareFunc_api_Value__api_Value_api_Value_api_Value s1P s1N s1C s2P s2N s2C cmpF cmpC W R Φ J by kernel_rfl]; exact h) c

/-- value.Compare -/
-- known blocks: 2 a, 3 b
def Bvalue_Compare (a0 : Int) (a1 : Int) (a2 : ByteArray) (b0 : Int) (b1 : Int) (b2 : ByteArray) (W : World) (R : List Own) (Φ : PW) (J : Value → World → Prop) : Prop :=
  ∀ (b b : Nat), ∃ (R0 : List Own), ∃ (Φ1 : PW), Stable Φ1 ∧ (∀ (w2 : World) (R3 : List Own), Ctx W w2 (R ++ R3) Φ → Ctx W w2 (R0 ++ R3) Φ1) ∧ ∀ (w4 : World) (R5 : List Own), Ctx W w4 (R ++
  R5) Φ → Calls Tryz.prog F.cmp_Compare_int #[Value.int IntKind.i64 a0, Value.int IntKind.i64 b0] w4 fun (e6 : Ending) (w7 : World) => ∃ (n8 : Int), e6 = Ending.returned (Value.int
  IntKind.i64 n8) ∧ ∃ (R9 : List Own), ∃ (Φ10 : PW), Stable Φ10 ∧ Ctx W w7 (R9 ++ R5) Φ10 ∧ (∀ (w11 : World) (R12 : List Own), Ctx W w11 (R9 ++ R12) Φ10 → Ctx W w11 (R0 ++ R12) Φ1) ∧ ∀ (w13 :
  World) (R14 : List Own), Ctx W w13 (R9 ++ R14) Φ10 → Calls Tryz.prog F.cmp_Compare_int #[Value.int IntKind.i64 a1, Value.int IntKind.i64 b1] w13 fun (e15 : Ending) (w16 : World) => ∃ (n17 :
  Int), e15 = Ending.returned (Value.int IntKind.i64 n17) ∧ ∃ (R18 : List Own), ∃ (Φ19 : PW), Stable Φ19 ∧ Ctx W w16 (R18 ++ R14) Φ19 ∧ (∀ (w20 : World) (R21 : List Own), Ctx W w20 (R18 ++
  R21) Φ19 → Ctx W w20 (R0 ++ R21) Φ1) ∧ ∀ (w22 : World) (R23 : List Own), Ctx W w22 (R18 ++ R23) Φ19 → Calls Tryz.prog F.strings_Compare #[Value.string a2, Value.string b2] w22 fun (e24 :
  Ending) (w25 : World) => ∃ (n26 : Int), e24 = Ending.returned (Value.int IntKind.i64 n26) ∧ ∃ (R27 : List Own), ∃ (Φ28 : PW), Stable Φ28 ∧ Ctx W w25 (R27 ++ R23) Φ28 ∧ ∀ (k29 : Nat) (w30 :
  World) (R31 : List Own), Ctx W w30 (Own.blk k29 [Value.int IntKind.i64 n8, Value.int IntKind.i64 n17, Value.int IntKind.i64 n26] 3 :: R27 ++ R31) Φ28 → Calls Tryz.prog F.cmp_Or_int
  #[Value.slice (some (Addr.mk k29 0 none)) 3 3] w30 fun (e32 : Ending) (w33 : World) => ∃ (n34 : Int), e32 = Ending.returned (Value.int IntKind.i64 n34) ∧ ∃ (R35 : List Own), ∃ (Φ36 : PW),
  Stable Φ36 ∧ Ctx W w33 (R35 ++ R31) Φ36 ∧ ∀ (w37 : World) (R38 : List Own), Ctx W w37 (R35 ++ R38) Φ36 → J (Value.int IntKind.i64 n34) w37

theorem Bvalue_Compare_run (a0 : Int) (a1 : Int) (a2 : ByteArray) (b0 : Int) (b1 : Int) (b2 : ByteArray) {W w : World} {R : List Own} {Φ : PW} [Stable Φ] {J : Value → World → Prop} (c : Ctx W w R Φ) (h : Bvalue_Compare a0 a1 a2 b0 b1 b2 W R Φ J) : Calls Tryz.prog F.value_Compare #[.agg #[.int .i64 a0, .int .i64 a1, .string a2], .agg #[.int .i64 b0, .int .i64 b1, .string b2]] w fun e w' => ∃ v, e = .returned v ∧ J v w' :=
  vcFS_sound (H := { keep := some [2, 3, 4], track := [2, 3], stages := [(1, [.held [(0, true), (2, true), (5, true), (7, true), (10, true), (12, true), (1, true), (3, true), (6, true), (8, true), (11, true), (13, true), (4, false), (9, false)], .stage [] (some 14), .stage [] (some 15), .stage [] (some 16), .stage [17] none])] }) (by rw [show vcFS Tryz.prog W { keep := some [2, 3, 4], track := [2, 3], stages := [(1, [.held [(0, true), (2, true), (5, true), (7, true), (10, true), (12, true), (1, true), (3, true), (6, true), (8, true), (11, true), (13, true), (4, false), (9, false)], .stage [] (some 14), .stage [] (some 15), .stage [] (some 16), .stage [17] none])] } F.value_Compare #[.agg #[.int .i64 a0, .int .i64 a1, .string a2], .agg #[.int .i64 b0, .int .i64 b1, .string b2]] R Φ J = Bvalue_Compare a0 a1 a2 b0 b1 b2 W R Φ J by kernel_rfl]; exact h) c

/-- slices.stableCmpFunc[api.Delta] -/
-- loop at region 9: 7 a, 8 b; blocks 
-- loop at region 7: 6 blockSize; blocks 
-- loop at region 2: 7 a, 8 b; blocks 
def Bslices_stableCmpFunc_api_Delta (dataP : Option Addr) (dataN dataC : Nat) (n : Int) (cmpF : FuncId) (cmpC : Array Value) (W : World) (R : List Own) (Φ : PW) (J : Value → World → Prop) : Prop :=
  exI fun (I0 : Int → Int → List Own → PW → Nat → Prop) => (∃ (R1 : List Own), ∃ (Φ2 : PW), ∃ (k3 : Nat), Stable Φ2 ∧ (∀ (w4 : World) (R5 : List Own), Ctx W w4 (R ++ R5) Φ → Ctx W w4 (R1 ++
  R5) Φ2) ∧ I0 0 20 R1 Φ2 k3) ∧ ∀ (n6 n7 : Int) (R8 : List Own) (I9 : List Nat → World → Prop) (k10 : Nat), Stable I9 → I0 n6 n7 R8 I9 k10 → Br (decide (n7 ≤ n)) (∀ (w11 : World) (R12 : List
  Own), Ctx W w11 (R8 ++ R12) I9 → Calls Tryz.prog F.slices_insertionSortCmpFunc_api_Delta #[Value.slice dataP dataN dataC, Value.int IntKind.i64 n6, Value.int IntKind.i64 n7, Value.func
  (Fn.func cmpF) #[] cmpC] w11 fun (e13 : Ending) (w14 : World) => e13 = Ending.returned (Value.tuple #[]) ∧ ∃ (R15 : List Own), ∃ (Φ16 : PW), Stable Φ16 ∧ Ctx W w14 (R15 ++ R12) Φ16 ∧ I64
  (n7 + 20) ∧ ∃ (R17 : List Own), ∃ (Φ18 : PW), ∃ (k19 : Nat), Stable Φ18 ∧ (∀ (w20 : World) (R21 : List Own), Ctx W w20 (R15 ++ R21) Φ16 → Ctx W w20 (R17 ++ R21) Φ18) ∧ I0 n7 (n7 + 20) R17
  Φ18 k19 ∧ k19 < k10) (∀ (w22 : World) (R23 : List Own), Ctx W w22 (R8 ++ R23) I9 → Calls Tryz.prog F.slices_insertionSortCmpFunc_api_Delta #[Value.slice dataP dataN dataC, Value.int
  IntKind.i64 n6, Value.int IntKind.i64 n, Value.func (Fn.func cmpF) #[] cmpC] w22 fun (e24 : Ending) (w25 : World) => e24 = Ending.returned (Value.tuple #[]) ∧ ∃ (R26 : List Own), ∃ (Φ27 :
  PW), Stable Φ27 ∧ Ctx W w25 (R26 ++ R23) Φ27 ∧ exI fun (I28 : Int → List Own → PW → Nat → Prop) => (∃ (R29 : List Own), ∃ (Φ30 : PW), ∃ (k31 : Nat), Stable Φ30 ∧ (∀ (w32 : World) (R33 :
  List Own), Ctx W w32 (R26 ++ R33) Φ27 → Ctx W w32 (R29 ++ R33) Φ30) ∧ I28 20 R29 Φ30 k31) ∧ ∀ (n34 : Int) (R35 : List Own) (I36 : List Nat → World → Prop) (k37 : Nat), Stable I36 → I28 n34
  R35 I36 k37 → Br (decide (n34 < n)) (I64 (2 * n34) ∧ exI fun (I38 : Int → Int → List Own → PW → Nat → Prop) => (∃ (R39 : List Own), ∃ (Φ40 : PW), ∃ (k41 : Nat), Stable Φ40 ∧ (∀ (w42 :
  World) (R43 : List Own), Ctx W w42 (R35 ++ R43) I36 → Ctx W w42 (R39 ++ R43) Φ40) ∧ I38 0 (2 * n34) R39 Φ40 k41) ∧ ∀ (n44 n45 : Int) (R46 : List Own) (I47 : List Nat → World → Prop) (k48 :
  Nat), Stable I47 → I38 n44 n45 R46 I47 k48 → Br (decide (n45 ≤ n)) (I64 (n44 + n34) ∧ ∀ (w49 : World) (R50 : List Own), Ctx W w49 (R46 ++ R50) I47 → Calls Tryz.prog
  F.slices_symMergeCmpFunc_api_Delta #[Value.slice dataP dataN dataC, Value.int IntKind.i64 n44, Value.int IntKind.i64 (n44 + n34), Value.int IntKind.i64 n45, Value.func (Fn.func cmpF) #[]
  cmpC] w49 fun (e51 : Ending) (w52 : World) => e51 = Ending.returned (Value.tuple #[]) ∧ ∃ (R53 : List Own), ∃ (Φ54 : PW), Stable Φ54 ∧ Ctx W w52 (R53 ++ R50) Φ54 ∧ I64 (2 * n34) ∧ I64 (n45
  + 2 * n34) ∧ ∃ (R55 : List Own), ∃ (Φ56 : PW), ∃ (k57 : Nat), Stable Φ56 ∧ (∀ (w58 : World) (R59 : List Own), Ctx W w58 (R53 ++ R59) Φ54 → Ctx W w58 (R55 ++ R59) Φ56) ∧ I38 n45 (n45 + 2 *
  n34) R55 Φ56 k57 ∧ k57 < k48) (I64 (n44 + n34) ∧ Br (decide (n44 + n34 < n)) (∀ (w60 : World) (R61 : List Own), Ctx W w60 (R46 ++ R61) I47 → Calls Tryz.prog
  F.slices_symMergeCmpFunc_api_Delta #[Value.slice dataP dataN dataC, Value.int IntKind.i64 n44, Value.int IntKind.i64 (n44 + n34), Value.int IntKind.i64 n, Value.func (Fn.func cmpF) #[]
  cmpC] w60 fun (e62 : Ending) (w63 : World) => e62 = Ending.returned (Value.tuple #[]) ∧ ∃ (R64 : List Own), ∃ (Φ65 : PW), Stable Φ65 ∧ Ctx W w63 (R64 ++ R61) Φ65 ∧ I64 (n34 * 2) ∧ ∃ (R66 :
  List Own), ∃ (Φ67 : PW), ∃ (k68 : Nat), Stable Φ67 ∧ (∀ (w69 : World) (R70 : List Own), Ctx W w69 (R64 ++ R70) Φ65 → Ctx W w69 (R66 ++ R70) Φ67) ∧ I28 (n34 * 2) R66 Φ67 k68 ∧ k68 < k37)
  (I64 (n34 * 2) ∧ ∃ (R71 : List Own), ∃ (Φ72 : PW), ∃ (k73 : Nat), Stable Φ72 ∧ (∀ (w74 : World) (R75 : List Own), Ctx W w74 (R46 ++ R75) I47 → Ctx W w74 (R71 ++ R75) Φ72) ∧ I28 (n34 * 2)
  R71 Φ72 k73 ∧ k73 < k37))) (∀ (w76 : World) (R77 : List Own), Ctx W w76 (R35 ++ R77) I36 → J (Value.tuple #[]) w76))

theorem Bslices_stableCmpFunc_api_Delta_run (dataP : Option Addr) (dataN dataC : Nat) (n : Int) (cmpF : FuncId) (cmpC : Array Value) {W w : World} {R : List Own} {Φ : PW} [Stable Φ] {J : Value → World → Prop} (c : Ctx W w R Φ) (h : Bslices_stableCmpFunc_api_Delta dataP dataN dataC n cmpF cmpC W R Φ J) : Calls Tryz.prog F.slices_stableCmpFunc_api_Delta #[.slice dataP dataN dataC, .int .i64 n, .func (.func cmpF) #[] cmpC] w fun e w' => ∃ v, e = .returned v ∧ J v w' :=
  vcFS_sound (H := { keep := some [0, 1, 2, 6, 7, 8, 9, 13, 30, 35, 54], loops := [(9, [(7, .one (.int .i64)), (8, .one (.int .i64))], []), (7, [(6, .one (.int .i64))], []), (2, [(7, .one (.int .i64)), (8, .one (.int .i64))], [])] }) (by rw [show vcFS Tryz.prog W { keep := some [0, 1, 2, 6, 7, 8, 9, 13, 30, 35, 54], loops := [(9, [(7, .one (.int .i64)), (8, .one (.int .i64))], []), (7, [(6, .one (.int .i64))], []), (2, [(7, .one (.int .i64)), (8, .one (.int .i64))], [])] } F.slices_stableCmpFunc_api_Delta #[.slice dataP dataN dataC, .int .i64 n, .func (.func cmpF) #[] cmpC] R Φ J = Bslices_stableCmpFunc_api_Delta dataP dataN dataC n cmpF cmpC W R Φ J by kernel_rfl]; exact h) c

/-- slices.insertionSortCmpFunc[api.Delta] -/
-- loop at region 4: 9 j; blocks 
-- loop at region 1: 8 i; blocks 
def Bslices_insertionSortCmpFunc_api_Delta (dataP : Option Addr) (dataN dataC : Nat) (a : Int) (b : Int) (cmpF : FuncId) (cmpC : Array Value) (W : World) (R : List Own) (Φ : PW) (J : Value → World → Prop) : Prop :=
  I64 (a + 1) ∧ exI fun (I0 : Int → List Own → PW → Nat → Prop) => (∃ (R1 : List Own), ∃ (Φ2 : PW), ∃ (k3 : Nat), Stable Φ2 ∧ (∀ (w4 : World) (R5 : List Own), Ctx W w4 (R ++ R5) Φ → Ctx W w4
  (R1 ++ R5) Φ2) ∧ I0 (a + 1) R1 Φ2 k3) ∧ ∀ (n6 : Int) (R7 : List Own) (I8 : List Nat → World → Prop) (k9 : Nat), Stable I8 → I0 n6 R7 I8 k9 → Br (decide (n6 < b)) (exI fun (I10 : Int → List
  Own → PW → Nat → Prop) => (∃ (R11 : List Own), ∃ (Φ12 : PW), ∃ (k13 : Nat), Stable Φ12 ∧ (∀ (w14 : World) (R15 : List Own), Ctx W w14 (R7 ++ R15) I8 → Ctx W w14 (R11 ++ R15) Φ12) ∧ I10 n6
  R11 Φ12 k13) ∧ ∀ (n16 : Int) (R17 : List Own) (I18 : List Nat → World → Prop) (k19 : Nat), Stable I18 → I10 n16 R17 I18 k19 → ∃ (R20 : List Own), ∃ (Φ21 : PW), Stable Φ21 ∧ (∀ (w22 : World)
  (R23 : List Own), Ctx W w22 (R17 ++ R23) I18 → Ctx W w22 (R20 ++ R23) Φ21) ∧ Br (decide (a < n16)) ((0 ≤ n16 ∧ n16 < (↑dataN : Int)) ∧ ptrK none dataP fun (k24 k25 : Nat) => I64 (n16 - 1) ∧
  ∃ (n26 : Int), ∃ (p27 : Option Addr), ∃ (k28 : Nat), ∃ (k29 : Nat), ∃ (n30 : Int), (∀ (w31 : World) (R32 : List Own), Ctx W w31 (R20 ++ R32) Φ21 → ∃ (n33 : Int), ∃ (p34 : Option Addr), ∃
  (k35 : Nat), ∃ (k36 : Nat), ∃ (n37 : Int), RowAt w31 k24 (k25 + n16.toNat * 3) [Value.int IntKind.i64 n33, Value.slice p34 k35 k36, Value.int IntKind.i64 n37] ∧ Value.agg #[Value.int
  IntKind.i64 n33, Value.slice p34 k35 k36, Value.int IntKind.i64 n37] = Value.agg #[Value.int IntKind.i64 n26, Value.slice p27 k28 k29, Value.int IntKind.i64 n30]) ∧ (0 ≤ n16 - 1 ∧ n16 - 1 <
  (↑dataN : Int)) ∧ ptrK none dataP fun (k38 k39 : Nat) => ∃ (n40 : Int), ∃ (p41 : Option Addr), ∃ (k42 : Nat), ∃ (k43 : Nat), ∃ (n44 : Int), (∀ (w45 : World) (R46 : List Own), Ctx W w45 (R20
  ++ R46) Φ21 → ∃ (n47 : Int), ∃ (p48 : Option Addr), ∃ (k49 : Nat), ∃ (k50 : Nat), ∃ (n51 : Int), RowAt w45 k38 (k39 + (n16 - 1).toNat * 3) [Value.int IntKind.i64 n47, Value.slice p48 k49
  k50, Value.int IntKind.i64 n51] ∧ Value.agg #[Value.int IntKind.i64 n47, Value.slice p48 k49 k50, Value.int IntKind.i64 n51] = Value.agg #[Value.int IntKind.i64 n40, Value.slice p41 k42
  k43, Value.int IntKind.i64 n44]) ∧ ∀ (w52 : World) (R53 : List Own), Ctx W w52 (R17 ++ R53) I18 → okFun Tryz.prog cmpF = true ∧ Calls Tryz.prog cmpF (Array.mk (Value.agg #[Value.int
  IntKind.i64 n26, Value.slice p27 k28 k29, Value.int IntKind.i64 n30] :: Value.agg #[Value.int IntKind.i64 n40, Value.slice p41 k42 k43, Value.int IntKind.i64 n44] :: cmpC.toList)) w52 fun
  (e54 : Ending) (w55 : World) => ∃ (n56 : Int), e54 = Ending.returned (Value.int IntKind.i64 n56) ∧ ∃ (R57 : List Own), ∃ (Φ58 : PW), Stable Φ58 ∧ Ctx W w55 (R57 ++ R53) Φ58 ∧ Br (decide
  (n56 < 0)) (∃ (R59 : List Own), ∃ (Φ60 : PW), Stable Φ60 ∧ (∀ (w61 : World) (R62 : List Own), Ctx W w61 (R57 ++ R62) Φ58 → Ctx W w61 (R59 ++ R62) Φ60) ∧ I64 (n16 - 1) ∧ I64 (n16 - 1) ∧ (0 ≤
  n16 ∧ n16 < (↑dataN : Int)) ∧ ptrK none dataP fun (k63 k64 : Nat) => (0 ≤ n16 - 1 ∧ n16 - 1 < (↑dataN : Int)) ∧ ptrK none dataP fun (k65 k66 : Nat) => ∀ (w67 : World) (R68 : List Own), Ctx
  W w67 (R57 ++ R68) Φ58 → ∃ (n69 : Int), ∃ (p70 : Option Addr), ∃ (k71 : Nat), ∃ (k72 : Nat), ∃ (n73 : Int), RowAt w67 k63 (k64 + n16.toNat * 3) [Value.int IntKind.i64 n69, Value.slice p70
  k71 k72, Value.int IntKind.i64 n73] ∧ ∀ (w74 : World) (R75 : List Own), Ctx W w74 (R57 ++ R75) Φ58 → ∃ (n76 : Int), ∃ (p77 : Option Addr), ∃ (k78 : Nat), ∃ (k79 : Nat), ∃ (n80 : Int), RowAt
  w74 k65 (k66 + (n16 - 1).toNat * 3) [Value.int IntKind.i64 n76, Value.slice p77 k78 k79, Value.int IntKind.i64 n80] ∧ (0 ≤ n16 ∧ n16 < (↑dataN : Int)) ∧ ptrK none dataP fun (k81 k82 : Nat)
  => ∀ (w83 : World) (R84 : List Own), Ctx W w83 (R57 ++ R84) Φ58 → CanWrite w83 k81 (k82 + n16.toNat * 3) 3 ∧ ∀ (w85 : World), w85 = w83.setCells k81 (k82 + n16.toNat * 3) [Value.int
  IntKind.i64 n76, Value.slice p77 k78 k79, Value.int IntKind.i64 n80] → ∃ (R86 : List Own), ∃ (Φ87 : PW), Stable Φ87 ∧ Ctx W w85 (R86 ++ R84) Φ87 ∧ (∀ (w88 : World) (R89 : List Own), Ctx W
  w88 (R86 ++ R89) Φ87 → Ctx W w88 (R59 ++ R89) Φ60) ∧ (0 ≤ n16 - 1 ∧ n16 - 1 < (↑dataN : Int)) ∧ ptrK none dataP fun (k90 k91 : Nat) => ∀ (w92 : World) (R93 : List Own), Ctx W w92 (R86 ++
  R93) Φ87 → CanWrite w92 k90 (k91 + (n16 - 1).toNat * 3) 3 ∧ ∀ (w94 : World), w94 = w92.setCells k90 (k91 + (n16 - 1).toNat * 3) [Value.int IntKind.i64 n69, Value.slice p70 k71 k72,
  Value.int IntKind.i64 n73] → ∃ (R95 : List Own), ∃ (Φ96 : PW), Stable Φ96 ∧ Ctx W w94 (R95 ++ R93) Φ96 ∧ (∀ (w97 : World) (R98 : List Own), Ctx W w97 (R95 ++ R98) Φ96 → Ctx W w97 (R59 ++
  R98) Φ60) ∧ I64 (n16 - 1) ∧ ∃ (R99 : List Own), ∃ (Φ100 : PW), ∃ (k101 : Nat), Stable Φ100 ∧ (∀ (w102 : World) (R103 : List Own), Ctx W w102 (R95 ++ R103) Φ96 → Ctx W w102 (R99 ++ R103)
  Φ100) ∧ I10 (n16 - 1) R99 Φ100 k101 ∧ k101 < k19) (I64 (n6 + 1) ∧ ∃ (R104 : List Own), ∃ (Φ105 : PW), ∃ (k106 : Nat), Stable Φ105 ∧ (∀ (w107 : World) (R108 : List Own), Ctx W w107 (R57 ++
  R108) Φ58 → Ctx W w107 (R104 ++ R108) Φ105) ∧ I0 (n6 + 1) R104 Φ105 k106 ∧ k106 < k9)) (I64 (n6 + 1) ∧ ∃ (R109 : List Own), ∃ (Φ110 : PW), ∃ (k111 : Nat), Stable Φ110 ∧ (∀ (w112 : World)
  (R113 : List Own), Ctx W w112 (R17 ++ R113) I18 → Ctx W w112 (R109 ++ R113) Φ110) ∧ I0 (n6 + 1) R109 Φ110 k111 ∧ k111 < k9)) (∀ (w114 : World) (R115 : List Own), Ctx W w114 (R7 ++ R115) I8
  → J (Value.tuple #[]) w114)

theorem Bslices_insertionSortCmpFunc_api_Delta_run (dataP : Option Addr) (dataN dataC : Nat) (a : Int) (b : Int) (cmpF : FuncId) (cmpC : Array Value) {W w : World} {R : List Own} {Φ : PW} [Stable Φ] {J : Value → World → Prop} (c : Ctx W w R Φ) (h : Bslices_insertionSortCmpFunc_api_Delta dataP dataN dataC a b cmpF cmpC W R Φ J) : Calls Tryz.prog F.slices_insertionSortCmpFunc_api_Delta #[.slice dataP dataN dataC, .int .i64 a, .int .i64 b, .func (.func cmpF) #[] cmpC] w fun e w' => ∃ v, e = .returned v ∧ J v w' :=
  vcFS_sound (H := { keep := some [0, 1, 2, 3, 8, 9, 14, 34], wrap := [32], stages := [(4, [.held [(0, true), (1, true), (2, true), (3, true), (4, true), (5, true), (6, true), (9, true), (10, true), (7, true), (11, true), (8, true), (12, true), (13, true)], .stage [] (some 14), .stage [15, 16] none]), (6, [.late [0, 1, 5, 6, 7, 8, 13, 9, 14] [0, 1, 2, 3, 5, 6, 10, 11, 4, 7, 12, 8, 13, 9, 14] [(15, [16]), (17, [])]])], loops := [(4, [(9, .one (.int .i64))], []), (1, [(8, .one (.int .i64))], [])] }) (by rw [show vcFS Tryz.prog W { keep := some [0, 1, 2, 3, 8, 9, 14, 34], wrap := [32], stages := [(4, [.held [(0, true), (1, true), (2, true), (3, true), (4, true), (5, true), (6, true), (9, true), (10, true), (7, true), (11, true), (8, true), (12, true), (13, true)], .stage [] (some 14), .stage [15, 16] none]), (6, [.late [0, 1, 5, 6, 7, 8, 13, 9, 14] [0, 1, 2, 3, 5, 6, 10, 11, 4, 7, 12, 8, 13, 9, 14] [(15, [16]), (17, [])]])], loops := [(4, [(9, .one (.int .i64))], []), (1, [(8, .one (.int .i64))], [])] } F.slices_insertionSortCmpFunc_api_Delta #[.slice dataP dataN dataC, .int .i64 a, .int .i64 b, .func (.func cmpF) #[] cmpC] R Φ J = Bslices_insertionSortCmpFunc_api_Delta dataP dataN dataC a b cmpF cmpC W R Φ J by kernel_rfl]; exact h) c

/-- slices.symMergeCmpFunc[api.Delta] -/
-- loop at region 33: 20 start, 21 r; blocks 
-- loop at region 21: 17 k; blocks 
-- loop at region 15: 14 i, 15 j; blocks 
-- loop at region 9: 13 k; blocks 
-- loop at region 3: 10 i, 11 j; blocks 
def Bslices_symMergeCmpFunc_api_Delta (dataP : Option Addr) (dataN dataC : Nat) (a : Int) (m : Int) (b : Int) (cmpF : FuncId) (cmpC : Array Value) (W : World) (R : List Own) (Φ : PW) (J : Value → World → Prop) : Prop :=
  I64 (m - a) ∧ Br (decide (m - a = 1)) (exI fun (I0 : Int → Int → List Own → PW → Nat → Prop) => (∃ (R1 : List Own), ∃ (Φ2 : PW), ∃ (k3 : Nat), Stable Φ2 ∧ (∀ (w4 : World) (R5 : List Own),
  Ctx W w4 (R ++ R5) Φ → Ctx W w4 (R1 ++ R5) Φ2) ∧ I0 m b R1 Φ2 k3) ∧ ∀ (n6 n7 : Int) (R8 : List Own) (I9 : List Nat → World → Prop) (k10 : Nat), Stable I9 → I0 n6 n7 R8 I9 k10 → Br (decide
  (n6 < n7)) (I64 (n6 + n7) ∧ ∃ (n11 : Int), (∀ (w12 : World), Sem.run Tryz.prog (binOp BinOp.shr 156 (Value.int IntKind.u64 (IntKind.u64.wrap (n6 + n7))) (Value.int IntKind.u64 1)) w12 =
  Result.ok (Value.int IntKind.u64 n11) w12) ∧ ∃ (R13 : List Own), ∃ (Φ14 : PW), Stable Φ14 ∧ (∀ (w15 : World) (R16 : List Own), Ctx W w15 (R8 ++ R16) I9 → Ctx W w15 (R13 ++ R16) Φ14) ∧ (0 ≤
  IntKind.i64.wrap n11 ∧ IntKind.i64.wrap n11 < (↑dataN : Int)) ∧ ptrK none dataP fun (k17 k18 : Nat) => (0 ≤ a ∧ a < (↑dataN : Int)) ∧ ptrK none dataP fun (k19 k20 : Nat) => ∃ (n21 : Int), ∃
  (p22 : Option Addr), ∃ (k23 : Nat), ∃ (k24 : Nat), ∃ (n25 : Int), (∀ (w26 : World) (R27 : List Own), Ctx W w26 (R13 ++ R27) Φ14 → ∃ (n28 : Int), ∃ (p29 : Option Addr), ∃ (k30 : Nat), ∃ (k31
  : Nat), ∃ (n32 : Int), RowAt w26 k17 (k18 + (IntKind.i64.wrap n11).toNat * 3) [Value.int IntKind.i64 n28, Value.slice p29 k30 k31, Value.int IntKind.i64 n32] ∧ Value.agg #[Value.int
  IntKind.i64 n28, Value.slice p29 k30 k31, Value.int IntKind.i64 n32] = Value.agg #[Value.int IntKind.i64 n21, Value.slice p22 k23 k24, Value.int IntKind.i64 n25]) ∧ ∃ (n33 : Int), ∃ (p34 :
  Option Addr), ∃ (k35 : Nat), ∃ (k36 : Nat), ∃ (n37 : Int), (∀ (w38 : World) (R39 : List Own), Ctx W w38 (R13 ++ R39) Φ14 → ∃ (n40 : Int), ∃ (p41 : Option Addr), ∃ (k42 : Nat), ∃ (k43 :
  Nat), ∃ (n44 : Int), RowAt w38 k19 (k20 + a.toNat * 3) [Value.int IntKind.i64 n40, Value.slice p41 k42 k43, Value.int IntKind.i64 n44] ∧ Value.agg #[Value.int IntKind.i64 n40, Value.slice
  p41 k42 k43, Value.int IntKind.i64 n44] = Value.agg #[Value.int IntKind.i64 n33, Value.slice p34 k35 k36, Value.int IntKind.i64 n37]) ∧ ∀ (w45 : World) (R46 : List Own), Ctx W w45 (R8 ++
  R46) I9 → okFun Tryz.prog cmpF = true ∧ Calls Tryz.prog cmpF (Array.mk (Value.agg #[Value.int IntKind.i64 n21, Value.slice p22 k23 k24, Value.int IntKind.i64 n25] :: Value.agg #[Value.int
  IntKind.i64 n33, Value.slice p34 k35 k36, Value.int IntKind.i64 n37] :: cmpC.toList)) w45 fun (e47 : Ending) (w48 : World) => ∃ (n49 : Int), e47 = Ending.returned (Value.int IntKind.i64
  n49) ∧ ∃ (R50 : List Own), ∃ (Φ51 : PW), Stable Φ51 ∧ Ctx W w48 (R50 ++ R46) Φ51 ∧ Br (decide (n49 < 0)) (I64 (IntKind.i64.wrap n11 + 1) ∧ ∃ (R52 : List Own), ∃ (Φ53 : PW), ∃ (k54 : Nat),
  Stable Φ53 ∧ (∀ (w55 : World) (R56 : List Own), Ctx W w55 (R50 ++ R56) Φ51 → Ctx W w55 (R52 ++ R56) Φ53) ∧ I0 (IntKind.i64.wrap n11 + 1) n7 R52 Φ53 k54 ∧ k54 < k10) (∃ (R57 : List Own), ∃
  (Φ58 : PW), ∃ (k59 : Nat), Stable Φ58 ∧ (∀ (w60 : World) (R61 : List Own), Ctx W w60 (R50 ++ R61) Φ51 → Ctx W w60 (R57 ++ R61) Φ58) ∧ I0 n6 (IntKind.i64.wrap n11) R57 Φ58 k59 ∧ k59 < k10))
  (exI fun (I62 : Int → List Own → PW → Nat → Prop) => (∃ (R63 : List Own), ∃ (Φ64 : PW), ∃ (k65 : Nat), Stable Φ64 ∧ (∀ (w66 : World) (R67 : List Own), Ctx W w66 (R8 ++ R67) I9 → Ctx W w66
  (R63 ++ R67) Φ64) ∧ I62 a R63 Φ64 k65) ∧ ∀ (n68 : Int) (R69 : List Own) (I70 : List Nat → World → Prop) (k71 : Nat), Stable I70 → I62 n68 R69 I70 k71 → I64 (n6 - 1) ∧ Br (decide (n68 < n6 -
  1)) (∃ (R72 : List Own), ∃ (Φ73 : PW), Stable Φ73 ∧ (∀ (w74 : World) (R75 : List Own), Ctx W w74 (R69 ++ R75) I70 → Ctx W w74 (R72 ++ R75) Φ73) ∧ I64 (n68 + 1) ∧ I64 (n68 + 1) ∧ (0 ≤ n68 ∧
  n68 < (↑dataN : Int)) ∧ ptrK none dataP fun (k76 k77 : Nat) => (0 ≤ n68 + 1 ∧ n68 + 1 < (↑dataN : Int)) ∧ ptrK none dataP fun (k78 k79 : Nat) => ∀ (w80 : World) (R81 : List Own), Ctx W w80
  (R69 ++ R81) I70 → ∃ (n82 : Int), ∃ (p83 : Option Addr), ∃ (k84 : Nat), ∃ (k85 : Nat), ∃ (n86 : Int), RowAt w80 k76 (k77 + n68.toNat * 3) [Value.int IntKind.i64 n82, Value.slice p83 k84
  k85, Value.int IntKind.i64 n86] ∧ ∀ (w87 : World) (R88 : List Own), Ctx W w87 (R69 ++ R88) I70 → ∃ (n89 : Int), ∃ (p90 : Option Addr), ∃ (k91 : Nat), ∃ (k92 : Nat), ∃ (n93 : Int), RowAt w87
  k78 (k79 + (n68 + 1).toNat * 3) [Value.int IntKind.i64 n89, Value.slice p90 k91 k92, Value.int IntKind.i64 n93] ∧ (0 ≤ n68 ∧ n68 < (↑dataN : Int)) ∧ ptrK none dataP fun (k94 k95 : Nat) => ∀
  (w96 : World) (R97 : List Own), Ctx W w96 (R69 ++ R97) I70 → CanWrite w96 k94 (k95 + n68.toNat * 3) 3 ∧ ∀ (w98 : World), w98 = w96.setCells k94 (k95 + n68.toNat * 3) [Value.int IntKind.i64
  n89, Value.slice p90 k91 k92, Value.int IntKind.i64 n93] → ∃ (R99 : List Own), ∃ (Φ100 : PW), Stable Φ100 ∧ Ctx W w98 (R99 ++ R97) Φ100 ∧ (∀ (w101 : World) (R102 : List Own), Ctx W w101
  (R99 ++ R102) Φ100 → Ctx W w101 (R72 ++ R102) Φ73) ∧ (0 ≤ n68 + 1 ∧ n68 + 1 < (↑dataN : Int)) ∧ ptrK none dataP fun (k103 k104 : Nat) => ∀ (w105 : World) (R106 : List Own), Ctx W w105 (R99
  ++ R106) Φ100 → CanWrite w105 k103 (k104 + (n68 + 1).toNat * 3) 3 ∧ ∀ (w107 : World), w107 = w105.setCells k103 (k104 + (n68 + 1).toNat * 3) [Value.int IntKind.i64 n82, Value.slice p83 k84
  k85, Value.int IntKind.i64 n86] → ∃ (R108 : List Own), ∃ (Φ109 : PW), Stable Φ109 ∧ Ctx W w107 (R108 ++ R106) Φ109 ∧ (∀ (w110 : World) (R111 : List Own), Ctx W w110 (R108 ++ R111) Φ109 →
  Ctx W w110 (R72 ++ R111) Φ73) ∧ I64 (n68 + 1) ∧ ∃ (R112 : List Own), ∃ (Φ113 : PW), ∃ (k114 : Nat), Stable Φ113 ∧ (∀ (w115 : World) (R116 : List Own), Ctx W w115 (R108 ++ R116) Φ109 → Ctx W
  w115 (R112 ++ R116) Φ113) ∧ I62 (n68 + 1) R112 Φ113 k114 ∧ k114 < k71) (∀ (w117 : World) (R118 : List Own), Ctx W w117 (R69 ++ R118) I70 → J (Value.tuple #[]) w117))) (I64 (b - m) ∧ Br
  (decide (b - m = 1)) (exI fun (I119 : Int → Int → List Own → PW → Nat → Prop) => (∃ (R120 : List Own), ∃ (Φ121 : PW), ∃ (k122 : Nat), Stable Φ121 ∧ (∀ (w123 : World) (R124 : List Own), Ctx
  W w123 (R ++ R124) Φ → Ctx W w123 (R120 ++ R124) Φ121) ∧ I119 a m R120 Φ121 k122) ∧ ∀ (n125 n126 : Int) (R127 : List Own) (I128 : List Nat → World → Prop) (k129 : Nat), Stable I128 → I119
  n125 n126 R127 I128 k129 → Br (decide (n125 < n126)) (I64 (n125 + n126) ∧ ∃ (n130 : Int), (∀ (w131 : World), Sem.run Tryz.prog (binOp BinOp.shr 156 (Value.int IntKind.u64 (IntKind.u64.wrap
  (n125 + n126))) (Value.int IntKind.u64 1)) w131 = Result.ok (Value.int IntKind.u64 n130) w131) ∧ ∃ (R132 : List Own), ∃ (Φ133 : PW), Stable Φ133 ∧ (∀ (w134 : World) (R135 : List Own), Ctx W
  w134 (R127 ++ R135) I128 → Ctx W w134 (R132 ++ R135) Φ133) ∧ (0 ≤ m ∧ m < (↑dataN : Int)) ∧ ptrK none dataP fun (k136 k137 : Nat) => (0 ≤ IntKind.i64.wrap n130 ∧ IntKind.i64.wrap n130 <
  (↑dataN : Int)) ∧ ptrK none dataP fun (k138 k139 : Nat) => ∃ (n140 : Int), ∃ (p141 : Option Addr), ∃ (k142 : Nat), ∃ (k143 : Nat), ∃ (n144 : Int), (∀ (w145 : World) (R146 : List Own), Ctx W
  w145 (R132 ++ R146) Φ133 → ∃ (n147 : Int), ∃ (p148 : Option Addr), ∃ (k149 : Nat), ∃ (k150 : Nat), ∃ (n151 : Int), RowAt w145 k136 (k137 + m.toNat * 3) [Value.int IntKind.i64 n147,
  Value.slice p148 k149 k150, Value.int IntKind.i64 n151] ∧ Value.agg #[Value.int IntKind.i64 n147, Value.slice p148 k149 k150, Value.int IntKind.i64 n151] = Value.agg #[Value.int IntKind.i64
  n140, Value.slice p141 k142 k143, Value.int IntKind.i64 n144]) ∧ ∃ (n152 : Int), ∃ (p153 : Option Addr), ∃ (k154 : Nat), ∃ (k155 : Nat), ∃ (n156 : Int), (∀ (w157 : World) (R158 : List Own),
  Ctx W w157 (R132 ++ R158) Φ133 → ∃ (n159 : Int), ∃ (p160 : Option Addr), ∃ (k161 : Nat), ∃ (k162 : Nat), ∃ (n163 : Int), RowAt w157 k138 (k139 + (IntKind.i64.wrap n130).toNat * 3)
  [Value.int IntKind.i64 n159, Value.slice p160 k161 k162, Value.int IntKind.i64 n163] ∧ Value.agg #[Value.int IntKind.i64 n159, Value.slice p160 k161 k162, Value.int IntKind.i64 n163] =
  Value.agg #[Value.int IntKind.i64 n152, Value.slice p153 k154 k155, Value.int IntKind.i64 n156]) ∧ ∀ (w164 : World) (R165 : List Own), Ctx W w164 (R127 ++ R165) I128 → okFun Tryz.prog cmpF
  = true ∧ Calls Tryz.prog cmpF (Array.mk (Value.agg #[Value.int IntKind.i64 n140, Value.slice p141 k142 k143, Value.int IntKind.i64 n144] :: Value.agg #[Value.int IntKind.i64 n152,
  Value.slice p153 k154 k155, Value.int IntKind.i64 n156] :: cmpC.toList)) w164 fun (e166 : Ending) (w167 : World) => ∃ (n168 : Int), e166 = Ending.returned (Value.int IntKind.i64 n168) ∧ ∃
  (R169 : List Own), ∃ (Φ170 : PW), Stable Φ170 ∧ Ctx W w167 (R169 ++ R165) Φ170 ∧ Br (!decide (n168 < 0)) (I64 (IntKind.i64.wrap n130 + 1) ∧ ∃ (R171 : List Own), ∃ (Φ172 : PW), ∃ (k173 :
  Nat), Stable Φ172 ∧ (∀ (w174 : World) (R175 : List Own), Ctx W w174 (R169 ++ R175) Φ170 → Ctx W w174 (R171 ++ R175) Φ172) ∧ I119 (IntKind.i64.wrap n130 + 1) n126 R171 Φ172 k173 ∧ k173 <
  k129) (∃ (R176 : List Own), ∃ (Φ177 : PW), ∃ (k178 : Nat), Stable Φ177 ∧ (∀ (w179 : World) (R180 : List Own), Ctx W w179 (R169 ++ R180) Φ170 → Ctx W w179 (R176 ++ R180) Φ177) ∧ I119 n125
  (IntKind.i64.wrap n130) R176 Φ177 k178 ∧ k178 < k129)) (exI fun (I181 : Int → List Own → PW → Nat → Prop) => (∃ (R182 : List Own), ∃ (Φ183 : PW), ∃ (k184 : Nat), Stable Φ183 ∧ (∀ (w185 :
  World) (R186 : List Own), Ctx W w185 (R127 ++ R186) I128 → Ctx W w185 (R182 ++ R186) Φ183) ∧ I181 m R182 Φ183 k184) ∧ ∀ (n187 : Int) (R188 : List Own) (I189 : List Nat → World → Prop) (k190
  : Nat), Stable I189 → I181 n187 R188 I189 k190 → Br (decide (n125 < n187)) (∃ (R191 : List Own), ∃ (Φ192 : PW), Stable Φ192 ∧ (∀ (w193 : World) (R194 : List Own), Ctx W w193 (R188 ++ R194)
  I189 → Ctx W w193 (R191 ++ R194) Φ192) ∧ I64 (n187 - 1) ∧ I64 (n187 - 1) ∧ (0 ≤ n187 ∧ n187 < (↑dataN : Int)) ∧ ptrK none dataP fun (k195 k196 : Nat) => (0 ≤ n187 - 1 ∧ n187 - 1 < (↑dataN :
  Int)) ∧ ptrK none dataP fun (k197 k198 : Nat) => ∀ (w199 : World) (R200 : List Own), Ctx W w199 (R188 ++ R200) I189 → ∃ (n201 : Int), ∃ (p202 : Option Addr), ∃ (k203 : Nat), ∃ (k204 : Nat),
  ∃ (n205 : Int), RowAt w199 k195 (k196 + n187.toNat * 3) [Value.int IntKind.i64 n201, Value.slice p202 k203 k204, Value.int IntKind.i64 n205] ∧ ∀ (w206 : World) (R207 : List Own), Ctx W w206
  (R188 ++ R207) I189 → ∃ (n208 : Int), ∃ (p209 : Option Addr), ∃ (k210 : Nat), ∃ (k211 : Nat), ∃ (n212 : Int), RowAt w206 k197 (k198 + (n187 - 1).toNat * 3) [Value.int IntKind.i64 n208,
  Value.slice p209 k210 k211, Value.int IntKind.i64 n212] ∧ (0 ≤ n187 ∧ n187 < (↑dataN : Int)) ∧ ptrK none dataP fun (k213 k214 : Nat) => ∀ (w215 : World) (R216 : List Own), Ctx W w215 (R188
  ++ R216) I189 → CanWrite w215 k213 (k214 + n187.toNat * 3) 3 ∧ ∀ (w217 : World), w217 = w215.setCells k213 (k214 + n187.toNat * 3) [Value.int IntKind.i64 n208, Value.slice p209 k210 k211,
  Value.int IntKind.i64 n212] → ∃ (R218 : List Own), ∃ (Φ219 : PW), Stable Φ219 ∧ Ctx W w217 (R218 ++ R216) Φ219 ∧ (∀ (w220 : World) (R221 : List Own), Ctx W w220 (R218 ++ R221) Φ219 → Ctx W
  w220 (R191 ++ R221) Φ192) ∧ (0 ≤ n187 - 1 ∧ n187 - 1 < (↑dataN : Int)) ∧ ptrK none dataP fun (k222 k223 : Nat) => ∀ (w224 : World) (R225 : List Own), Ctx W w224 (R218 ++ R225) Φ219 →
  CanWrite w224 k222 (k223 + (n187 - 1).toNat * 3) 3 ∧ ∀ (w226 : World), w226 = w224.setCells k222 (k223 + (n187 - 1).toNat * 3) [Value.int IntKind.i64 n201, Value.slice p202 k203 k204,
  Value.int IntKind.i64 n205] → ∃ (R227 : List Own), ∃ (Φ228 : PW), Stable Φ228 ∧ Ctx W w226 (R227 ++ R225) Φ228 ∧ (∀ (w229 : World) (R230 : List Own), Ctx W w229 (R227 ++ R230) Φ228 → Ctx W
  w229 (R191 ++ R230) Φ192) ∧ I64 (n187 - 1) ∧ ∃ (R231 : List Own), ∃ (Φ232 : PW), ∃ (k233 : Nat), Stable Φ232 ∧ (∀ (w234 : World) (R235 : List Own), Ctx W w234 (R227 ++ R235) Φ228 → Ctx W
  w234 (R231 ++ R235) Φ232) ∧ I181 (n187 - 1) R231 Φ232 k233 ∧ k233 < k190) (∀ (w236 : World) (R237 : List Own), Ctx W w236 (R188 ++ R237) I189 → J (Value.tuple #[]) w236))) (I64 (a + b) ∧ ∃
  (n238 : Int), (∀ (w239 : World), Sem.run Tryz.prog (binOp BinOp.shr 156 (Value.int IntKind.u64 (IntKind.u64.wrap (a + b))) (Value.int IntKind.u64 1)) w239 = Result.ok (Value.int IntKind.u64
  n238) w239) ∧ I64 (IntKind.i64.wrap n238 + m) ∧ Br (decide (IntKind.i64.wrap n238 < m)) (I64 (IntKind.i64.wrap n238 + m - b) ∧ I64 (IntKind.i64.wrap n238 + m - 1) ∧ exI fun (I240 : Int →
  Int → List Own → PW → Nat → Prop) => (∃ (R241 : List Own), ∃ (Φ242 : PW), ∃ (k243 : Nat), Stable Φ242 ∧ (∀ (w244 : World) (R245 : List Own), Ctx W w244 (R ++ R245) Φ → Ctx W w244 (R241 ++
  R245) Φ242) ∧ I240 (IntKind.i64.wrap n238 + m - b) (IntKind.i64.wrap n238) R241 Φ242 k243) ∧ ∀ (n246 n247 : Int) (R248 : List Own) (I249 : List Nat → World → Prop) (k250 : Nat), Stable I249
  → I240 n246 n247 R248 I249 k250 → Br (decide (n246 < n247)) (I64 (n246 + n247) ∧ ∃ (n251 : Int), (∀ (w252 : World), Sem.run Tryz.prog (binOp BinOp.shr 156 (Value.int IntKind.u64
  (IntKind.u64.wrap (n246 + n247))) (Value.int IntKind.u64 1)) w252 = Result.ok (Value.int IntKind.u64 n251) w252) ∧ ∃ (R253 : List Own), ∃ (Φ254 : PW), Stable Φ254 ∧ (∀ (w255 : World) (R256
  : List Own), Ctx W w255 (R248 ++ R256) I249 → Ctx W w255 (R253 ++ R256) Φ254) ∧ I64 (IntKind.i64.wrap n238 + m - 1 - IntKind.i64.wrap n251) ∧ (0 ≤ IntKind.i64.wrap n251 ∧ IntKind.i64.wrap
  n251 < (↑dataN : Int)) ∧ ptrK none dataP fun (k257 k258 : Nat) => (0 ≤ IntKind.i64.wrap n238 + m - 1 - IntKind.i64.wrap n251 ∧ IntKind.i64.wrap n238 + m - 1 - IntKind.i64.wrap n251 <
  (↑dataN : Int)) ∧ ptrK none dataP fun (k259 k260 : Nat) => ∃ (n261 : Int), ∃ (p262 : Option Addr), ∃ (k263 : Nat), ∃ (k264 : Nat), ∃ (n265 : Int), (∀ (w266 : World) (R267 : List Own), Ctx W
  w266 (R253 ++ R267) Φ254 → ∃ (n268 : Int), ∃ (p269 : Option Addr), ∃ (k270 : Nat), ∃ (k271 : Nat), ∃ (n272 : Int), RowAt w266 k257 (k258 + (IntKind.i64.wrap n251).toNat * 3) [Value.int
  IntKind.i64 n268, Value.slice p269 k270 k271, Value.int IntKind.i64 n272] ∧ Value.agg #[Value.int IntKind.i64 n268, Value.slice p269 k270 k271, Value.int IntKind.i64 n272] = Value.agg
  #[Value.int IntKind.i64 n261, Value.slice p262 k263 k264, Value.int IntKind.i64 n265]) ∧ ∃ (n273 : Int), ∃ (p274 : Option Addr), ∃ (k275 : Nat), ∃ (k276 : Nat), ∃ (n277 : Int), (∀ (w278 :
  World) (R279 : List Own), Ctx W w278 (R253 ++ R279) Φ254 → ∃ (n280 : Int), ∃ (p281 : Option Addr), ∃ (k282 : Nat), ∃ (k283 : Nat), ∃ (n284 : Int), RowAt w278 k259 (k260 + (IntKind.i64.wrap
  n238 + m - 1 - IntKind.i64.wrap n251).toNat * 3) [Value.int IntKind.i64 n280, Value.slice p281 k282 k283, Value.int IntKind.i64 n284] ∧ Value.agg #[Value.int IntKind.i64 n280, Value.slice
  p281 k282 k283, Value.int IntKind.i64 n284] = Value.agg #[Value.int IntKind.i64 n273, Value.slice p274 k275 k276, Value.int IntKind.i64 n277]) ∧ ∀ (w285 : World) (R286 : List Own), Ctx W
  w285 (R248 ++ R286) I249 → okFun Tryz.prog cmpF = true ∧ Calls Tryz.prog cmpF (Array.mk (Value.agg #[Value.int IntKind.i64 n273, Value.slice p274 k275 k276, Value.int IntKind.i64 n277] ::
  Value.agg #[Value.int IntKind.i64 n261, Value.slice p262 k263 k264, Value.int IntKind.i64 n265] :: cmpC.toList)) w285 fun (e287 : Ending) (w288 : World) => ∃ (n289 : Int), e287 =
  Ending.returned (Value.int IntKind.i64 n289) ∧ ∃ (R290 : List Own), ∃ (Φ291 : PW), Stable Φ291 ∧ Ctx W w288 (R290 ++ R286) Φ291 ∧ Br (!decide (n289 < 0)) (I64 (IntKind.i64.wrap n251 + 1) ∧
  ∃ (R292 : List Own), ∃ (Φ293 : PW), ∃ (k294 : Nat), Stable Φ293 ∧ (∀ (w295 : World) (R296 : List Own), Ctx W w295 (R290 ++ R296) Φ291 → Ctx W w295 (R292 ++ R296) Φ293) ∧ I240
  (IntKind.i64.wrap n251 + 1) n247 R292 Φ293 k294 ∧ k294 < k250) (∃ (R297 : List Own), ∃ (Φ298 : PW), ∃ (k299 : Nat), Stable Φ298 ∧ (∀ (w300 : World) (R301 : List Own), Ctx W w300 (R290 ++
  R301) Φ291 → Ctx W w300 (R297 ++ R301) Φ298) ∧ I240 n246 (IntKind.i64.wrap n251) R297 Φ298 k299 ∧ k299 < k250)) (I64 (IntKind.i64.wrap n238 + m - n246) ∧ ∀ (w302 : World) (R303 : List Own),
  Ctx W w302 (R248 ++ R303) I249 → Br (decide (n246 < m) && decide (m < IntKind.i64.wrap n238 + m - n246)) (∀ (w304 : World) (R305 : List Own), Ctx W w304 (R248 ++ R305) I249 → Calls
  Tryz.prog F.slices_rotateCmpFunc_api_Delta #[Value.slice dataP dataN dataC, Value.int IntKind.i64 n246, Value.int IntKind.i64 m, Value.int IntKind.i64 (IntKind.i64.wrap n238 + m - n246),
  Value.func (Fn.func cmpF) #[] cmpC] w304 fun (e306 : Ending) (w307 : World) => e306 = Ending.returned (Value.tuple #[]) ∧ ∃ (R308 : List Own), ∃ (Φ309 : PW), Stable Φ309 ∧ Ctx W w307 (R308
  ++ R305) Φ309 ∧ ∀ (w310 : World) (R311 : List Own), Ctx W w310 (R308 ++ R311) Φ309 → Br (decide (a < n246) && decide (n246 < IntKind.i64.wrap n238)) (∀ (w312 : World) (R313 : List Own), Ctx
  W w312 (R308 ++ R313) Φ309 → Calls Tryz.prog F.slices_symMergeCmpFunc_api_Delta #[Value.slice dataP dataN dataC, Value.int IntKind.i64 a, Value.int IntKind.i64 n246, Value.int IntKind.i64
  (IntKind.i64.wrap n238), Value.func (Fn.func cmpF) #[] cmpC] w312 fun (e314 : Ending) (w315 : World) => e314 = Ending.returned (Value.tuple #[]) ∧ ∃ (R316 : List Own), ∃ (Φ317 : PW), Stable
  Φ317 ∧ Ctx W w315 (R316 ++ R313) Φ317 ∧ ∀ (w318 : World) (R319 : List Own), Ctx W w318 (R316 ++ R319) Φ317 → Br (decide (IntKind.i64.wrap n238 < IntKind.i64.wrap n238 + m - n246) && decide
  (IntKind.i64.wrap n238 + m - n246 < b)) (∀ (w320 : World) (R321 : List Own), Ctx W w320 (R316 ++ R321) Φ317 → Calls Tryz.prog F.slices_symMergeCmpFunc_api_Delta #[Value.slice dataP dataN
  dataC, Value.int IntKind.i64 (IntKind.i64.wrap n238), Value.int IntKind.i64 (IntKind.i64.wrap n238 + m - n246), Value.int IntKind.i64 b, Value.func (Fn.func cmpF) #[] cmpC] w320 fun (e322 :
  Ending) (w323 : World) => e322 = Ending.returned (Value.tuple #[]) ∧ ∃ (R324 : List Own), ∃ (Φ325 : PW), Stable Φ325 ∧ Ctx W w323 (R324 ++ R321) Φ325 ∧ ∀ (w326 : World) (R327 : List Own),
  Ctx W w326 (R324 ++ R327) Φ325 → J (Value.tuple #[]) w326) (∀ (w328 : World) (R329 : List Own), Ctx W w328 (R316 ++ R329) Φ317 → J (Value.tuple #[]) w328)) (∀ (w330 : World) (R331 : List
  Own), Ctx W w330 (R308 ++ R331) Φ309 → Br (decide (IntKind.i64.wrap n238 < IntKind.i64.wrap n238 + m - n246) && decide (IntKind.i64.wrap n238 + m - n246 < b)) (∀ (w332 : World) (R333 : List
  Own), Ctx W w332 (R308 ++ R333) Φ309 → Calls Tryz.prog F.slices_symMergeCmpFunc_api_Delta #[Value.slice dataP dataN dataC, Value.int IntKind.i64 (IntKind.i64.wrap n238), Value.int
  IntKind.i64 (IntKind.i64.wrap n238 + m - n246), Value.int IntKind.i64 b, Value.func (Fn.func cmpF) #[] cmpC] w332 fun (e334 : Ending) (w335 : World) => e334 = Ending.returned (Value.tuple
  #[]) ∧ ∃ (R336 : List Own), ∃ (Φ337 : PW), Stable Φ337 ∧ Ctx W w335 (R336 ++ R333) Φ337 ∧ ∀ (w338 : World) (R339 : List Own), Ctx W w338 (R336 ++ R339) Φ337 → J (Value.tuple #[]) w338) (∀
  (w340 : World) (R341 : List Own), Ctx W w340 (R308 ++ R341) Φ309 → J (Value.tuple #[]) w340))) (∀ (w342 : World) (R343 : List Own), Ctx W w342 (R248 ++ R343) I249 → Br (decide (a < n246) &&
  decide (n246 < IntKind.i64.wrap n238)) (∀ (w344 : World) (R345 : List Own), Ctx W w344 (R248 ++ R345) I249 → Calls Tryz.prog F.slices_symMergeCmpFunc_api_Delta #[Value.slice dataP dataN
  dataC, Value.int IntKind.i64 a, Value.int IntKind.i64 n246, Value.int IntKind.i64 (IntKind.i64.wrap n238), Value.func (Fn.func cmpF) #[] cmpC] w344 fun (e346 : Ending) (w347 : World) =>
  e346 = Ending.returned (Value.tuple #[]) ∧ ∃ (R348 : List Own), ∃ (Φ349 : PW), Stable Φ349 ∧ Ctx W w347 (R348 ++ R345) Φ349 ∧ ∀ (w350 : World) (R351 : List Own), Ctx W w350 (R348 ++ R351)
  Φ349 → Br (decide (IntKind.i64.wrap n238 < IntKind.i64.wrap n238 + m - n246) && decide (IntKind.i64.wrap n238 + m - n246 < b)) (∀ (w352 : World) (R353 : List Own), Ctx W w352 (R348 ++ R353)
  Φ349 → Calls Tryz.prog F.slices_symMergeCmpFunc_api_Delta #[Value.slice dataP dataN dataC, Value.int IntKind.i64 (IntKind.i64.wrap n238), Value.int IntKind.i64 (IntKind.i64.wrap n238 + m -
  n246), Value.int IntKind.i64 b, Value.func (Fn.func cmpF) #[] cmpC] w352 fun (e354 : Ending) (w355 : World) => e354 = Ending.returned (Value.tuple #[]) ∧ ∃ (R356 : List Own), ∃ (Φ357 : PW),
  Stable Φ357 ∧ Ctx W w355 (R356 ++ R353) Φ357 ∧ ∀ (w358 : World) (R359 : List Own), Ctx W w358 (R356 ++ R359) Φ357 → J (Value.tuple #[]) w358) (∀ (w360 : World) (R361 : List Own), Ctx W w360
  (R348 ++ R361) Φ349 → J (Value.tuple #[]) w360)) (∀ (w362 : World) (R363 : List Own), Ctx W w362 (R248 ++ R363) I249 → Br (decide (IntKind.i64.wrap n238 < IntKind.i64.wrap n238 + m - n246)
  && decide (IntKind.i64.wrap n238 + m - n246 < b)) (∀ (w364 : World) (R365 : List Own), Ctx W w364 (R248 ++ R365) I249 → Calls Tryz.prog F.slices_symMergeCmpFunc_api_Delta #[Value.slice
  dataP dataN dataC, Value.int IntKind.i64 (IntKind.i64.wrap n238), Value.int IntKind.i64 (IntKind.i64.wrap n238 + m - n246), Value.int IntKind.i64 b, Value.func (Fn.func cmpF) #[] cmpC] w364
  fun (e366 : Ending) (w367 : World) => e366 = Ending.returned (Value.tuple #[]) ∧ ∃ (R368 : List Own), ∃ (Φ369 : PW), Stable Φ369 ∧ Ctx W w367 (R368 ++ R365) Φ369 ∧ ∀ (w370 : World) (R371 :
  List Own), Ctx W w370 (R368 ++ R371) Φ369 → J (Value.tuple #[]) w370) (∀ (w372 : World) (R373 : List Own), Ctx W w372 (R248 ++ R373) I249 → J (Value.tuple #[]) w372))))) (I64
  (IntKind.i64.wrap n238 + m - 1) ∧ exI fun (I374 : Int → Int → List Own → PW → Nat → Prop) => (∃ (R375 : List Own), ∃ (Φ376 : PW), ∃ (k377 : Nat), Stable Φ376 ∧ (∀ (w378 : World) (R379 :
  List Own), Ctx W w378 (R ++ R379) Φ → Ctx W w378 (R375 ++ R379) Φ376) ∧ I374 a m R375 Φ376 k377) ∧ ∀ (n380 n381 : Int) (R382 : List Own) (I383 : List Nat → World → Prop) (k384 : Nat),
  Stable I383 → I374 n380 n381 R382 I383 k384 → Br (decide (n380 < n381)) (I64 (n380 + n381) ∧ ∃ (n385 : Int), (∀ (w386 : World), Sem.run Tryz.prog (binOp BinOp.shr 156 (Value.int IntKind.u64
  (IntKind.u64.wrap (n380 + n381))) (Value.int IntKind.u64 1)) w386 = Result.ok (Value.int IntKind.u64 n385) w386) ∧ ∃ (R387 : List Own), ∃ (Φ388 : PW), Stable Φ388 ∧ (∀ (w389 : World) (R390
  : List Own), Ctx W w389 (R382 ++ R390) I383 → Ctx W w389 (R387 ++ R390) Φ388) ∧ I64 (IntKind.i64.wrap n238 + m - 1 - IntKind.i64.wrap n385) ∧ (0 ≤ IntKind.i64.wrap n385 ∧ IntKind.i64.wrap
  n385 < (↑dataN : Int)) ∧ ptrK none dataP fun (k391 k392 : Nat) => (0 ≤ IntKind.i64.wrap n238 + m - 1 - IntKind.i64.wrap n385 ∧ IntKind.i64.wrap n238 + m - 1 - IntKind.i64.wrap n385 <
  (↑dataN : Int)) ∧ ptrK none dataP fun (k393 k394 : Nat) => ∃ (n395 : Int), ∃ (p396 : Option Addr), ∃ (k397 : Nat), ∃ (k398 : Nat), ∃ (n399 : Int), (∀ (w400 : World) (R401 : List Own), Ctx W
  w400 (R387 ++ R401) Φ388 → ∃ (n402 : Int), ∃ (p403 : Option Addr), ∃ (k404 : Nat), ∃ (k405 : Nat), ∃ (n406 : Int), RowAt w400 k391 (k392 + (IntKind.i64.wrap n385).toNat * 3) [Value.int
  IntKind.i64 n402, Value.slice p403 k404 k405, Value.int IntKind.i64 n406] ∧ Value.agg #[Value.int IntKind.i64 n402, Value.slice p403 k404 k405, Value.int IntKind.i64 n406] = Value.agg
  #[Value.int IntKind.i64 n395, Value.slice p396 k397 k398, Value.int IntKind.i64 n399]) ∧ ∃ (n407 : Int), ∃ (p408 : Option Addr), ∃ (k409 : Nat), ∃ (k410 : Nat), ∃ (n411 : Int), (∀ (w412 :
  World) (R413 : List Own), Ctx W w412 (R387 ++ R413) Φ388 → ∃ (n414 : Int), ∃ (p415 : Option Addr), ∃ (k416 : Nat), ∃ (k417 : Nat), ∃ (n418 : Int), RowAt w412 k393 (k394 + (IntKind.i64.wrap
  n238 + m - 1 - IntKind.i64.wrap n385).toNat * 3) [Value.int IntKind.i64 n414, Value.slice p415 k416 k417, Value.int IntKind.i64 n418] ∧ Value.agg #[Value.int IntKind.i64 n414, Value.slice
  p415 k416 k417, Value.int IntKind.i64 n418] = Value.agg #[Value.int IntKind.i64 n407, Value.slice p408 k409 k410, Value.int IntKind.i64 n411]) ∧ ∀ (w419 : World) (R420 : List Own), Ctx W
  w419 (R382 ++ R420) I383 → okFun Tryz.prog cmpF = true ∧ Calls Tryz.prog cmpF (Array.mk (Value.agg #[Value.int IntKind.i64 n407, Value.slice p408 k409 k410, Value.int IntKind.i64 n411] ::
  Value.agg #[Value.int IntKind.i64 n395, Value.slice p396 k397 k398, Value.int IntKind.i64 n399] :: cmpC.toList)) w419 fun (e421 : Ending) (w422 : World) => ∃ (n423 : Int), e421 =
  Ending.returned (Value.int IntKind.i64 n423) ∧ ∃ (R424 : List Own), ∃ (Φ425 : PW), Stable Φ425 ∧ Ctx W w422 (R424 ++ R420) Φ425 ∧ Br (!decide (n423 < 0)) (I64 (IntKind.i64.wrap n385 + 1) ∧
  ∃ (R426 : List Own), ∃ (Φ427 : PW), ∃ (k428 : Nat), Stable Φ427 ∧ (∀ (w429 : World) (R430 : List Own), Ctx W w429 (R424 ++ R430) Φ425 → Ctx W w429 (R426 ++ R430) Φ427) ∧ I374
  (IntKind.i64.wrap n385 + 1) n381 R426 Φ427 k428 ∧ k428 < k384) (∃ (R431 : List Own), ∃ (Φ432 : PW), ∃ (k433 : Nat), Stable Φ432 ∧ (∀ (w434 : World) (R435 : List Own), Ctx W w434 (R424 ++
  R435) Φ425 → Ctx W w434 (R431 ++ R435) Φ432) ∧ I374 n380 (IntKind.i64.wrap n385) R431 Φ432 k433 ∧ k433 < k384)) (I64 (IntKind.i64.wrap n238 + m - n380) ∧ ∀ (w436 : World) (R437 : List Own),
  Ctx W w436 (R382 ++ R437) I383 → Br (decide (n380 < m) && decide (m < IntKind.i64.wrap n238 + m - n380)) (∀ (w438 : World) (R439 : List Own), Ctx W w438 (R382 ++ R439) I383 → Calls
  Tryz.prog F.slices_rotateCmpFunc_api_Delta #[Value.slice dataP dataN dataC, Value.int IntKind.i64 n380, Value.int IntKind.i64 m, Value.int IntKind.i64 (IntKind.i64.wrap n238 + m - n380),
  Value.func (Fn.func cmpF) #[] cmpC] w438 fun (e440 : Ending) (w441 : World) => e440 = Ending.returned (Value.tuple #[]) ∧ ∃ (R442 : List Own), ∃ (Φ443 : PW), Stable Φ443 ∧ Ctx W w441 (R442
  ++ R439) Φ443 ∧ ∀ (w444 : World) (R445 : List Own), Ctx W w444 (R442 ++ R445) Φ443 → Br (decide (a < n380) && decide (n380 < IntKind.i64.wrap n238)) (∀ (w446 : World) (R447 : List Own), Ctx
  W w446 (R442 ++ R447) Φ443 → Calls Tryz.prog F.slices_symMergeCmpFunc_api_Delta #[Value.slice dataP dataN dataC, Value.int IntKind.i64 a, Value.int IntKind.i64 n380, Value.int IntKind.i64
  (IntKind.i64.wrap n238), Value.func (Fn.func cmpF) #[] cmpC] w446 fun (e448 : Ending) (w449 : World) => e448 = Ending.returned (Value.tuple #[]) ∧ ∃ (R450 : List Own), ∃ (Φ451 : PW), Stable
  Φ451 ∧ Ctx W w449 (R450 ++ R447) Φ451 ∧ ∀ (w452 : World) (R453 : List Own), Ctx W w452 (R450 ++ R453) Φ451 → Br (decide (IntKind.i64.wrap n238 < IntKind.i64.wrap n238 + m - n380) && decide
  (IntKind.i64.wrap n238 + m - n380 < b)) (∀ (w454 : World) (R455 : List Own), Ctx W w454 (R450 ++ R455) Φ451 → Calls Tryz.prog F.slices_symMergeCmpFunc_api_Delta #[Value.slice dataP dataN
  dataC, Value.int IntKind.i64 (IntKind.i64.wrap n238), Value.int IntKind.i64 (IntKind.i64.wrap n238 + m - n380), Value.int IntKind.i64 b, Value.func (Fn.func cmpF) #[] cmpC] w454 fun (e456 :
  Ending) (w457 : World) => e456 = Ending.returned (Value.tuple #[]) ∧ ∃ (R458 : List Own), ∃ (Φ459 : PW), Stable Φ459 ∧ Ctx W w457 (R458 ++ R455) Φ459 ∧ ∀ (w460 : World) (R461 : List Own),
  Ctx W w460 (R458 ++ R461) Φ459 → J (Value.tuple #[]) w460) (∀ (w462 : World) (R463 : List Own), Ctx W w462 (R450 ++ R463) Φ451 → J (Value.tuple #[]) w462)) (∀ (w464 : World) (R465 : List
  Own), Ctx W w464 (R442 ++ R465) Φ443 → Br (decide (IntKind.i64.wrap n238 < IntKind.i64.wrap n238 + m - n380) && decide (IntKind.i64.wrap n238 + m - n380 < b)) (∀ (w466 : World) (R467 : List
  Own), Ctx W w466 (R442 ++ R467) Φ443 → Calls Tryz.prog F.slices_symMergeCmpFunc_api_Delta #[Value.slice dataP dataN dataC, Value.int IntKind.i64 (IntKind.i64.wrap n238), Value.int
  IntKind.i64 (IntKind.i64.wrap n238 + m - n380), Value.int IntKind.i64 b, Value.func (Fn.func cmpF) #[] cmpC] w466 fun (e468 : Ending) (w469 : World) => e468 = Ending.returned (Value.tuple
  #[]) ∧ ∃ (R470 : List Own), ∃ (Φ471 : PW), Stable Φ471 ∧ Ctx W w469 (R470 ++ R467) Φ471 ∧ ∀ (w472 : World) (R473 : List Own), Ctx W w472 (R470 ++ R473) Φ471 → J (Value.tuple #[]) w472) (∀
  (w474 : World) (R475 : List Own), Ctx W w474 (R442 ++ R475) Φ443 → J (Value.tuple #[]) w474))) (∀ (w476 : World) (R477 : List Own), Ctx W w476 (R382 ++ R477) I383 → Br (decide (a < n380) &&
  decide (n380 < IntKind.i64.wrap n238)) (∀ (w478 : World) (R479 : List Own), Ctx W w478 (R382 ++ R479) I383 → Calls Tryz.prog F.slices_symMergeCmpFunc_api_Delta #[Value.slice dataP dataN
  dataC, Value.int IntKind.i64 a, Value.int IntKind.i64 n380, Value.int IntKind.i64 (IntKind.i64.wrap n238), Value.func (Fn.func cmpF) #[] cmpC] w478 fun (e480 : Ending) (w481 : World) =>
  e480 = Ending.returned (Value.tuple #[]) ∧ ∃ (R482 : List Own), ∃ (Φ483 : PW), Stable Φ483 ∧ Ctx W w481 (R482 ++ R479) Φ483 ∧ ∀ (w484 : World) (R485 : List Own), Ctx W w484 (R482 ++ R485)
  Φ483 → Br (decide (IntKind.i64.wrap n238 < IntKind.i64.wrap n238 + m - n380) && decide (IntKind.i64.wrap n238 + m - n380 < b)) (∀ (w486 : World) (R487 : List Own), Ctx W w486 (R482 ++ R487)
  Φ483 → Calls Tryz.prog F.slices_symMergeCmpFunc_api_Delta #[Value.slice dataP dataN dataC, Value.int IntKind.i64 (IntKind.i64.wrap n238), Value.int IntKind.i64 (IntKind.i64.wrap n238 + m -
  n380), Value.int IntKind.i64 b, Value.func (Fn.func cmpF) #[] cmpC] w486 fun (e488 : Ending) (w489 : World) => e488 = Ending.returned (Value.tuple #[]) ∧ ∃ (R490 : List Own), ∃ (Φ491 : PW),
  Stable Φ491 ∧ Ctx W w489 (R490 ++ R487) Φ491 ∧ ∀ (w492 : World) (R493 : List Own), Ctx W w492 (R490 ++ R493) Φ491 → J (Value.tuple #[]) w492) (∀ (w494 : World) (R495 : List Own), Ctx W w494
  (R482 ++ R495) Φ483 → J (Value.tuple #[]) w494)) (∀ (w496 : World) (R497 : List Own), Ctx W w496 (R382 ++ R497) I383 → Br (decide (IntKind.i64.wrap n238 < IntKind.i64.wrap n238 + m - n380)
  && decide (IntKind.i64.wrap n238 + m - n380 < b)) (∀ (w498 : World) (R499 : List Own), Ctx W w498 (R382 ++ R499) I383 → Calls Tryz.prog F.slices_symMergeCmpFunc_api_Delta #[Value.slice
  dataP dataN dataC, Value.int IntKind.i64 (IntKind.i64.wrap n238), Value.int IntKind.i64 (IntKind.i64.wrap n238 + m - n380), Value.int IntKind.i64 b, Value.func (Fn.func cmpF) #[] cmpC] w498
  fun (e500 : Ending) (w501 : World) => e500 = Ending.returned (Value.tuple #[]) ∧ ∃ (R502 : List Own), ∃ (Φ503 : PW), Stable Φ503 ∧ Ctx W w501 (R502 ++ R499) Φ503 ∧ ∀ (w504 : World) (R505 :
  List Own), Ctx W w504 (R502 ++ R505) Φ503 → J (Value.tuple #[]) w504) (∀ (w506 : World) (R507 : List Own), Ctx W w506 (R382 ++ R507) I383 → J (Value.tuple #[]) w506)))))))

theorem Bslices_symMergeCmpFunc_api_Delta_run (dataP : Option Addr) (dataN dataC : Nat) (a : Int) (m : Int) (b : Int) (cmpF : FuncId) (cmpC : Array Value) {W w : World} {R : List Own} {Φ : PW} [Stable Φ] {J : Value → World → Prop} (c : Ctx W w R Φ) (h : Bslices_symMergeCmpFunc_api_Delta dataP dataN dataC a m b cmpF cmpC W R Φ J) : Calls Tryz.prog F.slices_symMergeCmpFunc_api_Delta #[.slice dataP dataN dataC, .int .i64 a, .int .i64 m, .int .i64 b, .func (.func cmpF) #[] cmpC] w fun e w' => ∃ v, e = .returned v ∧ J v w' :=
  vcFS_sound (H := { keep := some [0, 1, 2, 3, 4, 10, 11, 12, 13, 14, 15, 16, 17, 18, 19, 20, 21, 22, 23, 24, 28, 33, 50, 58, 80, 85, 103, 110, 140, 151, 171, 185, 199, 213], wrap := [49, 101, 169], stages := [(5, [.held [(0, true), (1, true), (2, true), (5, true), (6, true), (3, true), (7, true), (4, true), (8, true)], .stage [] (some 9), .stage [10] none]), (11, [.late [0, 1, 5, 6, 7, 8, 13, 9, 14] [0, 1, 2, 3, 5, 6, 10, 11, 4, 7, 12, 8, 13, 9, 14] [(15, [16]), (17, [])]]), (17, [.held [(0, true), (1, true), (2, true), (5, true), (6, true), (3, true), (7, true), (4, true), (8, true)], .stage [] (some 9), .stage [10, 11] none]), (23, [.late [0, 1, 5, 6, 7, 8, 13, 9, 14] [0, 1, 2, 3, 5, 6, 10, 11, 4, 7, 12, 8, 13, 9, 14] [(15, [16]), (17, [])]]), (35, [.held [(0, true), (1, true), (2, true), (3, true), (7, true), (8, true), (4, true), (9, true), (5, true), (10, true), (6, true)], .stage [] (some 11), .stage [12, 13] none])], loops := [(33, [(20, .one (.int .i64)), (21, .one (.int .i64))], []), (21, [(17, .one (.int .i64))], []), (15, [(14, .one (.int .i64)), (15, .one (.int .i64))], []), (9, [(13, .one (.int .i64))], []), (3, [(10, .one (.int .i64)), (11, .one (.int .i64))], [])] }) (by rw [show vcFS Tryz.prog W { keep := some [0, 1, 2, 3, 4, 10, 11, 12, 13, 14, 15, 16, 17, 18, 19, 20, 21, 22, 23, 24, 28, 33, 50, 58, 80, 85, 103, 110, 140, 151, 171, 185, 199, 213], wrap := [49, 101, 169], stages := [(5, [.held [(0, true), (1, true), (2, true), (5, true), (6, true), (3, true), (7, true), (4, true), (8, true)], .stage [] (some 9), .stage [10] none]), (11, [.late [0, 1, 5, 6, 7, 8, 13, 9, 14] [0, 1, 2, 3, 5, 6, 10, 11, 4, 7, 12, 8, 13, 9, 14] [(15, [16]), (17, [])]]), (17, [.held [(0, true), (1, true), (2, true), (5, true), (6, true), (3, true), (7, true), (4, true), (8, true)], .stage [] (some 9), .stage [10, 11] none]), (23, [.late [0, 1, 5, 6, 7, 8, 13, 9, 14] [0, 1, 2, 3, 5, 6, 10, 11, 4, 7, 12, 8, 13, 9, 14] [(15, [16]), (17, [])]]), (35, [.held [(0, true), (1, true), (2, true), (3, true), (7, true), (8, true), (4, true), (9, true), (5, true), (10, true), (6, true)], .stage [] (some 11), .stage [12, 13] none])], loops := [(33, [(20, .one (.int .i64)), (21, .one (.int .i64))], []), (21, [(17, .one (.int .i64))], []), (15, [(14, .one (.int .i64)), (15, .one (.int .i64))], []), (9, [(13, .one (.int .i64))], []), (3, [(10, .one (.int .i64)), (11, .one (.int .i64))], [])] } F.slices_symMergeCmpFunc_api_Delta #[.slice dataP dataN dataC, .int .i64 a, .int .i64 m, .int .i64 b, .func (.func cmpF) #[] cmpC] R Φ J = Bslices_symMergeCmpFunc_api_Delta dataP dataN dataC a m b cmpF cmpC W R Φ J by kernel_rfl]; exact h) c

/-- slices.rotateCmpFunc[api.Delta] -/
-- loop at region 2: 10 i, 11 j; blocks 
def Bslices_rotateCmpFunc_api_Delta (dataP : Option Addr) (dataN dataC : Nat) (a : Int) (m : Int) (b : Int) (cmpF : FuncId) (cmpC : Array Value) (W : World) (R : List Own) (Φ : PW) (J : Value → World → Prop) : Prop :=
  I64 (m - a) ∧ I64 (b - m) ∧ exI fun (I0 : Int → Int → List Own → PW → Nat → Prop) => (∃ (R1 : List Own), ∃ (Φ2 : PW), ∃ (k3 : Nat), Stable Φ2 ∧ (∀ (w4 : World) (R5 : List Own), Ctx W w4 (R
  ++ R5) Φ → Ctx W w4 (R1 ++ R5) Φ2) ∧ I0 (m - a) (b - m) R1 Φ2 k3) ∧ ∀ (n6 n7 : Int) (R8 : List Own) (I9 : List Nat → World → Prop) (k10 : Nat), Stable I9 → I0 n6 n7 R8 I9 k10 → Br (decide
  (n6 ≠ n7)) (Br (decide (n7 < n6)) (I64 (m - n6) ∧ ∀ (w11 : World) (R12 : List Own), Ctx W w11 (R8 ++ R12) I9 → Calls Tryz.prog F.slices_swapRangeCmpFunc_api_Delta #[Value.slice dataP dataN
  dataC, Value.int IntKind.i64 (m - n6), Value.int IntKind.i64 m, Value.int IntKind.i64 n7, Value.func (Fn.func cmpF) #[] cmpC] w11 fun (e13 : Ending) (w14 : World) => e13 = Ending.returned
  (Value.tuple #[]) ∧ ∃ (R15 : List Own), ∃ (Φ16 : PW), Stable Φ16 ∧ Ctx W w14 (R15 ++ R12) Φ16 ∧ I64 (n6 - n7) ∧ ∃ (R17 : List Own), ∃ (Φ18 : PW), ∃ (k19 : Nat), Stable Φ18 ∧ (∀ (w20 :
  World) (R21 : List Own), Ctx W w20 (R15 ++ R21) Φ16 → Ctx W w20 (R17 ++ R21) Φ18) ∧ I0 (n6 - n7) n7 R17 Φ18 k19 ∧ k19 < k10) (I64 (m - n6) ∧ I64 (m + n7) ∧ I64 (m + n7 - n6) ∧ ∀ (w22 :
  World) (R23 : List Own), Ctx W w22 (R8 ++ R23) I9 → Calls Tryz.prog F.slices_swapRangeCmpFunc_api_Delta #[Value.slice dataP dataN dataC, Value.int IntKind.i64 (m - n6), Value.int
  IntKind.i64 (m + n7 - n6), Value.int IntKind.i64 n6, Value.func (Fn.func cmpF) #[] cmpC] w22 fun (e24 : Ending) (w25 : World) => e24 = Ending.returned (Value.tuple #[]) ∧ ∃ (R26 : List
  Own), ∃ (Φ27 : PW), Stable Φ27 ∧ Ctx W w25 (R26 ++ R23) Φ27 ∧ I64 (n7 - n6) ∧ ∃ (R28 : List Own), ∃ (Φ29 : PW), ∃ (k30 : Nat), Stable Φ29 ∧ (∀ (w31 : World) (R32 : List Own), Ctx W w31 (R26
  ++ R32) Φ27 → Ctx W w31 (R28 ++ R32) Φ29) ∧ I0 n6 (n7 - n6) R28 Φ29 k30 ∧ k30 < k10)) (I64 (m - n6) ∧ ∀ (w33 : World) (R34 : List Own), Ctx W w33 (R8 ++ R34) I9 → Calls Tryz.prog
  F.slices_swapRangeCmpFunc_api_Delta #[Value.slice dataP dataN dataC, Value.int IntKind.i64 (m - n6), Value.int IntKind.i64 m, Value.int IntKind.i64 n6, Value.func (Fn.func cmpF) #[] cmpC]
  w33 fun (e35 : Ending) (w36 : World) => e35 = Ending.returned (Value.tuple #[]) ∧ ∃ (R37 : List Own), ∃ (Φ38 : PW), Stable Φ38 ∧ Ctx W w36 (R37 ++ R34) Φ38 ∧ ∀ (w39 : World) (R40 : List
  Own), Ctx W w39 (R37 ++ R40) Φ38 → J (Value.tuple #[]) w39)

theorem Bslices_rotateCmpFunc_api_Delta_run (dataP : Option Addr) (dataN dataC : Nat) (a : Int) (m : Int) (b : Int) (cmpF : FuncId) (cmpC : Array Value) {W w : World} {R : List Own} {Φ : PW} [Stable Φ] {J : Value → World → Prop} (c : Ctx W w R Φ) (h : Bslices_rotateCmpFunc_api_Delta dataP dataN dataC a m b cmpF cmpC W R Φ J) : Calls Tryz.prog F.slices_rotateCmpFunc_api_Delta #[.slice dataP dataN dataC, .int .i64 a, .int .i64 m, .int .i64 b, .func (.func cmpF) #[] cmpC] w fun e w' => ∃ v, e = .returned v ∧ J v w' :=
  vcFS_sound (H := { keep := some [0, 2, 3, 4, 10, 11, 20, 23], loops := [(2, [(10, .one (.int .i64)), (11, .one (.int .i64))], [])] }) (by rw [show vcFS Tryz.prog W { keep := some [0, 2, 3, 4, 10, 11, 20, 23], loops := [(2, [(10, .one (.int .i64)), (11, .one (.int .i64))], [])] } F.slices_rotateCmpFunc_api_Delta #[.slice dataP dataN dataC, .int .i64 a, .int .i64 m, .int .i64 b, .func (.func cmpF) #[] cmpC] R Φ J = Bslices_rotateCmpFunc_api_Delta dataP dataN dataC a m b cmpF cmpC W R Φ J by kernel_rfl]; exact h) c

/-- slices.swapRangeCmpFunc[api.Delta] -/
-- loop at region 1: 10 i; blocks 
def Bslices_swapRangeCmpFunc_api_Delta (dataP : Option Addr) (dataN dataC : Nat) (a : Int) (b : Int) (n : Int) (cmpF : FuncId) (cmpC : Array Value) (W : World) (R : List Own) (Φ : PW) (J : Value → World → Prop) : Prop :=
  exI fun (I0 : Int → List Own → PW → Nat → Prop) => (∃ (R1 : List Own), ∃ (Φ2 : PW), ∃ (k3 : Nat), Stable Φ2 ∧ (∀ (w4 : World) (R5 : List Own), Ctx W w4 (R ++ R5) Φ → Ctx W w4 (R1 ++ R5) Φ2)
  ∧ I0 0 R1 Φ2 k3) ∧ ∀ (n6 : Int) (R7 : List Own) (I8 : List Nat → World → Prop) (k9 : Nat), Stable I8 → I0 n6 R7 I8 k9 → Br (decide (n6 < n)) (∃ (R10 : List Own), ∃ (Φ11 : PW), Stable Φ11 ∧
  (∀ (w12 : World) (R13 : List Own), Ctx W w12 (R7 ++ R13) I8 → Ctx W w12 (R10 ++ R13) Φ11) ∧ I64 (a + n6) ∧ I64 (b + n6) ∧ I64 (b + n6) ∧ I64 (a + n6) ∧ (0 ≤ b + n6 ∧ b + n6 < (↑dataN :
  Int)) ∧ ptrK none dataP fun (k14 k15 : Nat) => (0 ≤ a + n6 ∧ a + n6 < (↑dataN : Int)) ∧ ptrK none dataP fun (k16 k17 : Nat) => ∀ (w18 : World) (R19 : List Own), Ctx W w18 (R7 ++ R19) I8 → ∃
  (n20 : Int), ∃ (p21 : Option Addr), ∃ (k22 : Nat), ∃ (k23 : Nat), ∃ (n24 : Int), RowAt w18 k14 (k15 + (b + n6).toNat * 3) [Value.int IntKind.i64 n20, Value.slice p21 k22 k23, Value.int
  IntKind.i64 n24] ∧ ∀ (w25 : World) (R26 : List Own), Ctx W w25 (R7 ++ R26) I8 → ∃ (n27 : Int), ∃ (p28 : Option Addr), ∃ (k29 : Nat), ∃ (k30 : Nat), ∃ (n31 : Int), RowAt w25 k16 (k17 + (a +
  n6).toNat * 3) [Value.int IntKind.i64 n27, Value.slice p28 k29 k30, Value.int IntKind.i64 n31] ∧ (0 ≤ a + n6 ∧ a + n6 < (↑dataN : Int)) ∧ ptrK none dataP fun (k32 k33 : Nat) => ∀ (w34 :
  World) (R35 : List Own), Ctx W w34 (R7 ++ R35) I8 → CanWrite w34 k32 (k33 + (a + n6).toNat * 3) 3 ∧ ∀ (w36 : World), w36 = w34.setCells k32 (k33 + (a + n6).toNat * 3) [Value.int IntKind.i64
  n20, Value.slice p21 k22 k23, Value.int IntKind.i64 n24] → ∃ (R37 : List Own), ∃ (Φ38 : PW), Stable Φ38 ∧ Ctx W w36 (R37 ++ R35) Φ38 ∧ (∀ (w39 : World) (R40 : List Own), Ctx W w39 (R37 ++
  R40) Φ38 → Ctx W w39 (R10 ++ R40) Φ11) ∧ (0 ≤ b + n6 ∧ b + n6 < (↑dataN : Int)) ∧ ptrK none dataP fun (k41 k42 : Nat) => ∀ (w43 : World) (R44 : List Own), Ctx W w43 (R37 ++ R44) Φ38 →
  CanWrite w43 k41 (k42 + (b + n6).toNat * 3) 3 ∧ ∀ (w45 : World), w45 = w43.setCells k41 (k42 + (b + n6).toNat * 3) [Value.int IntKind.i64 n27, Value.slice p28 k29 k30, Value.int IntKind.i64
  n31] → ∃ (R46 : List Own), ∃ (Φ47 : PW), Stable Φ47 ∧ Ctx W w45 (R46 ++ R44) Φ47 ∧ (∀ (w48 : World) (R49 : List Own), Ctx W w48 (R46 ++ R49) Φ47 → Ctx W w48 (R10 ++ R49) Φ11) ∧ I64 (n6 + 1)
  ∧ ∃ (R50 : List Own), ∃ (Φ51 : PW), ∃ (k52 : Nat), Stable Φ51 ∧ (∀ (w53 : World) (R54 : List Own), Ctx W w53 (R46 ++ R54) Φ47 → Ctx W w53 (R50 ++ R54) Φ51) ∧ I0 (n6 + 1) R50 Φ51 k52 ∧ k52 <
  k9) (∀ (w55 : World) (R56 : List Own), Ctx W w55 (R7 ++ R56) I8 → J (Value.tuple #[]) w55)

theorem Bslices_swapRangeCmpFunc_api_Delta_run (dataP : Option Addr) (dataN dataC : Nat) (a : Int) (b : Int) (n : Int) (cmpF : FuncId) (cmpC : Array Value) {W w : World} {R : List Own} {Φ : PW} [Stable Φ] {J : Value → World → Prop} (c : Ctx W w R Φ) (h : Bslices_swapRangeCmpFunc_api_Delta dataP dataN dataC a b n cmpF cmpC W R Φ J) : Calls Tryz.prog F.slices_swapRangeCmpFunc_api_Delta #[.slice dataP dataN dataC, .int .i64 a, .int .i64 b, .int .i64 n, .func (.func cmpF) #[] cmpC] w fun e w' => ∃ v, e = .returned v ∧ J v w' :=
  vcFS_sound (H := { keep := some [0, 1, 2, 3, 10, 13], stages := [(3, [.late [0, 1, 2, 8, 9, 10, 3, 11, 12, 13, 19, 20] [0, 1, 2, 4, 5, 6, 8, 9, 10, 14, 15, 16, 3, 7, 11, 17, 12, 18, 13, 19, 20] [(21, [22]), (23, [])]])], loops := [(1, [(10, .one (.int .i64))], [])] }) (by rw [show vcFS Tryz.prog W { keep := some [0, 1, 2, 3, 10, 13], stages := [(3, [.late [0, 1, 2, 8, 9, 10, 3, 11, 12, 13, 19, 20] [0, 1, 2, 4, 5, 6, 8, 9, 10, 14, 15, 16, 3, 7, 11, 17, 12, 18, 13, 19, 20] [(21, [22]), (23, [])]])], loops := [(1, [(10, .one (.int .i64))], [])] } F.slices_swapRangeCmpFunc_api_Delta #[.slice dataP dataN dataC, .int .i64 a, .int .i64 b, .int .i64 n, .func (.func cmpF) #[] cmpC] R Φ J = Bslices_swapRangeCmpFunc_api_Delta dataP dataN dataC a b n cmpF cmpC W R Φ J by kernel_rfl]; exact h) c

end Go.Proofs.YtfpgbejdlikpgaaGreatDoor
end

