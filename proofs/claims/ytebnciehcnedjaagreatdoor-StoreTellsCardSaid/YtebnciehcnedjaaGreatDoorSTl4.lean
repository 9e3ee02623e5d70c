/-
  THE CONDITIONS OF A WALK OVER WHAT IT OWNS: a function's body.
-/
import Derived.Test.YtebnciehcnedjaaGreatDoorSTl3
import Derived.Lib.Bytealg

set_option linter.unusedVariables false
set_option linter.unusedSimpArgs false
section
namespace Go.Vc
variable {G : List Own}
variable {ds : List Deferred}
open Go.RowKit
structure HS where
  /-- slots whose sums may wrap; calls of function values; 0: stores of values of any kind -/
  wrap : List Nat := []
  /-- slots whose new blocks are known cell by cell -/
  track : List Nat := []
  /-- regions with guards that are walked in the text's order -/
  split : List Nat := []
  /-- regions whose calls may draw -/
  draws : List Nat := []
  /-- slots that are read outside the region that writes them -/
  keep : Option (List Nat) := none
  /-- regions whose order is drawn, and that write or call: their stages -/
  stages : List (Nat × List Sg) := []
  /-- of each loop the slots and the blocks that its rounds write -/
  loops : List (Nat × Vars × Vars) := []
  cuts : List (Nat × Vars × Vars) := []
def stageAt (k : Nat) : List (Nat × List Sg) → Option (List Sg)
  | [] => none
  | (t, l) :: r => match Nat.beq t k with | true => some l | false => stageAt k r
def hintS (k : Nat) : List (Nat × Vars × Vars) → Option (Vars × Vars)
  | [] => none
  | (t, l) :: r => match Nat.beq t k with | true => some l | false => hintS k r
def meetS (asg : List Nat) (l : Vars) (vs : List Value) (s : FrS) : FrS := ⟨s.n, cons l vs (drop s.l)⟩
where
  cons : Vars → List Value → List (Nat × SV) → List (Nat × SV)
    | (t, _) :: r, v :: vs, s => (t, .v v) :: cons r vs s
    | _, _, s => s
  drop : List (Nat × SV) → List (Nat × SV)
    | [] => []
    | (t, x) :: r => match memB t asg with | true => drop r | false => (t, x) :: drop r
def keepS (k : Option (List Nat)) (s : FrS) : FrS := match k with | none => s | some k => ⟨s.n, go k s.l⟩
where go (k : List Nat) : List (Nat × SV) → List (Nat × SV)
  | [] => []
  | (t, x) :: r => match memB t k with | true => (t, x) :: go k r | false => go k r
def tsOk (ts : Vars) (L : List Tr) : Bool := match ts with
  | [] => true
  | (k, sh) :: r => match findT k L, sh with | some _, .agg _ => tsOk r L | _, _ => false
abbrev CurI (l : Vars) : Type := Cur (List Own → PW → Nat → Prop) l
abbrev CurJ (l : Vars) : Type := Cur (List Own → PW → Prop) l
def holdsI (x : Option (List Own → PW → Nat → Prop)) (R : List Own) (Φ : PW) (n : Nat) : Prop := match x with | some I => I R Φ n | none => False
def holdsJ (x : Option (List Own → PW → Prop)) (R : List Own) (Φ : PW) : Prop := match x with | some I => I R Φ | none => False
def sameN : List Nat → List Nat → Bool
  | [], [] => true
  | a :: l, b :: m => Nat.beq a b && sameN l m
  | _, _ => false
theorem sameN_eq : ∀ {l m : List Nat}, sameN l m = true → l = m
  | [], [], _ => rfl
  | a :: l, b :: m, h => by
    simp only [sameN, Bool.and_eq_true] at h
    rw [Nat.eq_of_beq_eq_true h.1, sameN_eq h.2]
  | [], _ :: _, h => by cases h
  | _ :: _, [], h => by cases h
def putsS : Vars → List Value → FrS → FrS
  | (t, _) :: r, v :: vs, s => putsS r vs (s.put (some t) (.v v))
  | _, _, s => s
abbrev CurA (l : Vars) : Type := Cur (Nat → Prop) l
def holdsA (x : Option (Nat → Prop)) (k : Nat) : Prop := match x with | some I => I k | none => False
def FitsR (l : Vars) (A : CurA l) (xs : Nat → List Value) (N : Nat) : Prop := ∀ k, k < N → holdsA (Cur.app l A (xs k)) k
section
variable (P : Program) (W : World)
def stgBody (H : HS) (ops : Array Oper) (st : List Sg) (s : FrS) (L : List Tr) (R : List Own) (Φ : PW) (K : FrS → List Tr → List Own → PW → Prop) : Prop :=
  stgS P W (fun t => memB t H.wrap) (fun t => memB t H.track) ops st s L R Φ fun s => K (keepS H.keep s)
def quietBody (H : HS) (d : Bool) (ops : Array Oper) (s : FrS) (L : List Tr) (R : List Own) (Φ : PW) (K : FrS → List Tr → List Own → PW → Prop) : Prop :=
  ∀ w F, Ctx W w (R ++ F) Φ → qsS P (fun t => memB t H.wrap) d ops L w ops.toList [] s fun s => K (keepS H.keep s) L R Φ
def regionS (H : HS) (id : Nat) (ops : Array Oper) (draw : Bool) (s : FrS) (L : List Tr) (R : List Own) (Φ : PW) (K : FrS → List Tr → List Own → PW → Prop) : Prop :=
  match draw with
  | true => match stageAt id H.stages with
    | some st => match P.follows .mixedOrders && Region.noSelect ops && sgOk ops st (Array.replicate ops.size false) && Nat.beq (sgLen st) ops.size with
      | true => stgBody P W H ops st s L R Φ K
      | false => False
    | none => match okDraw P ops with
      | true => quietBody P W H true ops s L R Φ K
      | false => False
  | false => match guarded ops.toList && !(memB id H.split) with
    | true => quietBody P W H (memB id H.draws) ops s L R Φ K
    | false => opsS P W (fun t => memB t H.wrap) (fun t => memB t H.track) ops ops.toList s L R Φ fun s => K (keepS H.keep s)
def vcS (H : HS) : Code → (Exit → FrS → List Tr → List Own → PW → Prop) → FrS → List Tr → List Own → PW → Prop
  | .skip, Q, s, L, R, Φ => Q .normal s L R Φ
  | .region id ops draw, Q, s, L, R, Φ => regionS P W H id ops draw s L R Φ (Q .normal)
  | .seq x y, Q, s, L, R, Φ =>
    match hintS (firstReg y) H.cuts with
    | none => vcS H x (fun e s' L' R' Φ' => match e with | .normal => vcS H y Q s' L' R' Φ' | e => Q e s' L' R' Φ') s L R Φ
    | some (l, ts) =>
      match varsOk (asg x) l (s.fr L) && tsOk ts L with
      | true =>
        ∃ J : CurJ (l ++ ts), vcS H x (fun e s' L' R' Φ' => match e with
            | .normal => match knownSub (asg x) (s.fr L) (s'.fr L') && sameT ts L' L with
              | true => ∃ R1 Φ1, Stable Φ1 ∧ (∀ w F, Ctx W w (R' ++ F) Φ' → Ctx W w (R1 ++ F) Φ1) ∧ holdsJ (Cur.app (l ++ ts) J (slotsOf l (s'.fr L') ++ cellsOf ts L')) R1 Φ1
              | false => False
            | e => Q e s' L' R' Φ') s L R Φ ∧
          l.all fun vs => ts.all fun us => ∀ R' Φ', Stable Φ' → holdsJ (Cur.app (l ++ ts) J (vs ++ us)) R' Φ' → vcS H y Q (meetS (asg x) l vs s) (meetT ts us L) R' Φ'
      | false => False
  | .cond c x y, Q, s, L, R, Φ => match s.val L c with
    | .bool b => Br b (vcS H x Q s L R Φ) (vcS H y Q s L R Φ)
    | _ => False
  | .block id b, Q, s, L, R, Φ => vcS H b (fun e s' L' R' Φ' => match e with | .exit n => (match Nat.beq n id with | true => Q .normal s' L' R' Φ' | false => Q (.exit n) s' L' R' Φ') | e => Q e s' L' R' Φ') s L R Φ
  | .loop b, Q, s, L, R, Φ =>
    match hintS (firstReg b) H.loops with
    | none => False
    | some (l, ts) =>
      match varsOk (asg b) l (s.fr L) && tsOk ts L with
      | true =>
        ∃ I : CurI (l ++ ts), (∃ R1 Φ1 n1, Stable Φ1 ∧ (∀ w F, Ctx W w (R ++ F) Φ → Ctx W w (R1 ++ F) Φ1) ∧ holdsI (Cur.app (l ++ ts) I (slotsOf l (s.fr L) ++ cellsOf ts L)) R1 Φ1 n1) ∧
          l.all fun vs => ts.all fun us => ∀ R' Φ' n, Stable Φ' → holdsI (Cur.app (l ++ ts) I (vs ++ us)) R' Φ' n →
            vcS H b (fun e s' L' R'' Φ'' => match e with
              | .normal => match knownSub (asg b) (s.fr L) (s'.fr L') && sameT ts L' L with
                | true => ∃ R1 Φ1 n1, Stable Φ1 ∧ (∀ w F, Ctx W w (R'' ++ F) Φ'' → Ctx W w (R1 ++ F) Φ1) ∧ holdsI (Cur.app (l ++ ts) I (slotsOf l (s'.fr L') ++ cellsOf ts L')) R1 Φ1 n1 ∧ n1 < n
                | false => False
              | e => Q e s' L' R'' Φ'') (meetS (asg b) l vs s) (meetT ts us L) R' Φ'
      | false => False
  | .exit id, Q, s, L, R, Φ => Q (.exit id) s L R Φ
  | .ret, Q, s, L, R, Φ => Q .ret s L R Φ
  | .rangeFunc g ps x y, Q, s, L, R, Φ =>
    match s.val L g with
    | .func (.func gf) cs lb =>
      match hintS (firstReg y) H.loops with
      | none => False
      | some (l, ts) =>
        match sameN (l.map (·.1)) ps.toList && okRound x && okRound y && tsOk ts L with
        | true => cs = #[] ∧ okFun P gf = true ∧ ∃ (N : Nat) (xs : Nat → List Value) (X : World → Prop) (A : CurA l) (I : CurI ts), Iter P gf lb N (fun k => (xs k).toArray) X ∧ FitsR l A xs N ∧
            (∃ R1 Φ1, Stable Φ1 ∧ (∀ w F, Ctx W w (R ++ F) Φ → Ctx W w (R1 ++ F) Φ1) ∧ holdsI (Cur.app ts I (cellsOf ts L)) R1 Φ1 0) ∧
            ts.all fun us => ∀ R' Φ' k, Stable Φ' → holdsI (Cur.app ts I us) R' Φ' k →
              (∀ w F, Ctx W w (R' ++ F) Φ' → X w) ∧
              (k < N → l.all fun vs => holdsA (Cur.app l A vs) k → vcS H x (fun e s1 L1 R1 Φ1 => match e with
                  | .normal => vcS H y (fun e s2 L2 R2 Φ2 => match e with
                      | .normal => match sameT ts L2 L with
                        | true => ∃ R3 Φ3, Stable Φ3 ∧ (∀ w F, Ctx W w (R2 ++ F) Φ2 → Ctx W w (R3 ++ F) Φ3) ∧ holdsI (Cur.app ts I (cellsOf ts L2)) R3 Φ3 (k + 1)
                        | false => False
                      | _ => False) s1 L1 R1 Φ1
                  | _ => False) (putsS l vs s) (meetT ts us L) R' Φ') ∧
              (k = N → Q .normal s (meetT ts us L) R' Φ')
        | false => False
    | _ => False
  | _, _, _, _, _, _ => False
def resS (s : FrS) (L : List Tr) (R : List Own) (Φ : PW) : List ResultVar → (List Value → Prop) → Prop
  | [], K => K []
  | .tmp t :: r, K => match isU ((getS t s.l).val L) with
    | true => False
    | false => resS s L R Φ r fun vs => K ((getS t s.l).val L :: vs)
  | .cell a t :: r, K => match getS a s.l with
    | .ptr k off => loadT P t L k off fun v => resS s L R Φ r fun vs => K (v :: vs)
    | .v (.pointer (some ⟨b, o, none⟩)) => ∀ w F, Ctx W w (R ++ F) Φ → vcLoadG P t w none b o fun v => resS s L R Φ r fun vs => K (v :: vs)
    | .v _ => False
def bodyS (fn : Func) (J : Value → World → Prop) : Exit → FrS → List Tr → List Own → PW → Prop
  | .normal, s, L, R, Φ | .ret, s, L, R, Φ => resS P W s L R Φ fn.results.toList fun vs => ∀ w F, Ctx W w (R ++ F) Φ → J (tupled vs) w
  | _, _, _, _, _ => False
def argS : Nat → List Value → List (Nat × SV)
  | _, [] => []
  | i, v :: r => (i, .v v) :: argS (i + 1) r
def vcFS (H : HS) (f : FuncId) (args : Array Value) (R : List Own) (Φ : PW) (J : Value → World → Prop) : Prop :=
  match P.funcs[f]? with
  | some fn => match fn.body with
    | some c => vcS P W H c (bodyS P W fn J) ⟨max fn.ntmps args.size, argS 0 args.toList⟩ [] R Φ
    | none => False
  | none => False
end
theorem keepS_fr (k : Option (List Nat)) (s : FrS) (L : List Tr) : (keepS k s).fr L = (s.fr L).keep k := by
  cases k with
  | none => rfl
  | some k =>
    have key : ∀ l : List (Nat × SV), valL L (keepS.go k l) = filterL (fun t => memB t k) (valL L l) := by
      intro l
      induction l with
      | nil => rfl
      | cons p r ih =>
        obtain ⟨t, v⟩ := p
        simp only [keepS.go, valL, filterL]
        cases memB t k with
        | true => simp only [valL, ih]
        | false => exact ih
    simp only [keepS, Fr.keep, FrS.fr, key]
theorem keepS_wf {k : Option (List Nat)} {s : FrS} {L : List Tr} (h : WfS L s) : WfS L (keepS k s) := by
  cases k with
  | none => exact h
  | some k =>
    have key : ∀ l : List (Nat × SV), ∀ p ∈ keepS.go k l, p ∈ l := by
      intro l
      induction l with
      | nil => intro p hp; exact hp
      | cons q r ih =>
        obtain ⟨t, v⟩ := q
        intro p hp
        simp only [keepS.go] at hp
        cases hb : memB t k with
        | true => rw [hb] at hp; rcases List.mem_cons.1 hp with rfl | hp; simp; exact List.mem_cons_of_mem _ (ih p hp)
        | false => rw [hb] at hp; exact List.mem_cons_of_mem _ (ih p hp)
    exact fun p hp => h p (key _ p hp)
theorem At.keep {W : World} {s : FrS} {L : List Tr} {R : List Own} {Φ : PW} {a : Act} {w : World} (h : At ds G W s L R Φ a w) (k : Option (List Nat)) : At ds G W (keepS k s) L R Φ a w :=
  ⟨by rw [keepS_fr]; exact keep_sim h.sim k, keepS_wf h.wf, h.ids, h.ctx, h.st⟩
theorem meetS_fr {asg : List Nat} {l : Vars} {vs : List Value} {s : FrS} {L L1 : List Tr} (hwf : WfS L s) (hb : ∀ k T, findT k L = some T → ∃ T', findT k L1 = some T' ∧ T'.b = T.b) : (meetS asg l vs s).fr L1 = meet asg l vs (s.fr L) := by
  have key : ∀ r : List (Nat × SV), (∀ p ∈ r, ∀ k o, p.2 = SV.ptr k o → (findT k L).isSome = true) → valL L1 (meetS.drop asg r) = filterL (fun t => !memB t asg) (valL L r) := by
    intro r
    induction r with
    | nil => intro _; rfl
    | cons p r ih =>
      obtain ⟨t, v⟩ := p
      intro h
      have ih := ih fun q hq => h q (List.mem_cons_of_mem _ hq)
      simp only [meetS.drop, valL, filterL]
      cases memB t asg with
      | true => exact ih
      | false =>
        simp only [valL, Bool.not_false, ih]
        congr 2
        cases v with
        | v x => rfl
        | ptr k o =>
          obtain ⟨T, hT⟩ := Option.isSome_iff_exists.1 (h (t, .ptr k o) (by simp) k o rfl)
          obtain ⟨T', h1, h2⟩ := hb k T hT
          simp only [SV.val, hT, h1, h2]
  have key2 : ∀ (l : Vars) (vs : List Value) (r : List (Nat × SV)), valL L1 (meetS.cons l vs r) = consAll l vs (valL L1 r) := by
    intro l
    induction l with
    | nil => intro vs r; cases vs <;> rfl
    | cons p l ih =>
      obtain ⟨t, sh⟩ := p
      intro vs r
      cases vs with
      | nil => rfl
      | cons v vs => simp only [meetS.cons, consAll, valL, ih, SV.val]
  simp only [FrS.fr, meetS, meet, putAll, Fr.drop, key2, key s.l hwf]
theorem meetS_wf {asg : List Nat} {l : Vars} {vs : List Value} {s : FrS} {L L1 : List Tr} (hwf : WfS L s) (hb : ∀ k T, findT k L = some T → ∃ T', findT k L1 = some T' ∧ T'.b = T.b) : WfS L1 (meetS asg l vs s) := by
  have key : ∀ r : List (Nat × SV), ∀ p ∈ meetS.drop asg r, p ∈ r := by
    intro r
    induction r with
    | nil => intro p hp; exact hp
    | cons q r ih =>
      obtain ⟨t, v⟩ := q
      intro p hp
      simp only [meetS.drop] at hp
      cases hm : memB t asg with
      | true => rw [hm] at hp; exact List.mem_cons_of_mem _ (ih p hp)
      | false => rw [hm] at hp; rcases List.mem_cons.1 hp with rfl | hp; simp; exact List.mem_cons_of_mem _ (ih p hp)
  have key2 : ∀ (l : Vars) (vs : List Value) (r : List (Nat × SV)), ∀ p ∈ meetS.cons l vs r, p ∈ r ∨ ∃ v, p.2 = .v v := by
    intro l
    induction l with
    | nil => intro vs r p hp; cases vs <;> exact .inl hp
    | cons q l ih =>
      obtain ⟨t, sh⟩ := q
      intro vs r p hp
      cases vs with
      | nil => exact .inl hp
      | cons v vs =>
        rcases List.mem_cons.1 hp with rfl | hp
        · exact .inr ⟨v, rfl⟩
        · exact ih vs r p hp
  intro p hp k o e
  rcases key2 _ _ _ p hp with h | ⟨v, h⟩
  · obtain ⟨T, hT⟩ := Option.isSome_iff_exists.1 (hwf p (key _ p h) k o e)
    obtain ⟨T', h1, _⟩ := hb k T hT
    rw [h1]; rfl
  · rw [h] at e; cases e
theorem holdsI_some {x : Option (List Own → PW → Nat → Prop)} {R : List Own} {Φ : PW} {n : Nat} (h : holdsI x R Φ n) : ∃ I, x = some I := by
  cases x with
  | none => exact h.elim
  | some I => exact ⟨I, rfl⟩
theorem holdsJ_some {x : Option (List Own → PW → Prop)} {R : List Own} {Φ : PW} (h : holdsJ x R Φ) : ∃ I, x = some I := by
  cases x with
  | none => exact h.elim
  | some I => exact ⟨I, rfl⟩
theorem all_append {ts : Vars} {us : List Value} {ρ : Type} {x : ρ} : ∀ {l : Vars} {vs : List Value} (_ : vs.length = l.length) {K : List Value → List Value → Prop} (_ : l.all fun vs => ts.all fun us => K vs us) {f : Cur ρ (l ++ ts)} (_ : Cur.app (l ++ ts) f (vs ++ us) = some x),
    K vs us ∧ us.length = ts.length ∧ (∀ v ∈ vs, isU v = false) ∧ (∀ u ∈ us, isU u = false) := by
  intro l
  induction l with
  | nil =>
    intro vs hl K h f hx
    cases vs with
    | nil =>
      obtain ⟨h1, h2, h3⟩ := Cur.app_all hx h
      exact ⟨h1, h2, fun v hv => (by cases hv), h3⟩
    | cons v vs => simp at hl
  | cons p r ih =>
    intro vs hl K h f hx
    obtain ⟨t, s⟩ := p
    cases vs with
    | nil => simp at hl
    | cons v vs =>
      simp only [List.cons_append] at f hx
      unfold Cur.app at hx
      split at hx
      · rename_i g hg
        obtain ⟨h1, h2⟩ := Sh.app_all hg h
        obtain ⟨h3, h4, h5, h6⟩ := ih (vs := vs) (by simpa using hl) (K := fun vs us => K (v :: vs) us) h1 hx
        refine ⟨h3, h4, fun u hu => ?_, h6⟩
        rcases List.mem_cons.1 hu with rfl | hu
        · exact h2
        · exact h5 u hu
      · cases hx
theorem slotsOf_len (l : Vars) (s : Fr) : (slotsOf l s).length = l.length := by simp [slotsOf]
theorem least_ex {p : Nat → Prop} (h : ∃ n, p n) : ∃ n, p n ∧ ∀ m, p m → n ≤ m := by
  obtain ⟨n, hn⟩ := h
  induction n using Nat.strongRecOn with
  | _ n ih =>
    by_cases hx : ∃ m, m < n ∧ p m
    · obtain ⟨m, h1, h2⟩ := hx; exact ih m h1 h2
    · exact ⟨n, hn, fun m hm => by
        rcases Nat.lt_or_ge m n with h' | h'
        · exact absurd ⟨m, h', hm⟩ hx
        · exact h'⟩
theorem Cur.app_len {ρ : Type} : ∀ {l : Vars} {f : Cur ρ l} {vs : List Value} {x : ρ}, Cur.app l f vs = some x → vs.length = l.length
  | [], _, [], _, _ => rfl
  | (t, s) :: r, f, v :: vs, x, h => by
    unfold Cur.app at h
    split at h
    · simp [Cur.app_len h]
    · cases h
  | [], _, _ :: _, _, h => by cases h
  | _ :: _, _, [], _, h => by cases h
theorem enter_ok {P : Program} {f : FuncId} (h : okFun P f = true) (args : Array Value) (w : World) : (callFunc f args).run P w = .ok (.enter f args) w := by
  unfold okFun at h
  split at h
  · rename_i fn hfn
    simp only [Bool.and_eq_true, Bool.not_eq_true'] at h
    have hb' : fn.body.isNone = false := by cases hh : fn.body <;> simp_all
    simp only [callFunc, program, Sem.run, hfn, h.2, hb', Bool.false_eq_true, if_false, Sem.run_bind, Sem.run_pure, Result.andThen]
  · cases h
theorem putsS_sim {L : List Tr} : ∀ {l : Vars} {vs : List Value} {s : FrS} {a : Act}, Sim ds (s.fr L) a → WfS L s →
    Sim ds ((putsS l vs s).fr L) { tmps := ((l.map (·.1)).zip vs).foldl (fun t p => t.setIfInBounds p.1 p.2) a.tmps, defers := a.defers } ∧ WfS L (putsS l vs s)
  | (t, sh) :: r, v :: vs, s, a, h, hw => by
    have h2 : Sim ds ((s.put (some t) (.v v)).fr L) (a.put (some t) v) := by rw [fr_put]; exact h.put _ (fun _ => rfl)
    have := putsS_sim (l := r) (vs := vs) h2 (hw.put fun k o e => (by cases e))
    simpa [putsS, Act.put] using this
  | [], vs, s, a, h, hw => by
    simp only [putsS, List.map_nil, List.zip_nil_left, List.foldl_nil]
    exact ⟨h, hw⟩
  | _ :: _, [], s, a, h, hw => by
    simp only [putsS, List.zip_nil_right, List.foldl_nil]
    exact ⟨h, hw⟩
theorem vcS_sound {P : Program} {W : World} {H : HS} : ∀ (c : Code) {rd : Option Nat} {Q' : Exit → FrS → List Tr → List Own → PW → Prop} {Q : Exit → Act → World → Prop} {s : FrS} {L : List Tr} {R : List Own} {Φ : PW} {a : Act} {w : World} {ds : List Deferred} {G : List Own},
    (rd.isSome = true → okRound c = true) → vcS P W H c Q' s L R Φ → At ds G W s L R Φ a w → (∀ e s' L' R' Φ' a' w' ds' G', Q' e s' L' R' Φ' → Tie rd ds G ds' G' → At ds' G' W s' L' R' Φ' a' w' → Ext L L' → Unch (fun t => t ∈ asg c) (s.fr L) (s'.fr L') → Q e a' w') → c.wpIn (fenceAt rd) 0 P Q a w := by
  intro c
  induction c with
  | skip => intro rd Q' Q s L R Φ a w ds G hrd h ha hQ; exact wpIn_skip (hQ _ _ _ _ _ _ _ _ _ h (Tie.refl _ _ _) ha (Ext.refl _) (Unch.refl _ _))
  | region id ops draw =>
    intro rd Q' Q s L R Φ a w ds G hrd h ha hQ
    have hD : ∀ o ∈ ops.toList, ∀ t, o.dst = some t → t ∈ dsts ops.toList := fun o ho t ht => List.mem_filterMap.2 ⟨o, ho, ht⟩
    have hD' : ∀ (j : Nat) (o : Oper) (t : Nat), ops[j]? = some o → o.dst = some t → t ∈ dsts ops.toList := fun j o t ho ht => hD o (by simpa using Array.mem_of_getElem? ho) t ht
    have hQ' : ∀ s' L' R' Φ' a' w', Q' .normal (keepS H.keep s') L' R' Φ' → At ds G W s' L' R' Φ' a' w' → Ext L L' → Unch (fun t => t ∈ dsts ops.toList) (s.fr L) (s'.fr L') → Q .normal a' w' := by
      intro s' L' R' Φ' a' w' hk ha' he hu
      exact hQ _ _ _ _ _ _ _ _ _ hk (Tie.refl _ _ _) (ha'.keep _) he (by rw [keepS_fr]; exact keep_unch hu _)
    have quiet : ∀ (d : Bool), (∀ w F, Ctx W w (R ++ F) Φ → qsS P (fun t => memB t H.wrap) d ops L w ops.toList [] s fun s => Q' .normal (keepS H.keep s) L R Φ) → wpQuiet P ops (Cls d w) (fun a' => ∀ w', Cls d w w' → Q .normal a' w') ops.toList a := by
      intro d h
      refine qsS_sound (D := fun t => t ∈ dsts ops.toList) (s0 := s.fr L) ha.st ha.ids ha.ctx (fun s' a' hk hs' hwf' hu' w' hw' => ?_) _ _ _ _ hD (fun e he => (by cases he)) (h w _ ha.ctx) (Rel.start ha.sim) ha.wf (Unch.refl _ _)
      have hc' : CtxS G W w' L R Φ := by
        have := ha.st
        cases d with
        | false => cases hw'; exact ha.ctx
        | true => obtain ⟨n, rfl⟩ := hw'; exact Ctx.draw ha.ctx n
      exact hQ' s' L R Φ a' w' hk ⟨hs', hwf', ha.ids, hc', ha.st⟩ (Ext.refl _) hu'
    simp only [vcS, regionS, stgBody, quietBody] at h
    cases draw with
    | true =>
      simp only at h
      split at h
      · rename_i st _
        split at h
        · rename_i hc
          simp only [Bool.and_eq_true, Nat.beq_eq] at hc
          obtain ⟨⟨⟨h1, h2⟩, h3⟩, h4⟩ := hc
          have := ha.st
          refine reg_any (fun hh => hrd hh) h1 ?_
          have h7 := stgS_sound (Q := onlyQ Q) (L0 := L) (s0 := s.fr L) (D := fun t => t ∈ dsts ops.toList) h2 hD' (fun s' L' R' Φ' a' w' hk ha' he hu => hQ' s' L' R' Φ' a' w' hk ha' he hu) st _ _ _ _ _ _ (w.drewN 1) h3 h ⟨ha.sim, ha.wf, ha.ids, Ctx.draw ha.ctx 1, ha.st⟩ (Ext.refl _) (Unch.refl _ _)
          rw [h4] at h7
          exact h7
        · exact h.elim
      · split at h
        · rename_i hc
          simp only [okDraw, Bool.and_eq_true] at hc
          have h1 := quiet true h
          exact reg_quiet (fun hh => hrd hh) hc.1 hc.2 (by
            have e : Cls true w = fun w' => ∃ n, w' = w.drewN n := rfl
            rw [e] at h1
            exact h1)
        · exact h.elim
    | false =>
      simp only at h
      split at h
      · have h1 := quiet (memB id H.draws) h
        refine reg_list (fun hh => hrd hh) ?_
        exact wpList_of_quiet (Q := onlyQ Q) (C := Cls (memB id H.draws) w) (Qa := fun a' => ∀ w', Cls (memB id H.draws) w w' → Q .normal a' w') (fun a' w' hw' hq => hq w' hw') _ _ _ (by cases memB id H.draws; rfl; exact ⟨0, rfl⟩) h1
      · refine reg_list (fun hh => hrd hh) ?_
        exact opsS_sound (Q := onlyQ Q) (D := fun t => t ∈ dsts ops.toList) (s0 := s.fr L) (L0 := L) hD' (fun s' L' R' Φ' a' w' hk ha' he hu => hQ' s' L' R' Φ' a' w' hk ha' he hu) _ _ _ _ _ _ _ hD h ha (Ext.refl _) (Unch.refl _ _)
  | seq x y ihx ihy =>
    intro rd Q' Q s L R Φ a w ds G hrd h ha hQ
    simp only [vcS] at h
    have hrx : rd.isSome = true → okRound x = true ∧ okRound y = true := fun hh => by have := hrd hh; simpa only [okRound, Bool.and_eq_true] using this
    refine wpIn_seq ?_
    split at h
    · refine ihx (fun hh => (hrx hh).1) h ha ?_
      intro e s' L' R' Φ' a' w' ds1 G1 hq htie ha' he hu
      have hu' : Unch (fun t => t ∈ asg (.seq x y)) (s.fr L) (s'.fr L') := hu.mono fun i hi => List.mem_append.2 (.inl hi)
      cases e with
      | normal =>
        simp only [Exit.then]
        refine ihy (fun hh => (hrx hh).2) hq ha' fun e s'' L'' R'' Φ'' a'' w'' ds2 G2 hq' htie' ha'' he' hu'' => hQ _ _ _ _ _ _ _ _ _ hq' (htie.trans htie') ha'' (he.trans he') ?_
        exact hu'.trans (hu''.mono fun i hi => List.mem_append.2 (.inr hi))
      | exit n => exact hQ _ _ _ _ _ _ _ _ _ hq htie ha' he hu'
      | goto n => exact hQ _ _ _ _ _ _ _ _ _ hq htie ha' he hu'
      | ret => exact hQ _ _ _ _ _ _ _ _ _ hq htie ha' he hu'
      | panic n => exact hQ _ _ _ _ _ _ _ _ _ hq htie ha' he hu'
      | outgrown => exact hQ _ _ _ _ _ _ _ _ _ hq htie ha' he hu'
    · rename_i l ts hl
      split at h
      · rename_i hok
        simp only [Bool.and_eq_true] at hok
        obtain ⟨hv, hn⟩ := varsOk_spec hok.1
        obtain ⟨J, h1, h2⟩ := h
        refine ihx (fun hh => (hrx hh).1) h1 ha ?_
        intro e s' L' R' Φ' a' w' ds1 G1 hq htie ha' he hu
        have hu' : Unch (fun t => t ∈ asg (.seq x y)) (s.fr L) (s'.fr L') := hu.mono fun i hi => List.mem_append.2 (.inl hi)
        cases e with
        | normal =>
          simp only [Exit.then]
          simp only at hq
          split at hq
          · rename_i hsub
            simp only [Bool.and_eq_true] at hsub
            obtain ⟨R1, Φ1, hst1, hw1, hj⟩ := hq
            obtain ⟨I, hI⟩ := holdsJ_some hj
            obtain ⟨h3, _, hk, _⟩ := all_append (slotsOf_len l _) h2 hI
            have hme := meetT_ext ts (cellsOf ts L') L
            have hb : ∀ k T, findT k L = some T → ∃ T', findT k (meetT ts (cellsOf ts L') L) = some T' ∧ T'.b = T.b := fun k T hT => by obtain ⟨T', q1, q2, _⟩ := hme.old k T hT; exact ⟨T', q1, q2⟩
            have hsim := meet_sim (s := s.fr L) ha'.sim hu (fun i => knownAll_spec hsub.1) rfl hk
            have ham : At ds1 G1 W (meetS (asg x) l (slotsOf l (s'.fr L')) s) (meetT ts (cellsOf ts L') L) R1 Φ1 a' w' :=
              ⟨by rw [meetS_fr ha.wf hb]; exact hsim, meetS_wf ha.wf hb, hme.ids ha.ids, hw1 w' _ (CtxS.meet ha'.st ha'.ctx he ha.ids hsub.2), hst1⟩
            refine ihy (fun hh => (hrx hh).2) (h3 R1 Φ1 hst1 hj) ham fun e s'' L'' R'' Φ'' a'' w'' ds2 G2 hq' htie' ha'' he' hu'' => hQ _ _ _ _ _ _ _ _ _ hq' (htie.trans htie') ha'' (hme.trans he') ?_
            refine Unch.trans (b := (meetS (asg x) l (slotsOf l (s'.fr L')) s).fr (meetT ts (cellsOf ts L') L)) ?_ (hu''.mono fun i hi => List.mem_append.2 (.inr hi))
            rw [meetS_fr ha.wf hb]
            exact meet_unch (fun v hv' => List.mem_append.2 (.inl (hv v hv').1))
          · exact hq.elim
        | exit n => exact hQ _ _ _ _ _ _ _ _ _ hq htie ha' he hu'
        | goto n => exact hQ _ _ _ _ _ _ _ _ _ hq htie ha' he hu'
        | ret => exact hQ _ _ _ _ _ _ _ _ _ hq htie ha' he hu'
        | panic n => exact hQ _ _ _ _ _ _ _ _ _ hq htie ha' he hu'
        | outgrown => exact hQ _ _ _ _ _ _ _ _ _ hq htie ha' he hu'
      · exact h.elim
  | cond c x y ihx ihy =>
    intro rd Q' Q s L R Φ a w ds G hrd h ha hQ
    simp only [vcS] at h
    split at h
    · rename_i b hb
      have hc : a.eval c = .bool b := by rw [ha.sim.eval (by rw [fr_eval, hb]; rfl), fr_eval, hb]
      cases b with
      | true => exact wpIn_cond_true hc (ihx (fun hh => by have := hrd hh; simp only [okRound, Bool.and_eq_true] at this; exact this.1) h ha fun e s' L' R' Φ' a' w' ds1 G1 hq htie ha' he hu => hQ _ _ _ _ _ _ _ _ _ hq htie ha' he (hu.mono fun i hi => List.mem_append.2 (.inl hi)))
      | false => exact wpIn_cond_false hc (ihy (fun hh => by have := hrd hh; simp only [okRound, Bool.and_eq_true] at this; exact this.2) h ha fun e s' L' R' Φ' a' w' ds1 G1 hq htie ha' he hu => hQ _ _ _ _ _ _ _ _ _ hq htie ha' he (hu.mono fun i hi => List.mem_append.2 (.inr hi)))
    · exact h.elim
  | block id b ih =>
    intro rd Q' Q s L R Φ a w ds G hrd h ha hQ
    simp only [vcS] at h
    refine wpIn_block (ih (fun hh => hrd hh) h ha ?_)
    intro e s' L' R' Φ' a' w' ds1 G1 hq htie ha' he hu
    cases e with
    | exit n =>
      simp only [Exit.inBlock]
      simp only at hq
      split at hq
      · rename_i e; rw [if_pos (Nat.eq_of_beq_eq_true e)]; exact hQ _ _ _ _ _ _ _ _ _ hq htie ha' he hu
      · rename_i e; rw [if_neg (Nat.ne_of_beq_eq_false e)]; exact hQ _ _ _ _ _ _ _ _ _ hq htie ha' he hu
    | normal => exact hQ _ _ _ _ _ _ _ _ _ hq htie ha' he hu
    | goto n => exact hQ _ _ _ _ _ _ _ _ _ hq htie ha' he hu
    | ret => exact hQ _ _ _ _ _ _ _ _ _ hq htie ha' he hu
    | panic n => exact hQ _ _ _ _ _ _ _ _ _ hq htie ha' he hu
    | outgrown => exact hQ _ _ _ _ _ _ _ _ _ hq htie ha' he hu
  | loop b ih =>
    intro rd Q' Q s L R Φ a w ds G hrd h ha hQ
    simp only [vcS] at h
    split at h
    · exact h.elim
    · rename_i l ts hl
      split at h
      · rename_i hok
        simp only [Bool.and_eq_true] at hok
        obtain ⟨hv, hn⟩ := varsOk_spec hok.1
        obtain ⟨I, ⟨R0, Φ0, n0, hst0, hw0, h0⟩, h1⟩ := h
        -- the relation, with a measure
        let Rel := fun (n : Nat) (a' : Act) (w' : World) => ∃ ds1 G1 vs us R' Φ', Tie rd ds G ds1 G1 ∧ vs.length = l.length ∧ Stable Φ' ∧ holdsI (Cur.app (l ++ ts) I (vs ++ us)) R' Φ' n ∧ Sim ds1 (meet (asg b) l vs (s.fr L)) a' ∧ CtxS G1 W w' (meetT ts us L) R' Φ'
        have hst := ha.st
        have start : Rel n0 a w := by
          obtain ⟨I', hI'⟩ := holdsI_some h0
          obtain ⟨_, _, hk, _⟩ := all_append (slotsOf_len l _) h1 hI'
          have hm := meet_sim (s := s.fr L) ha.sim (Unch.refl _ _) (fun i => knownSub_refl) rfl hk (asg := asg b) (l := l)
          refine ⟨_, _, _, _, R0, Φ0, Tie.refl _ _ _, slotsOf_len l _, hst0, h0, hm, ?_⟩
          -- the blocks as they are
          have hss : sameT ts L L = true := by
            have key : ∀ M : List Tr, (∀ T ∈ M, T ∈ L) → sameT ts L M = true := by
              intro M
              induction M with
              | nil => intro _; rfl
              | cons T r ihr =>
                intro hM
                unfold sameT
                cases memB T.id (ts.map (·.1)) with
                | true => exact ihr fun U hU => hM U (List.mem_cons_of_mem _ hU)
                | false =>
                  rw [findT_mem ha.ids (hM T (by simp))]
                  simp only [show Nat.beq T.ver T.ver = true by simp]
                  exact ihr fun U hU => hM U (List.mem_cons_of_mem _ hU)
            exact key L fun _ h => h
          exact CtxS.meet hst0 (hw0 w _ ha.ctx) (Ext.refl L) ha.ids hss
        let least := fun (a' : Act) (w' : World) (n : Nat) => Rel n a' w' ∧ ∀ m, Rel m a' w' → n ≤ m
        let mu := fun (a' : Act) (w' : World) => @dite _ (∃ n, least a' w' n) (Classical.propDecidable _) (fun hx => Classical.choose hx) (fun _ => 0)
        have hmu : ∀ a' w' n, Rel n a' w' → ∃ k, least a' w' k ∧ mu a' w' = k ∧ k ≤ n := by
          intro a' w' n hn
          have hx : ∃ k, least a' w' k := least_ex ⟨n, hn⟩
          refine ⟨Classical.choose hx, Classical.choose_spec hx, ?_, (Classical.choose_spec hx).2 n hn⟩
          show @dite _ (∃ n, least a' w' n) (Classical.propDecidable _) (fun hx => Classical.choose hx) (fun _ => 0) = _
          rw [dif_pos hx]
        refine wpIn_loop (fun a' w' => ∃ n, Rel n a' w') mu ⟨n0, start⟩ ?_
        rintro a1 w1 ⟨n1, hn1⟩
        obtain ⟨n, ⟨⟨ds1, G1, vs, us, R', Φ', htie1, hlen, hst1, hI, hs1, hc1⟩, _⟩, hmu1, _⟩ := hmu a1 w1 n1 hn1
        rw [hmu1]
        obtain ⟨I', hI'⟩ := holdsI_some hI
        obtain ⟨h2, hlu, hk, hku⟩ := all_append hlen h1 hI'
        have hme := meetT_ext ts us L
        have hb : ∀ k T, findT k L = some T → ∃ T', findT k (meetT ts us L) = some T' ∧ T'.b = T.b := fun k T hT => by obtain ⟨T', q1, q2, _⟩ := hme.old k T hT; exact ⟨T', q1, q2⟩
        have ham : At ds1 G1 W (meetS (asg b) l vs s) (meetT ts us L) R' Φ' a1 w1 := ⟨by rw [meetS_fr ha.wf hb]; exact hs1, meetS_wf ha.wf hb, hme.ids ha.ids, hc1, hst1⟩
        refine ih (fun hh => hrd hh) (h2 R' Φ' n hst1 hI) ham ?_
        intro e s' L' R'' Φ'' a' w' ds2 G2 hq htie2 ha' he hu
        have htie := htie1.trans htie2
        rw [meetS_fr ha.wf hb] at hu
        have hu' : Unch (fun t => t ∈ asg b) (s.fr L) (s'.fr L') := Unch.trans (meet_unch (fun v hv' => (hv v hv').1)) hu
        have he' : Ext L L' := hme.trans he
        cases e with
        | normal =>
          simp only [Exit.then]
          simp only at hq
          split at hq
          · rename_i hsub
            simp only [Bool.and_eq_true] at hsub
            obtain ⟨R2, Φ2, n2, hst2, hw2, hj, hlt⟩ := hq
            obtain ⟨I2, hI2⟩ := holdsI_some hj
            obtain ⟨_, _, hk2, _⟩ := all_append (slotsOf_len l _) h1 hI2
            have hsim := meet_sim (s := s.fr L) ha'.sim hu' (fun i => knownAll_spec hsub.1) rfl hk2
            have hrel : Rel n2 a' w' := ⟨_, _, _, _, R2, Φ2, htie, slotsOf_len l _, hst2, hj, hsim, hw2 w' _ (CtxS.meet ha'.st ha'.ctx he' ha.ids hsub.2)⟩
            obtain ⟨k, _, hmk, hkn⟩ := hmu a' w' n2 hrel
            exact ⟨⟨n2, hrel⟩, by rw [hmk]; omega⟩
          · exact hq.elim
        | exit n => exact hQ _ _ _ _ _ _ _ _ _ hq htie ha' he' hu'
        | goto n => exact hQ _ _ _ _ _ _ _ _ _ hq htie ha' he' hu'
        | ret => exact hQ _ _ _ _ _ _ _ _ _ hq htie ha' he' hu'
        | panic n => exact hQ _ _ _ _ _ _ _ _ _ hq htie ha' he' hu'
        | outgrown => exact hQ _ _ _ _ _ _ _ _ _ hq htie ha' he' hu'
      · exact h.elim
  | exit id => intro rd Q' Q s L R Φ a w ds G hrd h ha hQ; exact wpIn_exit (hQ _ _ _ _ _ _ _ _ _ h (Tie.refl _ _ _) ha (Ext.refl _) (Unch.refl _ _))
  | ret => intro rd Q' Q s L R Φ a w ds G hrd h ha hQ; exact wpIn_ret (hQ _ _ _ _ _ _ _ _ _ h (Tie.refl _ _ _) ha (Ext.refl _) (Unch.refl _ _))
  | rangeFunc g ps x y ihx ihy =>
    intro rd Q' Q s L R Φ a w ds G hrd h ha hQ
    cases rd with
    | some l => have := hrd rfl; cases this
    | none =>
    simp only [vcS] at h
    split at h
    · rename_i gf cs lb hg
      split at h
      · exact h.elim
      · rename_i l ts hl
        split at h
        · rename_i hok
          simp only [Bool.and_eq_true] at hok
          obtain ⟨⟨⟨hps, hrx⟩, hry⟩, hts⟩ := hok
          obtain ⟨hcs, hfn, N, xs, X, A, I, hit, hfit, ⟨R0, Φ0, hst0, hw0, h0⟩, h1⟩ := h
          subst hcs
          have hge : a.eval g = .func (.func gf) #[] lb := by rw [ha.sim.eval (by rw [fr_eval, hg]; rfl), fr_eval, hg]
          have hme : ∀ us, Ext L (meetT ts us L) := fun us => meetT_ext ts us L
          have hpl := sameN_eq hps
          have hst := ha.st
          have hss : sameT ts L L = true := by
            have key : ∀ M : List Tr, (∀ T ∈ M, T ∈ L) → sameT ts L M = true := by
              intro M
              induction M with
              | nil => intro _; rfl
              | cons T r ihr =>
                intro hM
                unfold sameT
                cases memB T.id (ts.map (·.1)) with
                | true => exact ihr fun U hU => hM U (List.mem_cons_of_mem _ hU)
                | false =>
                  rw [findT_mem ha.ids (hM T (by simp))]
                  simp only [show Nat.beq T.ver T.ver = true by simp]
                  exact ihr fun U hU => hM U (List.mem_cons_of_mem _ hU)
            exact key L fun _ h => h
          let Inv := fun (k : Nat) (Gx : List Own) (w1 : World) => ∃ us R' Φ', Stable Φ' ∧ holdsI (Cur.app ts I us) R' Φ' k ∧ CtxS Gx W w1 (meetT ts us L) R' Φ'
          have fits : ∀ k, k < N → ∃ A', Cur.app l A (xs k) = some A' := fun k hk => by
            have := hfit k hk
            unfold holdsA at this
            split at this
            · rename_i A' e; exact ⟨A', e⟩
            · exact this.elim
          have len : ∀ k, k < N → (xs k).length = l.length := fun k hk => by
            obtain ⟨A', e⟩ := fits k hk
            exact Cur.app_len e
          refine wp_range (W := W) (G := G) hge (enter_ok hfn) hit (fun k hk => by rw [List.size_toArray, len k hk, ← Array.length_toList, ← hpl, List.length_map]) Inv ?_ ?_ ?_ ?_ ?_
          · rintro k Gx w1 ⟨us, R', Φ', hs, hi, c⟩
            refine ⟨R' ++ (meetT ts us L).map Tr.own, Φ', hs, by rw [List.append_assoc]; exact c, fun w2 Gy c2 => ⟨us, R', Φ', hs, hi, by rw [List.append_assoc] at c2; exact c2⟩⟩
          · rintro k Gx w1 ⟨us, R', Φ', hs, hi, c⟩
            obtain ⟨I', hI'⟩ := holdsI_some hi
            exact ((Cur.app_all hI' h1).1 R' Φ' k hs hi).1 _ _ c
          · exact ⟨_, R0, Φ0, hst0, h0, CtxS.meet hst0 (hw0 w _ ha.ctx) (Ext.refl L) ha.ids hss⟩
          · rintro lp k Gx w1 hk ⟨us, R', Φ', hs, hi, c⟩
            obtain ⟨I', hI'⟩ := holdsI_some hi
            obtain ⟨A', hA'⟩ := fits k hk
            have h2 := ((Cur.app_all hI' h1).1 R' Φ' k hs hi).2.1 hk
            have h3 := (Cur.app_all hA' h2).1 (hfit k hk)
            have ham : At [] Gx W (putsS l (xs k) s) (meetT ts us L) R' Φ' { tmps := (ps.zip (xs k).toArray).foldl (fun t (p, v) => t.setIfInBounds p v) a.tmps, defers := [] } w1 := by
              obtain ⟨q1, q2⟩ := putsS_sim (L := meetT ts us L) (l := l) (vs := xs k) (s := s) (a := { a with defers := [] }) ⟨rfl, (by rw [ha.wf.fr (hme us)]; exact ha.sim.size), fun i hi => (by rw [ha.wf.fr (hme us)] at hi ⊢; exact ha.sim.slot i hi)⟩ (ha.wf.ext (hme us))
              refine ⟨?_, q2, (hme us).ids ha.ids, c, hs⟩
              rw [hpl] at q1
              rw [← Array.foldl_toList, Array.toList_zip]
              exact q1
            refine ihx (rd := some lp) (fun _ => hrx) h3 ham ?_
            intro e s1 L1 R1 Φ1 a1 w2 ds1 G1 hq htie ha1 he1 _
            cases e with
            | normal =>
              obtain ⟨Z, hZ, rfl, rfl⟩ := htie
              have hZ := hZ rfl
              subst hZ
              refine ⟨R1 ++ L1.map Tr.own, Φ1, ha1.st, by rw [List.append_assoc]; exact ha1.ctx, fun w3 Gx3 c3 => ?_⟩
              have ha3 : At [] Gx3 W s1 L1 R1 Φ1 a1 w3 := ⟨ha1.sim, ha1.wf, ha1.ids, by rw [List.append_assoc] at c3; exact c3, ha1.st⟩
              refine ihy (rd := some lp) (fun _ => hry) hq ha3 ?_
              intro e s2 L2 R2 Φ2 a2 w4 ds2 G2 hq2 htie2 ha2 he2 _
              cases e with
              | normal =>
                obtain ⟨Z, hZ, rfl, rfl⟩ := htie2
                have hZ := hZ rfl
                subst hZ
                simp only at hq2
                split at hq2
                · rename_i hsub
                  obtain ⟨R3, Φ3, hst3, hw3, hj⟩ := hq2
                  exact ⟨rfl, _, R3, Φ3, hst3, hj, hw3 w4 _ (CtxS.meet ha2.st ha2.ctx (((hme us).trans he1).trans he2) ha.ids hsub)⟩
                · exact hq2.elim
              | _ => exact hq2.elim
            | _ => exact hq.elim
          · rintro D w' ⟨us, R', Φ', hs, hi, c⟩
            obtain ⟨I', hI'⟩ := holdsI_some hi
            have h2 := ((Cur.app_all hI' h1).1 R' Φ' N hs hi).2.2 rfl
            refine hQ _ _ _ _ _ _ _ (mark D :: ds) (markO D :: G) h2 ⟨[D], fun hh => (by cases hh), rfl, rfl⟩ ⟨?_, ha.wf.ext (hme us), (hme us).ids ha.ids, c, hs⟩ (hme us) (by rw [ha.wf.fr (hme us)]; exact Unch.refl _ _)
            rw [ha.wf.fr (hme us)]
            exact ⟨by simp [ha.sim.defers], ha.sim.size, ha.sim.slot⟩
        · exact h.elim
    · exact h.elim
  | scope b => intro rd Q' Q s L R Φ a w ds G hrd h; exact h.elim
  | label l => intro rd Q' Q s L R Φ a w ds G hrd h; exact h.elim
  | goto l => intro rd Q' Q s L R Φ a w ds G hrd h; exact h.elim
  | refuse why => intro rd Q' Q s L R Φ a w ds G hrd h; exact h.elim
theorem resS_sound {P : Program} {W : World} {s : FrS} {L : List Tr} {R : List Own} {Φ : PW} {a : Act} {w : World} (ha : At ds G W s L R Φ a w) : ∀ {l : List ResultVar} {K : List Value → Prop}, resS P W s L R Φ l K →
    ∃ vs, (l.mapM fun r => (match r with | .tmp t => pure (a.tmps.getD t undef) | .cell x t => (do loadVar t (← asAddr (a.tmps.getD x undef)) : Sem Value) : Sem Value)).run P w = .ok vs w ∧ K vs
  | [], K, h => ⟨[], by simp, h⟩
  | .tmp t :: r, K, h => by
    unfold resS at h
    split at h
    · exact h.elim
    · rename_i hu
      obtain ⟨vs, h1, h2⟩ := resS_sound ha h
      refine ⟨_, ?_, h2⟩
      have e : (s.fr L).get t = (getS t s.l).val L := getL_val L t s.l
      rw [List.mapM_cons]
      simp only [Sem.run_bind, Sem.run_pure, Result.andThen, h1, ha.sim.slot t (by rw [e]; exact hu), e]
  | .cell x t :: r, K, h => by
    unfold resS at h
    have e : (s.fr L).get x = (getS x s.l).val L := getL_val L x s.l
    have done : ∀ {b o : Nat} {K2 : Value → Prop} {v : Value}, (getS x s.l).val L = .pointer (some ⟨b, o, none⟩) → (loadVar t ⟨b, o, none⟩).run P w = .ok v w → (resS P W s L R Φ r fun vs => K (v :: vs)) →
        ∃ vs, (((ResultVar.cell x t) :: r).mapM fun r => (match r with | .tmp t => pure (a.tmps.getD t undef) | .cell x t => (do loadVar t (← asAddr (a.tmps.getD x undef)) : Sem Value) : Sem Value)).run P w = .ok vs w ∧ K vs := by
      intro b o K2 v hv hl hk
      obtain ⟨vs, h3, h4⟩ := resS_sound ha hk
      refine ⟨_, ?_, h4⟩
      rw [List.mapM_cons]
      have hx' : a.tmps.getD x undef = .pointer (some ⟨b, o, none⟩) := by rw [ha.sim.slot x (by rw [e, hv]; rfl), e, hv]
      have hra : (asAddr (a.tmps.getD x undef)).run P w = .ok ⟨b, o, none⟩ w := by rw [hx']; rfl
      simp only [Sem.run_bind, Sem.run_pure, Result.andThen, hra, hl, h3]
    split at h
    · rename_i k off hx
      have hw := ha.wf
      obtain ⟨T, hT⟩ := Option.isSome_iff_exists.1 (WfS.ev (x := .tmp x) hw (show s.ev (.tmp x) = .ptr k off from hx))
      obtain ⟨v, h1, h2⟩ := loadT_sound hT (ha.ctx.blk hT) h
      exact done (K2 := fun _ => True) (by rw [hx, val_ptr hT]) (h1 w rfl) h2
    · rename_i b o hx
      obtain ⟨v, h1, h2⟩ := vcLoadG_sound (h w _ ha.ctx)
      exact done (K2 := fun _ => True) (by rw [hx]; rfl) (h1 trivial w rfl) h2
    · exact h.elim
theorem argS_val (L : List Tr) : ∀ (l : List Value) (i : Nat), valL L (argS i l) = argSlots i l
  | [], _ => rfl
  | v :: r, i => by simp only [argS, argSlots, valL, argS_val L r (i + 1), SV.val]
theorem vcFS_sound {P : Program} {W w : World} {H : HS} {f : FuncId} {args : Array Value} {R : List Own} {Φ : PW} [hst : Stable Φ] {J : Value → World → Prop} (h : vcFS P W H f args R Φ J) (c : Ctx W w R Φ) :
    Calls P f args w fun e w' => ∃ v, e = .returned v ∧ J v w' := by
  unfold vcFS at h
  split at h
  · rename_i fn hf
    split at h
    · rename_i code hc
      have hwf : WfS [] (⟨max fn.ntmps args.size, argS 0 args.toList⟩ : FrS) := by
        have key : ∀ (l : List Value) (i : Nat), ∀ p ∈ argS i l, ∃ v, p.2 = SV.v v := by
          intro l
          induction l with
          | nil => intro i p hp; cases hp
          | cons v r ih =>
            intro i p hp
            rcases List.mem_cons.1 hp with rfl | hp
            · exact ⟨v, rfl⟩
            · exact ih _ p hp
        intro p hp k o e
        obtain ⟨v, hv⟩ := key _ _ p hp
        rw [hv] at e; cases e
      have hfr : (⟨max fn.ntmps args.size, argS 0 args.toList⟩ : FrS).fr [] = frameOf fn args := by simp only [FrS.fr, frameOf, argS_val]
      have hat : At [] [] W (⟨max fn.ntmps args.size, argS 0 args.toList⟩ : FrS) [] R Φ { tmps := args ++ Array.replicate (fn.ntmps - args.size) undef, defers := [] } w :=
        ⟨by rw [hfr]; exact frameOf_sim fn args, hwf, by simp, by simpa [CtxS] using c, hst⟩
      refine (callsIn_wide (n := 0)).1 (callsIn_of_wp_marks (F := fenceAt none) hf hc trivial (vcS_sound (rd := none) code (fun hh => (by cases hh)) h hat ?_))
      intro e s L' R' Φ' a w' ds' G' hq htie ha _ _
      obtain ⟨Z, _, rfl, rfl⟩ := htie
      have key : (resS P W s L' R' Φ' fn.results.toList fun vs => ∀ w F, Ctx W w (R' ++ F) Φ' → J (tupled vs) w) → bodyPostM (fenceAt none) 0 P fn (fun e w' => ∃ v, e = .returned v ∧ J v w') .ret a w' := by
        intro hq
        show LeavesInM Fence.wide 0 P fn a.tmps _ a.defers .returning w'
        have := ha.st
        rw [ha.sim.defers, List.append_nil]
        refine leaves_marks (Φ := Φ') Z (R' ++ L'.map Tr.own) w' (by have := ha.ctx; rw [List.append_nil] at this; rw [List.append_assoc]; exact this) fun w2 S2 c2 => ?_
        rw [List.append_assoc] at c2
        have ha2 : At (Z.map mark ++ []) S2 W s L' R' Φ' a w2 := ⟨ha.sim, ha.wf, ha.ids, c2, ha.st⟩
        obtain ⟨vs, h1, h2⟩ := resS_sound ha2 hq
        refine ⟨tupled vs, ?_, tupled vs, rfl, h2 w2 _ c2⟩
        unfold results
        rw [Array.mapM_eq_mapM_toList, map_eq_pure_bind, Sem.run_bind, Sem.run_bind]
        have e : ∀ (r : Result (List Value)), r = .ok vs w2 → (((r.andThen fun a => (pure a.toArray : Sem (Array Value)).run P).andThen fun vs => (pure (if h : vs.size = 1 then vs[0] else Value.tuple vs) : Sem Value).run P)) = .ok (tupled vs) w2 := by
          intro r hr
          subst hr
          simp only [Result.andThen, Sem.run_pure, tupled_run]
        exact e _ h1
      cases e with
      | normal => exact key hq
      | ret => exact key hq
      | _ => exact hq.elim
    · exact h.elim
  · exact h.elim
end Go.Vc
end

section
namespace Go.Vc
section
variable {P : Program} {W w : World} {S F : List Own} {Φ Ψ : PW}
structure Quiet (P : Program) (f : FuncId) (args : Array Value) (v : Value) : Prop where
  go : ∀ w, Calls P f args w fun e w' => e = .returned v ∧ w' = w
structure Gives (P : Program) (f : FuncId) (args : Array Value) (v : Value) : Prop where
  go : ∀ (W w : World) (S : List Own) (Φ : PW), Stable Φ → Ctx W w S Φ → Calls P f args w fun e w' => e = .returned v ∧ Ctx W w' S Φ
theorem Quiet.at {f : FuncId} {args : Array Value} {v : Value} (h : Quiet P f args v) {w w0 : World} (e : w = w0) : Calls P f args w fun e w' => e = .returned v ∧ w' = w0 := by subst e; exact h.go w
theorem Quiet.gives {f : FuncId} {args : Array Value} {v : Value} (h : Quiet P f args v) : Gives P f args v :=
  ⟨fun W w S Φ _ c => (h.go w).mono fun e w' ⟨h1, h2⟩ => by subst h2; exact ⟨h1, c⟩⟩
theorem Gives.use {f : FuncId} {args : Array Value} {v : Value} (h : Gives P f args v) [hs : Stable Φ] (c : Ctx W w S Φ) {K : Ending → World → Prop} (hk : ∀ w', Ctx W w' S Φ → K (.returned v) w') : Calls P f args w K :=
  (h.go W w S Φ hs c).mono fun e w' ⟨he, c'⟩ => by subst he; exact hk w' c'
theorem gives_of {f : FuncId} {args : Array Value} {v : Value} {B : World → List Own → PW → (Value → World → Prop) → Prop}
    (run : ∀ {W w : World} {R : List Own} {Φ : PW} [Stable Φ] {J : Value → World → Prop}, Ctx W w R Φ → B W R Φ J → Calls P f args w fun e w' => ∃ v, e = .returned v ∧ J v w')
    (h : ∀ (W : World) (R : List Own) (Φ : PW), Stable Φ → B W R Φ fun u w' => u = v ∧ Ctx W w' R Φ) : Gives P f args v :=
  ⟨fun W w S Φ hs c => calls_of (run c (h W S Φ hs)) fun u w' ⟨h1, h2⟩ => ⟨by rw [h1], h2⟩⟩
structure GivesIn (Φ : PW) (P : Program) (f : FuncId) (args : Array Value) (v : Value) : Prop where
  go : ∀ (W w : World) (S : List Own), Ctx W w S Φ → Calls P f args w fun e w' => e = .returned v ∧ Ctx W w' S Φ
theorem GivesIn.use {f : FuncId} {args : Array Value} {v : Value} (h : GivesIn Φ P f args v) (c : Ctx W w S Φ) {K : Ending → World → Prop} (hk : ∀ w', Ctx W w' S Φ → K (.returned v) w') : Calls P f args w K :=
  (h.go W w S c).mono fun e w' ⟨he, c'⟩ => by subst he; exact hk w' c'
theorem Gives.in [hs : Stable Φ] {f : FuncId} {args : Array Value} {v : Value} (h : Gives P f args v) : GivesIn Φ P f args v := ⟨fun W w S c => h.go W w S Φ hs c⟩
theorem gives_in [Stable Φ] {f : FuncId} {args : Array Value} {v : Value} {B : World → List Own → PW → (Value → World → Prop) → Prop}
    (run : ∀ {W w : World} {R : List Own} {Φ : PW} [Stable Φ] {J : Value → World → Prop}, Ctx W w R Φ → B W R Φ J → Calls P f args w fun e w' => ∃ v, e = .returned v ∧ J v w')
    (h : ∀ (W : World) (R : List Own), B W R Φ fun u w' => u = v ∧ Ctx W w' R Φ) : GivesIn Φ P f args v :=
  ⟨fun W w S c => calls_of (run c (h W S)) fun u w' ⟨h1, h2⟩ => ⟨by rw [h1], h2⟩⟩
theorem Ctx.left [Stable Φ] (c : Ctx W w (S ++ F) Φ) : Ctx W w S Φ := c.sub (List.sublist_append_left _ _)
theorem Ctx.right [Stable Φ] (c : Ctx W w (S ++ F) Φ) : Ctx W w F Φ := c.sub (List.sublist_append_right _ _)
theorem Ctx.fst [Stable Φ] [Stable Ψ] (c : Ctx W w S (fun M w => Φ M w ∧ Ψ M w)) : Ctx W w S Φ := c.weak fun _ _ h => h.1
theorem rows_of {cs vs : List Value} {o : Nat} (h : (cs.drop o).take vs.length = vs) : ∀ j, (hj : j < vs.length) → cs[o + j]? = some vs[j] := by
  intro j hj
  have h1 : ((cs.drop o).take vs.length)[j]? = vs[j]? := by rw [h]
  rw [List.getElem?_take_of_lt hj, List.getElem?_drop] at h1
  rw [h1, List.getElem?_eq_getElem hj]
end
def Pin {α : Type} [Gv α] (b o : Nat) (cs : List (List Value)) (l : List α) (M : List Nat) (w : World) : Prop :=
  ∀ j, (hj : j < l.length) → b ∉ M ∧ RowAt w b (o + j * (Gv.ty α).size) (cs.getD j []) ∧ Gv.rep M w (cs.getD j []) l[j]
instance instStablePin {α : Type} [Gv α] (b o : Nat) (cs : List (List Value)) (l : List α) : Stable (fun M w => Pin b o cs l M w) := ⟨fun hs h j hj => by
  obtain ⟨h2, h3, h4⟩ := h j hj
  have hlt := row_lt h3 (by rw [Gv.len h4]; exact Gv.pos)
  exact ⟨fun hm => by rcases hs.sub b hm with h | h; exact h2 h; omega, hs.chg.row h3 h2, Gv.stable hs h4⟩⟩
theorem Sl.pin {α : Type} [Gv α] {M : List Nat} {w : World} {p : Option Addr} {l : List α} (h : Sl M w p l) : ∃ b o cs, (0 < l.length → p = some ⟨b, o, none⟩) ∧ Pin b o cs l M w := by
  by_cases h0 : 0 < l.length
  · obtain ⟨b, o, _, hp, _⟩ := h 0 h0
    have key : ∀ j, j < l.length → ∃ cs : List Value, ∀ hj : j < l.length, b ∉ M ∧ RowAt w b (o + j * (Gv.ty α).size) cs ∧ Gv.rep M w cs l[j] := by
      intro j hj
      obtain ⟨b', o', cs, h1, h2, h3, h4⟩ := h j hj
      rw [hp] at h1
      cases h1
      exact ⟨cs, fun _ => ⟨h2, h3, h4⟩⟩
    obtain ⟨cs, hl, hcs⟩ := list_build l.length key
    refine ⟨b, o, cs, fun _ => hp, fun j hj => ?_⟩
    have := hcs j (by omega) hj
    rw [show cs.getD j [] = cs[j] by simp [List.getD, show j < cs.length by omega]]
    exact this
  · exact ⟨0, 0, [], fun h => absurd h h0, fun j hj => by omega⟩
theorem Ctx.pin {W w : World} {S : List Own} {Φ : PW} (c : Ctx W w S Φ) {α : Type} [Gv α] {p : Option Addr} {l : List α} (h : Sl (dom S) w p l) :
    ∃ b o cs, (0 < l.length → p = some ⟨b, o, none⟩) ∧ Ctx W w S (fun M w => Φ M w ∧ Pin b o cs l M w) := by
  obtain ⟨b, o, cs, hp, hpin⟩ := h.pin
  exact ⟨b, o, cs, hp, c.add hpin⟩
theorem GivesIn.pinned {Φ : PW} [Stable Φ] {P : Program} {f : FuncId} {args : Array Value} {v : Value} {α : Type} [Gv α] {p : Option Addr} {l : List α} (hΦ : ∀ M w, Φ M w → Sl M w p l)
    (h : ∀ b o cs, (0 < l.length → p = some ⟨b, o, none⟩) → GivesIn (fun M w => Φ M w ∧ Pin b o cs l M w) P f args v) : GivesIn Φ P f args v :=
  ⟨fun W w S c => by
    obtain ⟨b, o, cs, hp, c'⟩ := c.pin (hΦ _ _ c.phi)
    exact ((h b o cs hp).go W w S c').mono fun e w' ⟨h1, h2⟩ => ⟨h1, h2.fst⟩⟩
end Go.Vc
end

section
namespace Go.Vc
section
variable {P : Program} {W w : World} {S F : List Own} {Φ Ψ : PW}
def Parked (W : World) (o : Own) (M : List Nat) (w : World) : Prop := o.at w ∧ ∀ b ∈ o.dom, b ∉ M ∧ W.heap.size ≤ b
instance instStableParked (W : World) (o : Own) : Stable (fun M w => Parked W o M w) := ⟨fun hs h =>
  ⟨Own.at_keep h.1 fun b hb => hs.chg.block b (Own.at_lt h.1 b hb) (h.2 b hb).1, fun b hb => ⟨fun hm => by
    rcases hs.sub b hm with h1 | h1
    · exact (h.2 b hb).1 h1
    · have := Own.at_lt h.1 b hb; omega, (h.2 b hb).2⟩⟩⟩
instance instStableMore (D : List Nat) (Φ : PW) [Stable Φ] : Stable (fun M w => Φ (D ++ M) w) := ⟨fun {M M' w w'} hs h =>
  Stable.step (Φ := Φ) (M := D ++ M) (M' := D ++ M') ⟨hs.chg.mono fun x hx => List.mem_append_right _ hx, fun b hb => by
    rcases List.mem_append.1 hb with h | h
    · exact .inl (List.mem_append_left _ h)
    · rcases hs.sub b h with h | h
      · exact .inl (List.mem_append_right _ h)
      · exact .inr h⟩ h⟩
theorem Own.nodup (o : Own) : o.dom.Nodup := by
  cases o with
  | blk => simp [Own.dom]
  | obj => simp [Own.dom]
  | buf p => cases p <;> simp [Own.dom]
theorem dom_cons (o : Own) (S : List Own) : dom (o :: S) = o.dom ++ dom S := rfl
theorem Ctx.park {o : Own} (c : Ctx W w (o :: S) Φ) : Ctx W w S (fun M w => Φ (o.dom ++ M) w ∧ Parked W o M w) :=
  ⟨c.chg, fun x hx => c.own x (List.mem_cons_of_mem _ hx), fun b hb => c.young b (by rw [dom_cons]; exact List.mem_append_right _ hb),
    (by have := c.nodup; rw [dom_cons, List.nodup_append] at this; exact this.2.1), c.phi, c.own o List.mem_cons_self, fun b hb =>
      ⟨fun hm => by have := c.nodup; rw [dom_cons, List.nodup_append] at this; exact this.2.2 b hb b hm rfl, c.young b (by rw [dom_cons]; exact List.mem_append_left _ hb)⟩⟩
theorem Ctx.unpark {o : Own} (c : Ctx W w S (fun M w => Φ (o.dom ++ M) w ∧ Parked W o M w)) : Ctx W w (o :: S) Φ := by
  obtain ⟨h1, h2, h3⟩ := c.phi
  refine ⟨c.chg, fun x hx => ?_, fun b hb => ?_, ?_, h1⟩
  · rcases List.mem_cons.1 hx with rfl | hx
    · exact h2
    · exact c.own x hx
  · rw [dom_cons] at hb
    rcases List.mem_append.1 hb with hb | hb
    · exact (h3 b hb).2
    · exact c.young b hb
  · rw [dom_cons, List.nodup_append]
    exact ⟨o.nodup, c.nodup, fun a ha b hb e => by subst e; exact (h3 a ha).1 hb⟩
theorem Parked.sl {α : Type} [Gv α] {M D : List Nat} {p : Option Addr} {n cap : Nat} {cs : List Value} {t : TypeId} {l : List α} (h : Parked W (.buf p n cap cs t (Gv.ty α).size) M w)
    (he : Elems (D ++ M) w cs l) : Sl M w p l := by
  obtain ⟨⟨h1, h2⟩, h3⟩ := h
  have hpos : 0 < (Gv.ty α).size := Gv.pos
  intro j hj
  have hle : (j + 1) * (Gv.ty α).size ≤ cs.length := by rw [he.1]; exact Nat.mul_le_mul_right _ hj
  rw [Nat.add_mul, Nat.one_mul] at hle
  rcases h2 with ⟨e, rfl⟩ | ⟨g, cap', cur, e, _, hg, hnc, hcm, hcs, htake⟩
  · rw [Nat.zero_mul] at h1; omega
  · cases e
    refine ⟨g, 0, (cs.drop (j * (Gv.ty α).size)).take (Gv.ty α).size, rfl, (h3 g (by simp [Own.dom])).1, fun i hi => ?_, ?_⟩
    · rw [Nat.zero_add]
      simp only [List.length_take, List.length_drop] at hi
      rw [List.getElem_take, List.getElem_drop]
      have hlt : j * (Gv.ty α).size + i < cs.length := by omega
      have h2 : ∀ k v, k < cs.length → cs[k]? = some v → cur[k]? = some v := by
        intro k v hk hv
        rw [← htake, List.getElem?_take_of_lt (by omega)] at hv
        simpa using hv
      have h2 := h2 _ _ hlt (List.getElem?_eq_getElem hlt)
      simp [World.cell?, hg, h2]
    · exact Gv.stable ⟨Chg.refl _ _, fun b hb => .inl (List.mem_append_right _ hb)⟩ (he.2 j hj)
def There (p : Option Addr) (n : Nat) : Prop := 0 < n → ∃ b o, p = some ⟨b, o, none⟩
theorem Sl.there {α : Type} [Gv α] {M : List Nat} {w : World} {p : Option Addr} {l : List α} (h : Sl M w p l) : There p l.length := fun h0 => by
  obtain ⟨b, o, _, h1, _⟩ := h 0 h0
  exact ⟨b, o, h1⟩
theorem Sl.nil {α : Type} [Gv α] {M : List Nat} {w : World} {p : Option Addr} : Sl M w p ([] : List α) := fun j hj => by simp at hj
theorem GivesIn.there {f : FuncId} {args : Array Value} {v : Value} {p : Option Addr} {n : Nat} (hΦ : ∀ M w, Φ M w → There p n) (h : There p n → GivesIn Φ P f args v) : GivesIn Φ P f args v :=
  ⟨fun W w S c => (h (hΦ _ _ c.phi)).go W w S c⟩
structure GivesSl (Φ : PW) (P : Program) (f : FuncId) (args : Array Value) {α : Type} [Gv α] (l : List α) (mk : Value → Value) : Prop where
  go : ∀ (W w : World) (S : List Own), Ctx W w S Φ → Calls P f args w fun e w' => ∃ p cap, e = .returned (mk (.slice p l.length cap)) ∧ l.length ≤ cap ∧ cap ≤ maxLen ∧ Ctx W w' S (fun M w => Φ M w ∧ Sl M w p l)
theorem GivesSl.use {f : FuncId} {args : Array Value} {α : Type} [Gv α] {l : List α} {mk : Value → Value} (h : GivesSl Φ P f args l mk) (c : Ctx W w S Φ) {K : Ending → World → Prop}
    (hk : ∀ p cap w', l.length ≤ cap → cap ≤ maxLen → Ctx W w' S (fun M w => Φ M w ∧ Sl M w p l) → K (.returned (mk (.slice p l.length cap))) w') : Calls P f args w K :=
  (h.go W w S c).mono fun e w' ⟨p, cap, he, h1, h2, c'⟩ => by subst he; exact hk p cap w' h1 h2 c'
theorem gives_sl [Stable Φ] {f : FuncId} {args : Array Value} {α : Type} [Gv α] {l : List α} {mk : Value → Value} {B : World → List Own → PW → (Value → World → Prop) → Prop}
    (run : ∀ {W w : World} {R : List Own} {Φ : PW} [Stable Φ] {J : Value → World → Prop}, Ctx W w R Φ → B W R Φ J → Calls P f args w fun e w' => ∃ v, e = .returned v ∧ J v w')
    (h : ∀ (W : World) (R : List Own), B W R Φ fun u w' => ∃ p cap, u = mk (.slice p l.length cap) ∧ l.length ≤ cap ∧ cap ≤ maxLen ∧ Ctx W w' R (fun M w => Φ M w ∧ Sl M w p l)) : GivesSl Φ P f args l mk :=
  ⟨fun W w S c => calls_of (run c (h W S)) fun u w' ⟨p, cap, h1, h2⟩ => ⟨p, cap, by rw [h1], h2⟩⟩
theorem GivesSl.there {f : FuncId} {args : Array Value} {α : Type} [Gv α] {l : List α} {mk : Value → Value} {p : Option Addr} {n : Nat} (hΦ : ∀ M w, Φ M w → There p n) (h : There p n → GivesSl Φ P f args l mk) : GivesSl Φ P f args l mk :=
  ⟨fun W w S c => (h (hΦ _ _ c.phi)).go W w S c⟩
theorem GivesSl.pinned [Stable Φ] {f : FuncId} {args : Array Value} {β : Type} [Gv β] {r : List β} {mk : Value → Value} {α : Type} [Gv α] {p : Option Addr} {l : List α} (hΦ : ∀ M w, Φ M w → Sl M w p l)
    (h : ∀ b o cs, (0 < l.length → p = some ⟨b, o, none⟩) → GivesSl (fun M w => Φ M w ∧ Pin b o cs l M w) P f args r mk) : GivesSl Φ P f args r mk :=
  ⟨fun W w S c => by
    obtain ⟨b, o, cs, hp, c'⟩ := c.pin (hΦ _ _ c.phi)
    exact ((h b o cs hp).go W w S c').mono fun e w' ⟨p, cap, h1, h2, h3, h4⟩ => ⟨p, cap, h1, h2, h3, h4.weak fun _ _ h => ⟨h.1.1, h.2⟩⟩⟩
def appB (P : Program) (ts t : TypeId) (size bytes : Nat) : Bool :=
  (match P.underlying ts with | some (.slice u) => decide (u = t) | _ => false) && (match P.info? t with
    | some i => (match i.zero with | some z => decide (z.cells.size = size) | none => false) && decide (i.size = size) && decide (i.bytes = bytes)
    | none => false)
theorem appB_out {ts t : TypeId} {size bytes : Nat} (h : appB P ts t size bytes = true) : ∃ i z, P.underlying ts = some (.slice t) ∧ P.info? t = some i ∧ i.zero = some z ∧ i.size = size ∧ z.cells.size = size ∧ i.bytes = bytes := by
  unfold appB at h
  rw [Bool.and_eq_true] at h
  obtain ⟨h1, h2⟩ := h
  split at h1
  · rename_i u hu
    have : u = t := by simpa using h1
    subst this
    split at h2
    · rename_i i hi
      simp only [Bool.and_eq_true] at h2
      obtain ⟨⟨h2, h3⟩, h4⟩ := h2
      split at h2
      · rename_i z hz
        exact ⟨i, z, hu, hi, hz, by simpa using h3, by simpa using h2, by simpa using h4⟩
      · cases h2
    · cases h2
  · cases h1
theorem run_app {ats : Array TypeId} {ty : TypeId} {cs : Array Bool} {args : Array Value} {v : Value} {w w' : World} (h : (Builtin.append_ ats ty args).run P w = .ok v w') : Sem.run P (builtin Builtin.append ats ty cs args) w = .ok (.value v) w' := by
  unfold builtin
  simp only [Sem.run_bind, h, Result.andThen, Sem.run_pure]
theorem Ctx.app1 [Stable Φ] {b : Nat} {news : List Value} {t' : TypeId} {p : Option Addr} {n cap : Nat} {cs : List Value} {t : TypeId} {size bytes : Nat} (c : Ctx W w (.blk b news t' :: .buf p n cap cs t size :: S) Φ)
    {ts ty : TypeId} {kb : Array Bool} (hb : appB P ts t size bytes = true) (h0 : 0 < size) (hl : news.length = size) (h1 : (news.all fun u => oneC u) = true) (hlen : n < 100000000) (hbytes : bytes ≤ 1000) :
    ∃ p' cap' w', Sem.run P (builtin Builtin.append #[ts, ts] ty kb #[.slice p n cap, .slice (some ⟨b, 0, none⟩) 1 1]) w = .ok (.value (.slice p' (n + 1) cap')) w' ∧ (∃ g, p' = some ⟨g, 0, none⟩) ∧ Ctx W w' (.buf p' (n + 1) cap' (cs ++ news) t size :: S) Φ := by
  obtain ⟨i, z, e1, e2, e3, e4, e5, e6⟩ := appB_out hb
  have hby : (n + 1) * i.bytes ≤ 100000000 * 1000 := Nat.mul_le_mul (by omega) (by omega)
  obtain ⟨p', cap', w', h2, c'⟩ := c.append 1 rfl (ty := ty) e1 e2 e3 e4 e5 (a := ⟨b, 0, none⟩) (m := 1) (c2 := 1) (news := news) (by omega) (by rw [hl, Nat.one_mul]) (fun j u hj => by rw [addr_add, Nat.zero_add]; exact c.get 0 rfl hj)
    (fun u hu => List.all_eq_true.1 h1 u hu) (by omega) (by omega)
  refine ⟨p', cap', w', run_app h2, ?_, c'.drop1⟩
  obtain ⟨g, hg, _⟩ := c'.bufCell 1 rfl (by rw [List.length_append]; omega)
  exact ⟨g, hg⟩
theorem Ctx.nobuf [Stable Φ] (c : Ctx W w S Φ) (t : TypeId) (size : Nat) : Ctx W w (.buf none 0 0 [] t size :: S) Φ := c.buf0 t size
theorem Sl.less {α : Type} [Gv α] {M D : List Nat} {w : World} {p : Option Addr} {l : List α} (h : Sl (D ++ M) w p l) : Sl M w p l :=
  h.stable ⟨Chg.refl _ _, fun b hb => .inl (List.mem_append_right _ hb)⟩
structure GivesBuf (Φ : PW) (P : Program) (f : FuncId) (args : Array Value) (n : Nat) (cells : List Value) (t : TypeId) (size : Nat) (mk : Value → Value) : Prop where
  go : ∀ (W w : World) (S : List Own), Ctx W w S Φ → Calls P f args w fun e w' => ∃ p cap, e = .returned (mk (.slice p n cap)) ∧ Ctx W w' (.buf p n cap cells t size :: S) Φ
theorem GivesBuf.use {f : FuncId} {args : Array Value} {n : Nat} {cells : List Value} {t : TypeId} {size : Nat} {mk : Value → Value} (h : GivesBuf Φ P f args n cells t size mk) (c : Ctx W w S Φ) {K : Ending → World → Prop}
    (hk : ∀ p cap w', Ctx W w' (.buf p n cap cells t size :: S) Φ → K (.returned (mk (.slice p n cap))) w') : Calls P f args w K :=
  (h.go W w S c).mono fun e w' ⟨p, cap, he, c'⟩ => by subst he; exact hk p cap w' c'
theorem Parked.blkSl {α : Type} [Gv α] {M : List Nat} {b : Nat} {cs : List Value} {t : TypeId} {l : List α} (h : Parked W (.blk b cs t) M w) (he : Elems M w cs l) : Sl M w (some ⟨b, 0, none⟩) l := by
  obtain ⟨h1, h2⟩ := h
  have h1 : Blk w b cs t := h1
  intro j hj
  have hle : (j + 1) * (Gv.ty α).size ≤ cs.length := by rw [he.1]; exact Nat.mul_le_mul_right _ hj
  rw [Nat.add_mul, Nat.one_mul] at hle
  refine ⟨b, 0, (cs.drop (j * (Gv.ty α).size)).take (Gv.ty α).size, rfl, (h2 b (by simp [Own.dom])).1, fun i hi => ?_, he.2 j hj⟩
  simp only [List.length_take, List.length_drop] at hi
  rw [Nat.zero_add, List.getElem_take, List.getElem_drop]
  exact h1.cell_eq (List.getElem?_eq_getElem (by omega))
theorem Ctx.freezeBlk [Stable Φ] {α : Type} [Gv α] {b : Nat} {cs : List Value} {t : TypeId} {l : List α} (c : Ctx W w (.blk b cs t :: S) Φ) (he : Elems (dom (.blk b cs t :: S)) w cs l) : Ctx W w S Φ ∧ Sl (dom S) w (some ⟨b, 0, none⟩) l := by
  have c' := c.park
  refine ⟨c.drop1, c'.phi.2.blkSl ⟨he.1, fun j hj => ?_⟩⟩
  exact Gv.stable ⟨Chg.refl _ _, fun b hb => .inl (by rw [dom_cons]; exact List.mem_append_right _ hb)⟩ (he.2 j hj)
theorem Elems.two {α : Type} [Gv α] {M : List Nat} {cs ds : List Value} {x y : α} (h1 : Gv.rep M w cs x) (h2 : Gv.rep M w ds y) : Elems M w (cs ++ ds) [x, y] := Elems.snoc (l := [x]) (Elems.snoc (l := []) (cs := []) Elems.nil h1) h2
theorem Elems.one {α : Type} [Gv α] {M : List Nat} {cs : List Value} {x : α} (h1 : Gv.rep M w cs x) : Elems M w cs [x] := Elems.snoc (l := []) (cs := []) Elems.nil h1
end
end Go.Vc
end

section
namespace Go.Vc
section
variable {P : Program} {W w w' : World} {S S' F : List Own} {Φ Ψ : PW}
theorem Ctx.swap [Stable Φ] {a b : Own} (c : Ctx W w (a :: b :: S) Φ) : Ctx W w (b :: a :: S) Φ := c.perm (List.Perm.swap _ _ _)
theorem Ctx.bufBlk (c : Ctx W w S Φ) (k : Nat) {p : Option Addr} {n cap : Nat} {cs : List Value} {t : TypeId} {size : Nat} (hk : S[k]? = some (.buf p n cap cs t size)) (h0 : 0 < cs.length) :
    ∃ b cur, p = some ⟨b, 0, none⟩ ∧ Blk w b cur t ∧ cur.take (n * size) = cs ∧ n ≤ cap ∧ cap ≤ maxLen ∧ cur.length = cap * size ∧ cs.length = n * size := by
  obtain ⟨h1, h2⟩ := c.own _ (List.mem_of_getElem? hk)
  rcases h2 with ⟨e, rfl⟩ | ⟨g, cap', cur, e, _, hg, hnc, hcm, hcs, htake⟩
  · rw [Nat.zero_mul] at h1; omega
  · cases e
    exact ⟨g, cur.toList, rfl, by simpa [Blk] using hg, htake, hnc, hcm, by simpa using hcs, h1⟩
theorem Ctx.bufRow (c : Ctx W w S Φ) (k : Nat) {p : Option Addr} {n cap : Nat} {cs : List Value} {t : TypeId} {size : Nat} (hk : S[k]? = some (.buf p n cap cs t size)) {b o : Nat} (hp : p = some ⟨b, 0, none⟩) {vs : List Value}
    (hv : ∀ j, (hj : j < vs.length) → cs[o + j]? = some vs[j]) : RowAt w b o vs := by
  intro j hj
  have hlt : o + j < cs.length := (List.getElem?_eq_some_iff.1 (hv j hj)).1
  obtain ⟨b', h1, _, h2⟩ := c.bufCell k hk (by omega)
  rw [hp] at h1
  cases h1
  exact (h2 _ _ (hv j hj)).1
theorem Ctx.bufCan (c : Ctx W w S Φ) (k : Nat) {p : Option Addr} {n cap : Nat} {cs : List Value} {t : TypeId} {size : Nat} (hk : S[k]? = some (.buf p n cap cs t size)) {b o m : Nat} (hp : p = some ⟨b, 0, none⟩) (hm : o + m ≤ cs.length) : CanWrite w b o m := by
  intro j hj
  obtain ⟨b', h1, _, h2⟩ := c.bufCell k hk (by omega)
  rw [hp] at h1
  cases h1
  have := h2 (o + j) cs[o + j] (List.getElem?_eq_getElem (by omega))
  exact ⟨by rw [this.1]; rfl, this.2⟩
theorem setL_len : ∀ (vs : List Value) (cs : List Value) (o : Nat), (setL cs o vs).length = cs.length
  | [], _, _ => rfl
  | v :: r, cs, o => by unfold setL; rw [setL_len r]; simp
theorem setL_take : ∀ (vs : List Value) (cs : List Value) (o m : Nat), o + vs.length ≤ m → (setL cs o vs).take m = setL (cs.take m) o vs
  | [], _, _, _, _ => rfl
  | v :: r, cs, o, m, h => by
    unfold setL
    simp only [List.length_cons] at h
    rw [setL_take r _ _ _ (by omega), List.take_set]
theorem setL_get : ∀ (vs : List Value) (cs : List Value) (o i : Nat), (i < o ∨ o + vs.length ≤ i) → (setL cs o vs)[i]? = cs[i]?
  | [], _, _, _, _ => rfl
  | v :: r, cs, o, i, h => by
    unfold setL
    simp only [List.length_cons] at h
    rw [setL_get r _ _ _ (by omega), List.getElem?_set_ne (by omega)]
theorem setL_in : ∀ (vs : List Value) (cs : List Value) (o i : Nat), i < vs.length → o + vs.length ≤ cs.length → (setL cs o vs)[o + i]? = vs[i]?
  | [], _, _, _, h, _ => by simp at h
  | v :: r, cs, o, 0, h, hl => by
    unfold setL
    simp only [List.length_cons] at hl
    rw [setL_get r _ _ _ (by omega), Nat.add_zero, List.getElem?_set_self (by omega)]
    rfl
  | v :: r, cs, o, i + 1, h, hl => by
    unfold setL
    simp only [List.length_cons] at hl h
    rw [show o + (i + 1) = o + 1 + i by omega, setL_in r _ _ _ (by omega) (by simp; omega)]
    rfl
theorem Ctx.bufPuts [Stable Φ] (c : Ctx W w S Φ) (k : Nat) {p : Option Addr} {n cap : Nat} {cs vs : List Value} {t : TypeId} {size : Nat} (hk : S[k]? = some (.buf p n cap cs t size)) {b o : Nat} (hp : p = some ⟨b, 0, none⟩) (h0 : 0 < cs.length) (ho : o + vs.length ≤ cs.length)
    (e : w' = w.setCells b o vs) : Ctx W w' (S.set k (.buf p n cap (setL cs o vs) t size)) Φ := by
  obtain ⟨b', cur, h1, hb, htake, hnc, hcm, hcl, hl⟩ := c.bufBlk k hk h0
  rw [hp] at h1
  cases h1
  subst e
  refine c.upd hk ((Chg.refl _ _).setCells (by subst hp; simp [Own.dom]) o vs) (fun x hx => .inl (by subst hp; exact hx)) (by subst hp; simp [Own.dom]) ?_
  have hb' := Blk.sets vs o hb
  refine ⟨by rw [setL_len, hl], .inr ⟨b, cap, (setL cur o vs).toArray, by rw [hp], Nat.zero_le _, hb', hnc, hcm, by simp [setL_len, hcl], ?_⟩⟩
  rw [← htake, setL_take _ _ _ _ (by omega)]
theorem Sl.cells {α : Type} [Gv α] {M : List Nat} {p : Option Addr} {l : List α} (h : Sl M w p l) (h1 : ∀ M w cs (x : α), Gv.rep M w cs x → (cs.all fun u => oneC u) = true) (h0 : 0 < l.length) :
    ∃ b o news, p = some ⟨b, o, none⟩ ∧ news.length = l.length * (Gv.ty α).size ∧ (∀ j u, news[j]? = some u → w.cell? ⟨b, o + j, none⟩ = some u) ∧ Elems M w news l ∧ (news.all fun u => oneC u) = true := by
  obtain ⟨b, o, _, hp, _⟩ := h 0 h0
  have key : ∀ k, k ≤ l.length → ∃ news : List Value, news.length = k * (Gv.ty α).size ∧ (∀ j u, news[j]? = some u → w.cell? ⟨b, o + j, none⟩ = some u) ∧ Elems M w news (l.take k) ∧ (news.all fun u => oneC u) = true := by
    intro k
    induction k with
    | zero => intro _; exact ⟨[], by simp, fun j u hj => by simp at hj, by rw [List.take_zero]; exact Elems.nil, rfl⟩
    | succ k ih =>
      intro hk
      obtain ⟨news, g1, g2, g3, g4⟩ := ih (by omega)
      obtain ⟨b', o', cs, e1, _, e3, e4⟩ := h k (by omega)
      rw [hp] at e1
      cases e1
      have hlen := Gv.len e4
      refine ⟨news ++ cs, by rw [List.length_append, g1, hlen, Nat.add_mul, Nat.one_mul], fun j u hj => ?_, ?_, by rw [List.all_append, g4, h1 _ _ _ _ e4]; rfl⟩
      · by_cases hlt : j < news.length
        · rw [List.getElem?_append_left hlt] at hj
          exact g2 j u hj
        · rw [List.getElem?_append_right (by omega)] at hj
          have hl2 : j - news.length < cs.length := (List.getElem?_eq_some_iff.1 hj).1
          have := e3 (j - news.length) hl2
          rw [show o + k * (Gv.ty α).size + (j - news.length) = o + j by omega] at this
          rw [this, ← hj, List.getElem?_eq_getElem hl2]
      · rw [List.take_succ_eq_append_getElem (by omega)]
        exact g3.snoc e4
  obtain ⟨news, g1, g2, g3, g4⟩ := key l.length (Nat.le_refl _)
  rw [List.take_length] at g3
  exact ⟨b, o, news, hp, g1, g2, g3, g4⟩
theorem Ctx.appSl [Stable Φ] {α : Type} [Gv α] {q : Option Addr} {l : List α} {c2 : Nat} {p : Option Addr} {n cap : Nat} {cs : List Value} {t : TypeId} {bytes : Nat} (c : Ctx W w (.buf p n cap cs t (Gv.ty α).size :: S) Φ)
    {ts ty : TypeId} {kb : Array Bool} (hb : appB P ts t (Gv.ty α).size bytes = true) (h1 : ∀ M w cs (x : α), Gv.rep M w cs x → (cs.all fun u => oneC u) = true) (hsl : ∀ M w, Φ M w → Sl M w q l) (h0 : 0 < l.length) (hlen : n + l.length < 100000000) (hbytes : bytes ≤ 1000) :
    ∃ p' cap' w' news, Sem.run P (builtin Builtin.append #[ts, ts] ty kb #[.slice p n cap, .slice q l.length c2]) w = .ok (.value (.slice p' (n + l.length) cap')) w' ∧ (∃ g, p' = some ⟨g, 0, none⟩) ∧
      Ctx W w' (.buf p' (n + l.length) cap' (cs ++ news) t (Gv.ty α).size :: S) (fun M w => Φ M w ∧ Elems M w news l) := by
  obtain ⟨i, z, e1, e2, e3, e4, e5, e6⟩ := appB_out hb
  have hby : (n + l.length) * i.bytes ≤ 100000000 * 1000 := Nat.mul_le_mul (by omega) (by omega)
  obtain ⟨b, o, news, hp, g1, g2, g3, g4⟩ := (hsl _ _ c.phi).cells h1 h0
  obtain ⟨p', cap', w', h2, c'⟩ := (c.add (Ψ := fun M w => Elems M w news l) g3).append 0 rfl (ty := ty) e1 e2 e3 e4 e5 (a := ⟨b, o, none⟩) (m := l.length) (c2 := c2) (news := news) h0 g1 (fun j u hj => by rw [addr_add]; exact g2 j u hj)
    (fun u hu => List.all_eq_true.1 g4 u hu) (by omega) (by omega)
  have hpos : 0 < (Gv.ty α).size := Gv.pos
  have hl2 : 0 < l.length * (Gv.ty α).size := Nat.mul_pos h0 hpos
  refine ⟨p', cap', w', news, by rw [hp]; exact run_app h2, ?_, c'⟩
  obtain ⟨g, hg, _⟩ := c'.bufCell 0 rfl (by rw [List.length_append]; omega)
  exact ⟨g, hg⟩
end
end Go.Vc
end

section
namespace Go.Vc
section
variable {P : Program} {W w w' : World} {S S' F : List Own} {Φ Ψ : PW}
theorem Stable.less {Φ : PW} [Stable Φ] {D M : List Nat} {w : World} (h : Φ (D ++ M) w) : Φ M w :=
  Stable.step (Φ := Φ) ⟨Chg.refl _ _, fun b hb => .inl (List.mem_append_right _ hb)⟩ h
structure GivesNew (Φ : PW) (P : Program) (f : FuncId) (args : Array Value) {α : Type} [Gv α] (l : List α) (t : TypeId) : Prop where
  go : ∀ (W w : World) (S : List Own), Ctx W w S Φ → Calls P f args w fun e w' => ∃ p cap cs, e = .returned (.slice p l.length cap) ∧ Ctx W w' (.buf p l.length cap cs t (Gv.ty α).size :: S) (fun M w => Φ M w ∧ Elems M w cs l)
theorem GivesNew.use {f : FuncId} {args : Array Value} {α : Type} [Gv α] {l : List α} {t : TypeId} (h : GivesNew Φ P f args l t) (c : Ctx W w S Φ) {K : Ending → World → Prop}
    (hk : ∀ p cap cs w', Ctx W w' (.buf p l.length cap cs t (Gv.ty α).size :: S) (fun M w => Φ M w ∧ Elems M w cs l) → K (.returned (.slice p l.length cap)) w') : Calls P f args w K :=
  (h.go W w S c).mono fun e w' ⟨p, cap, cs, he, c'⟩ => by subst he; exact hk p cap cs w' c'
theorem GivesNew.there {f : FuncId} {args : Array Value} {α : Type} [Gv α] {l : List α} {t : TypeId} {p : Option Addr} {n : Nat} (hΦ : ∀ M w, Φ M w → There p n) (h : There p n → GivesNew Φ P f args l t) : GivesNew Φ P f args l t :=
  ⟨fun W w S c => (h (hΦ _ _ c.phi)).go W w S c⟩
theorem Ctx.cloned [Stable Φ] {α : Type} [Gv α] {q : Option Addr} {l : List α} {c2 : Nat} {k : Nat} {t : TypeId} {bytes : Nat} (c : Ctx W w (.blk k [] t :: S) Φ)
    {ts ty : TypeId} {kb : Array Bool} (hb : appB P ts t (Gv.ty α).size bytes = true) (h1 : ∀ M w cs (x : α), Gv.rep M w cs x → (cs.all fun u => oneC u) = true) (hsl : ∀ M w, Φ M w → Sl M w q l) (hlen : l.length < 100000000) (hbytes : bytes ≤ 1000) :
    ∃ p' cap' w' cs, Sem.run P (builtin Builtin.append #[ts, ts] ty kb #[.slice (some ⟨k, 0, none⟩) 0 0, .slice q l.length c2]) w = .ok (.value (.slice p' l.length cap')) w' ∧
      Ctx W w' (.buf p' l.length cap' cs t (Gv.ty α).size :: S) (fun M w => Φ M w ∧ Elems M w cs l) := by
  have c' : Ctx W w (.buf (some ⟨k, 0, none⟩) 0 0 [] t (Gv.ty α).size :: S) Φ := c.toBuf 0 0 (Gv.ty α).size rfl (by simp) (by simp [maxLen])
  rcases Nat.eq_zero_or_pos l.length with h0 | h0
  · obtain ⟨i, z, e1, e2, e3, e4, e5, e6⟩ := appB_out hb
    have hl : l = [] := List.eq_nil_of_length_eq_zero h0
    subst hl
    exact ⟨_, _, w, [], run_app (c'.append0 0 rfl e1 e2 q c2), c'.add Elems.nil⟩
  · obtain ⟨p', cap', w', news, h2, _, c3⟩ := c'.appSl (ty := ty) (kb := kb) (c2 := c2) hb h1 hsl h0 (by omega) hbytes
    rw [Nat.zero_add] at h2 c3
    exact ⟨p', cap', w', news, h2, c3⟩
def RowIn (b o : Nat) (vs : List Value) (M : List Nat) (w : World) : Prop := b ∉ M ∧ RowAt w b o vs ∧ b < w.heap.size
instance instStableRowIn (b o : Nat) (vs : List Value) : Stable (fun M w => RowIn b o vs M w) := ⟨fun hs h =>
  ⟨fun hm => by rcases hs.sub b hm with h1 | h1; exact h.1 h1; have := h.2.2; omega, hs.chg.row h.2.1 h.1, Nat.lt_of_lt_of_le h.2.2 hs.chg.size⟩⟩
theorem Parked.rowIn {M : List Nat} {b o : Nat} {cs vs : List Value} {t : TypeId} (h : Parked W (.blk b cs t) M w) (hv : ∀ j, (hj : j < vs.length) → cs[o + j]? = some vs[j]) : RowIn b o vs M w :=
  ⟨(h.2 b (by simp [Own.dom])).1, Blk.row (show Blk w b cs t from h.1) hv, Own.at_lt h.1 b (by simp [Own.dom])⟩
def ParkedL (W : World) (Q : List Own) (M : List Nat) (w : World) : Prop := (∀ o ∈ Q, o.at w) ∧ (dom Q).Nodup ∧ ∀ b ∈ dom Q, b ∉ M ∧ W.heap.size ≤ b
instance instStableParkedL (W : World) (Q : List Own) : Stable (fun M w => ParkedL W Q M w) := ⟨fun hs h => by
  have hlt : ∀ b ∈ dom Q, b < _ := fun b hb => by
    obtain ⟨o, ho, hb⟩ := List.mem_flatMap.1 hb
    exact Own.at_lt (h.1 o ho) b hb
  exact ⟨fun o ho => Own.at_keep (h.1 o ho) fun b hb => hs.chg.block b (hlt b (mem_dom ho hb)) (h.2.2 b (mem_dom ho hb)).1, h.2.1, fun b hb => ⟨fun hm => by
    rcases hs.sub b hm with h1 | h1
    · exact (h.2.2 b hb).1 h1
    · have := hlt b hb; omega, (h.2.2 b hb).2⟩⟩⟩
def Aside (W : World) (Q : List Own) (Φ : PW) : PW := fun M w => Φ (dom Q ++ M) w ∧ ParkedL W Q M w
instance instStableAside (W : World) (Q : List Own) (Φ : PW) [Stable Φ] : Stable (Aside W Q Φ) :=
  have h1 : Stable (fun M w => Φ (dom Q ++ M) w) := instStableMore (dom Q) Φ
  instStableAnd (fun M w => Φ (dom Q ++ M) w) (fun M w => ParkedL W Q M w)
theorem Ctx.aside {Q : List Own} (c : Ctx W w (Q ++ S) Φ) : Ctx W w S (Aside W Q Φ) := by
  have hd := dom_app Q S
  have hn := c.nodup
  rw [hd, List.nodup_append] at hn
  refine ⟨c.chg, fun x hx => c.own x (List.mem_append_right _ hx), fun b hb => c.young b (by rw [hd]; exact List.mem_append_right _ hb), hn.2.1, ?_, fun o ho => c.own o (List.mem_append_left _ ho), hn.1, fun b hb => ⟨fun hm => hn.2.2 b hb b hm rfl, c.young b (by rw [hd]; exact List.mem_append_left _ hb)⟩⟩
  have := c.phi
  rw [hd] at this
  exact this
theorem Ctx.unaside {Q : List Own} (c : Ctx W w S (Aside W Q Φ)) : Ctx W w (Q ++ S) Φ := by
  obtain ⟨h1, h2, h3, h4⟩ := c.phi
  have hd := dom_app Q S
  refine ⟨c.chg, fun x hx => ?_, fun b hb => ?_, ?_, by rw [hd]; exact h1⟩
  · rcases List.mem_append.1 hx with hx | hx
    · exact h2 x hx
    · exact c.own x hx
  · rw [hd] at hb
    rcases List.mem_append.1 hb with hb | hb
    · exact (h4 b hb).2
    · exact c.young b hb
  · rw [hd, List.nodup_append]
    exact ⟨h3, c.nodup, fun a ha b hb e => by subst e; exact (h4 a ha).1 hb⟩
theorem Aside.parked {Q : List Own} {M : List Nat} (h : Aside W Q Φ M w) {o : Own} (ho : o ∈ Q) : Parked W o M w := ⟨h.2.1 o ho, fun b hb => h.2.2.2 b (mem_dom ho hb)⟩
theorem Aside.less [Stable Φ] {Q : List Own} {M : List Nat} (h : Aside W Q Φ M w) : Φ M w := Stable.less h.1
theorem Ctx.re (c : Ctx W w S Φ) (e : S = S') : Ctx W w S' Φ := e ▸ c
theorem Ctx.bufGet (c : Ctx W w S Φ) (k : Nat) {p : Option Addr} {n cap : Nat} {cs : List Value} {t : TypeId} {size : Nat} (hk : S[k]? = some (.buf p n cap cs t size)) {b i : Nat} {v : Value} (hp : p = some ⟨b, 0, none⟩) (hv : cs[i]? = some v) : w.cell? ⟨b, i, none⟩ = some v := by
  obtain ⟨b', h1, _, h2⟩ := c.bufCell k hk (by have := (List.getElem?_eq_some_iff.1 hv).1; omega)
  rw [hp] at h1
  cases h1
  exact (h2 _ _ hv).1
theorem addr_sub {α : Type} [Gv α] {M : List Nat} {p : Option Addr} {l : List α} {cap : Nat} (h : Sl M w p l) (k : Nat) (hc : l.length ≤ cap) : Sl M w (subPtr p (Gv.ty α).size k cap) (l.drop k) := by
  intro j hj
  rw [List.length_drop] at hj
  obtain ⟨b, o, cs, rfl, h2, h3, h4⟩ := h (k + j) (by omega)
  refine ⟨b, o + k * (Gv.ty α).size, cs, ?_, h2, ?_, ?_⟩
  · unfold subPtr
    rw [if_neg (by omega)]
    simp [Addr.add]
  · rw [show o + k * (Gv.ty α).size + j * (Gv.ty α).size = o + (k + j) * (Gv.ty α).size by rw [Nat.add_mul]; omega]
    exact h3
  · rw [List.getElem_drop]
    exact h4
end
end Go.Vc
end

section
namespace Go.Vc
section
variable {ε : Type} {le : ε → ε → Prop}
structure Ord (le : ε → ε → Prop) : Prop where
  total : ∀ x y, le x y ∨ le y x
  trans : ∀ x y z, le x y → le y z → le x z
theorem Ord.refl (h : Ord le) (x : ε) : le x x := (h.total x x).elim id id
abbrev Asc (le : ε → ε → Prop) (l : List ε) : Prop := l.Pairwise le
theorem asc_app {a b : List ε} (ha : Asc le a) (hb : Asc le b) (h : ∀ x ∈ a, ∀ y ∈ b, le x y) : Asc le (a ++ b) := List.pairwise_append.2 ⟨ha, hb, h⟩
theorem asc_get {l : List ε} (h : Asc le l) {i j : Nat} (hij : i < j) (hj : j < l.length) : le (l[i]'(by omega)) l[j] := List.pairwise_iff_getElem.1 h i j (by omega) hj hij
theorem asc_le (ho : Ord le) {l : List ε} (h : Asc le l) {i j : Nat} (hij : i ≤ j) (hj : j < l.length) : le (l[i]'(by omega)) l[j] := by
  rcases Nat.eq_or_lt_of_le hij with e | hlt
  · subst e; exact ho.refl _
  · exact asc_get h hlt hj
theorem asc_put {a b : List ε} {x : ε} (h : Asc le (a ++ b)) (h1 : ∀ y ∈ a, le y x) (h2 : ∀ y ∈ b, le x y) : Asc le (a ++ x :: b) := by
  obtain ⟨ha, hb, hab⟩ := List.pairwise_append.1 h
  refine asc_app ha (List.pairwise_cons.2 ⟨h2, hb⟩) fun y hy z hz => ?_
  rcases List.mem_cons.1 hz with rfl | hz
  · exact h1 y hy
  · exact hab y hy z hz
theorem sym_split (ho : Ord le) {x y : List ε} (hx : Asc le x) (hy : Asc le y) (s t : Nat) (hs : s ≤ x.length) (ht : t ≤ y.length)
    (h1 : ∀ (h0 : 0 < s) (ht' : t < y.length), le (x[s - 1]'(by omega)) y[t]) (h2 : ∀ (h0 : 0 < t) (hs' : s < x.length), le (y[t - 1]'(by omega)) x[s]) :
    ∀ a ∈ x.take s ++ y.take t, ∀ b ∈ x.drop s ++ y.drop t, le a b := by
  have xx : ∀ a ∈ x.take s, ∀ b ∈ x.drop s, le a b := by
    have := hx
    rw [← List.take_append_drop s x] at this
    exact (List.pairwise_append.1 this).2.2
  have yy : ∀ a ∈ y.take t, ∀ b ∈ y.drop t, le a b := by
    have := hy
    rw [← List.take_append_drop t y] at this
    exact (List.pairwise_append.1 this).2.2
  have xy : ∀ a ∈ x.take s, ∀ b ∈ y.drop t, le a b := fun a ha b hb => by
    obtain ⟨i, hi, rfl⟩ := List.getElem_of_mem ha
    obtain ⟨j, hj, rfl⟩ := List.getElem_of_mem hb
    rw [List.length_take] at hi
    rw [List.length_drop] at hj
    rw [List.getElem_take, List.getElem_drop]
    exact ho.trans _ _ _ (asc_le ho hx (i := i) (j := s - 1) (by omega) (by omega)) (ho.trans _ _ _ (h1 (by omega) (by omega)) (asc_le ho hy (i := t) (j := t + j) (by omega) (by omega)))
  have yx : ∀ a ∈ y.take t, ∀ b ∈ x.drop s, le a b := fun a ha b hb => by
    obtain ⟨i, hi, rfl⟩ := List.getElem_of_mem ha
    obtain ⟨j, hj, rfl⟩ := List.getElem_of_mem hb
    rw [List.length_take] at hi
    rw [List.length_drop] at hj
    rw [List.getElem_take, List.getElem_drop]
    exact ho.trans _ _ _ (asc_le ho hy (i := i) (j := t - 1) (by omega) (by omega)) (ho.trans _ _ _ (h2 (by omega) (by omega)) (asc_le ho hx (i := s) (j := s + j) (by omega) (by omega)))
  intro a ha b hb
  rcases List.mem_append.1 ha with ha | ha <;> rcases List.mem_append.1 hb with hb | hb
  · exact xx a ha b hb
  · exact xy a ha b hb
  · exact yx a ha b hb
  · exact yy a ha b hb
theorem asc_take {l : List ε} (h : Asc le l) (k : Nat) : Asc le (l.take k) := h.sublist (List.take_sublist k l)
theorem asc_drop {l : List ε} (h : Asc le l) (k : Nat) : Asc le (l.drop k) := h.sublist (List.drop_sublist k l)
def swp (l : List ε) (i j : Nat) : List ε := match l[i]?, l[j]? with
  | some x, some y => (l.set i y).set j x
  | _, _ => l
theorem swp_eq {l : List ε} {i j : Nat} (hi : i < l.length) (hj : j < l.length) : swp l i j = (l.set i l[j]).set j l[i] := by
  unfold swp
  rw [List.getElem?_eq_getElem hi, List.getElem?_eq_getElem hj]
theorem swp_next (a : List ε) (x y : ε) (b : List ε) : swp (a ++ x :: y :: b) a.length (a.length + 1) = a ++ y :: x :: b := by
  rw [swp_eq (by simp) (by simp)]
  simp [List.getElem_append_right, List.set_append]
theorem swp_far (a : List ε) (x : ε) (b : List ε) (y : ε) (c : List ε) : swp (a ++ x :: (b ++ y :: c)) a.length (a.length + 1 + b.length) = a ++ y :: (b ++ x :: c) := by
  have e : a ++ x :: (b ++ y :: c) = (a ++ x :: b) ++ y :: c := by simp
  have h1 : a.length < (a ++ x :: (b ++ y :: c)).length := by simp
  have h2 : a.length + 1 + b.length < (a ++ x :: (b ++ y :: c)).length := by simp; omega
  rw [swp_eq h1 h2]
  have g1 : (a ++ x :: (b ++ y :: c))[a.length]'h1 = x := by simp
  have g2 : (a ++ x :: (b ++ y :: c))[a.length + 1 + b.length]'h2 = y := by
    have : (a ++ x :: (b ++ y :: c))[a.length + 1 + b.length]? = some y := by
      rw [e, List.getElem?_append_right (by simp; omega)]
      simp
      rw [show a.length + 1 + b.length - (a.length + (b.length + 1)) = 0 by omega]
      rfl
    rw [List.getElem?_eq_getElem h2] at this
    exact Option.some.inj this
  rw [g1, g2]
  apply List.ext_getElem?
  intro k
  by_cases hk : k = a.length + 1 + b.length
  · subst hk
    rw [List.getElem?_set_self (by simp; omega)]
    have e2 : a ++ y :: (b ++ x :: c) = (a ++ y :: b) ++ x :: c := by simp
    rw [e2, List.getElem?_append_right (by simp; omega)]
    simp
    rw [show a.length + 1 + b.length - (a.length + (b.length + 1)) = 0 by omega]
    rfl
  · rw [List.getElem?_set_ne (by omega)]
    by_cases hk2 : k = a.length
    · subst hk2
      rw [List.getElem?_set_self h1]
      simp
    · rw [List.getElem?_set_ne (by omega)]
      by_cases hk3 : k < a.length
      · rw [List.getElem?_append_left hk3, List.getElem?_append_left hk3]
      · rw [List.getElem?_append_right (by omega), List.getElem?_append_right (by omega)]
        obtain ⟨m, hm⟩ : ∃ m, k - a.length = m + 1 := ⟨k - a.length - 1, by omega⟩
        rw [hm, List.getElem?_cons_succ, List.getElem?_cons_succ]
        by_cases hm2 : m < b.length
        · rw [List.getElem?_append_left hm2, List.getElem?_append_left hm2]
        · rw [List.getElem?_append_right (by omega), List.getElem?_append_right (by omega)]
          obtain ⟨q, hq⟩ : ∃ q, m - b.length = q + 1 := ⟨m - b.length - 1, by omega⟩
          rw [hq, List.getElem?_cons_succ, List.getElem?_cons_succ]
structure Chunks (le : ε → ε → Prop) (bs : Nat) (cs : List (List ε)) (rest : List ε) : Prop where
  len : ∀ c ∈ cs, c.length = bs
  asc : ∀ c ∈ cs, Asc le c
  last : Asc le rest
  short : rest.length < bs
end
end Go.Vc
end

section
namespace Go.Proofs.YtebnciehcnedjaaGreatDoor
open Go.Vc
structure ValD where
  kind : Int
  num : Int
  text : ByteArray
instance : Gv ValD := Gv.via (β := Int × Int × ByteArray) (fun x => (x.kind, x.num, x.text)) (fun y => ⟨y.1, y.2.1, y.2.2⟩) (fun _ => rfl)
structure DeltaD where
  time : Int
  row : List ValD
  n : Int
instance : Gv DeltaD := Gv.via (β := Int × List ValD × Int) (fun x => (x.time, x.row, x.n)) (fun y => ⟨y.1, y.2.1, y.2.2⟩) (fun _ => rfl)
abbrev ValD.v (x : ValD) : Value := .agg #[.int .i64 x.kind, .int .i64 x.num, .string x.text]
theorem val_ext {x y : ValD} : x = y ↔ (x.kind = y.kind ∧ (x.num = y.num ∧ x.text = y.text)) := by
  cases x; cases y; simp
instance : DecidableEq ValD := fun _ _ => decidable_of_iff _ val_ext.symm
structure Cmp {α : Type} (c : α → α → Int) : Prop where
  eq : ∀ x y, c x y = 0 ↔ x = y
  anti : ∀ x y, 0 < c x y ↔ c y x < 0
  trans : ∀ x y z, c x y < 0 → c y z < 0 → c x z < 0
  bd : ∀ x y, -1 ≤ c x y ∧ c x y ≤ 1
theorem Cmp.refl {α : Type} {c : α → α → Int} (h : Cmp c) (x : α) : c x x = 0 := (h.eq x x).2 rfl
theorem Cmp.tri {α : Type} {c : α → α → Int} (h : Cmp c) (x y : α) : c x y < 0 ∨ x = y ∨ c y x < 0 := by
  rcases Int.lt_trichotomy (c x y) 0 with h1 | h1 | h1
  · exact .inl h1
  · exact .inr (.inl ((h.eq x y).1 h1))
  · exact .inr (.inr ((h.anti x y).1 h1))
theorem Cmp.irr {α : Type} {c : α → α → Int} (h : Cmp c) {x y : α} (h1 : c x y < 0) (h2 : c y x < 0) : False := by
  have := (h.anti x y).2 h2
  omega
theorem bytes_cmp : Cmp Lib.compareBytes := by
  have heq : ∀ a b : List UInt8, Lib.compareBytes a b = 0 ↔ a = b := by
    intro a
    induction a with
    | nil => intro b; cases b <;> simp [Lib.compareBytes]
    | cons x a ih =>
      intro b
      cases b with
      | nil => simp [Lib.compareBytes]
      | cons y b =>
        unfold Lib.compareBytes
        split
        · rename_i h; constructor
          · intro h'; omega
          · intro h'; simp only [List.cons.injEq] at h'; rw [h'.1] at h; exact absurd h (by exact UInt8.lt_irrefl y)
        · split
          · rename_i h; constructor
            · intro h'; omega
            · intro h'; simp only [List.cons.injEq] at h'; rw [h'.1] at h; exact absurd h (by exact UInt8.lt_irrefl y)
          · rename_i h1 h2
            have : x = y := UInt8.le_antisymm (UInt8.not_lt.1 h2) (UInt8.not_lt.1 h1)
            subst this
            rw [ih b]
            simp
  have hanti : ∀ a b : List UInt8, 0 < Lib.compareBytes a b ↔ Lib.compareBytes b a < 0 := by
    intro a
    induction a with
    | nil => intro b; cases b <;> simp [Lib.compareBytes]
    | cons x a ih =>
      intro b
      cases b with
      | nil => simp [Lib.compareBytes]
      | cons y b =>
        unfold Lib.compareBytes
        by_cases h1 : x < y
        · rw [if_pos h1, if_neg (UInt8.lt_asymm h1), if_pos h1]; omega
        · rw [if_neg h1]
          by_cases h2 : y < x
          · rw [if_pos h2, if_pos h2]; omega
          · rw [if_neg h2, if_neg h2, if_neg h1]; exact ih b
  have htrans : ∀ a b c : List UInt8, Lib.compareBytes a b < 0 → Lib.compareBytes b c < 0 → Lib.compareBytes a c < 0 := by
    intro a
    induction a with
    | nil =>
      intro b c h1 h2
      cases c with
      | nil => cases b <;> simp [Lib.compareBytes] at h2
      | cons => simp [Lib.compareBytes]
    | cons x a ih =>
      intro b c h1 h2
      cases b with
      | nil => simp [Lib.compareBytes] at h1
      | cons y b =>
        cases c with
        | nil => simp [Lib.compareBytes] at h2
        | cons z c =>
          unfold Lib.compareBytes at h1 h2 ⊢
          by_cases hxy : x < y
          · by_cases hyz : y < z
            · rw [if_pos (UInt8.lt_trans hxy hyz)]; omega
            · rw [if_neg hyz] at h2
              by_cases hzy : z < y
              · rw [if_pos hzy] at h2; omega
              · have : y = z := UInt8.le_antisymm (UInt8.not_lt.1 hzy) (UInt8.not_lt.1 hyz)
                subst this
                rw [if_pos hxy]; omega
          · rw [if_neg hxy] at h1
            by_cases hyx : y < x
            · rw [if_pos hyx] at h1; omega
            · have : x = y := UInt8.le_antisymm (UInt8.not_lt.1 hyx) (UInt8.not_lt.1 hxy)
              subst this
              rw [if_neg hyx] at h1
              by_cases hyz : x < z
              · rw [if_pos hyz]; omega
              · rw [if_neg hyz] at h2 ⊢
                by_cases hzy : z < x
                · rw [if_pos hzy] at h2; omega
                · rw [if_neg hzy] at h2 ⊢
                  exact ih b c h1 h2
  have hbd : ∀ a b : List UInt8, -1 ≤ Lib.compareBytes a b ∧ Lib.compareBytes a b ≤ 1 := by
    intro a
    induction a with
    | nil => intro b; cases b <;> simp [Lib.compareBytes]
    | cons x a ih =>
      intro b
      cases b with
      | nil => simp [Lib.compareBytes]
      | cons y b =>
        unfold Lib.compareBytes
        split
        · omega
        · split
          · omega
          · exact ih b
  exact ⟨heq, hanti, htrans, hbd⟩
def cmpT (a b : ByteArray) : Int := Lib.compareBytes a.data.toList b.data.toList
theorem cmpT_cmp : Cmp cmpT :=
  ⟨fun x y => (bytes_cmp.eq _ _).trans ⟨fun h => ByteArray.ext (Array.toList_inj.1 h), fun h => by rw [h]⟩, fun x y => bytes_cmp.anti _ _, fun x y z => bytes_cmp.trans _ _ _, fun x y => bytes_cmp.bd _ _⟩
theorem Cmp.on {α β : Type} {c : β → β → Int} (h : Cmp c) (f : α → β) (hf : ∀ x y, f x = f y → x = y) : Cmp (fun x y => c (f x) (f y)) :=
  ⟨fun x y => ⟨fun e => hf _ _ ((h.eq _ _).1 e), fun e => by rw [e]; exact h.refl _⟩, fun x y => h.anti _ _, fun x y z => h.trans _ _ _, fun x y => h.bd _ _⟩
abbrev Key : Type := Int × List ValD
abbrev DeltaD.key (x : DeltaD) : Key := (x.time, x.row)
end Go.Proofs.YtebnciehcnedjaaGreatDoor
end

section
namespace Go.Proofs.YtebnciehcnedjaaGreatDoor
open Go.Vc
structure PairD where
  key : ByteArray
  val : ByteArray
instance : Gv PairD := Gv.via (β := ByteArray × ByteArray) (fun x => (x.key, x.val)) (fun y => ⟨y.1, y.2⟩) (fun _ => rfl)
theorem pair_ext {x y : PairD} : x = y ↔ x.key = y.key ∧ x.val = y.val := ⟨fun h => by rw [h]; exact ⟨rfl, rfl⟩, fun h => by cases x; cases y; simp_all⟩
instance : DecidableEq PairD := fun _ _ => decidable_of_iff _ pair_ext.symm
abbrev PairD.v (x : PairD) : Value := .agg #[.string x.key, .string x.val]
abbrev PairD.cells (x : PairD) : List Value := [.string x.key, .string x.val]
theorem pair_rep {M : List Nat} {w : World} {x : PairD} (h : x.key.size ≤ maxLen ∧ x.val.size ≤ maxLen) : Gv.rep M w x.cells x := ⟨[.string x.key], [.string x.val], rfl, ⟨rfl, h.1⟩, rfl, h.2⟩
theorem pair_cells {M : List Nat} {w : World} {cs : List Value} {x : PairD} (h : Gv.rep M w cs x) : cs = x.cells ∧ x.key.size ≤ maxLen ∧ x.val.size ≤ maxLen := by
  obtain ⟨_, _, rfl, ⟨rfl, h1⟩, rfl, h2⟩ := h
  exact ⟨rfl, h1, h2⟩
theorem pair_one (M : List Nat) (w : World) (cs : List Value) (x : PairD) (h : Gv.rep M w cs x) : (cs.all fun u => oneC u) = true := by
  rw [(pair_cells h).1]; rfl
structure PE where
  d : PairD
  idx : Nat
abbrev PE.cells (x : PE) : List Value := x.d.cells
abbrev PE.v (x : PE) : Value := x.d.v
def cellsE : List PE → List Value
  | [] => []
  | x :: l => .string x.d.key :: .string x.d.val :: cellsE l
theorem cellsE_len : ∀ l : List PE, (cellsE l).length = l.length * 2
  | [] => rfl
  | x :: l => by simp only [cellsE, List.length_cons, cellsE_len l]; omega
theorem cellsE_app : ∀ a b : List PE, cellsE (a ++ b) = cellsE a ++ cellsE b
  | [], b => rfl
  | x :: a, b => by simp only [List.cons_append, cellsE, cellsE_app a b]
theorem cellsE_drop : ∀ (l : List PE) (k : Nat), (cellsE l).drop (k * 2) = cellsE (l.drop k)
  | l, 0 => by simp
  | [], k + 1 => by simp [cellsE]
  | x :: l, k + 1 => by
    rw [show (k + 1) * 2 = k * 2 + 1 + 1 by omega]
    simp only [cellsE, List.drop_succ_cons]
    exact cellsE_drop l k
theorem cellsE_take : ∀ (l : List PE) (k : Nat), (cellsE l).take (k * 2) = cellsE (l.take k)
  | l, 0 => by simp [cellsE]
  | [], k + 1 => by simp [cellsE]
  | x :: l, k + 1 => by
    rw [show (k + 1) * 2 = k * 2 + 1 + 1 by omega]
    simp only [cellsE, List.take_succ_cons]
    rw [cellsE_take l k]
theorem cellsE_at {l : List PE} {i : Nat} (h : i < l.length) : ((cellsE l).drop (i * 2)).take 2 = l[i].cells := by
  rw [cellsE_drop, List.drop_eq_getElem_cons h]
  rfl
theorem cellsE_set {l : List PE} {i : Nat} (h : i < l.length) (x : PE) : setL (cellsE l) (i * 2) x.cells = cellsE (l.set i x) := by
  induction l generalizing i with
  | nil => simp at h
  | cons y l ih =>
    cases i with
    | zero => rfl
    | succ i =>
      have := ih (i := i) (by simpa using h)
      rw [List.set_cons_succ]
      simp only [cellsE]
      rw [← this]
      apply List.ext_getElem?
      intro k
      have hlen : (cellsE l).length = l.length * 2 := cellsE_len l
      have hi : i < l.length := by simpa using h
      by_cases hk : k < 2
      · rw [setL_get _ _ _ _ (by omega)]
        match k, hk with
        | 0, _ => rfl
        | 1, _ => rfl
      · obtain ⟨m, rfl⟩ : ∃ m, k = m + 2 := ⟨k - 2, by omega⟩
        simp only [List.getElem?_cons_succ]
        by_cases h1 : m < i * 2 ∨ i * 2 + 2 ≤ m
        · rw [setL_get _ _ _ _ (by simp; omega), setL_get _ _ _ _ (by simp; omega)]
          simp only [List.getElem?_cons_succ]
        · obtain ⟨q, rfl⟩ : ∃ q, m = i * 2 + q := ⟨m - i * 2, by omega⟩
          rw [setL_in _ _ _ _ (by simp; omega) (by simp; omega), show i * 2 + q + 2 = (i + 1) * 2 + q by omega, setL_in _ _ _ _ (by simp; omega) (by simp; omega)]
def EPhi (es : List PE) : PW := fun M w => ∀ x ∈ es, Gv.rep M w x.cells x.d
instance instStableEPhi (es : List PE) : Stable (EPhi es) := ⟨fun hs h x hx => Gv.stable hs (h x hx)⟩
def idxL : Nat → List PairD → List PE
  | _, [] => []
  | n, x :: l => ⟨x, n⟩ :: idxL (n + 1) l
theorem idxL_d : ∀ (n : Nat) (l : List PairD), (idxL n l).map PE.d = l
  | _, [] => rfl
  | n, x :: l => by rw [idxL, List.map_cons, idxL_d]
theorem idxL_len (n : Nat) (l : List PairD) : (idxL n l).length = l.length := by
  have := congrArg List.length (idxL_d n l)
  rwa [List.length_map] at this
theorem idxL_ge : ∀ (n : Nat) (l : List PairD), ∀ x ∈ idxL n l, n ≤ x.idx
  | _, [], x, h => by cases h
  | n, y :: l, x, h => by
    rcases List.mem_cons.1 h with rfl | h
    · exact Nat.le_refl _
    · have := idxL_ge (n + 1) l x h; omega
theorem idxL_asc : ∀ (n : Nat) (l : List PairD), (idxL n l).Pairwise fun a b => a.idx < b.idx
  | _, [] => .nil
  | n, x :: l => List.pairwise_cons.2 ⟨fun y hy => by have h1 := idxL_ge (n + 1) l y hy; show n < y.idx; omega, idxL_asc (n + 1) l⟩
theorem elems_ex {M : List Nat} {w : World} : ∀ {l : List PairD} {cs : List Value} (n : Nat), Elems M w cs l → cs = cellsE (idxL n l) := by
  intro l
  induction l with
  | nil =>
    intro cs n h
    have := h.1
    simp at this
    rw [this]; rfl
  | cons x l ih =>
    intro cs n h
    have hl := h.1
    rw [show (Gv.ty PairD).size = 2 from rfl] at hl
    have h0 := h.2 0 (by simp)
    rw [show (Gv.ty PairD).size = 2 from rfl, Nat.zero_mul, List.drop_zero] at h0
    obtain ⟨e, _⟩ := pair_cells h0
    have hr : Elems M w (cs.drop 2) l := by
      refine ⟨by rw [List.length_drop, hl, show (Gv.ty PairD).size = 2 from rfl]; simp; omega, fun j hj => ?_⟩
      have := h.2 (j + 1) (by simp; omega)
      rw [show (Gv.ty PairD).size = 2 from rfl] at this ⊢
      rw [List.drop_drop, show 2 + j * 2 = (j + 1) * 2 by omega]
      exact this
    have h1 := ih (n + 1) hr
    rw [← List.take_append_drop 2 cs]
    have e' : cs.take 2 = x.cells := e
    rw [e', h1]
    rfl
theorem e_elems {M : List Nat} {w : World} {es : List PE} (h : EPhi es M w) : Elems M w (cellsE es) (es.map PE.d) := by
  refine ⟨by rw [cellsE_len]; simp [show (Gv.ty PairD).size = 2 from rfl], fun j hj => ?_⟩
  have hj : j < es.length := by simpa using hj
  rw [show (Gv.ty PairD).size = 2 from rfl, cellsE_at hj]
  have := h _ (List.getElem_mem hj)
  simpa using this
end Go.Proofs.YtebnciehcnedjaaGreatDoor
end

section
namespace Go.Proofs.YtebnciehcnedjaaGreatDoor
open Go.Vc
abbrev Run := List PairD
abbrev tE : ByteArray := ByteArray.mk #[]
def lookV : Run → ByteArray → Option ByteArray
  | [], _ => none
  | x :: l, k => if x.key = k then some x.val else lookV l k
abbrev AscK (l : Run) : Prop := l.Pairwise fun a b => cmpT a.key b.key < 0
theorem lookV_app : ∀ (a b : Run) (k : ByteArray), lookV (a ++ b) k = (lookV a k).or (lookV b k)
  | [], b, k => by simp [lookV]
  | x :: a, b, k => by
    show (if x.key = k then some x.val else lookV (a ++ b) k) = (if x.key = k then some x.val else lookV a k).or (lookV b k)
    split
    · rfl
    · exact lookV_app a b k
theorem lookV_none {l : Run} {k : ByteArray} (h : ∀ x ∈ l, x.key ≠ k) : lookV l k = none := by
  induction l with
  | nil => rfl
  | cons x l ih =>
    unfold lookV
    rw [if_neg (h x (by simp))]
    exact ih fun y hy => h y (by simp [hy])
theorem lookV_some : ∀ {l : Run} {k v : ByteArray}, lookV l k = some v → ⟨k, v⟩ ∈ l
  | [], _, _, h => by cases h
  | x :: l, k, v, h => by
    unfold lookV at h
    split at h
    · rename_i e
      cases h
      subst e
      exact List.mem_cons_self
    · exact List.mem_cons_of_mem _ (lookV_some h)
theorem asc_ne {l : Run} {x : PairD} (h : ∀ y ∈ l, cmpT x.key y.key < 0) : ∀ y ∈ l, y.key ≠ x.key := fun y hy e => by
  have := h y hy
  rw [e, cmpT_cmp.refl] at this
  omega
theorem asc_look {l : Run} (h : AscK l) : ∀ x ∈ l, lookV l x.key = some x.val := by
  induction l with
  | nil => intro x hx; cases hx
  | cons y l ih =>
    intro x hx
    obtain ⟨h1, h2⟩ := List.pairwise_cons.1 h
    unfold lookV
    rcases List.mem_cons.1 hx with rfl | hx
    · rw [if_pos rfl]
    · rw [if_neg fun e => asc_ne h1 x hx e.symm]
      exact ih h2 x hx
theorem asc_ext : ∀ {a b : Run}, AscK a → AscK b → (∀ k, lookV a k = lookV b k) → a = b
  | [], [], _, _, _ => rfl
  | [], y :: b, _, _, h => by
    have := h y.key
    rw [show lookV (y :: b) y.key = some y.val from if_pos rfl] at this
    cases this
  | x :: a, [], _, _, h => by
    have := h x.key
    rw [show lookV (x :: a) x.key = some x.val from if_pos rfl] at this
    cases this
  | x :: a, y :: b, ha, hb, h => by
    obtain ⟨ha1, ha2⟩ := List.pairwise_cons.1 ha
    obtain ⟨hb1, hb2⟩ := List.pairwise_cons.1 hb
    have hx := h x.key
    have hy := h y.key
    rw [show lookV (x :: a) x.key = some x.val from if_pos rfl] at hx
    rw [show lookV (y :: b) y.key = some y.val from if_pos rfl] at hy
    have hk : x.key = y.key := by
      rcases cmpT_cmp.tri x.key y.key with h1 | h1 | h1
      · exfalso
        rcases List.mem_cons.1 (lookV_some hx.symm) with e | e
        · have : x.key = y.key := congrArg PairD.key e
          rw [this, cmpT_cmp.refl] at h1; omega
        · have := hb1 _ e
          exact cmpT_cmp.irr h1 this
      · exact h1
      · exfalso
        rcases List.mem_cons.1 (lookV_some hy) with e | e
        · have : y.key = x.key := congrArg PairD.key e
          rw [this, cmpT_cmp.refl] at h1; omega
        · have := ha1 _ e
          exact cmpT_cmp.irr h1 this
    have hv : x = y := by
      rw [hk, show lookV (y :: b) y.key = some y.val from if_pos rfl] at hx
      exact pair_ext.2 ⟨hk, Option.some.inj hx⟩
    subst hv
    congr 1
    refine asc_ext ha2 hb2 fun k => ?_
    by_cases e : x.key = k
    · subst e
      rw [lookV_none (asc_ne ha1), lookV_none (asc_ne hb1)]
    · have := h k
      unfold lookV at this
      rw [if_neg e, if_neg e] at this
      exact this
def putK (x : PairD) : Run → Run
  | [] => [x]
  | y :: l => if cmpT x.key y.key < 0 then x :: y :: l else if x.key = y.key then x :: l else y :: putK x l
theorem putK_mem {x z : PairD} : ∀ {l : Run}, z ∈ putK x l → z = x ∨ z ∈ l
  | [], h => by simpa [putK] using h
  | y :: l, h => by
    unfold putK at h
    split at h
    · simpa using h
    · split at h
      · rcases List.mem_cons.1 h with h | h
        · exact .inl h
        · exact .inr (by simp [h])
      · rcases List.mem_cons.1 h with h | h
        · exact .inr (by simp [h])
        · rcases putK_mem h with h | h
          · exact .inl h
          · exact .inr (by simp [h])
theorem putK_asc {x : PairD} : ∀ {l : Run}, AscK l → AscK (putK x l)
  | [], _ => by simp [putK]
  | y :: l, h => by
    obtain ⟨h1, h2⟩ := List.pairwise_cons.1 h
    unfold putK
    split
    · rename_i hlt
      refine List.pairwise_cons.2 ⟨fun z hz => ?_, h⟩
      rcases List.mem_cons.1 hz with rfl | hz
      · exact hlt
      · exact cmpT_cmp.trans _ _ _ hlt (h1 z hz)
    · rename_i hlt
      split
      · rename_i he
        exact List.pairwise_cons.2 ⟨fun z hz => by rw [he]; exact h1 z hz, h2⟩
      · rename_i he
        refine List.pairwise_cons.2 ⟨fun z hz => ?_, putK_asc h2⟩
        rcases putK_mem hz with rfl | hz
        · rcases cmpT_cmp.tri z.key y.key with h3 | h3 | h3
          · exact absurd h3 hlt
          · exact absurd h3 he
          · exact h3
        · exact h1 z hz
theorem putK_look {x : PairD} : ∀ {l : Run} (k : ByteArray), AscK l → lookV (putK x l) k = if x.key = k then some x.val else lookV l k
  | [], k, _ => rfl
  | y :: l, k, h => by
    obtain ⟨h1, h2⟩ := List.pairwise_cons.1 h
    unfold putK
    split
    · rfl
    · split
      · rename_i he
        show (if x.key = k then some x.val else lookV l k) = if x.key = k then some x.val else (if y.key = k then some y.val else lookV l k)
        by_cases e : x.key = k
        · rw [if_pos e, if_pos e]
        · rw [if_neg e, if_neg e, if_neg fun e2 => e (he.trans e2)]
      · rename_i he
        show (if y.key = k then some y.val else lookV (putK x l) k) = if x.key = k then some x.val else (if y.key = k then some y.val else lookV l k)
        rw [putK_look k h2]
        by_cases e : y.key = k
        · rw [if_pos e, if_pos e, if_neg fun e2 => he (e2.trans e.symm)]
        · rw [if_neg e, if_neg e]
theorem putK_len (x : PairD) : ∀ l : Run, l.length ≤ (putK x l).length ∧ (putK x l).length ≤ l.length + 1
  | [] => by simp [putK]
  | y :: l => by
    have := putK_len x l
    unfold putK
    split
    · simp
    · split
      · simp
      · simp; omega
def normK (l : Run) : Run := l.foldr putK []
theorem normK_asc : ∀ l : Run, AscK (normK l)
  | [] => .nil
  | x :: l => putK_asc (normK_asc l)
theorem normK_look : ∀ (l : Run) (k : ByteArray), lookV (normK l) k = lookV l k
  | [], _ => rfl
  | x :: l, k => by
    show lookV (putK x (normK l)) k = if x.key = k then some x.val else lookV l k
    rw [putK_look k (normK_asc l), normK_look l k]
theorem normK_eq {a b : Run} (h : ∀ k, lookV a k = lookV b k) : normK a = normK b := asc_ext (normK_asc a) (normK_asc b) fun k => by rw [normK_look, normK_look, h]
theorem normK_is {a b : Run} (ha : AscK a) (h : ∀ k, lookV a k = lookV b k) : normK b = a := asc_ext (normK_asc b) ha fun k => by rw [normK_look, h]
theorem normK_self {l : Run} (h : AscK l) : normK l = l := normK_is h fun _ => rfl
theorem normK_mem {l : Run} : ∀ x ∈ normK l, x ∈ l := by
  induction l with
  | nil => intro x hx; cases hx
  | cons y l ih =>
    intro x hx
    rcases putK_mem hx with rfl | hx
    · simp
    · exact List.mem_cons_of_mem _ (ih x hx)
theorem normK_len : ∀ l : Run, (normK l).length ≤ l.length
  | [] => Nat.le_refl _
  | x :: l => by
    have h1 := (putK_len x (normK l)).2
    have h2 := normK_len l
    show (putK x (normK l)).length ≤ _
    rw [List.length_cons]; omega
theorem normK_r (a b : Run) : normK (a ++ normK b) = normK (a ++ b) := normK_eq fun k => by rw [lookV_app, lookV_app, normK_look]
theorem optF_e : (some tE).filter (fun v => decide (v ≠ tE)) = none := rfl
theorem optF_ne {v : ByteArray} (h : v ≠ tE) : (some v).filter (fun v => decide (v ≠ tE)) = some v := by
  show (if decide (v ≠ tE) = true then some v else none) = some v
  rw [if_pos (decide_eq_true h)]
def thereP (l : Run) : Run := l.filter fun x => decide (x.val ≠ tE)
theorem there_asc {l : Run} (h : AscK l) : AscK (thereP l) := h.sublist List.filter_sublist
theorem there_look {l : Run} (h : AscK l) (k : ByteArray) : lookV (thereP l) k = (lookV l k).filter fun v => decide (v ≠ tE) := by
  induction l with
  | nil => rfl
  | cons x l ih =>
    obtain ⟨h1, h2⟩ := List.pairwise_cons.1 h
    have ih := ih h2
    unfold thereP at *
    by_cases hv : x.val = tE
    · rw [List.filter_cons_of_neg (by simp [hv]), ih]
      show _ = (if x.key = k then some x.val else lookV l k).filter _
      by_cases e : x.key = k
      · rw [if_pos e, lookV_none (fun y hy => by rw [← e]; exact asc_ne h1 y hy)]
        rw [hv]; exact optF_e.symm
      · rw [if_neg e]
    · rw [List.filter_cons_of_pos (by simp [hv])]
      show (if x.key = k then some x.val else lookV (l.filter _) k) = (if x.key = k then some x.val else lookV l k).filter _
      by_cases e : x.key = k
      · rw [if_pos e, if_pos e]; exact (optF_ne hv).symm
      · rw [if_neg e, if_neg e, ih]
def valK (l : Run) (k : ByteArray) : ByteArray := (lookV l k).getD tE
abbrev Lev := List Run
def addL : List Lev → Run → List Lev
  | [], r => [if r = [] then [] else [r]]
  | l :: t, r => (if r = [] then l else r :: l) :: t
theorem addL_nil (r : Run) : addL [] r = [if r = [] then [] else [r]] := rfl
theorem addL_cons (l : Lev) (t : List Lev) (r : Run) : addL (l :: t) r = (if r = [] then l else r :: l) :: t := rfl
def allRuns (ls : List Lev) : Run := ls.flatten.flatten
theorem allRuns_cons (l : Lev) (t : List Lev) : allRuns (l :: t) = l.flatten ++ allRuns t := by unfold allRuns; rw [List.flatten_cons, List.flatten_append]
theorem addL_runs (t : List Lev) (r : Run) : allRuns (addL t r) = r ++ allRuns t := by
  cases t with
  | nil =>
    rw [addL_nil]
    by_cases h : r = []
    · rw [if_pos h, h]; rfl
    · rw [if_neg h]; simp [allRuns]
  | cons l t =>
    rw [addL_cons]
    by_cases h : r = []
    · rw [if_pos h, h]; rfl
    · rw [if_neg h, allRuns_cons, allRuns_cons, List.flatten_cons, List.append_assoc]
def pushR (l : Lev) (t : List Lev) : Run := if t.all (fun m => decide (m = [])) = true then thereP (normK l.flatten) else normK l.flatten
def cntL (ls : List Lev) : Nat := (ls.map List.length).sum + ls.length
theorem addL_cnt (t : List Lev) (r : Run) : cntL (addL t r) ≤ cntL t + 2 := by
  cases t with
  | nil =>
    rw [addL_nil]
    unfold cntL
    split <;> simp
  | cons l t =>
    rw [addL_cons]
    unfold cntL
    split <;> simp <;> omega
def settleL : List Lev → List Lev
  | [] => []
  | l :: t => if l.length < 4 then l :: settleL t else [] :: settleL (addL t (pushR l t))
termination_by ls => cntL ls
decreasing_by
  · unfold cntL; simp; omega
  · have h1 := addL_cnt t (pushR l t)
    rename_i h
    have h2 : cntL (l :: t) = l.length + 1 + cntL t := by unfold cntL; simp; omega
    omega
theorem settleL_nil : settleL [] = [] := by rw [settleL]
theorem settleL_less {l : Lev} {t : List Lev} (h : l.length < 4) : settleL (l :: t) = l :: settleL t := by rw [settleL, if_pos h]
theorem settleL_more {l : Lev} {t : List Lev} (h : ¬ l.length < 4) : settleL (l :: t) = [] :: settleL (addL t (pushR l t)) := by rw [settleL, if_neg h]
structure LevOk (ls : List Lev) : Prop where
  asc : ∀ l ∈ ls, ∀ r ∈ l, AscK r
  ne : ∀ l ∈ ls, ∀ r ∈ l, r ≠ []
theorem push_asc (l : Lev) (t : List Lev) : AscK (pushR l t) := by
  unfold pushR
  split
  · exact there_asc (normK_asc _)
  · exact normK_asc _
theorem addL_ok {t : List Lev} {r : Run} (h : LevOk t) (hr : AscK r) : LevOk (addL t r) := by
  cases t with
  | nil =>
    first | rw [addL_nil] | rw [addL_cons]
    by_cases e : r = []
    · rw [if_pos e]; exact ⟨by simp, by simp⟩
    · rw [if_neg e]; exact ⟨by simpa using hr, by simpa using e⟩
  | cons l t =>
    first | rw [addL_nil] | rw [addL_cons]
    by_cases e : r = []
    · rw [if_pos e]; exact h
    · rw [if_neg e]
      refine ⟨fun m hm q hq => ?_, fun m hm q hq => ?_⟩
      · rcases List.mem_cons.1 hm with rfl | hm
        · rcases List.mem_cons.1 hq with rfl | hq
          · exact hr
          · exact h.asc l (by simp) q hq
        · exact h.asc m (by simp [hm]) q hq
      · rcases List.mem_cons.1 hm with rfl | hm
        · rcases List.mem_cons.1 hq with rfl | hq
          · exact e
          · exact h.ne l (by simp) q hq
        · exact h.ne m (by simp [hm]) q hq
theorem LevOk.tail {l : Lev} {t : List Lev} (h : LevOk (l :: t)) : LevOk t := ⟨fun m hm => h.asc m (by simp [hm]), fun m hm => h.ne m (by simp [hm])⟩
theorem LevOk.cons {l : Lev} {t : List Lev} (h : LevOk t) (h1 : ∀ r ∈ l, AscK r) (h2 : ∀ r ∈ l, r ≠ []) : LevOk (l :: t) :=
  ⟨fun m hm => by rcases List.mem_cons.1 hm with rfl | hm; exact h1; exact h.asc m hm, fun m hm => by rcases List.mem_cons.1 hm with rfl | hm; exact h2; exact h.ne m hm⟩
theorem settle_ok : ∀ {ls : List Lev}, LevOk ls → LevOk (settleL ls) ∧ ∀ l ∈ settleL ls, l.length < 4 := by
  intro ls
  induction hn : cntL ls using Nat.strongRecOn generalizing ls with
  | _ n ih =>
    intro ho
    cases ls with
    | nil => rw [settleL_nil]; exact ⟨ho, by simp⟩
    | cons l t =>
      have h2 : cntL (l :: t) = l.length + 1 + cntL t := by unfold cntL; simp; omega
      by_cases h : l.length < 4
      · rw [settleL_less h]
        obtain ⟨g1, g2⟩ := ih (cntL t) (by omega) rfl ho.tail
        refine ⟨g1.cons (ho.asc l (by simp)) (ho.ne l (by simp)), fun m hm => ?_⟩
        rcases List.mem_cons.1 hm with rfl | hm
        · exact h
        · exact g2 m hm
      · rw [settleL_more h]
        have h1 := addL_cnt t (pushR l t)
        obtain ⟨g1, g2⟩ := ih (cntL (addL t (pushR l t))) (by omega) rfl (addL_ok ho.tail (push_asc l t))
        refine ⟨g1.cons (by simp) (by simp), fun m hm => ?_⟩
        rcases List.mem_cons.1 hm with rfl | hm
        · simp
        · exact g2 m hm
structure ChgD where
  seq : Int
  key : ByteArray
  val : ByteArray
instance : Gv ChgD := Gv.via (β := Int × ByteArray × ByteArray) (fun x => (x.seq, x.key, x.val)) (fun y => ⟨y.1, y.2.1, y.2.2⟩) (fun _ => rfl)
theorem chg_ext {x y : ChgD} : x = y ↔ x.seq = y.seq ∧ x.key = y.key ∧ x.val = y.val := ⟨fun h => by rw [h]; exact ⟨rfl, rfl, rfl⟩, fun h => by cases x; cases y; simp_all⟩
instance : DecidableEq ChgD := fun _ _ => decidable_of_iff _ chg_ext.symm
structure StD where
  table : Run
  levels : List Lev
  seq : Int
  log : List ChgD
  cut : Int
def stNew : StD := ⟨[], [], 0, [], 0⟩
def runsP (s : StD) : List Run := s.table :: s.levels.flatten
def verP (s : StD) : Run := s.table ++ allRuns s.levels
theorem runs_ver (s : StD) : (runsP s).flatten = verP s := by unfold runsP verP allRuns; rw [List.flatten_cons]
def putS (s : StD) (k v : ByteArray) : StD :=
  let t := putK ⟨k, v⟩ s.table
  { table := if t.length = 8 then [] else t, levels := settleL (if t.length = 8 then addL s.levels t else s.levels), seq := s.seq + 1, log := s.log ++ [⟨s.seq + 1, k, v⟩], cut := s.cut }
def allS (s : StD) : Run := thereP (normK (verP s))
def getS (s : StD) (k : ByteArray) : ByteArray := valK (verP s) k
structure StI (s : StD) : Prop where
  tab : AscK s.table
  few : s.table.length < 8
  lev : LevOk s.levels
  four : ∀ l ∈ s.levels, l.length < 4
theorem new_i : StI stNew := ⟨.nil, by decide, ⟨fun l h => (by cases h), fun l h => (by cases h)⟩, fun l h => (by cases h)⟩
theorem put_i {s : StD} (h : StI s) (k v : ByteArray) : StI (putS s k v) := by
  have ha : AscK (putK ⟨k, v⟩ s.table) := putK_asc h.tab
  have hl := (putK_len ⟨k, v⟩ s.table).2
  have hf := h.few
  unfold putS
  by_cases e : (putK ⟨k, v⟩ s.table).length = 8
  · simp only [if_pos e]
    obtain ⟨g1, g2⟩ := settle_ok (addL_ok h.lev ha)
    exact ⟨.nil, by simp, g1, g2⟩
  · simp only [if_neg e]
    obtain ⟨g1, g2⟩ := settle_ok h.lev
    exact ⟨ha, by show (putK _ _).length < 8; omega, g1, g2⟩
theorem all_asc (s : StD) : AscK (allS s) := there_asc (normK_asc _)
theorem all_look (s : StD) (k : ByteArray) : lookV (allS s) k = (lookV (verP s) k).filter fun v => decide (v ≠ tE) := by
  unfold allS
  rw [there_look (normK_asc _), normK_look]
theorem all_val (s : StD) (k : ByteArray) : valK (allS s) k = getS s k := by
  unfold getS valK
  rw [all_look]
  cases lookV (verP s) k with
  | none => rfl
  | some v =>
    by_cases e : v = tE
    · rw [e]; rfl
    · rw [optF_ne e]
theorem all_ne (s : StD) : ∀ x ∈ allS s, x.val ≠ tE := fun x hx => by
  have := (List.mem_filter.1 hx).2
  simpa using this
end Go.Proofs.YtebnciehcnedjaaGreatDoor
end

