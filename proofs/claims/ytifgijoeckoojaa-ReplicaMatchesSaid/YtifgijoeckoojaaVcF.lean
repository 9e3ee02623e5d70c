/-
  THE CONDITIONS OF A WALK AS ONE FORMULA: regions that only read: operations under guards are asked for what they need only where their guard holds; the order does not matter.
-/
import Derived.Test.YtifgijoeckoojaaVcE
set_option linter.unusedVariables false
set_option linter.unusedSimpArgs false
namespace Go.Vc
open Go.RowKit

/-- what a region has assigned: under which condition, and which slots must hold what for it -/
structure Ent where
  slot : Nat
  g : Option Bool
  chain : List (Nat × Bool)

def findE (es : List Ent) (t : Nat) : Option Ent := es.find? fun e => e.slot == t
def subCh (a b : List (Nat × Bool)) : Bool := a.all fun p => b.contains p

def readOk (es : List Ent) (ch : List (Nat × Bool)) (s : Fr) (x : Operand) : Bool :=
  match x with
  | .tmp t => !isU (s.eval (.tmp t)) && (match findE es t with | some e => subCh e.chain ch | none => true)
  | _ => true

def gAnd (g : Option Bool) (c : Bool) : Option Bool := match g with | none => some c | some g => some (g && c)

def wantB (want c : Bool) : Bool := match want with | true => c | false => !c

def guardOf (ops : Array Oper) (es : List Ent) (s : Fr) (o : Oper) : Option (Option Bool × List (Nat × Bool)) :=
  match o.guard with
  | none => some (none, [])
  | some (j, want) =>
    match (ops[j]?).bind (·.dst) with
    | some d => match findE es d, getL d s.l with
      | some e, .bool c => some (gAnd e.g (wantB want c), (d, want) :: e.chain)
      | _, _ => none
    | none => none

/-- the worlds of a region: the one world, or those after some draws -/
def Cls (d : Bool) (w : World) : World → Prop := fun w' => match d with | true => ∃ n, w' = w.drewN n | false => w' = w

theorem Cls.heap {d : Bool} {w w' : World} (h : Cls d w w') : w'.heap = w.heap := by
  cases d
  · exact congrArg World.heap h
  · obtain ⟨n, rfl⟩ := h; rfl

/-- a call that hands back a value and leaves the worlds of the region -/
def quietCallK (P : Program) (d : Bool) (o : Oper) (ρ : Operand → Value) (w : World) (g : Option Bool) (K : Value → Prop) : Prop :=
  match o.op with
  | .call c => match c.callee with
    | .value f => match ρ f with
      | .func (.func fid) first captured =>
        match P.funcs[fid]? with
        | some fn => if fn.body.isSome = true ∧ (fn.name == "runtime.NumGoroutine") = false then
            shapesK P fn.resultTypes.toList fun vs => ob g (∀ w', Cls d w w' → Calls P fid (first.toList ++ c.args.toList.map ρ ++ captured.toList).toArray w' fun e w'' => e = .returned (tupled vs) ∧ Cls d w w'') ∧ K (tupled vs)
          else False
        | none => False
      | _ => False
    | _ => False
  | _ => False

def extC (c : Operand) (b : Bool) (ch : List (Nat × Bool)) : List (Nat × Bool) := match c with | .tmp t => (t, b) :: ch | _ => ch

/-- ONE OPERATION of such a region -/
def specOp (P : Program) (wr : Bool) (d : Bool) (es : List Ent) (o : Oper) (s : Fr) (w : World) (g : Option Bool) (ch : List (Nat × Bool)) (K : Value → Prop) : Prop :=
  match o.op with
  | .pick c x y =>
    if readOk es ch s c = true then
      match s.eval c with
      | .bool b =>
        if readOk es (extC c true ch) s x = true ∧ readOk es (extC c false ch) s y = true then
          match x, y, s.eval x, s.eval y with
          | .const (.bool true), _, _, .bool q => K (.bool (b || q))
          | _, .const (.bool false), .bool q, _ => K (.bool (b && q))
          | _, _, u, v => K (if b = true then u else v)
        else False
      | _ => False
    else False
  | _ => if o.op.operands.toList.all (readOk es ch s) = true ∧ notSel o = true then
      match quietK P wr o s.eval w g K with
      | some p => p
      | none => quietCallK P d o s.eval w g K
    else False

/-- without what 'f' drops -/
def filterL (f : Nat → Bool) : List (Nat × Value) → List (Nat × Value)
  | [] => []
  | (t, v) :: r => match f t with | true => (t, v) :: filterL f r | false => filterL f r

theorem filterL_get (f : Nat → Bool) (i : Nat) : ∀ (l : List (Nat × Value)), getL i (filterL f l) = if f i = true then getL i l else unk
  | [] => by simp [filterL, getL]
  | (t, v) :: r => by
    unfold filterL
    cases h : f t with
    | true =>
      simp only [getL]
      cases hb : Nat.beq t i with
      | true => have := Nat.eq_of_beq_eq_true hb; subst this; simp [h]
      | false => simp only; exact filterL_get f i r
    | false =>
      simp only [getL]
      rw [filterL_get f i r]
      cases hb : Nat.beq t i with
      | true => have := Nat.eq_of_beq_eq_true hb; subst this; simp [h]
      | false => rfl

def freeB (es : List Ent) (t : Nat) : Bool := match findE es t with
  | some e => (match e.g with | some _ => false | none => true)
  | none => true

def forget (es : List Ent) (s : Fr) : Fr := ⟨s.n, filterL (freeB es) s.l⟩

def specOps (P : Program) (wr : Nat → Bool) (d : Bool) (ops : Array Oper) (w : World) : List Oper → List Ent → Fr → (Fr → Prop) → Prop
  | [], es, s, K => K (forget es s)
  | o :: rest, es, s, K =>
    match guardOf ops es s o, o.dst with
    | some (g, ch), some t =>
      if (findE es t).isNone = true ∧ Nat.blt t s.n = true then
        specOp P (wr t) d es o s w g ch fun v => specOps P wr d ops w rest (⟨t, g, ch⟩ :: es) (s.put (some t) v) K
      else False
    | _, _ => False

/-! ### it suffices -/
def Holds (s : Fr) (ch : List (Nat × Bool)) : Prop := ∀ p ∈ ch, s.get p.1 = .bool p.2

structure Rel (es : List Ent) (s : Fr) (a : Act) : Prop where
  defers : a.defers = []
  size : a.tmps.size = s.n
  slot : ∀ i, match findE es i with
    | none => isU (s.get i) = false → a.tmps.getD i undef = s.get i
    | some e => (gOn e.g → isU (s.get i) = false → a.tmps.getD i undef = s.get i) ∧ (¬ gOn e.g → a.tmps.getD i undef = undef)
  chain : ∀ i e, findE es i = some e → (gOn e.g ↔ Holds s e.chain) ∧ ∀ p ∈ e.chain, (findE es p.1).isSome = true

theorem Holds.sub {s : Fr} {a b : List (Nat × Bool)} (h : Holds s b) (hs : subCh a b = true) : Holds s a := fun p hp => by
  have := List.all_eq_true.1 hs p hp
  exact h p (by simpa using this)

theorem readOk_sound {es : List Ent} {s : Fr} {a : Act} {ch : List (Nat × Bool)} {x : Operand} (h : readOk es ch s x = true) (hr : Rel es s a) (hc : Holds s ch) : a.eval x = s.eval x := by
  cases x with
  | tmp t =>
    simp only [readOk, Bool.and_eq_true, Bool.not_eq_true'] at h
    obtain ⟨h1, h2⟩ := h
    have h3 := hr.slot t
    cases hf : findE es t with
    | none => rw [hf] at h3; exact h3 h1
    | some e =>
      rw [hf] at h2 h3
      have hg := (hr.chain t e hf).1.2 (hc.sub h2)
      exact h3.1 hg h1
  | const v => rfl
  | global g => rfl
  | func f => rfl

theorem gAnd_on {g : Option Bool} {c : Bool} : gOn (gAnd g c) ↔ gOn g ∧ c = true := by
  cases g <;> simp [gAnd, gOn]

theorem guardOf_sound {ops : Array Oper} {es : List Ent} {s : Fr} {a : Act} {o : Oper} {g : Option Bool} {ch : List (Nat × Bool)} (h : guardOf ops es s o = some (g, ch)) (hr : Rel es s a) :
    (Region.wanted o (yielded ops a.tmps) = true ↔ gOn g) ∧ (gOn g ↔ Holds s ch) ∧ ∀ p ∈ ch, (findE es p.1).isSome = true := by
  unfold guardOf at h
  split at h
  · rename_i hg
    cases h
    refine ⟨by simp [Region.wanted, hg, gOn], ⟨fun _ p hp => (by cases hp), fun _ => trivial⟩, fun p hp => (by cases hp)⟩
  · rename_i j want hg
    split at h
    · rename_i d hd
      split at h
      · rename_i e c he hc
        cases h
        obtain ⟨h1, h2⟩ := hr.chain d e he
        have h3 := hr.slot d
        rw [he] at h3
        have hy : gOn e.g → yielded ops a.tmps j = some c := by
          intro hge
          have hc' : s.get d = .bool c := hc
          have h4 := h3.1 hge (by rw [hc']; rfl)
          rw [hc'] at h4
          unfold yielded
          rw [hd]
          simp only [Option.bind_some]
          rw [Array.getD_eq_getD_getElem?] at h4
          rcases Nat.lt_or_ge d a.tmps.size with h' | h'
          · simp only [h', getElem?_pos, Option.getD_some] at h4; simp [h', h4]
          · rw [Array.getElem?_eq_none h'] at h4; cases h4
        have hn : ¬ gOn e.g → yielded ops a.tmps j = none := by
          intro hge
          have h4 := h3.2 hge
          unfold yielded
          rw [hd]
          simp only [Option.bind_some]
          rw [Array.getD_eq_getD_getElem?] at h4
          rcases Nat.lt_or_ge d a.tmps.size with h' | h'
          · simp only [h', getElem?_pos, Option.getD_some] at h4; simp [h', h4, undef]
          · rw [Array.getElem?_eq_none h']
        have hcw : wantB want c = true ↔ c = want := by cases want <;> cases c <;> simp [wantB]
        refine ⟨?_, ?_, ?_⟩
        · rw [gAnd_on, hcw]
          by_cases hge : gOn e.g
          · simp [Region.wanted, hg, hy hge, hge]
          · simp [Region.wanted, hg, hn hge, hge]
        · rw [gAnd_on, hcw, h1]
          constructor
          · rintro ⟨ha, rfl⟩ p hp
            rcases List.mem_cons.1 hp with rfl | hp
            · exact hc
            · exact ha p hp
          · intro ha
            refine ⟨fun p hp => ha p (List.mem_cons_of_mem _ hp), ?_⟩
            have := ha (d, want) (by simp)
            simp only at this
            rw [show s.get d = .bool c from hc] at this
            cases this; rfl
        · intro p hp
          rcases List.mem_cons.1 hp with rfl | hp
          · simp [he]
          · exact h2 p hp
      · cases h
    · cases h

theorem findE_cons (es : List Ent) (e : Ent) (i : Nat) : findE (e :: es) i = if e.slot = i then some e else findE es i := by
  unfold findE
  rw [List.find?_cons]
  by_cases h : e.slot = i
  · simp [h]
  · simp [h, show (e.slot == i) = false by simpa using h]

theorem Rel.put {es : List Ent} {s : Fr} {a : Act} (hr : Rel es s a) {t : Nat} {g : Option Bool} {ch : List (Nat × Bool)} {u v : Value} (hn : (findE es t).isNone = true) (ht : t < s.n)
    (hg : gOn g ↔ Holds s ch) (hch : ∀ p ∈ ch, (findE es p.1).isSome = true) (h1 : gOn g → isU u = false → v = u) (h2 : ¬ gOn g → v = undef) :
    Rel (⟨t, g, ch⟩ :: es) (s.put (some t) u) (a.put (some t) v) := by
  have hne : ∀ i, (findE es i).isSome = true → t ≠ i := by
    rintro i hi rfl
    cases hf : findE es t <;> simp [hf] at hn hi
  have hsa : ∀ i, i ≠ t → (s.put (some t) u).get i = s.get i := fun i hi => by rw [fr_put_get, if_neg (by rintro ⟨h, _⟩; cases h; exact hi rfl)]
  have haa : ∀ i, i ≠ t → (a.put (some t) v).tmps.getD i undef = a.tmps.getD i undef := fun i hi => by rw [put_getD, if_neg (by rintro ⟨h, _⟩; cases h; exact hi rfl)]
  have hst : (s.put (some t) u).get t = u := by rw [fr_put_get, if_pos ⟨rfl, ht⟩]
  have hat : (a.put (some t) v).tmps.getD t undef = v := by rw [put_getD, if_pos ⟨rfl, by rw [hr.size]; exact ht⟩]
  have hold : ∀ ch', (∀ p ∈ ch', (findE es p.1).isSome = true) → (Holds s ch' ↔ Holds (s.put (some t) u) ch') := by
    intro ch' hc
    constructor
    · intro h p hp; rw [hsa _ (fun e => hne _ (hc p hp) e.symm)]; exact h p hp
    · intro h p hp; rw [← hsa p.1 (fun e => hne _ (hc p hp) e.symm)]; exact h p hp
  refine ⟨by rw [put_defers]; exact hr.defers, by rw [put_size, fr_put_n]; exact hr.size, fun i => ?_, fun i e he => ?_⟩
  · rw [findE_cons]
    by_cases hi : t = i
    · subst hi
      rw [if_pos rfl]
      simp only
      rw [hst, hat]
      exact ⟨h1, h2⟩
    · rw [if_neg hi, hsa i (fun e => hi e.symm), haa i (fun e => hi e.symm)]
      exact hr.slot i
  · rw [findE_cons] at he
    have hs' : ∀ p : Nat × Bool, (findE es p.1).isSome = true → (findE (⟨t, g, ch⟩ :: es) p.1).isSome = true := by
      intro p hp; rw [findE_cons]; split; rfl; exact hp
    split at he
    · cases he
      exact ⟨hg.trans (hold ch hch), fun p hp => hs' p (hch p hp)⟩
    · obtain ⟨h3, h4⟩ := hr.chain i e he
      exact ⟨h3.trans (hold e.chain h4), fun p hp => hs' p (h4 p hp)⟩

theorem quietCallK_sound {P : Program} {d : Bool} {o : Oper} {ρ : Operand → Value} {w : World} {g : Option Bool} {K : Value → Prop} (h : quietCallK P d o ρ w g K) :
    ∃ v, (gOn g → ∀ w', Cls d w w' → Oper.quietUpon P (Cls d w) w' v ((execOp ρ o).run P w')) ∧ K v := by
  unfold quietCallK at h
  split at h
  · rename_i c hop
    split at h
    · rename_i f hc
      split at h
      · rename_i fid first captured hf
        split at h
        · rename_i fn hfn
          split at h
          · rename_i hb
            rw [show (first.toList ++ c.args.toList.map ρ ++ captured.toList).toArray = first ++ c.args.map ρ ++ captured by apply Array.ext'; simp] at h
            obtain ⟨vs, h1, h2⟩ := shapesK_some h
            refine ⟨_, fun hg w' hw => ?_, h2⟩
            have h3 := ob_out h1 hg w' hw
            have hb' : fn.body.isNone = false := by cases hh : fn.body <;> simp_all
            simp only [execOp, hop, resolve, hc, Sem.run_bind, Deferred.ofValue, hf, Sem.run_pure, Result.andThen, invoke, callFunc, program, Sem.run, hfn, hb.2, hb', Bool.false_eq_true, if_false]
            exact ⟨rfl, h3⟩
          · exact h.elim
        · exact h.elim
      · exact h.elim
    · exact h.elim
  · exact h.elim

theorem specOp_sound {P : Program} {wr d : Bool} {es : List Ent} {o : Oper} {s : Fr} {a : Act} {w : World} {g : Option Bool} {ch : List (Nat × Bool)} {K : Value → Prop}
    (h : specOp P wr d es o s w g ch K) (hr : Rel es s a) (hg : gOn g ↔ Holds s ch) :
    ∃ u, (gOn g → ∃ v, (isU u = false → v = u) ∧ ∀ w', Cls d w w' → o.quietAt P a (Cls d w) w' v) ∧ K u := by
  unfold specOp at h
  split at h
  · rename_i c x y hop
    split at h
    · rename_i hc
      split at h
      · rename_i b hb
        split at h
        · rename_i hxy
          have main : gOn g → ∃ v, (v = if b = true then s.eval x else s.eval y) ∧ ∀ w', Cls d w w' → o.quietAt P a (Cls d w) w' v := by
            intro hgo
            have hh := hg.1 hgo
            have hc' : a.eval c = .bool b := by rw [readOk_sound hc hr hh, hb]
            have ext : ∀ (b' : Bool), b = b' → Holds s (extC c b' ch) := by
              intro b' e
              subst e
              cases c <;> try exact hh
              rename_i t
              intro p hp
              rcases List.mem_cons.1 hp with rfl | hp
              · exact hb
              · exact hh p hp
            refine ⟨_, rfl, fun w' _ => ?_⟩
            unfold Oper.quietAt
            simp only [execOp, hop, hc', asBool, Sem.run_bind, Sem.run_pure, Result.andThen, Oper.quietUpon]
            refine ⟨trivial, ?_⟩
            cases b with
            | true =>
              have := readOk_sound (x := x) hxy.1 hr (ext true rfl)
              simpa using this
            | false =>
              have := readOk_sound (x := y) hxy.2 hr (ext false rfl)
              simpa using this
          split at h
          · rename_i y' u q hy
            refine ⟨_, fun hgo => ?_, h⟩
            obtain ⟨v, hv, hq⟩ := main hgo
            refine ⟨v, fun _ => ?_, hq⟩
            rw [hv]
            cases b
            · simpa using hy
            · rfl
          · rename_i x' u q hx _
            refine ⟨_, fun hgo => ?_, h⟩
            obtain ⟨v, hv, hq⟩ := main hgo
            refine ⟨v, fun _ => ?_, hq⟩
            rw [hv]
            cases b
            · rfl
            · simpa using hx
          · refine ⟨_, fun hgo => ?_, h⟩
            obtain ⟨v, hv, hq⟩ := main hgo
            exact ⟨v, fun _ => hv, hq⟩
        · exact h.elim
      · exact h.elim
    · exact h.elim
  · split at h
    · rename_i ho
      have hex : gOn g → execOp a.eval o = execOp s.eval o := by
        intro hgo
        refine execOp_congr o (fun cs b e => by have := ho.2; simp [notSel, e] at this) fun x hx => readOk_sound (List.all_eq_true.1 ho.1 x (by simpa using hx)) hr (hg.1 hgo)
      split at h
      · rename_i p hp
        obtain ⟨v, h1, h2⟩ := quietK_sound hp h
        refine ⟨v, fun hgo => ⟨v, fun _ => rfl, fun w' hw => ?_⟩, h2⟩
        unfold Oper.quietAt
        rw [hex hgo, h1 hgo w' hw.heap]
        exact ⟨rfl, rfl⟩
      · obtain ⟨v, h1, h2⟩ := quietCallK_sound h
        refine ⟨v, fun hgo => ⟨v, fun _ => rfl, fun w' hw => ?_⟩, h2⟩
        unfold Oper.quietAt
        rw [hex hgo]
        exact h1 hgo w' hw
    · exact h.elim

theorem forget_get (es : List Ent) (s : Fr) (i : Nat) : (forget es s).get i = if freeB es i = true then s.get i else unk := filterL_get _ _ _

theorem Rel.done {es : List Ent} {s : Fr} {a : Act} (hr : Rel es s a) : Sim (forget es s) a := by
  refine ⟨hr.defers, hr.size, fun i hi => ?_⟩
  rw [forget_get] at hi ⊢
  split at hi
  · rename_i hf
    rw [if_pos hf]
    have h3 := hr.slot i
    unfold freeB at hf
    cases he : findE es i with
    | none => rw [he] at h3; exact h3 hi
    | some e =>
      rw [he] at h3 hf
      simp only at hf
      have hg : gOn e.g := by cases hgg : e.g <;> simp_all [gOn]
      exact h3.1 hg hi
  · cases hi

theorem forget_unch {D : Nat → Prop} {s0 : Fr} {es : List Ent} {s : Fr} (h : Unch D s0 s) : Unch D s0 (forget es s) := by
  refine ⟨h.1, fun i hi hu => ?_⟩
  rw [forget_get] at hu ⊢
  split at hu
  · rename_i hf; rw [if_pos hf]; exact h.2 i hi hu
  · cases hu

theorem specOps_sound {P : Program} {wr : Nat → Bool} {d : Bool} {ops : Array Oper} {w : World} {K : Fr → Prop} {Q : Act → Prop} {D : Nat → Prop} {s0 : Fr} (hK : ∀ s a, K s → Sim s a → Unch D s0 s → Q a) :
    ∀ (l : List Oper) (es : List Ent) (s : Fr) (a : Act), (∀ o ∈ l, ∀ t, o.dst = some t → D t) → (∀ e ∈ es, D e.slot ∧ e.slot < s.n) → specOps P wr d ops w l es s K → Rel es s a → Unch D s0 s → wpQuiet P ops (Cls d w) Q l a
  | [], es, s, a, _, _, h, hr, hu => hK _ _ h hr.done (forget_unch hu)
  | o :: rest, es, s, a, hl, he, h, hr, hu => by
    have hl' : ∀ o ∈ rest, ∀ t, o.dst = some t → D t := fun o ho => hl o (List.mem_cons_of_mem _ ho)
    unfold specOps at h
    split at h
    · rename_i g ch t hgd ht
      split at h
      · rename_i hc
        obtain ⟨h1, h2, h3⟩ := guardOf_sound hgd hr
        obtain ⟨u, h4, h5⟩ := specOp_sound h hr h2
        have hd : D t := hl o (by simp) t ht
        have htn : t < s.n := by simpa using hc.2
        have he' : ∀ e ∈ (⟨t, g, ch⟩ : Ent) :: es, D e.slot ∧ e.slot < (s.put (some t) u).n := fun e hx => by
          rw [fr_put_n]
          rcases List.mem_cons.1 hx with rfl | hx
          · exact ⟨hd, htn⟩
          · exact he e hx
        have hu' : Unch D s0 (s.put (some t) u) := hu.put (fun t' e => by cases e; exact hd) _
        unfold wpQuiet
        by_cases hgo : gOn g
        · rw [if_pos (h1.2 hgo)]
          obtain ⟨v, h6, h7⟩ := h4 hgo
          refine ⟨v, h7, ?_⟩
          rw [ht]
          exact specOps_sound hK rest _ _ _ hl' he' h5 (hr.put hc.1 htn h2 h3 (fun _ => h6) (fun hn => absurd hgo hn)) hu'
        · rw [if_neg (fun hw => hgo (h1.1 hw)), ht]
          exact specOps_sound hK rest _ _ _ hl' he' h5 (hr.put hc.1 htn h2 h3 (fun hh => absurd hh hgo) (fun _ => rfl)) hu'
      · exact h.elim
    · exact h.elim

theorem wpList_of_quiet {P : Program} {ops : Array Oper} {C : World → Prop} {Qa : Act → Prop} {Q : Exit → Act → World → Prop} (hQ : ∀ a w, C w → Qa a → Q .normal a w) :
    ∀ (l : List Oper) (a : Act) (w : World), C w → wpQuiet P ops C Qa l a → wpList P ops Q l a w
  | [], a, w, hw, h => hQ a w hw h
  | o :: rest, a, w, hw, h => by
    unfold wpQuiet at h
    unfold wpList
    split
    · rename_i hwt
      rw [if_pos hwt] at h
      exact .inl (Oper.wp_of_quiet hw (fun a' w' hw' ha => wpList_of_quiet hQ rest a' w' hw' ha) h)
    · rename_i hwt
      rw [if_neg hwt] at h
      exact wpList_of_quiet hQ rest _ _ hw h

theorem Rel.start {s : Fr} {a : Act} (h : Sim s a) : Rel [] s a := ⟨h.defers, h.size, fun i => h.slot i, fun i e he => (by cases he)⟩

/-- a region that only reads -/
def specK (P : Program) (wr : Nat → Bool) (d : Bool) (ops : Array Oper) (s : Fr) (w : World) (K : Fr → World → Prop) : Prop :=
  match d with
  | false => specOps P wr false ops w ops.toList [] s fun s' => K s' w
  | true => specOps P wr true ops w ops.toList [] s fun s' => ∀ n, K s' (w.drewN n)

theorem specK_wp {P : Program} {wr : Nat → Bool} {d : Bool} {ops : Array Oper} {s : Fr} {a : Act} {w : World} {K : Fr → World → Prop} {Q : Exit → Act → World → Prop} {id : Nat} {D : Nat → Prop}
    (hD : ∀ o ∈ ops.toList, ∀ t, o.dst = some t → D t)
    (h : specK P wr d ops s w K) (hs : Sim s a) (hK : ∀ s' a w, K s' w → Sim s' a → Unch D s s' → Q .normal a w) : (Code.region id ops false).wp P Q a w := by
  refine wp_region_list ?_
  cases d with
  | false =>
    refine wpList_of_quiet (C := Cls false w) (Qa := fun a' => Q .normal a' w) (fun a' w' hw' hq => by cases hw'; exact hq) _ _ _ rfl ?_
    exact specOps_sound (fun s' a' hk hs' hu => hK _ _ _ hk hs' hu) _ _ _ _ hD (fun e he => (by cases he)) h (Rel.start hs) (Unch.refl _ _)
  | true =>
    refine wpList_of_quiet (C := Cls true w) (Qa := fun a' => ∀ w', Cls true w w' → Q .normal a' w') (fun a' w' hw' hq => hq w' hw') _ _ _ ⟨0, rfl⟩ ?_
    exact specOps_sound (fun s' a' hk hs' hu => fun w' ⟨n, hn⟩ => by rw [hn]; exact hK _ _ _ (hk n) hs' hu) _ _ _ _ hD (fun e he => (by cases he)) h (Rel.start hs) (Unch.refl _ _)

theorem specK_draw {P : Program} {wr : Nat → Bool} {ops : Array Oper} {s : Fr} {a : Act} {w : World} {K : Fr → World → Prop} {Q : Exit → Act → World → Prop} {id : Nat} {D : Nat → Prop}
    (hm : P.follows .mixedOrders = true) (hB : Region.lexB .any ops = true)
    (hD : ∀ o ∈ ops.toList, ∀ t, o.dst = some t → D t)
    (h : specK P wr true ops s w K) (hs : Sim s a) (hK : ∀ s' a w, K s' w → Sim s' a → Unch D s s' → Q .normal a w) : (Code.region id ops true).wp P Q a w := by
  have h1 := specOps_sound (Q := fun a' => ∀ w', (∃ n, w' = w.drewN n) → Q .normal a' w') (fun s' a' hk hs' hu => fun w' ⟨n, hn⟩ => by rw [hn]; exact hK _ _ _ (hk n) hs' hu) _ _ _ _ hD (fun e he => (by cases he)) h (Rel.start hs) (Unch.refl _ _)
  rw [show Cls true w = fun w' => ∃ n, w' = w.drewN n from rfl] at h1
  have h2 := wp_region_quiet_lit (P := P) (id := id) (Q := Q) (a := a) (w := w) (l := ops.toList) hm (by simpa using hB) (by simpa using h1)
  simpa using h2

end Go.Vc
