/-
  .. it suffices: regions, code, functions.
-/
import Derived.Test.YtifgijoeckoojaaRGo2
import Derived.RangeFuncRecord
import Derived.RangeFuncSeq
import Derived.OrdersIn
import Derived.TacticsIn

section
set_option linter.unusedVariables false
set_option linter.unusedSimpArgs false
namespace Go.Vc
variable {G : List Own}
variable {ds : List Deferred}
open Go.RowKit

/-- the frame, the memory and the world of a walk -/
structure At (ds : List Deferred) (G : List Own) (W : World) (s : FrS) (L : List Tr) (R : List Own) (Φ : PW) (a : Act) (w : World) : Prop where
  sim : Sim ds (s.fr L) a
  wf : WfS L s
  ids : (L.map Tr.id).Nodup
  ctx : CtxS G W w L R Φ
  st : Stable Φ

theorem At.put {W : World} {s : FrS} {L L' : List Tr} {R R' : List Own} {Φ Φ' : PW} {a : Act} {w w' : World} (h : At ds G W s L R Φ a w) {sv : SV} {v : Value} (d : Option Tmp) (he : Ext L L')
    (hp : ∀ k o, sv = SV.ptr k o → (findT k L').isSome = true) (hc : CtxS G W w' L' R' Φ') (hst : Stable Φ') (hv : isU (sv.val L') = false → v = sv.val L') : At ds G W (s.put d sv) L' R' Φ' (a.put d v) w' :=
  ⟨by rw [fr_put, h.wf.fr he]; exact h.sim.put d hv, (h.wf.ext he).put hp, he.ids h.ids, hc, hst⟩

theorem Unch.putS {D : Nat → Prop} {s0 : Fr} {s : FrS} {L L' : List Tr} {sv : SV} {d : Option Tmp} (h : Unch D s0 (s.fr L)) (hwf : WfS L s) (he : Ext L L') (hd : ∀ t, d = some t → D t) : Unch D s0 ((s.put d sv).fr L') := by
  rw [fr_put, hwf.fr he]
  exact h.put hd _

/-- the cells of blocks -/
def cellsOf : Vars → List Tr → List Value
  | [], _ => []
  | (k, _) :: r, L => (match findT k L with | some T => .agg T.cs.toArray | none => unk) :: cellsOf r L

/-- .. put there -/
def putCs (k : Nat) : Vars → List Value → Option (List Value)
  | (j, _) :: r, v :: vs => match Nat.beq j k with
    | true => some v.cells.toList
    | false => putCs k r vs
  | _, _ => none

def meetT (ts : Vars) (us : List Value) : List Tr → List Tr
  | [] => []
  | T :: r => (match putCs T.id ts us with
    | some cs => ⟨T.id, T.b, Nat.succ T.ver, cs, T.t⟩
    | none => T) :: meetT ts us r

/-- blocks that are not among 'ts' were not written since -/
def sameT (ts : Vars) (L' : List Tr) : List Tr → Bool
  | [] => true
  | T :: r => match memB T.id (ts.map (·.1)) with
    | true => sameT ts L' r
    | false => match findT T.id L' with
      | some T' => match Nat.beq T'.ver T.ver with | true => sameT ts L' r | false => false
      | none => false

theorem meetT_find {ts : Vars} {us : List Value} {k : Nat} {T : Tr} : ∀ {L : List Tr}, findT k L = some T → ∃ T', findT k (meetT ts us L) = some T' ∧ T'.b = T.b ∧ T'.t = T.t ∧ T.ver ≤ T'.ver ∧ (T'.ver = T.ver → T'.cs = T.cs) ∧ (putCs k ts us = none → T'.cs = T.cs) ∧ (∀ cs, putCs k ts us = some cs → T'.cs = cs)
  | [], h => by cases h
  | U :: r, h => by
    unfold findT at h
    simp only [meetT]
    cases hb : Nat.beq U.id k with
    | true =>
      rw [hb] at h
      cases h
      have hid := Nat.eq_of_beq_eq_true hb
      unfold findT
      cases hp : putCs T.id ts us with
      | some cs =>
        simp only [hb]
        rw [hid] at hp
        exact ⟨_, rfl, rfl, rfl, Nat.le_succ _, fun e => absurd e (Nat.succ_ne_self _), fun e => (by rw [hp] at e; cases e), fun cs' e => by rw [hp] at e; cases e; rfl⟩
      | none =>
        simp only [hb]
        rw [hid] at hp
        exact ⟨_, rfl, rfl, rfl, Nat.le_refl _, fun _ => rfl, fun _ => rfl, fun cs' e => by rw [hp] at e; cases e⟩
    | false =>
      rw [hb] at h
      have ih := meetT_find (ts := ts) (us := us) h
      unfold findT
      cases hp : putCs U.id ts us with
      | some cs => simp only [hb]; exact ih
      | none => simp only [hb]; exact ih

theorem meetT_keys (ts : Vars) (us : List Value) : ∀ L : List Tr, (meetT ts us L).map Tr.b = L.map Tr.b ∧ (meetT ts us L).map Tr.id = L.map Tr.id
  | [] => ⟨rfl, rfl⟩
  | T :: r => by
    have ih := meetT_keys ts us r
    simp only [meetT, List.map_cons, ih]
    cases putCs T.id ts us <;> exact ⟨rfl, rfl⟩

theorem meetT_ext (ts : Vars) (us : List Value) (L : List Tr) : Ext L (meetT ts us L) :=
  ⟨fun k T h => by obtain ⟨T', a, b, c, d, e, _⟩ := meetT_find (ts := ts) (us := us) h; exact ⟨T', a, b, c, d, e⟩, by rw [(meetT_keys ts us L).1]; exact List.Sublist.refl _, by rw [(meetT_keys ts us L).2]; exact id⟩

theorem dom_own (L : List Tr) : dom (L.map Tr.own) = L.map Tr.b := by
  induction L with
  | nil => rfl
  | cons T r ih => simp only [List.map_cons, dom, List.flatMap_cons] at ih ⊢; rw [ih]; rfl

theorem dom_app (A B : List Own) : dom (A ++ B) = dom A ++ dom B := by simp [dom]

theorem putCs_cells {k : Nat} {L' : List Tr} : ∀ {ts : Vars}, putCs k ts (cellsOf ts L') = if memB k (ts.map (·.1)) = true then some (match findT k L' with | some T => T.cs | none => unk.cells.toList) else none
  | [] => rfl
  | (j, sh) :: r => by
    simp only [cellsOf, putCs, List.map_cons, memB]
    rw [show Nat.beq k j = Nat.beq j k by rw [Bool.eq_iff_iff, Nat.beq_eq, Nat.beq_eq]; exact eq_comm]
    cases hb : Nat.beq j k with
    | true =>
      have := Nat.eq_of_beq_eq_true hb
      subst this
      simp only [if_true]
      cases findT j L' <;> simp [Value.cells]
    | false => exact putCs_cells

theorem findT_mem {L : List Tr} (hn : (L.map Tr.id).Nodup) : ∀ {T : Tr}, T ∈ L → findT T.id L = some T := by
  induction L with
  | nil => intro T h; cases h
  | cons U r ih =>
    intro T h
    simp only [List.map_cons, List.nodup_cons] at hn
    unfold findT
    rcases List.mem_cons.1 h with rfl | h
    · rw [show Nat.beq T.id T.id = true by simp]
    · rw [show Nat.beq U.id T.id = false by
        cases hb : Nat.beq U.id T.id with
        | false => rfl
        | true => exact absurd (List.mem_map.2 ⟨T, h, (Nat.eq_of_beq_eq_true hb).symm⟩) hn.1]
      exact ih hn.2 h

/-- blocks that were made since are let go; those that were written hold what they hold -/
theorem CtxS.meet {W w : World} {L L' : List Tr} {R : List Own} {Φ : PW} {ts : Vars} (hst : Stable Φ) (c : CtxS G W w L' R Φ) (he : Ext L L') (hids : (L.map Tr.id).Nodup) (hs : sameT ts L' L = true) : CtxS G W w (meetT ts (cellsOf ts L') L) R Φ := by
  have hd' : dom (R ++ (L'.map Tr.own ++ G)) = dom R ++ (L'.map Tr.b ++ dom G) := by rw [dom_app, dom_app, dom_own]
  have hd : dom (R ++ ((meetT ts (cellsOf ts L') L).map Tr.own ++ G)) = dom R ++ (L.map Tr.b ++ dom G) := by rw [dom_app, dom_app, dom_own, (meetT_keys ts _ L).1]
  have hsub : (dom R ++ (L.map Tr.b ++ dom G)).Sublist (dom R ++ (L'.map Tr.b ++ dom G)) := List.Sublist.append (List.Sublist.refl _) (List.Sublist.append he.bs (List.Sublist.refl _))
  have same : ∀ T ∈ L, memB T.id (ts.map (·.1)) = false → ∃ T', findT T.id L' = some T' ∧ T'.ver = T.ver := by
    clear hd hd' hsub he hids c
    induction L with
    | nil => intro T h; cases h
    | cons U r ih =>
      intro T hT hm
      unfold sameT at hs
      cases hmU : memB U.id (ts.map (·.1)) with
      | true =>
        rw [hmU] at hs
        rcases List.mem_cons.1 hT with rfl | hT
        · rw [hm] at hmU; cases hmU
        · exact ih hs T hT hm
      | false =>
        rw [hmU] at hs
        simp only at hs
        split at hs
        · rename_i T' hf
          split at hs
          · rename_i hv
            rcases List.mem_cons.1 hT with rfl | hT
            · exact ⟨T', hf, Nat.eq_of_beq_eq_true hv⟩
            · exact ih hs T hT hm
          · cases hs
        · cases hs
  refine Ctx.go c ⟨Chg.refl _ _, fun b hb => .inl (by rw [hd] at hb; rw [hd']; exact hsub.subset hb)⟩ (fun o ho => ?_) (by rw [hd]; have := c.nodup; rw [hd'] at this; exact this.sublist hsub)
  rcases List.mem_append.1 ho with ho | ho
  · exact c.own o (List.mem_append.2 (.inl ho))
  rcases List.mem_append.1 ho with ho | ho
  rotate_left
  · exact c.own o (List.mem_append.2 (.inr (List.mem_append.2 (.inr ho))))
  · obtain ⟨V, hV, rfl⟩ := List.mem_map.1 ho
    have hidm : ((meetT ts (cellsOf ts L') L).map Tr.id).Nodup := by rw [(meetT_keys ts _ L).2]; exact hids
    have hf := findT_mem hidm hV
    -- its forerunner
    have hex : V.id ∈ L.map Tr.id := by rw [← (meetT_keys ts (cellsOf ts L') L).2]; exact List.mem_map.2 ⟨V, hV, rfl⟩
    obtain ⟨T, hT, hTid⟩ := List.mem_map.1 hex
    have hfT := findT_mem hids hT
    rw [hTid] at hfT
    obtain ⟨V', g1, g2, g3, _, _, g6, g7⟩ := meetT_find (ts := ts) (us := cellsOf ts L') hfT
    rw [hf] at g1
    cases g1
    obtain ⟨T1, k1, k2, k3, k4, k5⟩ := he.old V.id T hfT
    have hb := c.blk k1
    have hcs : V.cs = T1.cs := by
      rw [putCs_cells] at g6 g7
      cases hm : memB V.id (ts.map (·.1)) with
      | true =>
        rw [if_pos hm, k1] at g7
        exact g7 _ rfl
      | false =>
        rw [if_neg (by rw [hm]; simp)] at g6
        rw [g6 rfl]
        obtain ⟨T2, q1, q2⟩ := same T hT (by rw [hTid]; exact hm)
        rw [hTid, k1] at q1
        cases q1
        exact (k5 q2).symm
    show Blk w V.b V.cs V.t
    rw [g2, ← k2, g3, ← k3, hcs]
    exact hb

theorem meetT_nil : ∀ L : List Tr, meetT [] [] L = L
  | [] => rfl
  | T :: r => by simp only [meetT, putCs, meetT_nil r]

/-! ### regions -/
/-- an operation that was left out has left this -/
def leftAt (s : Fr) (d : Option Tmp) : Bool :=
  match d with
  | some d => (match getL d s.l with | .tuple vs => (match vs.toList with | [] => Nat.blt d s.n | _ => false) | _ => false)
  | none => false

theorem leftAt_spec {s : Fr} {a : Act} (h : Sim ds s a) {d : Option Tmp} (hc : leftAt s d = true) : ∃ k, d = some k ∧ k < a.tmps.size ∧ a.tmps.getD k undef = .tuple #[] := by
  unfold leftAt at hc
  split at hc
  · rename_i k
    split at hc
    · rename_i vs hv
      split at hc
      · rename_i hvs
        have hlt : k < s.n := by simpa using hc
        have e : vs = #[] := by cases vs; simp_all
        subst e
        have hg : s.get k = .tuple #[] := hv
        exact ⟨k, rfl, by rw [h.size]; exact hlt, by rw [h.slot k (by rw [hg]; rfl), hg]⟩
      · cases hc
    · cases hc
  · cases hc

/-- an operation of a region under its guard -/
def guardS (ops : Array Oper) (o : Oper) (s : FrS) (L : List Tr) (go skip : FrS → Prop) : Prop :=
  match o.guard with
  | none => go s
  | some (j, want) =>
    match boolAt (s.fr L) ((ops[j]?).bind (·.dst)) with
    | some c => Br c (match true == want with
        | true => go (s.put ((ops[j]?).bind (·.dst)) (.v (.bool true)))
        | false => skip (s.put ((ops[j]?).bind (·.dst)) (.v (.bool true))))
      (match false == want with
        | true => go (s.put ((ops[j]?).bind (·.dst)) (.v (.bool false)))
        | false => skip (s.put ((ops[j]?).bind (·.dst)) (.v (.bool false))))
    | none => match leftAt (s.fr L) ((ops[j]?).bind (·.dst)) with
      | true => skip s
      | false => False

theorem guardS_sound {W : World} {ops : Array Oper} {o : Oper} {s : FrS} {L : List Tr} {R : List Own} {Φ : PW} {a : Act} {w : World} {go skip : FrS → Prop} {D : Nat → Prop} {s0 : Fr} (hD : ∀ (j : Nat) (o : Oper) (t : Nat), ops[j]? = some o → o.dst = some t → D t)
    (h : guardS ops o s L go skip) (ha : At ds G W s L R Φ a w) (hu : Unch D s0 (s.fr L)) :
    ∃ s', At ds G W s' L R Φ a w ∧ Unch D s0 (s'.fr L) ∧ ((Region.wanted o (yielded ops a.tmps) = true ∧ go s') ∨ (Region.wanted o (yielded ops a.tmps) = false ∧ skip s')) := by
  unfold guardS at h
  split at h
  · rename_i hg
    exact ⟨s, ha, hu, .inl ⟨by simp [Region.wanted, hg], h⟩⟩
  · rename_i j want hg
    split at h
    · rename_i c hc
      obtain ⟨k, hk, hlt, hv, hsv⟩ := boolAt_spec ha.sim hc
      have hy : yielded ops a.tmps j = some c := by
        unfold yielded
        rw [hk]
        simp only [Option.bind_some]
        rw [Array.getD_eq_getD_getElem?] at hv
        simp only [hlt, getElem?_pos, Option.getD_some] at hv
        simp [hlt, hv]
      have hw : Region.wanted o (yielded ops a.tmps) = (c == want) := by simp [Region.wanted, hg, hy]
      have ha' : At ds G W (s.put ((ops[j]?).bind (·.dst)) (.v (.bool c))) L R Φ a w := by
        have := ha.put ((ops[j]?).bind (·.dst)) (sv := .v (.bool c)) (v := .bool c) (Ext.refl L) (fun k o e => by cases e) ha.ctx ha.st (fun _ => rfl)
        rw [hk] at this ⊢
        rwa [put_same hlt hv] at this
      have hu' : Unch D s0 ((s.put ((ops[j]?).bind (·.dst)) (.v (.bool c))).fr L) := hu.putS ha.wf (Ext.refl L) (by
        intro t ht
        cases hj : ops[j]? with
        | none => simp [hj] at ht
        | some oj => rw [hj] at ht; exact hD j oj t hj ht)
      refine ⟨_, ha', hu', ?_⟩
      rw [hw]
      cases c
      · simp only [Br] at h
        cases hcw : false == want with
        | true => rw [hcw] at h; exact .inl ⟨rfl, h⟩
        | false => rw [hcw] at h; exact .inr ⟨rfl, h⟩
      · simp only [Br] at h
        cases hcw : true == want with
        | true => rw [hcw] at h; exact .inl ⟨rfl, h⟩
        | false => rw [hcw] at h; exact .inr ⟨rfl, h⟩
    · split at h
      · rename_i hl
        obtain ⟨k, hk, hlt, hv⟩ := leftAt_spec ha.sim hl
        have hy : yielded ops a.tmps j = none := by
          unfold yielded
          rw [hk]
          simp only [Option.bind_some]
          rw [Array.getD_eq_getD_getElem?] at hv
          simp only [hlt, getElem?_pos, Option.getD_some] at hv
          simp [hlt, hv]
        exact ⟨s, ha, hu, .inr ⟨by simp [Region.wanted, hg, hy], h⟩⟩
      · exact h.elim

section
variable (P : Program) (W : World)

/-- a region in the text's order -/
def opsS (wr trk : Nat → Bool) (ops : Array Oper) : List Oper → FrS → List Tr → List Own → PW → (FrS → List Tr → List Own → PW → Prop) → Prop
  | [], s, L, R, Φ, K => K s L R Φ
  | o :: rest, s, L, R, Φ, K => guardS ops o s L
      (fun s => opS P W (wr (o.dst.getD 0)) (trk (o.dst.getD 0)) (fun i => extractsOf o.dst i ops.toList) o s L R Φ fun v L R Φ => opsS wr trk ops rest (s.put o.dst v) L R Φ K)
      (fun s => opsS wr trk ops rest (s.put o.dst (.v undef)) L R Φ K)

/-- one read -/
def rdS (wr : Bool) (o : Oper) (s : FrS) (L : List Tr) (R : List Own) (Φ : PW) (K : SV → Prop) : Prop :=
  match o.op with
  | .pick c x y => match s.val L c with
    | .bool b => Br b (K (s.ev x)) (K (s.ev y))
    | _ => False
  | _ => match okOps (s.fr L) o && notSel o with
    | true => optP (readS P W wr o s L R Φ K)
    | false => False

def rdsS (wr : Nat → Bool) (ops : Array Oper) (L : List Tr) (R : List Own) (Φ : PW) : List Nat → FrS → (FrS → Prop) → Prop
  | [], s, K => K s
  | i :: r, s, K => match ops[i]? with
    | none => False
    | some o => guardS ops o s L (fun s => rdS P W (wr (o.dst.getD 0)) o s L R Φ fun v => rdsS wr ops L R Φ r (s.put o.dst v) K) (fun s => rdsS wr ops L R Φ r (s.put o.dst (.v undef)) K)

/-- does what it yields hang on the world? -/
def heapU (o : Oper) (s : FrS) (L : List Tr) (K : SV → Prop) : Bool :=
  match o.op with
  | .load _ x => match s.ev x with | .ptr _ _ => false | .v _ => true
  | .move _ | .assign _ | .nilCheck _ | .fieldAddr .. | .indexAddr .. => false
  | _ => heapOp P o (s.val L) fun v => K (.v v)

/-- one read, in all worlds of which Φ0 tells -/
def hrS (wr : Bool) (o : Oper) (s : FrS) (L : List Tr) (Q0 : List Own) (Φ0 : PW) (K : SV → Prop) : Prop :=
  match o.op with
  | .pick c x y => match s.val L c with
    | .bool b => Br b (K (s.ev x)) (K (s.ev y))
    | _ => False
  | _ => match okOps (s.fr L) o && notSel o with
    | true => match heapU P o s L K with
      | true => resK P o.type fun v => (∀ w S, Ctx W w (Q0 ++ S) Φ0 → optP (quietK P wr o (s.val L) w none fun u => u = v)) ∧ K (.v v)
      | false => optP (readS P W wr o s L [] Φ0 K)
    | false => False

def hS (wr : Nat → Bool) (ops : Array Oper) (L : List Tr) (Q0 : List Own) (Φ0 : PW) : List (Nat × Bool) → FrS → List Own → PW → (FrS → List Own → PW → Prop) → Prop
  | [], s, R, Φ, K => K s R Φ
  | (i, still) :: r, s, R, Φ, K => match ops[i]? with
    | none => False
    | some o => guardS ops o s L
        (fun s => match still with
          | true => hrS P W (wr (o.dst.getD 0)) o s L Q0 Φ0 fun v => hS wr ops L Q0 Φ0 r (s.put o.dst v) R Φ K
          | false => opS P W (wr (o.dst.getD 0)) false (fun i => extractsOf o.dst i ops.toList) o s L R Φ fun v L' R' Φ' => match v, sameT [] L' L with
            | .v x, true => (∀ w F, Ctx W w (R' ++ F) Φ' → Ctx W w (Q0 ++ F) Φ0) ∧ hS wr ops L Q0 Φ0 r (s.put o.dst (.v x)) R' Φ' K
            | _, _ => False)
        (fun s => hS wr ops L Q0 Φ0 r (s.put o.dst (.v undef)) R Φ K)

/-- a read that looks at no memory -/
def prS (wr : Bool) (o : Oper) (s : FrS) (L : List Tr) (Q0 : List Own) (Φ0 : PW) (K : SV → Prop) : Prop :=
  match o.op with
  | .pick c x y => match s.val L c with
    | .bool b => Br b (K (s.ev x)) (K (s.ev y))
    | _ => False
  | .load _ x => match s.ev x with
    | .ptr _ _ => False
    | .v _ => match okOps (s.fr L) o && notSel o with
      | true => resK P o.type fun v => (∀ w S, Ctx W w (Q0 ++ S) Φ0 → optP (quietK P wr o (s.val L) w none fun u => u = v)) ∧ K (.v v)
      | false => False
  | _ => match okOps (s.fr L) o && notSel o with
    | true => match heapU P o s L K with
      | true => False
      | false => optP (readS P W wr o s L [] (fun _ _ => True) K)
    | false => False

def fS (wr trk : Nat → Bool) (ops : Array Oper) (Q0 : List Own) (Φ0 : PW) : List (Nat × Bool) → FrS → List Tr → List Own → PW → (FrS → List Tr → List Own → PW → Prop) → Prop
  | [], s, L, R, Φ, K => K s L R Φ
  | (i, still) :: r, s, L, R, Φ, K => match ops[i]? with
    | none => False
    | some o => guardS ops o s L
        (fun s => match still with
          | true => prS P W (wr (o.dst.getD 0)) o s L Q0 Φ0 fun v => fS wr trk ops Q0 Φ0 r (s.put o.dst v) L R Φ K
          | false => opS P W (wr (o.dst.getD 0)) (trk (o.dst.getD 0)) (fun i => extractsOf o.dst i ops.toList) o s L R Φ fun v L R Φ => (∀ w F, Ctx W w (R ++ F) Φ → Ctx W w (Q0 ++ F) Φ0) ∧ fS wr trk ops Q0 Φ0 r (s.put o.dst v) L R Φ K)
        (fun s => fS wr trk ops Q0 Φ0 r (s.put o.dst (.v undef)) L R Φ K)

/-- reads that may come up at any time -/
def ltS (wr : Nat → Bool) (ops : Array Oper) (L : List Tr) (Q0 : List Own) (Φ0 : PW) : List Nat → FrS → (FrS → Prop) → Prop
  | [], s, K => K s
  | i :: r, s, K => match ops[i]? with
    | none => False
    | some o => guardS ops o s L (fun s => prS P W (wr (o.dst.getD 0)) o s L Q0 Φ0 fun v => ltS wr ops L Q0 Φ0 r (s.put o.dst v) K) (fun s => ltS wr ops L Q0 Φ0 r (s.put o.dst (.v undef)) K)

/-- the first reads: those of B, for which all else waits; others, that may come up late -/
def iniS (wr : Nat → Bool) (ops : Array Oper) (L : List Tr) (R : List Own) (Φ : PW) (Q0 : List Own) (Φ0 : PW) (B : List Nat) : List Nat → FrS → (FrS → Prop) → Prop
  | [], s, K => K s
  | i :: r, s, K => match ops[i]? with
    | none => False
    | some o => guardS ops o s L (fun s => match memB i B with
        | true => rdS P W (wr (o.dst.getD 0)) o s L R Φ fun v => iniS wr ops L R Φ Q0 Φ0 B r (s.put o.dst v) K
        | false => prS P W (wr (o.dst.getD 0)) o s L Q0 Φ0 fun v => iniS wr ops L R Φ Q0 Φ0 B r (s.put o.dst v) K) (fun s => iniS wr ops L R Φ Q0 Φ0 B r (s.put o.dst (.v undef)) K)

/-- then one operation alone, and late reads; and so on -/
def dlS (wr trk : Nat → Bool) (ops : Array Oper) (Q0 : List Own) (Φ0 : PW) : List (Nat × List Nat) → FrS → List Tr → List Own → PW → (FrS → List Tr → List Own → PW → Prop) → Prop
  | [], s, L, R, Φ, K => K s L R Φ
  | (i, T) :: rest, s, L, R, Φ, K => match ops[i]? with
      | none => False
      | some o => guardS ops o s L
          (fun s => opS P W (wr (o.dst.getD 0)) (trk (o.dst.getD 0)) (fun i => extractsOf o.dst i ops.toList) o s L R Φ fun v L R Φ => (∀ w F, Ctx W w (R ++ F) Φ → Ctx W w (Q0 ++ F) Φ0) ∧ ltS P W wr ops L Q0 Φ0 T (s.put o.dst v) fun s => dlS wr trk ops Q0 Φ0 rest s L R Φ K)
          (fun s => ltS P W wr ops L Q0 Φ0 T (s.put o.dst (.v undef)) fun s => dlS wr trk ops Q0 Φ0 rest s L R Φ K)

/-- the same, where the reads of C must have come up when the operation dl does -/
def iniS2 (wr : Nat → Bool) (ops : Array Oper) (L : List Tr) (R : List Own) (Φ : PW) (Q0 : List Own) (Φ0 : PW) (C : List Nat) (Q1 : List Own) (Φ1 : PW) (B : List Nat) : List Nat → FrS → (FrS → Prop) → Prop
  | [], s, K => K s
  | i :: r, s, K => match ops[i]? with
    | none => False
    | some o => guardS ops o s L (fun s => match memB i B with
        | true => rdS P W (wr (o.dst.getD 0)) o s L R Φ fun v => iniS2 wr ops L R Φ Q0 Φ0 C Q1 Φ1 B r (s.put o.dst v) K
        | false => match memB i C with
          | true => prS P W (wr (o.dst.getD 0)) o s L Q1 Φ1 fun v => iniS2 wr ops L R Φ Q0 Φ0 C Q1 Φ1 B r (s.put o.dst v) K
          | false => prS P W (wr (o.dst.getD 0)) o s L Q0 Φ0 fun v => iniS2 wr ops L R Φ Q0 Φ0 C Q1 Φ1 B r (s.put o.dst v) K) (fun s => iniS2 wr ops L R Φ Q0 Φ0 C Q1 Φ1 B r (s.put o.dst (.v undef)) K)

/-- what is asked for the reads that are awaited until the operation dl -/
def askD (dl i : Nat) (up : Bool) (p : Prop) : Prop := match up with
  | false => True
  | true => match Nat.beq dl i with | true => True | false => p

def dlS2 (wr trk : Nat → Bool) (ops : Array Oper) (Q0 : List Own) (Φ0 : PW) (dl : Nat) (Q1 : List Own) (Φ1 : PW) : Bool → List (Nat × List Nat) → FrS → List Tr → List Own → PW → (FrS → List Tr → List Own → PW → Prop) → Prop
  | _, [], s, L, R, Φ, K => K s L R Φ
  | up, (i, T) :: rest, s, L, R, Φ, K => match ops[i]? with
      | none => False
      | some o => guardS ops o s L
          (fun s => opS P W (wr (o.dst.getD 0)) (trk (o.dst.getD 0)) (fun i => extractsOf o.dst i ops.toList) o s L R Φ fun v L R Φ => (∀ w F, Ctx W w (R ++ F) Φ → Ctx W w (Q0 ++ F) Φ0) ∧ askD dl i up (∀ w F, Ctx W w (R ++ F) Φ → Ctx W w (Q1 ++ F) Φ1) ∧ ltS P W wr ops L Q0 Φ0 T (s.put o.dst v) fun s => dlS2 wr trk ops Q0 Φ0 dl Q1 Φ1 (up && !(Nat.beq dl i)) rest s L R Φ K)
          (fun s => ltS P W wr ops L Q0 Φ0 T (s.put o.dst (.v undef)) fun s => dlS2 wr trk ops Q0 Φ0 dl Q1 Φ1 (up && !(Nat.beq dl i)) rest s L R Φ K)

/-- orders in which the operations may come up: reads, which may come up at any time; and others, of which one or another comes next -/
inductive OT where
  | done
  | rd (i : Nat) (k : OT)
  | alt (i : Nat) (k r : OT)
  | no

def heads : OT → List Nat
  | .alt i _ r => i :: heads r
  | _ => []

def otIdx : OT → List Nat
  | .rd i k => i :: otIdx k
  | .alt i k _ => i :: otIdx k
  | _ => []

/-- what is listed is listed with all that it waits for -/
def closedB (ops : Array Oper) (listed : Array Bool) : Bool :=
  (List.range ops.size).all fun k => !(listed.getD k true) || match ops[k]? with
    | none => true
    | some o => o.after.toList.all fun e => !(Region.binds .any e) || listed.getD e.on false

def otOk (ops : Array Oper) (fin : Array Bool) : OT → Bool → Nat → Array Bool → Bool
  | .done, false, 0, x => decide (x = fin)
  | .rd i k, false, n + 1, x => (Region.ready .any ops x).contains i && Region.free .any ops x i && (Region.ready .any ops (fin.setIfInBounds i false) == [i] || !(closedB ops (fin.setIfInBounds i false))) && otOk ops fin k false n (x.setIfInBounds i true)
  | .alt i k r, false, n + 1, x => (Region.ready .any ops x == i :: heads r) && (otOk ops fin k false n (x.setIfInBounds i true) && otOk ops fin r true n x)
  | .alt i k r, true, n, x => otOk ops fin k false n (x.setIfInBounds i true) && otOk ops fin r true n x
  | .no, true, _, _ => true
  | _, _, _, _ => false

def tS (wr : Nat → Bool) (ops : Array Oper) (L : List Tr) (Q0 : List Own) (Φ0 : PW) : OT → FrS → List Own → PW → (FrS → List Own → PW → Prop) → Prop
  | .done, s, R, Φ, K => K s R Φ
  | .no, _, _, _, _ => True
  | .rd i k, s, R, Φ, K => match ops[i]? with
    | none => False
    | some o => guardS ops o s L (fun s => hrS P W (wr (o.dst.getD 0)) o s L Q0 Φ0 fun v => tS wr ops L Q0 Φ0 k (s.put o.dst v) R Φ K) (fun s => tS wr ops L Q0 Φ0 k (s.put o.dst (.v undef)) R Φ K)
  | .alt i k r, s, R, Φ, K => (match ops[i]? with
    | none => False
    | some o => guardS ops o s L
        (fun s => opS P W (wr (o.dst.getD 0)) false (fun i => extractsOf o.dst i ops.toList) o s L R Φ fun v L' R' Φ' => match v, sameT [] L' L with
            | .v x, true => (∀ w F, Ctx W w (R' ++ F) Φ' → Ctx W w (Q0 ++ F) Φ0) ∧ tS wr ops L Q0 Φ0 k (s.put o.dst (.v x)) R' Φ' K
            | _, _ => False)
        (fun s => tS wr ops L Q0 Φ0 k (s.put o.dst (.v undef)) R Φ K)) ∧ (match r with | .no => True | r => tS wr ops L Q0 Φ0 r s R Φ K)

/-- a part of a drawn region: reads, and then an operation alone; or reads that come up at any time between other operations -/
inductive Sg where
  | tree (t : OT) (n : Nat)
  | stage (T : List Nat) (e : Option Nat)
  | held (ord : List (Nat × Bool))
  | free (ord : List (Nat × Bool))
  | late (B ini : List Nat) (l : List (Nat × List Nat))
  | late2 (C : List Nat) (dl : Nat) (B ini : List Nat) (l : List (Nat × List Nat))

def dlFin : List (Nat × List Nat) → Array Bool → Array Bool
  | [], x => x
  | (i, T) :: r, x => dlFin r (listAll T (x.setIfInBounds i true))

def dlReads (ini : List Nat) : List (Nat × List Nat) → List Nat
  | [] => ini
  | (_, T) :: r => T ++ dlReads ini r

def dlOk (ops : Array Oper) (fin : Array Bool) : List (Nat × List Nat) → Array Bool → Bool
  | [], listed => decide (listed = fin) && (Region.ready .any ops listed).isEmpty
  | (i, T) :: r, listed => Region.ready .any ops listed == [i] && (readsOk ops T (listed.setIfInBounds i true) && dlOk ops fin r (listAll T (listed.setIfInBounds i true)))

/-- all operations but the reads wait for each of these -/
def waits (ops : Array Oper) (b : Nat) : List Nat → List Nat → List Nat
  | [], acc => acc
  | k :: r, acc => waits ops b r (match ops[k]? with
    | some o => match o.after.any fun e => Region.binds .any e && (Nat.beq e.on b || memB e.on acc) with
      | true => k :: acc
      | false => acc
    | none => acc)
def awaited (ops : Array Oper) (rd B : List Nat) : Bool := B.all fun b => memB b rd && (fun W : List Nat => (List.range ops.size).all fun j => memB j rd || memB j W) (waits ops b (List.range ops.size) [])

def dlLen : List (Nat × List Nat) → Nat
  | [] => 0
  | (_, T) :: r => (T.length + dlLen r) + 1

def heldOk (ops : Array Oper) : List (Nat × Bool) → Array Bool → Bool
  | [], _ => true
  | (i, true) :: r, listed => (Region.ready .any ops listed).contains i && Region.free .any ops listed i && heldOk ops r (listed.setIfInBounds i true)
  | (i, false) :: r, listed => Region.ready .any ops listed == [i] && heldOk ops r (listed.setIfInBounds i true)

def stillOf : List (Nat × Bool) → List Nat
  | [] => []
  | (i, true) :: r => i :: stillOf r
  | (_, false) :: r => stillOf r

def lastOkC (ops : Array Oper) (T : List Nat) (fin : Array Bool) : Bool :=
  T.all fun i => Region.ready .any ops (fin.setIfInBounds i false) == [i] || !(closedB ops (fin.setIfInBounds i false))

def sgOk (ops : Array Oper) : List Sg → Array Bool → Bool
  | [], listed => (Region.ready .any ops listed).isEmpty
  | .stage T none :: rest, listed => readsOk ops T listed && lastOk ops T (listAll T listed) && sgOk ops rest (listAll T listed)
  | .stage T (some i) :: rest, listed => readsOk ops T listed && lastOk ops T (listAll T listed) && (Region.ready .any ops (listAll T listed) == [i] && sgOk ops rest ((listAll T listed).setIfInBounds i true))
  | .tree t n :: rest, listed => closedB ops listed && otOk ops (listAll (otIdx t) listed) t false n listed && sgOk ops rest (listAll (otIdx t) listed)
  | .held ord :: rest, listed => heldOk ops ord listed && closedB ops listed && lastOkC ops (stillOf ord) (listAll (ord.map (·.1)) listed) && sgOk ops rest (listAll (ord.map (·.1)) listed)

  | .free ord :: rest, listed => heldOk ops ord listed && lastOk ops (stillOf ord) (listAll (ord.map (·.1)) listed) && sgOk ops rest (listAll (ord.map (·.1)) listed)

  | .late B ini l :: _, listed => closedB ops listed && readsOk ops ini listed && (B.all fun b => memB b ini) && awaited ops (dlReads ini l) B && lastOk ops (dlReads ini l) (dlFin l (listAll ini listed)) && (l.all fun p => !memB p.1 (dlReads ini l)) && dlOk ops (dlFin l (listAll ini listed)) l (listAll ini listed)

  | .late2 C dl B ini l :: _, listed => closedB ops listed && readsOk ops ini listed && (B.all fun b => memB b ini) && awaited ops (dlReads ini l) B && lastOk ops (dlReads ini l) (dlFin l (listAll ini listed)) && (l.all fun p => !memB p.1 (dlReads ini l)) && dlOk ops (dlFin l (listAll ini listed)) l (listAll ini listed) && (C.all fun c => memB dl (waits ops c (List.range ops.size) [])) && !memB dl (dlReads ini l)

def sgLen : List Sg → Nat
  | [] => 0
  | .stage T none :: r => T.length + sgLen r
  | .stage T (some _) :: r => T.length + (sgLen r + 1)
  | .tree _ n :: r => n + sgLen r
  | .held ord :: r => ord.length + sgLen r
  | .free ord :: r => ord.length + sgLen r
  | .late _ ini l :: _ => ini.length + dlLen l
  | .late2 _ _ _ ini l :: _ => ini.length + dlLen l

def stgS (wr trk : Nat → Bool) (ops : Array Oper) : List Sg → FrS → List Tr → List Own → PW → (FrS → List Tr → List Own → PW → Prop) → Prop
  | [], s, L, R, Φ, K => K s L R Φ
  | .stage T none :: rest, s, L, R, Φ, K => rdsS P W wr ops L R Φ T s fun s => stgS wr trk ops rest s L R Φ K
  | .stage T (some i) :: rest, s, L, R, Φ, K => rdsS P W wr ops L R Φ T s fun s => match ops[i]? with
      | none => False
      | some o => guardS ops o s L
          (fun s => opS P W (wr (o.dst.getD 0)) (trk (o.dst.getD 0)) (fun i => extractsOf o.dst i ops.toList) o s L R Φ fun v L R Φ => stgS wr trk ops rest (s.put o.dst v) L R Φ K)
          (fun s => stgS wr trk ops rest (s.put o.dst (.v undef)) L R Φ K)
  | .tree t _ :: rest, s, L, R, Φ, K => ∃ (Q0 : List Own) (Φ0 : PW), Stable Φ0 ∧ (∀ w F, Ctx W w (R ++ F) Φ → Ctx W w (Q0 ++ F) Φ0) ∧ tS P W wr ops L Q0 Φ0 t s R Φ fun s R Φ => stgS wr trk ops rest s L R Φ K
  | .held ord :: rest, s, L, R, Φ, K => ∃ (Q0 : List Own) (Φ0 : PW), Stable Φ0 ∧ (∀ w F, Ctx W w (R ++ F) Φ → Ctx W w (Q0 ++ F) Φ0) ∧ hS P W wr ops L Q0 Φ0 ord s R Φ fun s R Φ => stgS wr trk ops rest s L R Φ K
  | .late B ini l :: _, s, L, R, Φ, K => ∃ (Q0 : List Own) (Φ0 : PW), Stable Φ0 ∧ (∀ w F, Ctx W w (R ++ F) Φ → Ctx W w (Q0 ++ F) Φ0) ∧ iniS P W wr ops L R Φ Q0 Φ0 B ini s fun s => dlS P W wr trk ops Q0 Φ0 l s L R Φ K
  | .late2 C dl B ini l :: _, s, L, R, Φ, K => ∃ (Q0 : List Own) (Φ0 : PW), Stable Φ0 ∧ (∀ w F, Ctx W w (R ++ F) Φ → Ctx W w (Q0 ++ F) Φ0) ∧ ∃ (Q1 : List Own) (Φ1 : PW), Stable Φ1 ∧ (∀ w F, Ctx W w (R ++ F) Φ → Ctx W w (Q1 ++ F) Φ1) ∧ iniS2 P W wr ops L R Φ Q0 Φ0 C Q1 Φ1 B ini s fun s => dlS2 P W wr trk ops Q0 Φ0 dl Q1 Φ1 true l s L R Φ K
  | .free ord :: rest, s, L, R, Φ, K => ∃ (Q0 : List Own) (Φ0 : PW), Stable Φ0 ∧ (∀ w F, Ctx W w (R ++ F) Φ → Ctx W w (Q0 ++ F) Φ0) ∧ fS P W wr trk ops Q0 Φ0 ord s L R Φ fun s L R Φ => stgS wr trk ops rest s L R Φ K

/-- an operation of a region that only reads -/
def qS (wr d : Bool) (es : List Ent) (o : Oper) (s : FrS) (L : List Tr) (w : World) (g : Option Bool) (ch : List (Nat × Bool)) (K : SV → Prop) : Prop :=
  match o.op with
  | .fieldAddr t x f => match s.ev x with
    | .ptr k off => match readOk es ch (s.fr L) x with | true => fieldT P t k off f K | false => False
    | .v _ => specOp P wr d es o (s.fr L) w g ch fun v => K (.v v)
  | .load t x => match s.ev x with
    | .ptr k off => match readOk es ch (s.fr L) x with | true => loadT P t L k off fun v => K (.v v) | false => False
    | .v _ => specOp P wr d es o (s.fr L) w g ch fun v => K (.v v)
  | .move x => match readOk es ch (s.fr L) x with | true => K (s.ev x) | false => False
  | .assign x => match readOk es ch (s.fr L) x with | true => K (s.ev x) | false => False
  | _ => specOp P wr d es o (s.fr L) w g ch fun v => K (.v v)

def forgetS (es : List Ent) (s : FrS) : FrS := ⟨s.n, go s.l⟩
where go : List (Nat × SV) → List (Nat × SV)
  | [] => []
  | (t, v) :: r => match freeB es t with | true => (t, v) :: go r | false => go r

def qsS (wr : Nat → Bool) (d : Bool) (ops : Array Oper) (L : List Tr) (w : World) : List Oper → List Ent → FrS → (FrS → Prop) → Prop
  | [], es, s, K => K (forgetS es s)
  | o :: rest, es, s, K =>
    match guardOf ops es (s.fr L) o, o.dst with
    | some (g, ch), some t =>
      match (findE es t).isNone && Nat.blt t s.n with
      | true => qS P (wr t) d es o s L w g ch fun v => qsS wr d ops L w rest (⟨t, g, ch⟩ :: es) (s.put (some t) v) K
      | false => False
    | _, _ => False

end

/-! ### they suffice -/
section
variable {P : Program} {W : World} {ops : Array Oper} {wr trk : Nat → Bool} {D : Nat → Prop} {s0 : Fr}

theorem opsS_sound {Q : Exit → Act → World → Prop} {L0 : List Tr} {K : FrS → List Tr → List Own → PW → Prop}
    (hD : ∀ (j : Nat) (o : Oper) (t : Nat), ops[j]? = some o → o.dst = some t → D t) (hK : ∀ s L R Φ a w, K s L R Φ → At ds G W s L R Φ a w → Ext L0 L → Unch D s0 (s.fr L) → Q .normal a w) :
    ∀ (l : List Oper) (s : FrS) (L : List Tr) (R : List Own) (Φ : PW) (a : Act) (w : World), (∀ o ∈ l, ∀ t, o.dst = some t → D t) → opsS P W wr trk ops l s L R Φ K → At ds G W s L R Φ a w → Ext L0 L → Unch D s0 (s.fr L) → wpList P ops Q l a w
  | [], s, L, R, Φ, a, w, _, h, ha, he, hu => hK _ _ _ _ _ _ h ha he hu
  | o :: rest, s, L, R, Φ, a, w, hl, h, ha, he, hu => by
    have hl' : ∀ o ∈ rest, ∀ t, o.dst = some t → D t := fun o ho => hl o (List.mem_cons_of_mem _ ho)
    have ho : ∀ t, o.dst = some t → D t := hl o (by simp)
    unfold opsS at h
    unfold wpList
    obtain ⟨s', ha', hu', h⟩ := guardS_sound hD h ha hu
    rcases h with ⟨hw, h⟩ | ⟨hw, h⟩
    · rw [if_pos hw]
      have := ha'.st
      refine .inl (Oper.wp_of_goOn (opS_sound h ha'.sim ha'.wf ha'.ctx fun sv L' R' Φ' v' w' hk hst hext hp hc hv => ?_))
      exact opsS_sound hD hK rest _ _ _ _ _ _ hl' hk (ha'.put o.dst hext hp hc hst hv) (he.trans hext) (hu'.putS ha'.wf hext ho)
    · rw [if_neg (by simp [hw])]
      exact opsS_sound hD hK rest _ _ _ _ _ _ hl' h (ha'.put o.dst (Ext.refl _) (fun k o e => by cases e) ha'.ctx ha'.st (fun _ => rfl)) he (hu'.putS ha'.wf (Ext.refl _) ho)

theorem rdS_sound {wr : Bool} {o : Oper} {s : FrS} {L : List Tr} {R : List Own} {Φ : PW} {a : Act} {w : World} {K : SV → Prop} (h : rdS P W wr o s L R Φ K) (ha : At ds G W s L R Φ a w) :
    ∃ sv v', K sv ∧ (∀ k o, sv = SV.ptr k o → (findT k L).isSome = true) ∧ (isU (sv.val L) = false → v' = sv.val L) ∧ (execOp a.eval o).run P w = .ok (.value v') w := by
  have hev := fr_eval s L
  unfold rdS at h
  split at h
  · rename_i cc x y hop
    split at h
    · rename_i b hc
      have hc' : a.eval cc = .bool b := by rw [ha.sim.eval (by rw [hev, hc]; rfl), hev, hc]
      cases b with
      | true =>
        exact ⟨s.ev x, a.eval x, h, fun k o e => ha.wf.ev e, fun hu => by rw [ha.sim.eval (by rw [hev]; exact hu), hev]; rfl, by simp only [execOp, hop, hc', asBool, Sem.run_bind, Sem.run_pure, Result.andThen, if_true]⟩
      | false =>
        exact ⟨s.ev y, a.eval y, h, fun k o e => ha.wf.ev e, fun hu => by rw [ha.sim.eval (by rw [hev]; exact hu), hev]; rfl, by simp [execOp, hop, hc', asBool, Sem.run_bind, Sem.run_pure, Result.andThen]⟩
    · exact h.elim
  · split at h
    · rename_i ho
      simp only [Bool.and_eq_true] at ho
      rw [exec_sim ha.sim ho.1 ho.2, show (s.fr L).eval = s.val L from funext hev]
      unfold optP at h
      split at h
      · rename_i p hp
        obtain ⟨sv, h1, h2, h3⟩ := readS_sound ha.wf ha.ctx hp h
        exact ⟨sv, _, h3, h1, fun _ => rfl, h2 w rfl⟩
      · exact h.elim
    · exact h.elim

theorem rdsS_sound {Q : Exit → Act → World → Prop} {L : List Tr} {R : List Own} {Φ : PW} {w : World} {Kf : FrS → Prop} {K : Act → World → Prop} {fin : Array Bool} (hsel : Region.noSelect ops = true)
    (hD : ∀ (j : Nat) (o : Oper) (t : Nat), ops[j]? = some o → o.dst = some t → D t) (hK : ∀ s a, Kf s → At ds G W s L R Φ a w → Unch D s0 (s.fr L) → K a w) :
    ∀ (T : List Nat) (listed : Array Bool) (s : FrS) (a : Act), (∀ i ∈ T, Region.ready .any ops (fin.setIfInBounds i false) = [i]) → readsOk ops T listed = true → listAll T listed = fin → rdsS P W wr ops L R Φ T s Kf → At ds G W s L R Φ a w → Unch D s0 (s.fr L) →
      wpAnyK P .any ops (calmQ Q) (fun w' => w' = w) (fun l => l = fin) K T.length listed a w
  | [], listed, s, a, _, _, hf, h, ha, hu => ⟨hf, hK s a h ha hu⟩
  | i :: r, listed, s, a, hl, ho, hf, h, ha, hu => by
    simp only [readsOk, Bool.and_eq_true] at ho
    obtain ⟨⟨ho1, ho2⟩, ho3⟩ := ho
    unfold rdsS at h
    split at h
    · exact h.elim
    rename_i o hi
    have hd : ∀ t, o.dst = some t → D t := fun t ht => hD i o t hi ht
    have hr : i ∈ Region.ready .any ops listed := by simpa using ho1
    have hE : ∀ l : Array Bool, l.setIfInBounds i true = fin → i ∈ Region.ready .any ops l → ∀ j ∈ Region.ready .any ops l, j = i := by
      intro l hl' hil j hj
      have e : l = fin.setIfInBounds i false := by
        have h0 := (mem_ready.1 hil).1
        rw [← hl']
        have h2 : l[i]? = some false := by
          rw [Array.getD_eq_getD_getElem?] at h0
          cases hx : l[i]? with
          | none => rw [hx] at h0; cases h0
          | some b => rw [hx] at h0; simp at h0; subst h0; rfl
        have hlt : i < l.size := (Array.getElem?_eq_some_iff.1 h2).1
        apply Array.ext_getElem?
        intro k
        by_cases hk : i = k
        · subst hk
          rw [Array.getElem?_setIfInBounds_self_of_lt (by simpa using hlt), h2]
        · rw [Array.getElem?_setIfInBounds_ne hk, Array.getElem?_setIfInBounds_ne hk]
      rw [e, hl i (by simp)] at hj
      simpa using hj
    have take : ∀ (s' : FrS) (sv : SV) (v' : Value), At ds G W s' L R Φ a w → Unch D s0 (s'.fr L) → (∀ k o, sv = SV.ptr k o → (findT k L).isSome = true) → (isU (sv.val L) = false → v' = sv.val L) → YieldsIf P ops (fun w' => w' = w) o v' a → rdsS P W wr ops L R Φ r (s'.put o.dst sv) Kf →
        wpAnyK P .any ops (calmQ Q) (fun w' => w' = w) (fun l => l = fin) K (i :: r).length listed a w := by
      intro s' sv v' ha' hu' hp hv hy hk
      have ih := rdsS_sound (Q := Q) hsel hD hK r (listed.setIfInBounds i true) (s'.put o.dst sv) (a.put o.dst v') (fun j hj => hl j (List.mem_cons_of_mem _ hj)) ho3 hf hk (ha'.put o.dst (Ext.refl _) hp ha'.ctx ha'.st hv) (hu'.putS ha'.wf (Ext.refl _) hd)
      exact wpAnyK_first hi (Region.noSelect_spec hsel) (fun _ _ _ h => h) hE r.length listed a w (Region.free_spec hi ho2) hr hy rfl ih
    obtain ⟨s', ha', hu', h⟩ := guardS_sound hD h ha hu
    rcases h with ⟨hw, h⟩ | ⟨hw, h⟩
    · obtain ⟨sv, v', h1, h2, h3, h4⟩ := rdS_sound h ha'
      exact take s' sv v' ha' hu' h2 h3 (.inl ⟨hw, fun w' e => by subst e; exact h4⟩) h1
    · exact take s' (.v undef) undef ha' hu' (fun k o e => by cases e) (fun _ => rfl) (.inr ⟨hw, rfl⟩) h

theorem stg_reads {Q : Exit → Act → World → Prop} {L : List Tr} {R : List Own} {Φ : PW} {w : World} {Kf : FrS → Prop} {m : Nat} (hsel : Region.noSelect ops = true)
    (hD : ∀ (j : Nat) (o : Oper) (t : Nat), ops[j]? = some o → o.dst = some t → D t) {T : List Nat} {listed : Array Bool} {s : FrS} {a : Act}
    (hK : ∀ s a, Kf s → At ds G W s L R Φ a w → Unch D s0 (s.fr L) → wpAny P .any ops (calmQ Q) m (listAll T listed) a w) (ho1 : readsOk ops T listed = true) (ho2 : lastOk ops T (listAll T listed) = true) (h : rdsS P W wr ops L R Φ T s Kf)
    (ha : At ds G W s L R Φ a w) (hu : Unch D s0 (s.fr L)) : wpAny P .any ops (calmQ Q) (T.length + m) listed a w := by
  have hl : ∀ j ∈ T, Region.ready .any ops ((listAll T listed).setIfInBounds j false) = [j] := by
    intro j hj
    have := List.all_eq_true.1 ho2 j hj
    simpa using this
  refine wpAny_of_K (S := fun w' => w' = w) (E := fun l => l = listAll T listed) (K := fun a' w' => w' = w ∧ wpAny P .any ops (calmQ Q) m (listAll T listed) a' w) ?_ T.length listed a w ?_
  · rintro l a w1 rfl ⟨rfl, hk⟩; exact hk
  · exact rdsS_sound hsel hD (fun s a hk ha hu => ⟨rfl, hK s a hk ha hu⟩) T listed s a hl ho1 rfl h ha hu

theorem loadT_all {t : TypeId} {L : List Tr} {k off : Nat} {K : Value → Prop} {T : Tr} (hT : findT k L = some T) (h : loadT P t L k off K) :
    ∃ v, K v ∧ ∀ w : World, Blk w T.b T.cs T.t → (loadVar t ⟨T.b, off, none⟩).run P w = .ok v w := by
  unfold loadT at h
  rw [hT] at h
  split at h
  · rename_i T' d i e hd hi
    cases e
    split at h
    · rename_i l ha hz
      split at h
      · rename_i hc
        simp only [Bool.and_eq_true] at hc
        have hlen := Nat.eq_of_beq_eq_true hc.1
        have hfit : ∀ {l : List Sc} {vs : List Value}, fitL l vs = true → vs.length = l.length := by
          intro l
          induction l with
          | nil => intro vs h; cases vs <;> simp_all [fitL]
          | cons s r ih =>
            intro vs h
            cases vs with
            | nil => simp [fitL] at h
            | cons v vs =>
              unfold fitL at h
              split at h
              · simp [ih h]
              · cases h
        refine ⟨_, h, fun w hb => ?_⟩
        have hl2 := hfit hc.2
        rw [hlen] at hl2
        have hrow : RowAt w T.b off ((T.cs.drop off).take i.size) := hb.row fun j hj => by
          simp only [List.length_take, List.length_drop] at hj
          rw [List.getElem_take, List.getElem_drop, List.getElem?_eq_getElem]
        generalize (T.cs.drop off).take i.size = vs at hl2 hrow
        have hr := run_loadCellsFrom (P := P) (w := w) (b := T.b) (o := off) vs 0 #[] (fun j hj => by rw [Nat.zero_add]; exact hrow j hj)
        unfold loadVar loadCells
        simp only [Sem.run_bind, run_isAgg hd, ha, Result.andThen, if_true, run_sizeOf hi, ← hl2, hr, Sem.run_pure]
        simp
      · exact h.elim
    · rename_i sc ha hz
      split at h
      · rename_i v hv
        have one : ∀ w : World, Blk w T.b T.cs T.t → (loadVar t ⟨T.b, off, none⟩).run P w = .ok v w := by
          intro w hb
          have hcell := hb.cell_eq hv
          unfold loadVar
          simp only [Sem.run_bind, run_isAgg hd, ha, Result.andThen, Bool.false_eq_true, if_false, load, Sem.run, hcell]
        split at h
        · obtain ⟨f, a, c, rfl, h⟩ := h
          exact ⟨_, h, one⟩
        · split at h
          · exact ⟨v, h, one⟩
          · exact h.elim
      · exact h.elim
    · exact h.elim
  · exact h.elim

theorem readS_free {wr : Bool} {o : Oper} {s : FrS} {L : List Tr} {Q0 : List Own} {Φ0 : PW} {K : SV → Prop} {p : Prop} (hst : Stable Φ0) (hwf : WfS L s) (h : readS P W wr o s L [] Φ0 K = some p) (hp : p) (hu : heapU P o s L K = false) :
    ∃ sv, K sv ∧ (∀ k o, sv = SV.ptr k o → (findT k L).isSome = true) ∧ ∀ w', Ctx W w' (Q0 ++ (L.map Tr.own ++ G)) Φ0 → (execOp (s.val L) o).run P w' = .ok (.value (sv.val L)) w' := by
  have viaW : ∀ {p : Prop}, heapOp P o (s.val L) (fun v => K (.v v)) = false → quietK P wr o (s.val L) W none (fun v => K (.v v)) = some p → p →
      ∃ sv, K sv ∧ (∀ k o, sv = SV.ptr k o → (findT k L).isSome = true) ∧ ∀ w', Ctx W w' (Q0 ++ (L.map Tr.own ++ G)) Φ0 → (execOp (s.val L) o).run P w' = .ok (.value (sv.val L)) w' := by
    intro p hf hq hp
    obtain ⟨v, h1, h2⟩ := quiet_free W W hq hf hp
    exact ⟨.v v, h2, fun k o e => (by cases e), fun w' _ => h1 w'⟩
  unfold readS at h
  split at h
  · rename_i x hop
    cases h
    exact ⟨s.ev x, hp, fun k o e => hwf.ev e, fun w' _ => by simp [execOp, hop, FrS.val]⟩
  · rename_i x hop
    cases h
    exact ⟨s.ev x, hp, fun k o e => hwf.ev e, fun w' _ => by simp [execOp, hop, FrS.val]⟩
  · rename_i x hop
    split at h
    · rename_i k off hx
      cases h
      obtain ⟨T, hT⟩ := Option.isSome_iff_exists.1 (hwf.ev hx)
      refine ⟨.ptr k off, hp, fun k' o' e => by cases e; rw [hT]; rfl, fun w' _ => ?_⟩
      have hv : s.val L x = .pointer (some ⟨T.b, off, none⟩) := by rw [FrS.val, hx, val_ptr hT]
      simp [execOp, hop, hv, val_ptr hT]
    · exact viaW (by simp [heapOp, hop]) h hp
  · rename_i t x f hop
    split at h
    · rename_i k off hx
      cases h
      obtain ⟨T, hT⟩ := Option.isSome_iff_exists.1 (hwf.ev hx)
      obtain ⟨off', h1, h2⟩ := fieldT_sound hT hp
      refine ⟨.ptr k off', h2, fun k' o' e => by cases e; rw [hT]; rfl, fun w' _ => ?_⟩
      have hv : s.val L x = .pointer (some ⟨T.b, off, none⟩) := by rw [FrS.val, hx, val_ptr hT]
      simp [execOp, hop, hv, val_ptr hT, h1 w', Result.andThen]
    · exact viaW (by simp [heapOp, hop]) h hp
  · rename_i t x i hop
    split at h
    · rename_i k off hx
      cases h
      obtain ⟨T, hT⟩ := Option.isSome_iff_exists.1 (hwf.ev hx)
      obtain ⟨off', h1, h2⟩ := indexT_sound hT hp
      refine ⟨.ptr k off', h2, fun k' o' e => by cases e; rw [hT]; rfl, fun w' _ => ?_⟩
      have hv : s.val L x = .pointer (some ⟨T.b, off, none⟩) := by rw [FrS.val, hx, val_ptr hT]
      simp [execOp, hop, hv, val_ptr hT, h1 w', Result.andThen]
    · exact viaW (by simp [heapOp, hop]) h hp
  · rename_i t x hop
    split at h
    · rename_i k off hx
      cases h
      obtain ⟨T, hT⟩ := Option.isSome_iff_exists.1 (hwf.ev hx)
      obtain ⟨v, h2, h1⟩ := loadT_all hT hp
      refine ⟨.v v, h2, fun k o e => (by cases e), fun w' hS => ?_⟩
      have hb : Blk w' T.b T.cs T.t := CtxS.blk (show CtxS G W w' L Q0 Φ0 from hS) hT
      have hv : s.val L x = .pointer (some ⟨T.b, off, none⟩) := by rw [FrS.val, hx, val_ptr hT]
      simp [execOp, hop, hv, Instr.loadAt, Instr.sureAddr, h1 w' hb, Result.andThen, SV.val]
    · rename_i x' hx
      unfold heapU at hu
      simp only [hop, hx] at hu
      cases hu
  · rename_i hop
    unfold heapU at hu
    simp only [hop] at hu
    simp [heapOp, hop] at hu
  · rename_i n1 n2 n3 n4 n5 n6 n7
    have hu' : heapOp P o (s.val L) (fun v => K (.v v)) = false := by
      clear h viaW
      unfold heapU at hu
      split at hu
      · rename_i t x hop; exact absurd hop (n6 t x)
      · rename_i x hop; exact absurd hop (n1 x)
      · rename_i x hop; exact absurd hop (n2 x)
      · rename_i x hop; exact absurd hop (n3 x)
      · rename_i t x f hop; exact absurd hop (n4 t x f)
      · rename_i t x f hop; exact absurd hop (n5 t x f)
      · exact hu
    rw [hu'] at h
    simp only at h
    exact viaW hu' h hp

theorem hrS_sound {wr : Bool} {o : Oper} {s : FrS} {L : List Tr} {R : List Own} {Φ Φ0 : PW} {Q0 : List Own} {a : Act} {w : World} {K : SV → Prop} (hst : Stable Φ0) (h : hrS P W wr o s L Q0 Φ0 K) (ha : At ds G W s L R Φ a w) (hw : Ctx W w (Q0 ++ (L.map Tr.own ++ G)) Φ0) :
    ∃ sv v', K sv ∧ (∀ k o, sv = SV.ptr k o → (findT k L).isSome = true) ∧ (isU (sv.val L) = false → v' = sv.val L) ∧ ∀ w', Ctx W w' (Q0 ++ (L.map Tr.own ++ G)) Φ0 → (execOp a.eval o).run P w' = .ok (.value v') w' := by
  have hev := fr_eval s L
  unfold hrS at h
  split at h
  · rename_i cc x y hop
    split at h
    · rename_i b hc
      have hc' : a.eval cc = .bool b := by rw [ha.sim.eval (by rw [hev, hc]; rfl), hev, hc]
      cases b with
      | true =>
        exact ⟨s.ev x, a.eval x, h, fun k o e => ha.wf.ev e, fun hu => by rw [ha.sim.eval (by rw [hev]; exact hu), hev]; rfl, fun w' _ => by simp only [execOp, hop, hc', asBool, Sem.run_bind, Sem.run_pure, Result.andThen, if_true]⟩
      | false =>
        exact ⟨s.ev y, a.eval y, h, fun k o e => ha.wf.ev e, fun hu => by rw [ha.sim.eval (by rw [hev]; exact hu), hev]; rfl, fun w' _ => by simp [execOp, hop, hc', asBool, Sem.run_bind, Sem.run_pure, Result.andThen]⟩
    · exact h.elim
  · split at h
    · rename_i ho
      simp only [Bool.and_eq_true] at ho
      rw [exec_sim ha.sim ho.1 ho.2, show (s.fr L).eval = s.val L from funext hev]
      split at h
      · obtain ⟨v, h1, h2⟩ := resK_some h
        refine ⟨.v v, v, h2, fun k o e => (by cases e), fun _ => rfl, fun w' hS => ?_⟩
        obtain ⟨u, h3, h4⟩ := optP_quiet (w := w') (h1 w' _ hS)
        subst h4
        exact h3 w' rfl
      · rename_i hu
        unfold optP at h
        split at h
        · rename_i p hp
          obtain ⟨sv, h1, h2, h3⟩ := readS_free hst ha.wf hp h (by simpa using hu)
          exact ⟨sv, _, h1, h2, fun _ => rfl, h3⟩
        · exact h.elim
    · exact h.elim

theorem getD_set_of_true {l : Array Bool} {i k : Nat} (h : l.getD k false = true) : (l.setIfInBounds i true).getD k false = true := by
  rw [Array.getD_eq_getD_getElem?] at h ⊢
  by_cases hk : i = k
  · subst hk
    rcases Nat.lt_or_ge i l.size with h' | h'
    · rw [Array.getElem?_setIfInBounds_self_of_lt h']; rfl
    · rw [Array.getElem?_eq_none (by simpa using h')] at h; cases h
  · rwa [Array.getElem?_setIfInBounds_ne hk]

theorem closed_add {ops : Array Oper} {listed : Array Bool} {i : Nat} (hc : closedB ops listed = true) (hr : i ∈ Region.ready .any ops listed) : closedB ops (listed.setIfInBounds i true) = true := by
  unfold closedB at hc ⊢
  rw [List.all_eq_true] at hc ⊢
  intro k hk
  have h0 := hc k hk
  obtain ⟨_, oi, hoi, hall⟩ := mem_ready.1 hr
  by_cases hki : i = k
  · subst hki
    simp only [hoi]
    rw [Bool.or_eq_true]
    right
    rw [List.all_eq_true]
    intro e he
    cases hb : Region.binds .any e with
    | false => rfl
    | true =>
      rw [Bool.or_eq_true]
      exact .inr (getD_set_of_true (hall e (by simpa using he) hb))
  · rw [getD_set_ne true hki]
    rw [Bool.or_eq_true] at h0 ⊢
    rcases h0 with h0 | h0
    · exact .inl h0
    · right
      split at h0
      · rfl
      · rw [List.all_eq_true] at h0 ⊢
        intro e he
        have := h0 e he
        rw [Bool.or_eq_true] at this ⊢
        rcases this with h | h
        · exact .inl h
        · exact .inr (getD_set_of_true h)

theorem wpAnyK_firstC {P : Program} {ops : Array Oper} {Q : Exit → Act → World → Prop} {S : World → Prop} {E : Array Bool → Prop} {K : Act → World → Prop} {i : Nat} {oi : Oper} {v : Value} (hi : ops[i]? = some oi) (hsel : ∀ (j : Nat) (o : Oper) cs b, ops[j]? = some o → o.op ≠ .select cs b)
    (hQ : ∀ c a w, Q (.panic c) (a.put oi.dst v) w → Q (.panic c) a w) (hE : ∀ listed, closedB ops listed = true → E (listed.setIfInBounds i true) → i ∈ Region.ready .any ops listed → ∀ j ∈ Region.ready .any ops listed, j = i) :
    ∀ (n : Nat) (listed : Array Bool) (a : Act) (w : World), closedB ops listed = true →
      (∀ j oj, ops[j]? = some oj → j ≠ i → listed.getD j true = false → (∀ e ∈ oj.after, Region.binds .any e = true → e.on ≠ i) → oi.apart ops oj = true) →
      i ∈ Region.ready .any ops listed → YieldsIf P ops S oi v a → S w →
      wpAnyK P .any ops Q S E K n (listed.setIfInBounds i true) (a.put oi.dst v) w → wpAnyK P .any ops Q S E K (n + 1) listed a w := by
  intro n
  induction n with
  | zero =>
    intro listed a w hc _ hr hy hS H
    refine ⟨fun h => (by rw [h] at hr; cases hr), fun j hj => ?_⟩
    have := hE listed hc H.1 hr j hj
    subst this
    exact hy.wpOp hi hS ⟨hS, H⟩
  | succ n ih =>
    intro listed a w hc hfree hr hy hS H
    refine ⟨fun h => (by rw [h] at hr; cases hr), fun j hj => ?_⟩
    by_cases hji : j = i
    · subst hji; exact hy.wpOp hi hS ⟨hS, H⟩
    · have h1 := H.2 j (ready_mono hj hji)
      obtain ⟨hjun, oj, hoj, hall⟩ := mem_ready.1 hj
      have hnot : ∀ e ∈ oj.after, Region.binds .any e = true → e.on ≠ i := fun e he hb heq => by
        have h1 := hall e he hb
        have h0 := (mem_ready.1 hr).1
        rw [heq] at h1
        rcases Nat.lt_or_ge i listed.size with h' | h'
        · simp [h'] at h0 h1; rw [h0] at h1; cases h1
        · simp [Array.getElem?_eq_none h'] at h1
      have h2 := wpOp_putIf hoj (hfree j oj hoj hji hjun hnot) (fun cs b => hsel i oi cs b hi) (fun cs b => hsel j oj cs b hoj) hQ hy h1
      have hfree' : ∀ k ok, ops[k]? = some ok → k ≠ i → (listed.setIfInBounds j true).getD k true = false →
          (∀ e ∈ ok.after, Region.binds .any e = true → e.on ≠ i) → oi.apart ops ok = true := fun k ok hk hki hun hno => by
        refine hfree k ok hk hki ?_ hno
        by_cases hjk : j = k
        · subst hjk; exact hjun
        · rw [getD_set_ne true hjk] at hun; exact hun
      refine wpOp_mono (fun a' w' h3 => ⟨h3.2.1, ih (listed.setIfInBounds j true) a' w' (closed_add hc hj) hfree' (ready_mono hr (Ne.symm hji)) h3.1 h3.2.1 ?_⟩) h2
      rw [Array.setIfInBounds_comm _ _ hji]
      exact h3.2.2

theorem hS_sound {Q : Exit → Act → World → Prop} {L : List Tr} {Q0 : List Own} {Φ0 : PW} {Kf : FrS → List Own → PW → Prop} {K : Act → World → Prop} {fin : Array Bool} (hsel : Region.noSelect ops = true) (hst0 : Stable Φ0)
    (hD : ∀ (j : Nat) (o : Oper) (t : Nat), ops[j]? = some o → o.dst = some t → D t) (hK : ∀ s R Φ a w, Kf s R Φ → At ds G W s L R Φ a w → Unch D s0 (s.fr L) → K a w) :
    ∀ (ord : List (Nat × Bool)) (listed : Array Bool) (s : FrS) (R : List Own) (Φ : PW) (a : Act) (w : World), (∀ i ∈ stillOf ord, Region.ready .any ops (fin.setIfInBounds i false) = [i] ∨ closedB ops (fin.setIfInBounds i false) = false) → closedB ops listed = true → heldOk ops ord listed = true → listAll (ord.map (·.1)) listed = fin →
      hS P W wr ops L Q0 Φ0 ord s R Φ Kf → At ds G W s L R Φ a w → (∀ w F, Ctx W w (R ++ F) Φ → Ctx W w (Q0 ++ F) Φ0) → Unch D s0 (s.fr L) → wpAnyK P .any ops (calmQ Q) (fun w' => Ctx W w' (Q0 ++ (L.map Tr.own ++ G)) Φ0) (fun l => l = fin) K ord.length listed a w
  | [], listed, s, R, Φ, a, w, _, _, _, hf, h, ha, hΦ, hu => ⟨hf, hK s R Φ a w h ha hu⟩
  | (i, still) :: r, listed, s, R, Φ, a, w, hl, hcl, ho, hf, h, ha, hΦ, hu => by
    unfold hS at h
    split at h
    · exact h.elim
    rename_i o hi
    have hd : ∀ t, o.dst = some t → D t := fun t ht => hD i o t hi ht
    have hw : Ctx W w (Q0 ++ (L.map Tr.own ++ G)) Φ0 := hΦ _ _ ha.ctx
    obtain ⟨s', ha', hu', h⟩ := guardS_sound hD h ha hu
    cases still with
    | true =>
      simp only [heldOk, Bool.and_eq_true] at ho
      obtain ⟨⟨ho1, ho2⟩, ho3⟩ := ho
      have hr : i ∈ Region.ready .any ops listed := by simpa using ho1
      have hE : ∀ l : Array Bool, closedB ops l = true → l.setIfInBounds i true = fin → i ∈ Region.ready .any ops l → ∀ j ∈ Region.ready .any ops l, j = i := by
        intro l hcc hl' hil j hj
        have e : l = fin.setIfInBounds i false := by
          have h0 := (mem_ready.1 hil).1
          rw [← hl']
          have h2 : l[i]? = some false := by
            rw [Array.getD_eq_getD_getElem?] at h0
            cases hx : l[i]? with
            | none => rw [hx] at h0; cases h0
            | some b => rw [hx] at h0; simp at h0; subst h0; rfl
          have hlt : i < l.size := (Array.getElem?_eq_some_iff.1 h2).1
          apply Array.ext_getElem?
          intro k
          by_cases hk : i = k
          · subst hk
            rw [Array.getElem?_setIfInBounds_self_of_lt (by simpa using hlt), h2]
          · rw [Array.getElem?_setIfInBounds_ne hk, Array.getElem?_setIfInBounds_ne hk]
        rcases hl i (by simp [stillOf]) with h1 | h1
        · rw [e, h1] at hj
          simpa using hj
        · rw [e, h1] at hcc; cases hcc
      have take : ∀ (s' : FrS) (sv : SV) (v' : Value), At ds G W s' L R Φ a w → Unch D s0 (s'.fr L) → (∀ k o, sv = SV.ptr k o → (findT k L).isSome = true) → (isU (sv.val L) = false → v' = sv.val L) →
          YieldsIf P ops (fun w' => Ctx W w' (Q0 ++ (L.map Tr.own ++ G)) Φ0) o v' a → hS P W wr ops L Q0 Φ0 r (s'.put o.dst sv) R Φ Kf →
          wpAnyK P .any ops (calmQ Q) (fun w' => Ctx W w' (Q0 ++ (L.map Tr.own ++ G)) Φ0) (fun l => l = fin) K ((i, true) :: r).length listed a w := by
        intro s' sv v' ha' hu' hp hv hy hk
        have ih := hS_sound (Q := Q) hsel hst0 hD hK r (listed.setIfInBounds i true) (s'.put o.dst sv) R Φ (a.put o.dst v') w (fun j hj => hl j (by simp [stillOf, hj])) (closed_add hcl hr) ho3 hf hk (ha'.put o.dst (Ext.refl _) hp ha'.ctx ha'.st hv) hΦ (hu'.putS ha'.wf (Ext.refl _) hd)
        exact wpAnyK_firstC hi (Region.noSelect_spec hsel) (fun _ _ _ h => h) hE r.length listed a w hcl (Region.free_spec hi ho2) hr hy hw ih
      rcases h with ⟨hwt, h⟩ | ⟨hwt, h⟩
      · obtain ⟨sv, v', h1, h2, h3, h4⟩ := hrS_sound hst0 h ha' hw
        exact take s' sv v' ha' hu' h2 h3 (.inl ⟨hwt, h4⟩) h1
      · exact take s' (.v undef) undef ha' hu' (fun k o e => by cases e) (fun _ => rfl) (.inr ⟨hwt, rfl⟩) h
    | false =>
      simp only [heldOk, Bool.and_eq_true, beq_iff_eq] at ho
      obtain ⟨ho1, ho2⟩ := ho
      have hcl' := closed_add hcl (show i ∈ Region.ready .any ops listed by rw [ho1]; simp)
      refine ⟨by rw [ho1]; simp, fun j hj => ?_⟩
      rw [ho1] at hj
      have hj : j = i := by simpa using hj
      subst hj
      unfold wpOp
      simp only [hi]
      rcases h with ⟨hwt, h⟩ | ⟨hwt, h⟩
      · simp only [hwt, if_true]
        have := ha'.st
        refine .inl (Oper.wp_of_goOn (opS_sound h ha'.sim ha'.wf ha'.ctx fun sv L' R' Φ' v' w' hk hst hext hp hc hv => ?_))
        split at hk
        · rename_i x hs
          obtain ⟨hΦ', hk⟩ := hk
          have hcL : CtxS G W w' L R' Φ' := by
            have := CtxS.meet (ts := []) hst hc hext ha'.ids hs
            rwa [show meetT [] (cellsOf [] L') L = L from meetT_nil L] at this
          refine ⟨hΦ' _ _ hcL, ?_⟩
          exact hS_sound hsel hst0 hD hK r _ _ _ _ _ _ (fun j hj => hl j (by simp [stillOf, hj])) hcl' ho2 hf hk (ha'.put o.dst (Ext.refl _) (fun k o e => by cases e) hcL hst hv) hΦ' (hu'.putS ha'.wf (Ext.refl _) hd)
        · exact hk.elim
      · simp only [hwt, Bool.false_eq_true, if_false]
        exact ⟨hw, hS_sound hsel hst0 hD hK r _ _ _ _ _ _ (fun j hj => hl j (by simp [stillOf, hj])) hcl' ho2 hf h (ha'.put o.dst (Ext.refl _) (fun k o e => by cases e) ha'.ctx ha'.st (fun _ => rfl)) hΦ (hu'.putS ha'.wf (Ext.refl _) hd)⟩

theorem tS_sound {Q : Exit → Act → World → Prop} {L : List Tr} {Q0 : List Own} {Φ0 : PW} {Kf : FrS → List Own → PW → Prop} {K : Act → World → Prop} {fin : Array Bool} (hsel : Region.noSelect ops = true) (hst0 : Stable Φ0)
    (hD : ∀ (j : Nat) (o : Oper) (t : Nat), ops[j]? = some o → o.dst = some t → D t) (hK : ∀ s R Φ a w, Kf s R Φ → At ds G W s L R Φ a w → Unch D s0 (s.fr L) → K a w) : ∀ (t : OT),
    (∀ (n : Nat) (listed : Array Bool) (s : FrS) (R : List Own) (Φ : PW) (a : Act) (w : World), closedB ops listed = true → otOk ops fin t false n listed = true →
      tS P W wr ops L Q0 Φ0 t s R Φ Kf → At ds G W s L R Φ a w → (∀ w F, Ctx W w (R ++ F) Φ → Ctx W w (Q0 ++ F) Φ0) → Unch D s0 (s.fr L) → wpAnyK P .any ops (calmQ Q) (fun w' => Ctx W w' (Q0 ++ (L.map Tr.own ++ G)) Φ0) (fun l => l = fin) K n listed a w) ∧
    (∀ (n : Nat) (listed : Array Bool) (s : FrS) (R : List Own) (Φ : PW) (a : Act) (w : World), closedB ops listed = true → (∀ j ∈ heads t, j ∈ Region.ready .any ops listed) → otOk ops fin t true n listed = true →
      tS P W wr ops L Q0 Φ0 t s R Φ Kf → At ds G W s L R Φ a w → (∀ w F, Ctx W w (R ++ F) Φ → Ctx W w (Q0 ++ F) Φ0) → Unch D s0 (s.fr L) → ∀ j ∈ heads t, wpOp P ops (calmQ Q) j (fun a' w' => Ctx W w' (Q0 ++ (L.map Tr.own ++ G)) Φ0 ∧
        wpAnyK P .any ops (calmQ Q) (fun w' => Ctx W w' (Q0 ++ (L.map Tr.own ++ G)) Φ0) (fun l => l = fin) K n (listed.setIfInBounds j true) a' w') a w)
  | .done => by
    refine ⟨fun n listed s R Φ a w hcl ho h ha hΦ hu => ?_, fun n listed s R Φ a w _ _ ho => by simp [otOk] at ho⟩
    cases n with
    | zero => exact ⟨by simpa [otOk] using ho, hK s R Φ a w h ha hu⟩
    | succ n => simp [otOk] at ho
  | .no => by
    refine ⟨fun n listed s R Φ a w _ ho => by simp [otOk] at ho, fun n listed s R Φ a w _ _ ho h ha hΦ hu j hj => by simp [heads] at hj⟩
  | .rd i k => by
    refine ⟨fun n listed s R Φ a w hcl ho h ha hΦ hu => ?_, fun n listed s R Φ a w _ _ ho => by simp [otOk] at ho⟩
    cases n with
    | zero => simp [otOk] at ho
    | succ n =>
      simp only [otOk, Bool.and_eq_true] at ho
      obtain ⟨⟨⟨ho1, ho2⟩, hl⟩, ho3⟩ := ho
      have hl : Region.ready .any ops (fin.setIfInBounds i false) = [i] ∨ closedB ops (fin.setIfInBounds i false) = false := by simpa using hl
      unfold tS at h
      split at h
      · exact h.elim
      rename_i o hi
      have hd : ∀ t, o.dst = some t → D t := fun t ht => hD i o t hi ht
      have hw : Ctx W w (Q0 ++ (L.map Tr.own ++ G)) Φ0 := hΦ _ _ ha.ctx
      obtain ⟨s', ha', hu', h⟩ := guardS_sound hD h ha hu
      have hr : i ∈ Region.ready .any ops listed := by simpa using ho1
      have hE : ∀ l : Array Bool, closedB ops l = true → l.setIfInBounds i true = fin → i ∈ Region.ready .any ops l → ∀ j ∈ Region.ready .any ops l, j = i := by
        intro l hcc hl' hil j hj
        have e : l = fin.setIfInBounds i false := by
          have h0 := (mem_ready.1 hil).1
          rw [← hl']
          have h2 : l[i]? = some false := by
            rw [Array.getD_eq_getD_getElem?] at h0
            cases hx : l[i]? with
            | none => rw [hx] at h0; cases h0
            | some b => rw [hx] at h0; simp at h0; subst h0; rfl
          have hlt : i < l.size := (Array.getElem?_eq_some_iff.1 h2).1
          apply Array.ext_getElem?
          intro k
          by_cases hk : i = k
          · subst hk
            rw [Array.getElem?_setIfInBounds_self_of_lt (by simpa using hlt), h2]
          · rw [Array.getElem?_setIfInBounds_ne hk, Array.getElem?_setIfInBounds_ne hk]
        rcases hl with h1 | h1
        · rw [e, h1] at hj
          simpa using hj
        · rw [e, h1] at hcc; cases hcc
      have take : ∀ (s' : FrS) (sv : SV) (v' : Value), At ds G W s' L R Φ a w → Unch D s0 (s'.fr L) → (∀ k o, sv = SV.ptr k o → (findT k L).isSome = true) → (isU (sv.val L) = false → v' = sv.val L) →
          YieldsIf P ops (fun w' => Ctx W w' (Q0 ++ (L.map Tr.own ++ G)) Φ0) o v' a → tS P W wr ops L Q0 Φ0 k (s'.put o.dst sv) R Φ Kf →
          wpAnyK P .any ops (calmQ Q) (fun w' => Ctx W w' (Q0 ++ (L.map Tr.own ++ G)) Φ0) (fun l => l = fin) K (n + 1) listed a w := by
        intro s' sv v' ha' hu' hp hv hy hk
        have ih := (tS_sound (Q := Q) hsel hst0 hD hK k).1 n (listed.setIfInBounds i true) (s'.put o.dst sv) R Φ (a.put o.dst v') w (closed_add hcl hr) ho3 hk (ha'.put o.dst (Ext.refl _) hp ha'.ctx ha'.st hv) hΦ (hu'.putS ha'.wf (Ext.refl _) hd)
        exact wpAnyK_firstC hi (Region.noSelect_spec hsel) (fun _ _ _ h => h) hE n listed a w hcl (Region.free_spec hi ho2) hr hy hw ih
      rcases h with ⟨hwt, h⟩ | ⟨hwt, h⟩
      · obtain ⟨sv, v', h1, h2, h3, h4⟩ := hrS_sound hst0 h ha' hw
        exact take s' sv v' ha' hu' h2 h3 (.inl ⟨hwt, h4⟩) h1
      · exact take s' (.v undef) undef ha' hu' (fun k o e => by cases e) (fun _ => rfl) (.inr ⟨hwt, rfl⟩) h
  | .alt i k r => by
    have one : ∀ (n : Nat) (listed : Array Bool) (s : FrS) (R : List Own) (Φ : PW) (a : Act) (w : World), closedB ops listed = true → i ∈ Region.ready .any ops listed → otOk ops fin k false n (listed.setIfInBounds i true) = true →
        tS P W wr ops L Q0 Φ0 (.alt i k r) s R Φ Kf → At ds G W s L R Φ a w → (∀ w F, Ctx W w (R ++ F) Φ → Ctx W w (Q0 ++ F) Φ0) → Unch D s0 (s.fr L) → wpOp P ops (calmQ Q) i (fun a' w' => Ctx W w' (Q0 ++ (L.map Tr.own ++ G)) Φ0 ∧
          wpAnyK P .any ops (calmQ Q) (fun w' => Ctx W w' (Q0 ++ (L.map Tr.own ++ G)) Φ0) (fun l => l = fin) K n (listed.setIfInBounds i true) a' w') a w := by
      intro n listed s R Φ a w hcl hr ho h ha hΦ hu
      unfold tS at h
      replace h := h.1
      split at h
      · exact h.elim
      rename_i o hi
      have hd : ∀ t, o.dst = some t → D t := fun t ht => hD i o t hi ht
      have hw : Ctx W w (Q0 ++ (L.map Tr.own ++ G)) Φ0 := hΦ _ _ ha.ctx
      obtain ⟨s', ha', hu', h⟩ := guardS_sound hD h ha hu
      unfold wpOp
      simp only [hi]
      rcases h with ⟨hwt, h⟩ | ⟨hwt, h⟩
      · simp only [hwt, if_true]
        have := ha'.st
        refine .inl (Oper.wp_of_goOn (opS_sound h ha'.sim ha'.wf ha'.ctx fun sv L' R' Φ' v' w' hk hst hext hp hc hv => ?_))
        split at hk
        · rename_i x hs
          obtain ⟨hΦ', hk⟩ := hk
          have hcL : CtxS G W w' L R' Φ' := by
            have := CtxS.meet (ts := []) hst hc hext ha'.ids hs
            rwa [show meetT [] (cellsOf [] L') L = L from meetT_nil L] at this
          refine ⟨hΦ' _ _ hcL, ?_⟩
          exact (tS_sound hsel hst0 hD hK k).1 n _ _ _ _ _ _ (closed_add hcl hr) ho hk (ha'.put o.dst (Ext.refl _) (fun k o e => by cases e) hcL hst hv) hΦ' (hu'.putS ha'.wf (Ext.refl _) hd)
        · exact hk.elim
      · simp only [hwt, Bool.false_eq_true, if_false]
        exact ⟨hw, (tS_sound hsel hst0 hD hK k).1 n _ _ _ _ _ _ (closed_add hcl hr) ho h (ha'.put o.dst (Ext.refl _) (fun k o e => by cases e) ha'.ctx ha'.st (fun _ => rfl)) hΦ (hu'.putS ha'.wf (Ext.refl _) hd)⟩
    have more : ∀ (n : Nat) (listed : Array Bool) (s : FrS) (R : List Own) (Φ : PW) (a : Act) (w : World), closedB ops listed = true → (∀ j ∈ heads r, j ∈ Region.ready .any ops listed) → otOk ops fin r true n listed = true →
        tS P W wr ops L Q0 Φ0 (.alt i k r) s R Φ Kf → At ds G W s L R Φ a w → (∀ w F, Ctx W w (R ++ F) Φ → Ctx W w (Q0 ++ F) Φ0) → Unch D s0 (s.fr L) → ∀ j ∈ heads r, wpOp P ops (calmQ Q) j (fun a' w' => Ctx W w' (Q0 ++ (L.map Tr.own ++ G)) Φ0 ∧
          wpAnyK P .any ops (calmQ Q) (fun w' => Ctx W w' (Q0 ++ (L.map Tr.own ++ G)) Φ0) (fun l => l = fin) K n (listed.setIfInBounds j true) a' w') a w := by
      intro n listed s R Φ a w hcl hr ho h ha hΦ hu j hj
      unfold tS at h
      replace h := h.2
      have h : tS P W wr ops L Q0 Φ0 r s R Φ Kf := by
        cases r with
        | no => simp [heads] at hj
        | _ => exact h
      exact (tS_sound hsel hst0 hD hK r).2 n listed s R Φ a w hcl hr ho h ha hΦ hu j hj
    refine ⟨fun n listed s R Φ a w hcl ho h ha hΦ hu => ?_, fun n listed s R Φ a w hcl hr ho h ha hΦ hu j hj => ?_⟩
    · cases n with
      | zero => simp [otOk] at ho
      | succ n =>
        simp only [otOk, Bool.and_eq_true, beq_iff_eq] at ho
        obtain ⟨ho1, ho2, ho3⟩ := ho
        refine ⟨by rw [ho1]; simp, fun j hj => ?_⟩
        rw [ho1] at hj
        rcases List.mem_cons.1 hj with rfl | hj
        · exact one n listed s R Φ a w hcl (by rw [ho1]; simp) ho2 h ha hΦ hu
        · exact more n listed s R Φ a w hcl (fun j hj => by rw [ho1]; exact List.mem_cons_of_mem _ hj) ho3 h ha hΦ hu j hj
    · simp only [otOk, Bool.and_eq_true] at ho
      simp only [heads] at hj
      rcases List.mem_cons.1 hj with rfl | hj
      · exact one n listed s R Φ a w hcl (hr _ (by simp [heads])) ho.1 h ha hΦ hu
      · exact more n listed s R Φ a w hcl (fun j hj => hr j (by simp only [heads]; exact List.mem_cons_of_mem _ hj)) ho.2 h ha hΦ hu j hj

theorem readS_pure {wr : Bool} {o : Oper} {s : FrS} {L : List Tr} {K : SV → Prop} {p : Prop} (hwf : WfS L s) (h : readS P W wr o s L [] (fun _ _ => True) K = some p) (hp : p) (hu : heapU P o s L K = false) (hnl : ∀ t x, o.op ≠ .load t x) :
    ∃ sv, K sv ∧ (∀ k o, sv = SV.ptr k o → (findT k L).isSome = true) ∧ ∀ w', (execOp (s.val L) o).run P w' = .ok (.value (sv.val L)) w' := by
  have viaW : ∀ {p : Prop}, heapOp P o (s.val L) (fun v => K (.v v)) = false → quietK P wr o (s.val L) W none (fun v => K (.v v)) = some p → p →
      ∃ sv, K sv ∧ (∀ k o, sv = SV.ptr k o → (findT k L).isSome = true) ∧ ∀ w', (execOp (s.val L) o).run P w' = .ok (.value (sv.val L)) w' := by
    intro p hf hq hp
    obtain ⟨v, h1, h2⟩ := quiet_free W W hq hf hp
    exact ⟨.v v, h2, fun k o e => (by cases e), fun w' => h1 w'⟩
  unfold readS at h
  split at h
  · rename_i x hop
    cases h
    exact ⟨s.ev x, hp, fun k o e => hwf.ev e, fun w' => by simp [execOp, hop, FrS.val]⟩
  · rename_i x hop
    cases h
    exact ⟨s.ev x, hp, fun k o e => hwf.ev e, fun w' => by simp [execOp, hop, FrS.val]⟩
  · rename_i x hop
    split at h
    · rename_i k off hx
      cases h
      obtain ⟨T, hT⟩ := Option.isSome_iff_exists.1 (hwf.ev hx)
      refine ⟨.ptr k off, hp, fun k' o' e => by cases e; rw [hT]; rfl, fun w' => ?_⟩
      have hv : s.val L x = .pointer (some ⟨T.b, off, none⟩) := by rw [FrS.val, hx, val_ptr hT]
      simp [execOp, hop, hv, val_ptr hT]
    · exact viaW (by simp [heapOp, hop]) h hp
  · rename_i t x f hop
    split at h
    · rename_i k off hx
      cases h
      obtain ⟨T, hT⟩ := Option.isSome_iff_exists.1 (hwf.ev hx)
      obtain ⟨off', h1, h2⟩ := fieldT_sound hT hp
      refine ⟨.ptr k off', h2, fun k' o' e => by cases e; rw [hT]; rfl, fun w' => ?_⟩
      have hv : s.val L x = .pointer (some ⟨T.b, off, none⟩) := by rw [FrS.val, hx, val_ptr hT]
      simp [execOp, hop, hv, val_ptr hT, h1 w', Result.andThen]
    · exact viaW (by simp [heapOp, hop]) h hp
  · rename_i t x i hop
    split at h
    · rename_i k off hx
      cases h
      obtain ⟨T, hT⟩ := Option.isSome_iff_exists.1 (hwf.ev hx)
      obtain ⟨off', h1, h2⟩ := indexT_sound hT hp
      refine ⟨.ptr k off', h2, fun k' o' e => by cases e; rw [hT]; rfl, fun w' => ?_⟩
      have hv : s.val L x = .pointer (some ⟨T.b, off, none⟩) := by rw [FrS.val, hx, val_ptr hT]
      simp [execOp, hop, hv, val_ptr hT, h1 w', Result.andThen]
    · exact viaW (by simp [heapOp, hop]) h hp
  · rename_i t x hop; exact absurd hop (hnl t x)
  · rename_i hop
    unfold heapU at hu
    simp only [hop] at hu
    simp [heapOp, hop] at hu
  · rename_i n1 n2 n3 n4 n5 n6 n7
    have hu' : heapOp P o (s.val L) (fun v => K (.v v)) = false := by
      clear h viaW
      unfold heapU at hu
      split at hu
      · rename_i t x hop; exact absurd hop (n6 t x)
      · rename_i x hop; exact absurd hop (n1 x)
      · rename_i x hop; exact absurd hop (n2 x)
      · rename_i x hop; exact absurd hop (n3 x)
      · rename_i t x f hop; exact absurd hop (n4 t x f)
      · rename_i t x f hop; exact absurd hop (n5 t x f)
      · exact hu
    rw [hu'] at h
    simp only at h
    exact viaW hu' h hp

theorem prS_sound {wr : Bool} {o : Oper} {s : FrS} {L : List Tr} {R : List Own} {Φ Φ0 : PW} {Q0 : List Own} {a : Act} {w : World} {K : SV → Prop} (h : prS P W wr o s L Q0 Φ0 K) (ha : At ds G W s L R Φ a w) :
    ∃ sv v', K sv ∧ (∀ k o, sv = SV.ptr k o → (findT k L).isSome = true) ∧ (isU (sv.val L) = false → v' = sv.val L) ∧ ∀ w', (∃ S, Ctx W w' (Q0 ++ S) Φ0) → (execOp a.eval o).run P w' = .ok (.value v') w' := by
  have hev := fr_eval s L
  unfold prS at h
  split at h
  · rename_i cc x y hop
    split at h
    · rename_i b hc
      have hc' : a.eval cc = .bool b := by rw [ha.sim.eval (by rw [hev, hc]; rfl), hev, hc]
      cases b with
      | true =>
        exact ⟨s.ev x, a.eval x, h, fun k o e => ha.wf.ev e, fun hu => by rw [ha.sim.eval (by rw [hev]; exact hu), hev]; rfl, fun w' _ => by simp only [execOp, hop, hc', asBool, Sem.run_bind, Sem.run_pure, Result.andThen, if_true]⟩
      | false =>
        exact ⟨s.ev y, a.eval y, h, fun k o e => ha.wf.ev e, fun hu => by rw [ha.sim.eval (by rw [hev]; exact hu), hev]; rfl, fun w' _ => by simp [execOp, hop, hc', asBool, Sem.run_bind, Sem.run_pure, Result.andThen]⟩
    · exact h.elim
  · rename_i t x hop
    split at h
    · exact h.elim
    · split at h
      · rename_i ho
        simp only [Bool.and_eq_true] at ho
        rw [exec_sim ha.sim ho.1 ho.2, show (s.fr L).eval = s.val L from funext hev]
        obtain ⟨v, h1, h2⟩ := resK_some h
        refine ⟨.v v, v, h2, fun k o e => (by cases e), fun _ => rfl, fun w' ⟨S, hS⟩ => ?_⟩
        obtain ⟨u, h3, h4⟩ := optP_quiet (w := w') (h1 w' _ hS)
        subst h4
        exact h3 w' rfl
      · exact h.elim
  · rename_i np nl
    split at h
    · rename_i ho
      simp only [Bool.and_eq_true] at ho
      rw [exec_sim ha.sim ho.1 ho.2, show (s.fr L).eval = s.val L from funext hev]
      split at h
      · exact h.elim
      · rename_i hu
        unfold optP at h
        split at h
        · rename_i p hp
          obtain ⟨sv, h1, h2, h3⟩ := readS_pure ha.wf hp h (by simpa using hu) nl
          exact ⟨sv, _, h1, h2, fun _ => rfl, fun w' _ => h3 w'⟩
        · exact h.elim
    · exact h.elim

theorem fS_sound {Q : Exit → Act → World → Prop} {L0 : List Tr} {Q0 : List Own} {Φ0 : PW} {Kf : FrS → List Tr → List Own → PW → Prop} {K : Act → World → Prop} {fin : Array Bool} (hsel : Region.noSelect ops = true)
    (hD : ∀ (j : Nat) (o : Oper) (t : Nat), ops[j]? = some o → o.dst = some t → D t) (hK : ∀ s L R Φ a w, Kf s L R Φ → At ds G W s L R Φ a w → Ext L0 L → Unch D s0 (s.fr L) → K a w) :
    ∀ (ord : List (Nat × Bool)) (listed : Array Bool) (s : FrS) (L : List Tr) (R : List Own) (Φ : PW) (a : Act) (w : World), (∀ i ∈ stillOf ord, Region.ready .any ops (fin.setIfInBounds i false) = [i]) → heldOk ops ord listed = true → listAll (ord.map (·.1)) listed = fin →
      fS P W wr trk ops Q0 Φ0 ord s L R Φ Kf → At ds G W s L R Φ a w → (∀ w F, Ctx W w (R ++ F) Φ → Ctx W w (Q0 ++ F) Φ0) → Ext L0 L → Unch D s0 (s.fr L) → wpAnyK P .any ops (calmQ Q) (fun w' => ∃ S, Ctx W w' (Q0 ++ S) Φ0) (fun l => l = fin) K ord.length listed a w
  | [], listed, s, L, R, Φ, a, w, _, _, hf, h, ha, hΦ, he, hu => ⟨hf, hK s L R Φ a w h ha he hu⟩
  | (i, still) :: r, listed, s, L, R, Φ, a, w, hl, ho, hf, h, ha, hΦ, he, hu => by
    unfold fS at h
    split at h
    · exact h.elim
    rename_i o hi
    have hd : ∀ t, o.dst = some t → D t := fun t ht => hD i o t hi ht
    have hw : ∃ S, Ctx W w (Q0 ++ S) Φ0 := ⟨_, hΦ _ _ ha.ctx⟩
    obtain ⟨s', ha', hu', h⟩ := guardS_sound hD h ha hu
    cases still with
    | true =>
      simp only [heldOk, Bool.and_eq_true] at ho
      obtain ⟨⟨ho1, ho2⟩, ho3⟩ := ho
      have hr : i ∈ Region.ready .any ops listed := by simpa using ho1
      have hE : ∀ l : Array Bool, l.setIfInBounds i true = fin → i ∈ Region.ready .any ops l → ∀ j ∈ Region.ready .any ops l, j = i := by
        intro l hl' hil j hj
        have e : l = fin.setIfInBounds i false := by
          have h0 := (mem_ready.1 hil).1
          rw [← hl']
          have h2 : l[i]? = some false := by
            rw [Array.getD_eq_getD_getElem?] at h0
            cases hx : l[i]? with
            | none => rw [hx] at h0; cases h0
            | some b => rw [hx] at h0; simp at h0; subst h0; rfl
          have hlt : i < l.size := (Array.getElem?_eq_some_iff.1 h2).1
          apply Array.ext_getElem?
          intro k
          by_cases hk : i = k
          · subst hk
            rw [Array.getElem?_setIfInBounds_self_of_lt (by simpa using hlt), h2]
          · rw [Array.getElem?_setIfInBounds_ne hk, Array.getElem?_setIfInBounds_ne hk]
        rw [e, hl i (by simp [stillOf])] at hj
        simpa using hj
      have take : ∀ (s' : FrS) (sv : SV) (v' : Value), At ds G W s' L R Φ a w → Unch D s0 (s'.fr L) → (∀ k o, sv = SV.ptr k o → (findT k L).isSome = true) → (isU (sv.val L) = false → v' = sv.val L) →
          YieldsIf P ops (fun w' => ∃ S, Ctx W w' (Q0 ++ S) Φ0) o v' a → fS P W wr trk ops Q0 Φ0 r (s'.put o.dst sv) L R Φ Kf →
          wpAnyK P .any ops (calmQ Q) (fun w' => ∃ S, Ctx W w' (Q0 ++ S) Φ0) (fun l => l = fin) K ((i, true) :: r).length listed a w := by
        intro s' sv v' ha' hu' hp hv hy hk
        have ih := fS_sound (Q := Q) hsel hD hK r (listed.setIfInBounds i true) (s'.put o.dst sv) L R Φ (a.put o.dst v') w (fun j hj => hl j (by simp [stillOf, hj])) ho3 hf hk (ha'.put o.dst (Ext.refl _) hp ha'.ctx ha'.st hv) hΦ he (hu'.putS ha'.wf (Ext.refl _) hd)
        exact wpAnyK_first hi (Region.noSelect_spec hsel) (fun _ _ _ h => h) hE r.length listed a w (Region.free_spec hi ho2) hr hy hw ih
      rcases h with ⟨hwt, h⟩ | ⟨hwt, h⟩
      · obtain ⟨sv, v', h1, h2, h3, h4⟩ := prS_sound h ha'
        exact take s' sv v' ha' hu' h2 h3 (.inl ⟨hwt, h4⟩) h1
      · exact take s' (.v undef) undef ha' hu' (fun k o e => by cases e) (fun _ => rfl) (.inr ⟨hwt, rfl⟩) h
    | false =>
      simp only [heldOk, Bool.and_eq_true, beq_iff_eq] at ho
      obtain ⟨ho1, ho2⟩ := ho
      refine ⟨by rw [ho1]; simp, fun j hj => ?_⟩
      rw [ho1] at hj
      have hj : j = i := by simpa using hj
      subst hj
      unfold wpOp
      simp only [hi]
      rcases h with ⟨hwt, h⟩ | ⟨hwt, h⟩
      · simp only [hwt, if_true]
        have := ha'.st
        refine .inl (Oper.wp_of_goOn (opS_sound h ha'.sim ha'.wf ha'.ctx fun sv L' R' Φ' v' w' hk hst hext hp hc hv => ⟨⟨_, hk.1 _ _ hc⟩, ?_⟩))
        exact fS_sound hsel hD hK r _ _ _ _ _ _ _ (fun j hj => hl j (by simp [stillOf, hj])) ho2 hf hk.2 (ha'.put o.dst hext hp hc hst hv) hk.1 (he.trans hext) (hu'.putS ha'.wf hext hd)
      · simp only [hwt, Bool.false_eq_true, if_false]
        exact ⟨hw, fS_sound hsel hD hK r _ _ _ _ _ _ _ (fun j hj => hl j (by simp [stillOf, hj])) ho2 hf h (ha'.put o.dst (Ext.refl _) (fun k o e => by cases e) ha'.ctx ha'.st (fun _ => rfl)) hΦ he (hu'.putS ha'.wf (Ext.refl _) hd)⟩

theorem unset_of {x : Array Bool} {i b : Nat} (h : (x.setIfInBounds i true).getD b true = false) : b ≠ i ∧ x.getD b true = false := by
  rw [Array.getD_eq_getD_getElem?] at h
  by_cases e : i = b
  · subst e
    rcases Nat.lt_or_ge i x.size with h' | h'
    · rw [Array.getElem?_setIfInBounds_self_of_lt h'] at h; simp at h
    · rw [Array.getElem?_eq_none (by simpa using h')] at h; simp at h
  · rw [Array.getElem?_setIfInBounds_ne e] at h
    exact ⟨fun hh => e hh.symm, by rw [Array.getD_eq_getD_getElem?]; exact h⟩

/-- what holds all through such a region -/
def SD (ops : Array Oper) (W w0 : World) (Q0 : List Own) (Φ0 : PW) (dl : Option Nat) (Q1 : List Own) (Φ1 : PW) (B : List Nat) (x : Array Bool) (w : World) : Prop := closedB ops x = true ∧ (∃ S, Ctx W w (Q0 ++ S) Φ0) ∧ ((∃ b ∈ B, x.getD b true = false) → w = w0) ∧ ∀ d, dl = some d → x.getD d true = false → ∃ S, Ctx W w (Q1 ++ S) Φ1

theorem SD.down {W w0 : World} {Q0 Q1 : List Own} {Φ0 Φ1 : PW} {dl : Option Nat} {B : List Nat} {i : Nat} {x : Array Bool} {w : World} (hi : i ∈ Region.ready .any ops x) (h : SD ops W w0 Q0 Φ0 dl Q1 Φ1 B x w) : SD ops W w0 Q0 Φ0 dl Q1 Φ1 B (x.setIfInBounds i true) w :=
  ⟨closed_add h.1 hi, h.2.1, fun ⟨b, hb, hx⟩ => h.2.2.1 ⟨b, hb, (unset_of hx).2⟩, fun d hd hx => h.2.2.2 d hd (unset_of hx).2⟩

/-- an operation waits for another one, at once or through others -/
inductive Wt (ops : Array Oper) (b : Nat) : Nat → Prop
  | one {k : Nat} {o : Oper} {e : Edge} : ops[k]? = some o → e ∈ o.after → Region.binds .any e = true → e.on = b → Wt ops b k
  | more {k : Nat} {o : Oper} {e : Edge} : ops[k]? = some o → e ∈ o.after → Region.binds .any e = true → Wt ops b e.on → Wt ops b k

theorem waits_wt {b : Nat} : ∀ (l acc : List Nat), (∀ k ∈ acc, Wt ops b k) → ∀ k ∈ waits ops b l acc, Wt ops b k
  | [], _, h, k, hk => h k hk
  | j :: r, acc, h, k, hk => by
    unfold waits at hk
    refine waits_wt r _ ?_ k hk
    intro k hk
    split at hk
    · rename_i o ho
      split at hk
      · rename_i ha
        rcases List.mem_cons.1 hk with rfl | hk
        · simp only [Array.any_eq_true', Bool.and_eq_true, Bool.or_eq_true] at ha
          obtain ⟨e, he, hbd, hon⟩ := ha
          rcases hon with hon | hon
          · exact .one ho he hbd (Nat.eq_of_beq_eq_true hon)
          · exact .more ho he hbd (h _ (memB_iff.1 hon))
        · exact h k hk
      · exact h k hk
    · exact h k hk

theorem Wt.listed {b : Nat} {x : Array Bool} (hc : closedB ops x = true) {k : Nat} (h : Wt ops b k) : (∀ (o : Oper) (e : Edge), ops[k]? = some o → e ∈ o.after → Region.binds .any e = true → x.getD e.on false = true) → x.getD b false = true := by
  induction h with
  | one ho he hb hon => intro hall; rw [← hon]; exact hall _ _ ho he hb
  | @more k o e ho he hb _ ih =>
    intro hall
    have h1 := hall _ _ ho he hb
    refine ih fun o' e' ho' he' hb' => ?_
    have hlt : e.on < ops.size := (Array.getElem?_eq_some_iff.1 ho').1
    have h2 := List.all_eq_true.1 hc e.on (List.mem_range.2 hlt)
    have h3 : x.getD e.on true = true := by
      rw [Array.getD_eq_getD_getElem?] at h1 ⊢
      cases hx : x[e.on]? with
      | none => rfl
      | some c => rw [hx] at h1; simpa using h1
    rw [h3, ho'] at h2
    simp only [Bool.not_true, Bool.false_or] at h2
    have h4 := List.all_eq_true.1 h2 e' (by simpa using he')
    rw [hb'] at h4
    simpa using h4

theorem Wt.later {b d : Nat} {x : Array Bool} (hc : closedB ops x = true) (h : Wt ops b d) (hb : x.getD b true = false) : x.getD d true = false := by
  cases hd : x.getD d true with
  | false => rfl
  | true =>
    exfalso
    have h3 := h.listed hc fun o e ho he hbd => by
      have hlt : d < ops.size := (Array.getElem?_eq_some_iff.1 ho).1
      have h2 := List.all_eq_true.1 hc d (List.mem_range.2 hlt)
      rw [hd, ho] at h2
      simp only [Bool.not_true, Bool.false_or] at h2
      have h4 := List.all_eq_true.1 h2 e (by simpa using he)
      rw [hbd] at h4
      simpa using h4
    rw [Array.getD_eq_getD_getElem?] at h3 hb
    cases hx : x[b]? with
    | none => rw [hx] at h3; cases h3
    | some c => rw [hx] at h3 hb; simp at h3 hb; rw [h3] at hb; cases hb

theorem SD.mono {W w0 : World} {Q0 Q1 : List Own} {Φ0 Φ1 : PW} {dl : Option Nat} {B rd : List Nat} (haw : awaited ops rd B = true) {i : Nat} (hdl : dl ≠ some i) (x : Array Bool) (j : Nat) (w w' : World) (hi : i ∈ Region.ready .any ops x) (hj : j ∈ Region.ready .any ops x) (hji : j ≠ i)
    (h : SD ops W w0 Q0 Φ0 dl Q1 Φ1 B x w) (hrd : memB j rd = true → w' = w) (h' : SD ops W w0 Q0 Φ0 dl Q1 Φ1 B ((x.setIfInBounds i true).setIfInBounds j true) w') : SD ops W w0 Q0 Φ0 dl Q1 Φ1 B (x.setIfInBounds j true) w' := by
  refine ⟨closed_add h.1 hj, h'.2.1, fun ⟨b, hb, hx⟩ => ?_, fun d hd hx => h'.2.2.2 d hd (by rw [getD_set_ne true (Ne.symm (unset_of hx).1), getD_set_ne true (fun e => hdl (by rw [hd, e]))]; exact (unset_of hx).2)⟩
  obtain ⟨hbj, hxb⟩ := unset_of hx
  by_cases hbi : b = i
  · subst hbi
    have hw := h.2.2.1 ⟨b, hb, hxb⟩
    cases hm : memB j rd with
    | true => rw [hrd hm, hw]
    | false =>
      exfalso
      unfold awaited at haw
      have h1 := List.all_eq_true.1 haw b hb
      simp only [Bool.and_eq_true] at h1
      obtain ⟨_, o, ho, hall⟩ := mem_ready.1 hj
      have hlt : j < ops.size := (Array.getElem?_eq_some_iff.1 ho).1
      have h2 := List.all_eq_true.1 h1.2 j (List.mem_range.2 hlt)
      rw [hm] at h2
      simp only [Bool.false_or] at h2
      have hwt := waits_wt (ops := ops) (b := b) _ [] (fun k hk => by cases hk) j (memB_iff.1 h2)
      have h3 := hwt.listed h.1 fun o' e ho' he hbd => by
        rw [ho] at ho'
        cases ho'
        exact hall e he hbd
      rw [Array.getD_eq_getD_getElem?] at h3 hxb
      cases hx' : x[b]? with
      | none => rw [hx'] at h3; cases h3
      | some c => rw [hx'] at h3 hxb; simp at h3 hxb; rw [h3] at hxb; cases hxb
  · refine h'.2.2.1 ⟨b, hb, ?_⟩
    rw [getD_set_ne true (Ne.symm hbj), getD_set_ne true (Ne.symm hbi)]
    exact hxb

theorem readD {Q : Exit → Act → World → Prop} {w0 w : World} {Q0 Q1 : List Own} {Φ0 Φ1 : PW} {dl : Option Nat} {B rd : List Nat} {E : Array Bool → Prop} {K : Act → World → Prop} {fin : Array Bool} {n : Nat} {i : Nat} {o : Oper} {v : Value} {a : Act} {listed : Array Bool} (hsel : Region.noSelect ops = true)
    (haw : awaited ops rd B = true) (hdl : dl ≠ some i) (hEf : ∀ x, E x → x = fin) (hl : Region.ready .any ops (fin.setIfInBounds i false) = [i]) (hi : ops[i]? = some o) (hr : i ∈ Region.ready .any ops listed) (hf : Region.free .any ops listed i = true)
    (hy : YieldsIf P ops (fun w => ∃ x, i ∈ Region.ready .any ops x ∧ SD ops W w0 Q0 Φ0 dl Q1 Φ1 B x w) o v a) (hS : SD ops W w0 Q0 Φ0 dl Q1 Φ1 B listed w)
    (H : wpAnyD P .any ops (calmQ Q) (SD ops W w0 Q0 Φ0 dl Q1 Φ1 B) (fun j => memB j rd) E K n (listed.setIfInBounds i true) (a.put o.dst v) w) : wpAnyD P .any ops (calmQ Q) (SD ops W w0 Q0 Φ0 dl Q1 Φ1 B) (fun j => memB j rd) E K (n + 1) listed a w := by
  refine wpAnyD_first hi (Region.noSelect_spec hsel) (fun _ _ _ h => h) (fun l hl' hil j hj => ?_) (fun x w hi h => h.down hi) (SD.mono haw hdl) n listed a w (Region.free_spec hi hf) hr hy hS H
  have hl' := hEf _ hl'
  have e : l = fin.setIfInBounds i false := by
    have h0 := (mem_ready.1 hil).1
    rw [← hl']
    have h2 : l[i]? = some false := by
      rw [Array.getD_eq_getD_getElem?] at h0
      cases hx : l[i]? with
      | none => rw [hx] at h0; cases h0
      | some b => rw [hx] at h0; simp at h0; subst h0; rfl
    have hlt : i < l.size := (Array.getElem?_eq_some_iff.1 h2).1
    apply Array.ext_getElem?
    intro k
    by_cases hk : i = k
    · subst hk
      rw [Array.getElem?_setIfInBounds_self_of_lt (by simpa using hlt), h2]
    · rw [Array.getElem?_setIfInBounds_ne hk, Array.getElem?_setIfInBounds_ne hk]
  rw [e, hl] at hj
  simpa using hj

theorem ltD_sound {Q : Exit → Act → World → Prop} {L : List Tr} {R : List Own} {Φ Φ0 Φ1 : PW} {Q0 Q1 : List Own} {dl : Option Nat} {w0 w : World} {B rd : List Nat} {Kf : FrS → Prop} {K : Act → World → Prop} {E : Array Bool → Prop} {fin : Array Bool} {m : Nat} (hsel : Region.noSelect ops = true) (haw : awaited ops rd B = true) (hEf : ∀ x, E x → x = fin)
    (hD : ∀ (j : Nat) (o : Oper) (t : Nat), ops[j]? = some o → o.dst = some t → D t) :
    ∀ (T : List Nat) (listed : Array Bool) (s : FrS) (a : Act) (_ : ∀ i ∈ T, dl ≠ some i) (_ : ∀ s a, Kf s → At ds G W s L R Φ a w → Unch D s0 (s.fr L) → SD ops W w0 Q0 Φ0 dl Q1 Φ1 B (listAll T listed) w → wpAnyD P .any ops (calmQ Q) (SD ops W w0 Q0 Φ0 dl Q1 Φ1 B) (fun j => memB j rd) E K m (listAll T listed) a w),
      (∀ i ∈ T, Region.ready .any ops (fin.setIfInBounds i false) = [i]) → readsOk ops T listed = true → ltS P W wr ops L Q0 Φ0 T s Kf → At ds G W s L R Φ a w → Unch D s0 (s.fr L) → SD ops W w0 Q0 Φ0 dl Q1 Φ1 B listed w →
      wpAnyD P .any ops (calmQ Q) (SD ops W w0 Q0 Φ0 dl Q1 Φ1 B) (fun j => memB j rd) E K (T.length + m) listed a w
  | [], listed, s, a, hdl, hK, _, _, h, ha, hu, hS => by simp only [List.length_nil, Nat.zero_add]; exact hK s a h ha hu hS
  | i :: r, listed, s, a, hdl, hK, hl, ho, h, ha, hu, hS => by
    simp only [readsOk, Bool.and_eq_true] at ho
    obtain ⟨⟨ho1, ho2⟩, ho3⟩ := ho
    unfold ltS at h
    split at h
    · exact h.elim
    rename_i o hi
    have hd : ∀ t, o.dst = some t → D t := fun t ht => hD i o t hi ht
    have take : ∀ (s' : FrS) (sv : SV) (v' : Value), At ds G W s' L R Φ a w → Unch D s0 (s'.fr L) → (∀ k o, sv = SV.ptr k o → (findT k L).isSome = true) → (isU (sv.val L) = false → v' = sv.val L) →
        YieldsIf P ops (fun w => ∃ x, i ∈ Region.ready .any ops x ∧ SD ops W w0 Q0 Φ0 dl Q1 Φ1 B x w) o v' a → ltS P W wr ops L Q0 Φ0 r (s'.put o.dst sv) Kf →
        wpAnyD P .any ops (calmQ Q) (SD ops W w0 Q0 Φ0 dl Q1 Φ1 B) (fun j => memB j rd) E K ((i :: r).length + m) listed a w := by
      intro s' sv v' ha' hu' hp hv hy hk
      have ih := ltD_sound (Q := Q) hsel haw hEf hD r (listed.setIfInBounds i true) (s'.put o.dst sv) (a.put o.dst v') (fun j hj => hdl j (List.mem_cons_of_mem _ hj)) hK (fun j hj => hl j (List.mem_cons_of_mem _ hj)) ho3 hk (ha'.put o.dst (Ext.refl _) hp ha'.ctx ha'.st hv) (hu'.putS ha'.wf (Ext.refl _) hd) (hS.down (by simpa using ho1))
      rw [show (i :: r).length + m = (r.length + m) + 1 by simp; omega]
      exact readD hsel haw (hdl i (by simp)) hEf (hl i (by simp)) hi (by simpa using ho1) ho2 hy hS ih
    obtain ⟨s', ha', hu', h⟩ := guardS_sound hD h ha hu
    rcases h with ⟨hwt, h⟩ | ⟨hwt, h⟩
    · obtain ⟨sv, v', h1, h2, h3, h4⟩ := prS_sound h ha'
      exact take s' sv v' ha' hu' h2 h3 (.inl ⟨hwt, fun w' ⟨x, _, hx⟩ => h4 w' hx.2.1⟩) h1
    · exact take s' (.v undef) undef ha' hu' (fun k o e => by cases e) (fun _ => rfl) (.inr ⟨hwt, rfl⟩) h

theorem listAll_get {b : Nat} : ∀ (T : List Nat) (x : Array Bool), (b ∈ T ∨ x.getD b true = true) → (listAll T x).getD b true = true
  | [], x, h => by rcases h with h | h; cases h; exact h
  | i :: r, x, h => by
    unfold listAll
    refine listAll_get r _ ?_
    by_cases hbr : b ∈ r
    · exact .inl hbr
    · right
      cases hc : (x.setIfInBounds i true).getD b true with
      | true => rfl
      | false =>
        obtain ⟨h1, h2⟩ := unset_of hc
        rcases h with h | h
        · rcases List.mem_cons.1 h with h | h
          · exact absurd h h1
          · exact absurd h hbr
        · rw [h] at h2; cases h2

theorem iniS_sound {Q : Exit → Act → World → Prop} {L : List Tr} {R : List Own} {Φ Φ0 : PW} {Q0 : List Own} {w : World} {B rd : List Nat} {Kf : FrS → Prop} {K : Act → World → Prop} {E : Array Bool → Prop} {fin : Array Bool} {m : Nat} (hsel : Region.noSelect ops = true) (haw : awaited ops rd B = true) (hEf : ∀ x, E x → x = fin)
    (hD : ∀ (j : Nat) (o : Oper) (t : Nat), ops[j]? = some o → o.dst = some t → D t) :
    ∀ (T : List Nat) (listed : Array Bool) (s : FrS) (a : Act) (_ : ∀ s a, Kf s → At ds G W s L R Φ a w → Unch D s0 (s.fr L) → SD ops W w Q0 Φ0 none Q0 Φ0 B (listAll T listed) w → wpAnyD P .any ops (calmQ Q) (SD ops W w Q0 Φ0 none Q0 Φ0 B) (fun j => memB j rd) E K m (listAll T listed) a w),
      (∀ i ∈ T, Region.ready .any ops (fin.setIfInBounds i false) = [i]) → readsOk ops T listed = true → iniS P W wr ops L R Φ Q0 Φ0 B T s Kf → At ds G W s L R Φ a w → Unch D s0 (s.fr L) → SD ops W w Q0 Φ0 none Q0 Φ0 B listed w →
      wpAnyD P .any ops (calmQ Q) (SD ops W w Q0 Φ0 none Q0 Φ0 B) (fun j => memB j rd) E K (T.length + m) listed a w
  | [], listed, s, a, hK, _, _, h, ha, hu, hS => by simp only [List.length_nil, Nat.zero_add]; exact hK s a h ha hu hS
  | i :: r, listed, s, a, hK, hl, ho, h, ha, hu, hS => by
    simp only [readsOk, Bool.and_eq_true] at ho
    obtain ⟨⟨ho1, ho2⟩, ho3⟩ := ho
    unfold iniS at h
    split at h
    · exact h.elim
    rename_i o hi
    have hd : ∀ t, o.dst = some t → D t := fun t ht => hD i o t hi ht
    have take : ∀ (s' : FrS) (sv : SV) (v' : Value), At ds G W s' L R Φ a w → Unch D s0 (s'.fr L) → (∀ k o, sv = SV.ptr k o → (findT k L).isSome = true) → (isU (sv.val L) = false → v' = sv.val L) →
        YieldsIf P ops (fun w' => ∃ x, i ∈ Region.ready .any ops x ∧ SD ops W w Q0 Φ0 none Q0 Φ0 B x w') o v' a → iniS P W wr ops L R Φ Q0 Φ0 B r (s'.put o.dst sv) Kf →
        wpAnyD P .any ops (calmQ Q) (SD ops W w Q0 Φ0 none Q0 Φ0 B) (fun j => memB j rd) E K ((i :: r).length + m) listed a w := by
      intro s' sv v' ha' hu' hp hv hy hk
      have ih := iniS_sound (Q := Q) hsel haw hEf hD r (listed.setIfInBounds i true) (s'.put o.dst sv) (a.put o.dst v') hK (fun j hj => hl j (List.mem_cons_of_mem _ hj)) ho3 hk (ha'.put o.dst (Ext.refl _) hp ha'.ctx ha'.st hv) (hu'.putS ha'.wf (Ext.refl _) hd) (hS.down (by simpa using ho1))
      rw [show (i :: r).length + m = (r.length + m) + 1 by simp; omega]
      exact readD hsel haw (fun e => by cases e) hEf (hl i (by simp)) hi (by simpa using ho1) ho2 hy hS ih
    obtain ⟨s', ha', hu', h⟩ := guardS_sound hD h ha hu
    rcases h with ⟨hwt, h⟩ | ⟨hwt, h⟩
    · split at h
      · rename_i hB
        obtain ⟨sv, v', h1, h2, h3, h4⟩ := rdS_sound h ha'
        exact take s' sv v' ha' hu' h2 h3 (.inl ⟨hwt, fun w' ⟨x, hix, hx⟩ => by rw [hx.2.2.1 ⟨i, memB_iff.1 hB, (mem_ready.1 hix).1⟩]; exact h4⟩) h1
      · obtain ⟨sv, v', h1, h2, h3, h4⟩ := prS_sound h ha'
        exact take s' sv v' ha' hu' h2 h3 (.inl ⟨hwt, fun w' ⟨x, _, hx⟩ => h4 w' hx.2.1⟩) h1
    · exact take s' (.v undef) undef ha' hu' (fun k o e => by cases e) (fun _ => rfl) (.inr ⟨hwt, rfl⟩) h

theorem iniS2_sound {Q : Exit → Act → World → Prop} {L : List Tr} {R : List Own} {Φ Φ0 Φ1 : PW} {Q0 Q1 : List Own} {dl : Nat} {C : List Nat} {w : World} {B rd : List Nat} {Kf : FrS → Prop} {K : Act → World → Prop} {E : Array Bool → Prop} {fin : Array Bool} {m : Nat} (hsel : Region.noSelect ops = true) (haw : awaited ops rd B = true) (hdl : memB dl rd = false) (hCw : ∀ c ∈ C, Wt ops c dl) (hEf : ∀ x, E x → x = fin)
    (hD : ∀ (j : Nat) (o : Oper) (t : Nat), ops[j]? = some o → o.dst = some t → D t) :
    ∀ (T : List Nat) (listed : Array Bool) (s : FrS) (a : Act) (_ : ∀ s a, Kf s → At ds G W s L R Φ a w → Unch D s0 (s.fr L) → SD ops W w Q0 Φ0 (some dl) Q1 Φ1 B (listAll T listed) w → wpAnyD P .any ops (calmQ Q) (SD ops W w Q0 Φ0 (some dl) Q1 Φ1 B) (fun j => memB j rd) E K m (listAll T listed) a w),
      (∀ i ∈ T, i ∈ rd) → (∀ i ∈ T, Region.ready .any ops (fin.setIfInBounds i false) = [i]) → readsOk ops T listed = true → iniS2 P W wr ops L R Φ Q0 Φ0 C Q1 Φ1 B T s Kf → At ds G W s L R Φ a w → Unch D s0 (s.fr L) → SD ops W w Q0 Φ0 (some dl) Q1 Φ1 B listed w →
      wpAnyD P .any ops (calmQ Q) (SD ops W w Q0 Φ0 (some dl) Q1 Φ1 B) (fun j => memB j rd) E K (T.length + m) listed a w
  | [], listed, s, a, hK, _, _, _, h, ha, hu, hS => by simp only [List.length_nil, Nat.zero_add]; exact hK s a h ha hu hS
  | i :: r, listed, s, a, hK, hTr, hl, ho, h, ha, hu, hS => by
    simp only [readsOk, Bool.and_eq_true] at ho
    obtain ⟨⟨ho1, ho2⟩, ho3⟩ := ho
    unfold iniS2 at h
    split at h
    · exact h.elim
    rename_i o hi
    have hd : ∀ t, o.dst = some t → D t := fun t ht => hD i o t hi ht
    have take : ∀ (s' : FrS) (sv : SV) (v' : Value), At ds G W s' L R Φ a w → Unch D s0 (s'.fr L) → (∀ k o, sv = SV.ptr k o → (findT k L).isSome = true) → (isU (sv.val L) = false → v' = sv.val L) →
        YieldsIf P ops (fun w' => ∃ x, i ∈ Region.ready .any ops x ∧ SD ops W w Q0 Φ0 (some dl) Q1 Φ1 B x w') o v' a → iniS2 P W wr ops L R Φ Q0 Φ0 C Q1 Φ1 B r (s'.put o.dst sv) Kf →
        wpAnyD P .any ops (calmQ Q) (SD ops W w Q0 Φ0 (some dl) Q1 Φ1 B) (fun j => memB j rd) E K ((i :: r).length + m) listed a w := by
      intro s' sv v' ha' hu' hp hv hy hk
      have ih := iniS2_sound (Q := Q) hsel haw hdl hCw hEf hD r (listed.setIfInBounds i true) (s'.put o.dst sv) (a.put o.dst v') hK (fun j hj => hTr j (List.mem_cons_of_mem _ hj)) (fun j hj => hl j (List.mem_cons_of_mem _ hj)) ho3 hk (ha'.put o.dst (Ext.refl _) hp ha'.ctx ha'.st hv) (hu'.putS ha'.wf (Ext.refl _) hd) (hS.down (by simpa using ho1))
      rw [show (i :: r).length + m = (r.length + m) + 1 by simp; omega]
      exact readD hsel haw (fun e => by have e := Option.some.inj e; rw [e, memB_iff.2 (hTr i (by simp))] at hdl; cases hdl) hEf (hl i (by simp)) hi (by simpa using ho1) ho2 hy hS ih
    obtain ⟨s', ha', hu', h⟩ := guardS_sound hD h ha hu
    rcases h with ⟨hwt, h⟩ | ⟨hwt, h⟩
    · split at h
      · rename_i hB
        obtain ⟨sv, v', h1, h2, h3, h4⟩ := rdS_sound h ha'
        exact take s' sv v' ha' hu' h2 h3 (.inl ⟨hwt, fun w' ⟨x, hix, hx⟩ => by rw [hx.2.2.1 ⟨i, memB_iff.1 hB, (mem_ready.1 hix).1⟩]; exact h4⟩) h1
      · split at h
        · rename_i hC
          obtain ⟨sv, v', h1, h2, h3, h4⟩ := prS_sound h ha'
          exact take s' sv v' ha' hu' h2 h3 (.inl ⟨hwt, fun w' ⟨x, hix, hx⟩ => h4 w' (hx.2.2.2 dl rfl ((hCw i (memB_iff.1 hC)).later hx.1 (mem_ready.1 hix).1))⟩) h1
        · obtain ⟨sv, v', h1, h2, h3, h4⟩ := prS_sound h ha'
          exact take s' sv v' ha' hu' h2 h3 (.inl ⟨hwt, fun w' ⟨x, _, hx⟩ => h4 w' hx.2.1⟩) h1
    · exact take s' (.v undef) undef ha' hu' (fun k o e => by cases e) (fun _ => rfl) (.inr ⟨hwt, rfl⟩) h

theorem dlS_sound {Q : Exit → Act → World → Prop} {L0 : List Tr} {w0 : World} {Q0 : List Own} {Φ0 : PW} {B rd : List Nat} {Kf : FrS → List Tr → List Own → PW → Prop} {K : Act → World → Prop} {fin : Array Bool} (hsel : Region.noSelect ops = true) (haw : awaited ops rd B = true)
    (hD : ∀ (j : Nat) (o : Oper) (t : Nat), ops[j]? = some o → o.dst = some t → D t) (hK : ∀ s L R Φ a w, Kf s L R Φ → At ds G W s L R Φ a w → Ext L0 L → Unch D s0 (s.fr L) → K a w) :
    ∀ (l : List (Nat × List Nat)) (listed : Array Bool) (s : FrS) (L : List Tr) (R : List Own) (Φ : PW) (a : Act) (w : World), closedB ops listed = true → (∀ p ∈ l, ∀ i ∈ p.2, Region.ready .any ops (fin.setIfInBounds i false) = [i]) → dlOk ops fin l listed = true → dlS P W wr trk ops Q0 Φ0 l s L R Φ Kf → At ds G W s L R Φ a w → (∀ w F, Ctx W w (R ++ F) Φ → Ctx W w (Q0 ++ F) Φ0) → Ext L0 L → Unch D s0 (s.fr L) →
      (∀ b ∈ B, listed.getD b true = true) → (∀ p ∈ l, memB p.1 rd = false) → wpAnyD P .any ops (calmQ Q) (SD ops W w0 Q0 Φ0 none Q0 Φ0 B) (fun j => memB j rd) (fun x => x = fin ∧ Region.ready .any ops x = []) K (dlLen l) listed a w
  | [], listed, s, L, R, Φ, a, w, _, _, ho, h, ha, hΦ, he, hu, _, _ => by
    simp only [dlOk, Bool.and_eq_true, decide_eq_true_eq, List.isEmpty_iff] at ho
    exact ⟨ho, hK _ _ _ _ _ _ h ha he hu⟩
  | (i, T) :: rest, listed, s, L, R, Φ, a, w, hcl, hl, ho, h, ha, hΦ, he, hu, hB, hn => by
    simp only [dlOk, Bool.and_eq_true, beq_iff_eq] at ho
    obtain ⟨h1, h2, h3⟩ := ho
    unfold dlS at h
    split at h
    · exact h.elim
    rename_i o hi
    have hd : ∀ t, o.dst = some t → D t := fun t ht => hD i o t hi ht
    have hB' : ∀ b ∈ B, (listed.setIfInBounds i true).getD b true = true := fun b hb => by
      cases hc : (listed.setIfInBounds i true).getD b true with
      | true => rfl
      | false => have := (unset_of hc).2; rw [hB b hb] at this; cases this
    have sd : ∀ {w' : World} {R' : List Own} {Φ' : PW} {L' : List Tr}, CtxS G W w' L' R' Φ' → (∀ w F, Ctx W w (R' ++ F) Φ' → Ctx W w (Q0 ++ F) Φ0) → SD ops W w0 Q0 Φ0 none Q0 Φ0 B (listed.setIfInBounds i true) w' := fun hc hΦ' =>
      ⟨closed_add hcl (by rw [h1]; simp), ⟨_, hΦ' _ _ hc⟩, fun ⟨b, hb, hx⟩ => (by rw [hB' b hb] at hx; cases hx), fun d e => by cases e⟩
    refine ⟨by rw [h1]; simp, fun j hj => ?_⟩
    rw [h1] at hj
    have hj : j = i := by simpa using hj
    subst hj
    obtain ⟨s', ha', hu', hgo⟩ := guardS_sound hD h ha hu
    unfold wpOp
    simp only [hi]
    have hnr := hn (j, T) (by simp)
    rcases hgo with ⟨hwt, h⟩ | ⟨hwt, h⟩
    · simp only [hwt, if_true]
      have := ha'.st
      refine .inl (Oper.wp_of_goOn (opS_sound h ha'.sim ha'.wf ha'.ctx fun sv L' R' Φ' v' w' hk hst hext hp hc hv => ⟨sd hc hk.1, fun e => (by rw [hnr] at e; cases e), ?_⟩))
      refine ltD_sound hsel haw (fun x hx => hx.1) hD T _ _ _ (fun i _ e => by cases e) (fun s a hk' ha'' hu'' hsd => ?_) (hl (j, T) (by simp)) h2 hk.2 (ha'.put o.dst hext hp hc hst hv) (hu'.putS ha'.wf hext hd) (sd hc hk.1)
      exact dlS_sound hsel haw hD hK rest _ _ _ _ _ _ _ hsd.1 (fun p hp' => hl p (List.mem_cons_of_mem _ hp')) h3 hk' ha'' hk.1 (he.trans hext) hu'' (fun b hb => listAll_get T _ (.inr (hB' b hb))) (fun p hp' => hn p (List.mem_cons_of_mem _ hp'))
    · simp only [hwt, Bool.false_eq_true, if_false]
      refine ⟨sd ha'.ctx hΦ, fun e => (by rw [hnr] at e; cases e), ?_⟩
      refine ltD_sound hsel haw (fun x hx => hx.1) hD T _ _ _ (fun i _ e => by cases e) (fun s a hk' ha'' hu'' hsd => ?_) (hl (j, T) (by simp)) h2 h (ha'.put o.dst (Ext.refl _) (fun k o e => by cases e) ha'.ctx ha'.st (fun _ => rfl)) (hu'.putS ha'.wf (Ext.refl _) hd) (sd ha'.ctx hΦ)
      exact dlS_sound hsel haw hD hK rest _ _ _ _ _ _ _ hsd.1 (fun p hp' => hl p (List.mem_cons_of_mem _ hp')) h3 hk' ha'' hΦ he hu'' (fun b hb => listAll_get T _ (.inr (hB' b hb))) (fun p hp' => hn p (List.mem_cons_of_mem _ hp'))

theorem dlS2_sound {Q : Exit → Act → World → Prop} {L0 : List Tr} {w0 : World} {Q0 Q1 : List Own} {Φ0 Φ1 : PW} {dl : Nat} {B rd : List Nat} {Kf : FrS → List Tr → List Own → PW → Prop} {K : Act → World → Prop} {fin : Array Bool} (hsel : Region.noSelect ops = true) (haw : awaited ops rd B = true) (hdl : memB dl rd = false)
    (hD : ∀ (j : Nat) (o : Oper) (t : Nat), ops[j]? = some o → o.dst = some t → D t) (hK : ∀ s L R Φ a w, Kf s L R Φ → At ds G W s L R Φ a w → Ext L0 L → Unch D s0 (s.fr L) → K a w) :
    ∀ (l : List (Nat × List Nat)) (up : Bool) (listed : Array Bool) (s : FrS) (L : List Tr) (R : List Own) (Φ : PW) (a : Act) (w : World), closedB ops listed = true → (∀ p ∈ l, ∀ i ∈ p.2, Region.ready .any ops (fin.setIfInBounds i false) = [i]) → dlOk ops fin l listed = true → dlS2 P W wr trk ops Q0 Φ0 dl Q1 Φ1 up l s L R Φ Kf → At ds G W s L R Φ a w → (∀ w F, Ctx W w (R ++ F) Φ → Ctx W w (Q0 ++ F) Φ0) → (listed.getD dl true = false → up = true ∧ ∀ w F, Ctx W w (R ++ F) Φ → Ctx W w (Q1 ++ F) Φ1) → (∀ p ∈ l, ∀ i ∈ p.2, i ∈ rd) → Ext L0 L → Unch D s0 (s.fr L) →
      (∀ b ∈ B, listed.getD b true = true) → (∀ p ∈ l, memB p.1 rd = false) → wpAnyD P .any ops (calmQ Q) (SD ops W w0 Q0 Φ0 (some dl) Q1 Φ1 B) (fun j => memB j rd) (fun x => x = fin ∧ Region.ready .any ops x = []) K (dlLen l) listed a w
  | [], up, listed, s, L, R, Φ, a, w, _, _, ho, h, ha, hΦ, _, _, he, hu, _, _ => by
    simp only [dlOk, Bool.and_eq_true, decide_eq_true_eq, List.isEmpty_iff] at ho
    exact ⟨ho, hK _ _ _ _ _ _ h ha he hu⟩
  | (i, T) :: rest, up, listed, s, L, R, Φ, a, w, hcl, hl, ho, h, ha, hΦ, hup, hrd, he, hu, hB, hn => by
    simp only [dlOk, Bool.and_eq_true, beq_iff_eq] at ho
    obtain ⟨h1, h2, h3⟩ := ho
    unfold dlS2 at h
    split at h
    · exact h.elim
    rename_i o hi
    have hd : ∀ t, o.dst = some t → D t := fun t ht => hD i o t hi ht
    have hB' : ∀ b ∈ B, (listed.setIfInBounds i true).getD b true = true := fun b hb => by
      cases hc : (listed.setIfInBounds i true).getD b true with
      | true => rfl
      | false => have := (unset_of hc).2; rw [hB b hb] at this; cases this
    have sd : ∀ {w' : World} {R' : List Own} {Φ' : PW} {L' : List Tr}, CtxS G W w' L' R' Φ' → (∀ w F, Ctx W w (R' ++ F) Φ' → Ctx W w (Q0 ++ F) Φ0) → ((listed.setIfInBounds i true).getD dl true = false → ∀ w F, Ctx W w (R' ++ F) Φ' → Ctx W w (Q1 ++ F) Φ1) → SD ops W w0 Q0 Φ0 (some dl) Q1 Φ1 B (listed.setIfInBounds i true) w' := fun hc hΦ' hΨ =>
      ⟨closed_add hcl (by rw [h1]; simp), ⟨_, hΦ' _ _ hc⟩, fun ⟨b, hb, hx⟩ => (by rw [hB' b hb] at hx; cases hx), fun d e hx => by cases e; exact ⟨_, hΨ hx _ _ hc⟩⟩
    have hup' : ∀ (R' : List Own) (Φ' : PW), askD dl i up (∀ w F, Ctx W w (R' ++ F) Φ' → Ctx W w (Q1 ++ F) Φ1) → (listed.setIfInBounds i true).getD dl true = false → (up && !(Nat.beq dl i)) = true ∧ ∀ w F, Ctx W w (R' ++ F) Φ' → Ctx W w (Q1 ++ F) Φ1 := by
      intro R' Φ' hq hx
      obtain ⟨hne, hx⟩ := unset_of hx
      have hb : Nat.beq dl i = false := by cases hb : Nat.beq dl i with | false => rfl | true => exact absurd (Nat.eq_of_beq_eq_true hb) hne
      have hu := (hup hx).1
      rw [hu] at hq ⊢
      unfold askD at hq
      rw [hb] at hq ⊢
      exact ⟨rfl, hq⟩
    have hun : ∀ (T : List Nat) (x : Array Bool), (listAll T x).getD dl true = false → x.getD dl true = false := fun T x hx => by
      cases hc : x.getD dl true with
      | false => rfl
      | true => rw [listAll_get T x (.inr hc)] at hx; cases hx
    have hTd : ∀ i ∈ T, some dl ≠ some i := fun k hk e => by
      cases e
      rw [memB_iff.2 (hrd (i, T) (by simp) dl hk)] at hdl
      cases hdl
    refine ⟨by rw [h1]; simp, fun j hj => ?_⟩
    rw [h1] at hj
    have hj : j = i := by simpa using hj
    subst hj
    obtain ⟨s', ha', hu', hgo⟩ := guardS_sound hD h ha hu
    unfold wpOp
    simp only [hi]
    have hnr := hn (j, T) (by simp)
    rcases hgo with ⟨hwt, h⟩ | ⟨hwt, h⟩
    · simp only [hwt, if_true]
      have := ha'.st
      refine .inl (Oper.wp_of_goOn (opS_sound h ha'.sim ha'.wf ha'.ctx fun sv L' R' Φ' v' w' hk hst hext hp hc hv => ⟨sd hc hk.1 (fun hx => (hup' _ _ hk.2.1 hx).2), fun e => (by rw [hnr] at e; cases e), ?_⟩))
      refine ltD_sound hsel haw (fun x hx => hx.1) hD T _ _ _ hTd (fun s a hk' ha'' hu'' hsd => ?_) (hl (j, T) (by simp)) h2 hk.2.2 (ha'.put o.dst hext hp hc hst hv) (hu'.putS ha'.wf hext hd) (sd hc hk.1 (fun hx => (hup' _ _ hk.2.1 hx).2))
      exact dlS2_sound hsel haw hdl hD hK rest _ _ _ _ _ _ _ _ hsd.1 (fun p hp' => hl p (List.mem_cons_of_mem _ hp')) h3 hk' ha'' hk.1 (fun hx => hup' _ _ hk.2.1 (hun _ _ hx)) (fun p hp' => hrd p (List.mem_cons_of_mem _ hp')) (he.trans hext) hu'' (fun b hb => listAll_get T _ (.inr (hB' b hb))) (fun p hp' => hn p (List.mem_cons_of_mem _ hp'))
    · simp only [hwt, Bool.false_eq_true, if_false]
      have hq : (listed.setIfInBounds j true).getD dl true = false → ∀ w F, Ctx W w (R ++ F) Φ → Ctx W w (Q1 ++ F) Φ1 := fun hx => (hup (unset_of hx).2).2
      have hq' : askD dl j up (∀ w F, Ctx W w (R ++ F) Φ → Ctx W w (Q1 ++ F) Φ1) ∨ listed.getD dl true = true := by
        cases hc : listed.getD dl true with
        | true => exact .inr rfl
        | false => left; unfold askD; split; trivial; split; trivial; exact (hup hc).2
      have hq3 : (listed.setIfInBounds j true).getD dl true = false → (up && !(Nat.beq dl j)) = true ∧ ∀ w F, Ctx W w (R ++ F) Φ → Ctx W w (Q1 ++ F) Φ1 := fun hx => by
        rcases hq' with h | h
        · exact hup' _ _ h hx
        · rw [(unset_of hx).2] at h; cases h
      refine ⟨sd ha'.ctx hΦ hq, fun e => (by rw [hnr] at e; cases e), ?_⟩
      refine ltD_sound hsel haw (fun x hx => hx.1) hD T _ _ _ hTd (fun s a hk' ha'' hu'' hsd => ?_) (hl (j, T) (by simp)) h2 h (ha'.put o.dst (Ext.refl _) (fun k o e => by cases e) ha'.ctx ha'.st (fun _ => rfl)) (hu'.putS ha'.wf (Ext.refl _) hd) (sd ha'.ctx hΦ hq)
      exact dlS2_sound hsel haw hdl hD hK rest _ _ _ _ _ _ _ _ hsd.1 (fun p hp' => hl p (List.mem_cons_of_mem _ hp')) h3 hk' ha'' hΦ (fun hx => hq3 (hun _ _ hx)) (fun p hp' => hrd p (List.mem_cons_of_mem _ hp')) he hu'' (fun b hb => listAll_get T _ (.inr (hB' b hb))) (fun p hp' => hn p (List.mem_cons_of_mem _ hp'))

theorem stgS_sound {Q : Exit → Act → World → Prop} {L0 : List Tr} {K : FrS → List Tr → List Own → PW → Prop} (hsel : Region.noSelect ops = true)
    (hD : ∀ (j : Nat) (o : Oper) (t : Nat), ops[j]? = some o → o.dst = some t → D t) (hK : ∀ s L R Φ a w, K s L R Φ → At ds G W s L R Φ a w → Ext L0 L → Unch D s0 (s.fr L) → Q .normal a w) :
    ∀ (l : List Sg) (listed : Array Bool) (s : FrS) (L : List Tr) (R : List Own) (Φ : PW) (a : Act) (w : World), sgOk ops l listed = true → stgS P W wr trk ops l s L R Φ K → At ds G W s L R Φ a w → Ext L0 L → Unch D s0 (s.fr L) →
      wpAny P .any ops (calmQ Q) (sgLen l) listed a w
  | [], listed, s, L, R, Φ, a, w, ho, h, ha, he, hu => by
    refine ⟨?_, hK _ _ _ _ _ _ h ha he hu⟩
    simpa [sgOk] using ho
  | .stage T none :: rest, listed, s, L, R, Φ, a, w, ho, h, ha, he, hu => by
    simp only [sgOk, Bool.and_eq_true] at ho
    obtain ⟨⟨ho1, ho2⟩, ho3⟩ := ho
    unfold stgS at h
    exact stg_reads hsel hD (fun s a h ha hu => stgS_sound hsel hD hK rest _ s L R Φ a w ho3 h ha he hu) ho1 ho2 h ha hu
  | .tree t n :: rest, listed, s, L, R, Φ, a, w, ho, h, ha, he, hu => by
    simp only [sgOk, Bool.and_eq_true] at ho
    obtain ⟨⟨hc1, ho1⟩, ho3⟩ := ho
    unfold stgS at h
    obtain ⟨Q0, Φ0, hst0, hQ0, h⟩ := h
    refine wpAny_of_K (S := fun w' => Ctx W w' (Q0 ++ (L.map Tr.own ++ G)) Φ0) (E := fun l => l = listAll (otIdx t) listed) (K := fun a' w' => wpAny P .any ops (calmQ Q) (sgLen rest) (listAll (otIdx t) listed) a' w') ?_ n listed a w ?_
    · rintro l a w1 rfl hk; exact hk
    · exact (tS_sound hsel hst0 hD (fun s R Φ a w hk ha hu => stgS_sound hsel hD hK rest _ s L R Φ a w ho3 hk ha he hu) t).1 n listed s R Φ a w hc1 ho1 h ha hQ0 hu
  | .held ord :: rest, listed, s, L, R, Φ, a, w, ho, h, ha, he, hu => by
    simp only [sgOk, Bool.and_eq_true] at ho
    obtain ⟨⟨⟨ho1, hc1⟩, ho2⟩, ho3⟩ := ho
    unfold stgS at h
    have hl : ∀ j ∈ stillOf ord, Region.ready .any ops ((listAll (ord.map (·.1)) listed).setIfInBounds j false) = [j] ∨ closedB ops ((listAll (ord.map (·.1)) listed).setIfInBounds j false) = false := by
      intro j hj
      have := List.all_eq_true.1 ho2 j hj
      simpa using this
    obtain ⟨Q0, Φ0, hst0, hQ0, h⟩ := h
    refine wpAny_of_K (S := fun w' => Ctx W w' (Q0 ++ (L.map Tr.own ++ G)) Φ0) (E := fun l => l = listAll (ord.map (·.1)) listed) (K := fun a' w' => wpAny P .any ops (calmQ Q) (sgLen rest) (listAll (ord.map (·.1)) listed) a' w') ?_ ord.length listed a w ?_
    · rintro l a w1 rfl hk; exact hk
    · exact hS_sound hsel hst0 hD (fun s R Φ a w hk ha hu => stgS_sound hsel hD hK rest _ s L R Φ a w ho3 hk ha he hu) ord listed s R Φ a w hl hc1 ho1 rfl h ha hQ0 hu
  | .late B ini l :: rest, listed, s, L, R, Φ, a, w, ho, h, ha, he, hu => by
    simp only [sgOk, Bool.and_eq_true] at ho
    obtain ⟨⟨⟨⟨⟨⟨hc0, ho1⟩, hBi⟩, haw⟩, hla⟩, hnr⟩, hdl⟩ := ho
    unfold stgS at h
    have hl : ∀ j ∈ dlReads ini l, Region.ready .any ops ((dlFin l (listAll ini listed)).setIfInBounds j false) = [j] := by
      intro j hj
      have := List.all_eq_true.1 hla j hj
      simpa using this
    have hini : ∀ (l : List (Nat × List Nat)), ∀ i ∈ ini, i ∈ dlReads ini l := by
      intro l
      induction l with
      | nil => exact fun i hi => hi
      | cons p r ih => obtain ⟨q, T⟩ := p; exact fun i hi => List.mem_append.2 (.inr (ih i hi))
    have hlt : ∀ (l : List (Nat × List Nat)), ∀ p ∈ l, ∀ i ∈ p.2, i ∈ dlReads ini l := by
      intro l
      induction l with
      | nil => intro p hp; cases hp
      | cons q r ih =>
        obtain ⟨q, T⟩ := q
        intro p hp i hi
        rcases List.mem_cons.1 hp with rfl | hp
        · exact List.mem_append.2 (.inl hi)
        · exact List.mem_append.2 (.inr (ih p hp i hi))
    have hB : ∀ b ∈ B, (listAll ini listed).getD b true = true := fun b hb => listAll_get ini listed (.inl (memB_iff.1 (List.all_eq_true.1 hBi b hb)))
    obtain ⟨Q0, Φ0, hst0, hQ0, h⟩ := h
    refine wpAny_of_D (S := SD ops W w Q0 Φ0 none Q0 Φ0 B) (rd := fun j => memB j (dlReads ini l)) (E := fun x => x = dlFin l (listAll ini listed) ∧ Region.ready .any ops x = []) (K := fun a' w' => calmQ Q .normal a' w') (fun l a w1 hE hk => ⟨hE.2, hk⟩) (ini.length + dlLen l) listed a w ?_
    refine iniS_sound hsel haw (fun x hx => hx.1) hD ini listed s a (fun s a hk ha hu hsd => ?_) (fun i hi => hl i (hini l i hi)) ho1 h ha hu ⟨hc0, ⟨_, hQ0 _ _ ha.ctx⟩, fun _ => rfl, fun d e => by cases e⟩
    exact dlS_sound hsel haw hD (fun s L R Φ a w hk ha he hu => hK _ _ _ _ _ _ hk ha he hu) l _ s L R Φ a w hsd.1 (fun p hp i hi => hl i (hlt l p hp i hi)) hdl hk ha hQ0 he hu hB (fun p hp => by simpa using List.all_eq_true.1 hnr p hp)
  | .late2 C dl B ini l :: rest, listed, s, L, R, Φ, a, w, ho, h, ha, he, hu => by
    simp only [sgOk, Bool.and_eq_true] at ho
    obtain ⟨⟨⟨⟨⟨⟨⟨⟨hc0, ho1⟩, hBi⟩, haw⟩, hla⟩, hnr⟩, hdl⟩, hC⟩, hdr⟩ := ho
    unfold stgS at h
    have hl : ∀ j ∈ dlReads ini l, Region.ready .any ops ((dlFin l (listAll ini listed)).setIfInBounds j false) = [j] := by
      intro j hj
      have := List.all_eq_true.1 hla j hj
      simpa using this
    have hini : ∀ (l : List (Nat × List Nat)), ∀ i ∈ ini, i ∈ dlReads ini l := by
      intro l
      induction l with
      | nil => exact fun i hi => hi
      | cons p r ih => obtain ⟨q, T⟩ := p; exact fun i hi => List.mem_append.2 (.inr (ih i hi))
    have hlt : ∀ (l : List (Nat × List Nat)), ∀ p ∈ l, ∀ i ∈ p.2, i ∈ dlReads ini l := by
      intro l
      induction l with
      | nil => intro p hp; cases hp
      | cons q r ih =>
        obtain ⟨q, T⟩ := q
        intro p hp i hi
        rcases List.mem_cons.1 hp with rfl | hp
        · exact List.mem_append.2 (.inl hi)
        · exact List.mem_append.2 (.inr (ih p hp i hi))
    have hB : ∀ b ∈ B, (listAll ini listed).getD b true = true := fun b hb => listAll_get ini listed (.inl (memB_iff.1 (List.all_eq_true.1 hBi b hb)))
    obtain ⟨Q0, Φ0, hst0, hQ0, Q1, Φ1, hst1, hQ1, h⟩ := h
    have hdr : memB dl (dlReads ini l) = false := by simpa using hdr
    have hCw : ∀ c ∈ C, Wt ops c dl := fun c hc => waits_wt (ops := ops) (b := c) _ [] (fun k hk => by cases hk) dl (memB_iff.1 (List.all_eq_true.1 hC c hc))
    refine wpAny_of_D (S := SD ops W w Q0 Φ0 (some dl) Q1 Φ1 B) (rd := fun j => memB j (dlReads ini l)) (E := fun x => x = dlFin l (listAll ini listed) ∧ Region.ready .any ops x = []) (K := fun a' w' => calmQ Q .normal a' w') (fun l a w1 hE hk => ⟨hE.2, hk⟩) (ini.length + dlLen l) listed a w ?_
    refine iniS2_sound hsel haw hdr hCw (fun x hx => hx.1) hD ini listed s a (fun s a hk ha hu hsd => ?_) (fun i hi => hini l i hi) (fun i hi => hl i (hini l i hi)) ho1 h ha hu ⟨hc0, ⟨_, hQ0 _ _ ha.ctx⟩, fun _ => rfl, fun d e _ => ⟨_, hQ1 _ _ ha.ctx⟩⟩
    exact dlS2_sound hsel haw hdr hD (fun s L R Φ a w hk ha he hu => hK _ _ _ _ _ _ hk ha he hu) l true _ s L R Φ a w hsd.1 (fun p hp i hi => hl i (hlt l p hp i hi)) hdl hk ha hQ0 (fun _ => ⟨rfl, hQ1⟩) (fun p hp i hi => hlt l p hp i hi) he hu hB (fun p hp => by simpa using List.all_eq_true.1 hnr p hp)
  | .free ord :: rest, listed, s, L, R, Φ, a, w, ho, h, ha, he, hu => by
    simp only [sgOk, Bool.and_eq_true] at ho
    obtain ⟨⟨ho1, ho2⟩, ho3⟩ := ho
    unfold stgS at h
    have hl : ∀ j ∈ stillOf ord, Region.ready .any ops ((listAll (ord.map (·.1)) listed).setIfInBounds j false) = [j] := by
      intro j hj
      have := List.all_eq_true.1 ho2 j hj
      simpa using this
    obtain ⟨Q0, Φ0, hst0, hQ0, h⟩ := h
    refine wpAny_of_K (S := fun w' => ∃ S, Ctx W w' (Q0 ++ S) Φ0) (E := fun l => l = listAll (ord.map (·.1)) listed) (K := fun a' w' => wpAny P .any ops (calmQ Q) (sgLen rest) (listAll (ord.map (·.1)) listed) a' w') ?_ ord.length listed a w ?_
    · rintro l a w1 rfl hk; exact hk
    · exact fS_sound hsel hD (fun s L R Φ a w hk ha he hu => stgS_sound hsel hD hK rest _ s L R Φ a w ho3 hk ha he hu) ord listed s L R Φ a w hl ho1 rfl h ha hQ0 he hu
  | .stage T (some i) :: rest, listed, s, L, R, Φ, a, w, ho, h, ha, he, hu => by
    simp only [sgOk, Bool.and_eq_true, beq_iff_eq] at ho
    obtain ⟨⟨ho1, ho2⟩, h1, h2⟩ := ho
    unfold stgS at h
    refine stg_reads hsel hD (fun s a h ha hu => ?_) ho1 ho2 h ha hu
    split at h
    · exact h.elim
    rename_i o hi
    have hd : ∀ t, o.dst = some t → D t := fun t ht => hD i o t hi ht
    refine ⟨fun h0 => (by rw [h1] at h0; cases h0), fun j hj => ?_⟩
    rw [h1] at hj
    have hj : j = i := by simpa using hj
    subst hj
    obtain ⟨s', ha', hu', hgo⟩ := guardS_sound hD (by assumption) ha hu
    clear h
    have h := hgo
    unfold wpOp
    simp only [hi]
    rcases h with ⟨hw, h⟩ | ⟨hw, h⟩
    · simp only [hw, if_true]
      have := ha'.st
      refine .inl (Oper.wp_of_goOn (opS_sound h ha'.sim ha'.wf ha'.ctx fun sv L' R' Φ' v' w' hk hst hext hp hc hv => ?_))
      exact stgS_sound hsel hD hK rest _ _ _ _ _ _ _ h2 hk (ha'.put o.dst hext hp hc hst hv) (he.trans hext) (hu'.putS ha'.wf hext hd)
    · simp only [hw, Bool.false_eq_true, if_false]
      exact stgS_sound hsel hD hK rest _ _ _ _ _ _ _ h2 h (ha'.put o.dst (Ext.refl _) (fun k o e => by cases e) ha'.ctx ha'.st (fun _ => rfl)) he (hu'.putS ha'.wf (Ext.refl _) hd)

theorem qS_sound {wr d : Bool} {es : List Ent} {o : Oper} {s : FrS} {L : List Tr} {R : List Own} {Φ : PW} {a : Act} {w : World} {g : Option Bool} {ch : List (Nat × Bool)} {K : SV → Prop}
    (h : qS P wr d es o s L w g ch K) (hr : Rel ds es (s.fr L) a) (hwf : WfS L s) (hc : CtxS G W w L R Φ) (hg : gOn g ↔ Holds (s.fr L) ch) :
    ∃ sv, (∀ k o, sv = SV.ptr k o → (findT k L).isSome = true) ∧ (gOn g → ∃ v, (isU (sv.val L) = false → v = sv.val L) ∧ ∀ w', Cls d w w' → o.quietAt P a (Cls d w) w' v) ∧ K sv := by
  have hev := fr_eval s L
  have old : specOp P wr d es o (s.fr L) w g ch (fun v => K (.v v)) → ∃ sv, (∀ k o, sv = SV.ptr k o → (findT k L).isSome = true) ∧ (gOn g → ∃ v, (isU (sv.val L) = false → v = sv.val L) ∧ ∀ w', Cls d w w' → o.quietAt P a (Cls d w) w' v) ∧ K sv := by
    intro h
    obtain ⟨u, h1, h2⟩ := specOp_sound h hr hg
    exact ⟨.v u, fun k o e => (by cases e), h1, h2⟩
  unfold qS at h
  split at h
  · rename_i t x f hop
    split at h
    · rename_i k off hx
      split at h
      · rename_i hro
        obtain ⟨T, hT⟩ := Option.isSome_iff_exists.1 (hwf.ev hx)
        obtain ⟨off', h1, h2⟩ := fieldT_sound hT h
        refine ⟨.ptr k off', fun k' o' e => by cases e; rw [hT]; rfl, fun hgo => ⟨_, fun _ => rfl, fun w' hw => ?_⟩, h2⟩
        have hv : a.eval x = .pointer (some ⟨T.b, off, none⟩) := by rw [readOk_sound hro hr (hg.1 hgo), hev, FrS.val, hx, val_ptr hT]
        unfold Oper.quietAt
        simp only [execOp, hop, hv, Sem.run_bind, h1 w', Result.andThen, Sem.run_pure, Oper.quietUpon, val_ptr hT]
        exact ⟨trivial, trivial⟩
      · exact h.elim
    · exact old h
  · rename_i t x hop
    split at h
    · rename_i k off hx
      split at h
      · rename_i hro
        obtain ⟨T, hT⟩ := Option.isSome_iff_exists.1 (hwf.ev hx)
        obtain ⟨v, h1, h2⟩ := loadT_sound hT (hc.blk hT) h
        refine ⟨.v v, fun k' o' e => (by cases e), fun hgo => ⟨_, fun _ => rfl, fun w' hw => ?_⟩, h2⟩
        have hv : a.eval x = .pointer (some ⟨T.b, off, none⟩) := by rw [readOk_sound hro hr (hg.1 hgo), hev, FrS.val, hx, val_ptr hT]
        unfold Oper.quietAt
        simp only [execOp, hop, hv, Instr.loadAt, Instr.sureAddr, Sem.run_bind, Sem.run_pure, Result.andThen, h1 w' hw.heap, Oper.quietUpon]
        exact ⟨trivial, rfl⟩
      · exact h.elim
    · exact old h
  · rename_i x hop
    split at h
    · rename_i hro
      refine ⟨s.ev x, fun k o e => hwf.ev e, fun hgo => ⟨_, fun _ => rfl, fun w' hw => ?_⟩, h⟩
      have hv : a.eval x = (s.ev x).val L := by rw [readOk_sound hro hr (hg.1 hgo), hev]; rfl
      unfold Oper.quietAt
      simp only [execOp, hop, hv, Sem.run_pure, Oper.quietUpon]
      exact ⟨trivial, trivial⟩
    · exact h.elim
  · rename_i x hop
    split at h
    · rename_i hro
      refine ⟨s.ev x, fun k o e => hwf.ev e, fun hgo => ⟨_, fun _ => rfl, fun w' hw => ?_⟩, h⟩
      have hv : a.eval x = (s.ev x).val L := by rw [readOk_sound hro hr (hg.1 hgo), hev]; rfl
      unfold Oper.quietAt
      simp only [execOp, hop, hv, Sem.run_pure, Oper.quietUpon]
      exact ⟨trivial, trivial⟩
    · exact h.elim
  · exact old h

theorem forgetS_fr (es : List Ent) (s : FrS) (L : List Tr) : (forgetS es s).fr L = forget es (s.fr L) := by
  have key : ∀ l : List (Nat × SV), valL L (forgetS.go es l) = filterL (freeB es) (valL L l) := by
    intro l
    induction l with
    | nil => rfl
    | cons p r ih =>
      obtain ⟨t, v⟩ := p
      simp only [forgetS.go, valL, filterL]
      cases freeB es t with
      | true => simp only [valL, ih]
      | false => exact ih
  simp only [forgetS, forget, FrS.fr, key]

theorem forgetS_wf {es : List Ent} {s : FrS} {L : List Tr} (h : WfS L s) : WfS L (forgetS es s) := by
  have key : ∀ l : List (Nat × SV), ∀ p ∈ forgetS.go es l, p ∈ l := by
    intro l
    induction l with
    | nil => intro p hp; exact hp
    | cons q r ih =>
      obtain ⟨t, v⟩ := q
      intro p hp
      simp only [forgetS.go] at hp
      cases hb : freeB es t with
      | true => rw [hb] at hp; rcases List.mem_cons.1 hp with rfl | hp; simp; exact List.mem_cons_of_mem _ (ih p hp)
      | false => rw [hb] at hp; exact List.mem_cons_of_mem _ (ih p hp)
  exact fun p hp => h p (key _ p hp)

theorem qsS_sound {L : List Tr} {R : List Own} {Φ : PW} {d : Bool} {w : World} {K : FrS → Prop} {Q : Act → Prop} (hst : Stable Φ) (hids : (L.map Tr.id).Nodup) (hc : CtxS G W w L R Φ)
    (hK : ∀ s a, K s → Sim ds (s.fr L) a → WfS L s → Unch D s0 (s.fr L) → Q a) :
    ∀ (l : List Oper) (es : List Ent) (s : FrS) (a : Act), (∀ o ∈ l, ∀ t, o.dst = some t → D t) → (∀ e ∈ es, D e.slot ∧ e.slot < s.n) → qsS P wr d ops L w l es s K → Rel ds es (s.fr L) a → WfS L s → Unch D s0 (s.fr L) → wpQuiet P ops (Cls d w) Q l a
  | [], es, s, a, _, _, h, hr, hwf, hu => hK _ _ h (by rw [forgetS_fr]; exact hr.done) (forgetS_wf hwf) (by rw [forgetS_fr]; exact forget_unch hu)
  | o :: rest, es, s, a, hl, he, h, hr, hwf, hu => by
    have hl' : ∀ o ∈ rest, ∀ t, o.dst = some t → D t := fun o ho => hl o (List.mem_cons_of_mem _ ho)
    unfold qsS at h
    split at h
    · rename_i g ch t hgd ht
      split at h
      · rename_i hcd
        simp only [Bool.and_eq_true] at hcd
        obtain ⟨h1, h2, h3⟩ := guardOf_sound hgd hr
        obtain ⟨sv, hp, h4, h5⟩ := qS_sound h hr hwf hc h2
        have hd : D t := hl o (by simp) t ht
        have htn : t < s.n := by have := hcd.2; rwa [Nat.blt_eq] at this
        have he' : ∀ e ∈ (⟨t, g, ch⟩ : Ent) :: es, D e.slot ∧ e.slot < (s.put (some t) sv).n := fun e hx => by
          have hn : (s.put (some t) sv).n = s.n := by unfold FrS.put; simp only; split <;> rfl
          rw [hn]
          rcases List.mem_cons.1 hx with rfl | hx
          · exact ⟨hd, htn⟩
          · exact he e hx
        have hu' : Unch D s0 ((s.put (some t) sv).fr L) := hu.putS hwf (Ext.refl _) (fun t' e => by cases e; exact hd)
        have hwf' : WfS L (s.put (some t) sv) := hwf.put hp
        unfold wpQuiet
        by_cases hgo : gOn g
        · rw [if_pos (h1.2 hgo)]
          obtain ⟨v, h6, h7⟩ := h4 hgo
          refine ⟨v, h7, ?_⟩
          rw [ht]
          exact qsS_sound hst hids hc hK rest _ _ _ hl' he' h5 (by rw [fr_put]; exact hr.put hcd.1 htn h2 h3 (fun _ => h6) (fun hn => absurd hgo hn)) hwf' hu'
        · rw [if_neg (fun hw => hgo (h1.1 hw)), ht]
          exact qsS_sound hst hids hc hK rest _ _ _ hl' he' h5 (by rw [fr_put]; exact hr.put hcd.1 htn h2 h3 (fun hh => absurd hh hgo) (fun _ => rfl)) hwf' hu'
      · exact h.elim
    · exact h.elim

end

end Go.Vc
end

/-
  A RANGE OVER A FUNCTION: rounds and marks, under the rules of the walk.
-/
section
set_option linter.unusedVariables false
set_option linter.unusedSimpArgs false
namespace Go.Vc
open Go.RowKit

/-- no fence but the round's own frame: of the loop l; none: of a function -/
def fenceAt (rd : Option Nat) : Fence := { Fence.wide with round := rd }

/-- that the region is left by its end -/
def onlyQ (Q : Exit → Act → World → Prop) : Exit → Act → World → Prop
  | .normal, a, w => Q .normal a w
  | _, _, _ => False

theorem onlyQ_out {Q : Exit → Act → World → Prop} : ∀ e a w, onlyQ Q e a w → Q e a w := fun e a w h => by
  cases e <;> first | exact h | exact h.elim

theorem onlyQ_lets {Q : Exit → Act → World → Prop} : ¬ LetsOut (onlyQ Q) := fun ⟨_, _, h⟩ => h

def notDef (o : Oper) : Bool := match o.op with | .defer _ => false | _ => true

def allNotDef : List Oper → Bool
  | [] => true
  | o :: r => notDef o && allNotDef r

theorem allNotDef_spec : ∀ {l : List Oper}, allNotDef l = true → ∀ o ∈ l, notDef o = true
  | [], _, o, ho => by cases ho
  | p :: r, h, o, ho => by
    simp only [allNotDef, Bool.and_eq_true] at h
    rcases List.mem_cons.1 ho with rfl | ho
    · exact h.1
    · exact allNotDef_spec h.2 o ho

/-- may this code stand in a round? -/
def okRound : Code → Bool
  | .region _ ops _ => allNotDef ops.toList
  | .seq x y => okRound x && okRound y
  | .cond _ x y => okRound x && okRound y
  | .block _ b => okRound b
  | .loop b => okRound b
  | .rangeFunc _ _ _ _ => false
  | .scope _ => false
  | _ => true

/-! ### a scope out of which nothing jumps -/
section
variable {P : Program} {b : Frame} {a : Act} {k : List Item} {cs : List Frame} {w : World} {F : Fence} {n : Nat} {Q : Exit → Act → World → Prop}
theorem stepR_scope {c : Code} : step P (lone (b.atR a (.code (.scope c) :: k)) cs w) = .next (lone (b.atR a (.code c :: .inScope c :: k)) cs w) :=
  step_lone_go (by simp [stepG, stepG.exec, Frame.atR])
theorem stepR_inScope {c : Code} : step P (lone (b.atR a (.inScope c :: k)) cs w) = .next (lone (b.atR a k) cs w) :=
  step_lone_go (by simp [stepG, stepG.exec, Frame.atR])
theorem wpIn_scope {c : Code} (h : c.wpIn F n P (fun e a w => match e with | .goto _ => False | e => Q e a w) a w) : (Code.scope c).wpIn F n P Q a w := by
  intro b k cs hro hb hr
  have h0 : (lone (b.atR a (.code (.scope c) :: k)) cs w).fenced P F := fenced_calm hb hr rfl
  obtain ⟨e, a₁, w₁, hq, harr⟩ := h b (.inScope c :: k) cs hro hb hr
  cases e with
  | normal => exact ⟨.normal, a₁, w₁, hq, .head h0 stepR_scope (StepsIn.trans harr (.one (fenced_calm hb hr rfl) stepR_inScope))⟩
  | exit id =>
    have hx : exitTo id (.inScope c :: k) = exitTo id k := by simp [exitTo]
    exact ⟨.exit id, a₁, w₁, hq, fun k' hk => .head h0 stepR_scope (harr.1 k' (by rw [hx]; exact hk)),
      fun hr' hk => let ⟨k₁, h1, h2⟩ := harr.2 hr' (by rw [hx]; exact hk); ⟨k₁, h1, .head h0 stepR_scope h2⟩⟩
  | goto l => exact hq.elim
  | ret => exact ⟨_, a₁, w₁, hq, .of_steps (.one h0 stepR_scope) harr⟩
  | panic ch => exact ⟨_, a₁, w₁, hq, .of_steps (.one h0 stepR_scope) harr⟩
  | outgrown => exact ⟨_, a₁, w₁, hq, .of_steps (.one h0 stepR_scope) harr⟩
end

section
variable {P : Program} {rd : Option Nat} {ops : Array Oper} {Q : Exit → Act → World → Prop}

theorem oper_in {o : Oper} {a : Act} {w : World} {K K' : Act → World → Prop} (hd : rd.isSome = true → notDef o = true) (hQ : ¬ LetsOut Q) (hK : ∀ a w, K a w → K' a w) (h : o.wp P a w K Q) : o.wpIn (fenceAt rd) 0 P a w K' Q := by
  refine ⟨fun _ _ => trivial, ?_⟩
  have e : o.semAt rd a.eval = execOp a.eval o := by
    cases rd with
    | none => rfl
    | some l => exact Oper.semAt_eq _ _ _ fun c hc => (by have := hd rfl; rw [notDef, hc] at this; cases this)
  unfold Oper.wp at h
  show o.uponIn (fenceAt rd) 0 P a K' Q ((o.semAt rd a.eval).run P w)
  rw [e]
  generalize (execOp a.eval o).run P w = r at h
  cases r with
  | ok n w' =>
    cases n <;> simp only [Oper.upon, Oper.uponIn] at h ⊢
    case value v => exact hK _ _ h
    case skip => exact hK _ _ h
    case defer d => exact hK _ _ h
    case enter f args => 
      refine ⟨fun hh => (by cases hh), ?_⟩
      have := (callsIn_wide (n := 0)).2 h
      exact CallsIn.mono (F := fenceAt rd) this fun e w'' he => by cases e <;> first | exact hK _ _ he | exact he
    case row row args =>
      refine ⟨fun hh => (by cases hh), fun c cs hr => ?_⟩
      obtain ⟨v, w'', h1, h2⟩ := h c cs
      exact ⟨v, w'', hK _ _ h1, stepsIn_wide.2 h2⟩
  | halt x w' => cases x <;> simp only [Oper.upon, Oper.uponIn] at h ⊢ <;> exact h

theorem list_in (hQ : ¬ LetsOut Q) : ∀ (l : List Oper) (a : Act) (w : World), (rd.isSome = true → ∀ o ∈ l, notDef o = true) → wpList P ops Q l a w → wpListIn (fenceAt rd) 0 P ops Q l a w
  | [], a, w, _, h => h
  | o :: r, a, w, hd, h => by
    have ih := list_in hQ r
    unfold wpList at h
    unfold wpListIn
    split
    · rename_i hw
      rw [if_pos hw] at h
      rcases h with h | h
      · exact oper_in (fun hh => hd hh o (by simp)) hQ (fun a w h => ih a w (fun hh o ho => hd hh o (List.mem_cons_of_mem _ ho)) h) h
      · exact absurd h.2 hQ
    · rename_i hw
      rw [if_neg hw] at h
      exact ⟨fun _ _ => trivial, ih _ _ (fun hh o ho => hd hh o (List.mem_cons_of_mem _ ho)) h⟩

theorem op_in (hQ : ¬ LetsOut Q) (hd : rd.isSome = true → ∀ o ∈ ops.toList, notDef o = true) {i : Nat} {a : Act} {w : World} {K K' : Act → World → Prop} (hK : ∀ a w, K a w → K' a w) (h : wpOp P ops Q i K a w) : wpOpIn (fenceAt rd) 0 P ops Q i K' a w := by
  unfold wpOp at h
  unfold wpOpIn
  cases ho : ops[i]? with
  | none => rw [ho] at h; exact hK _ _ h
  | some o =>
    rw [ho] at h
    simp only at h ⊢
    split
    · rename_i hw
      rw [if_pos hw] at h
      rcases h with h | h
      · exact oper_in (fun hh => hd hh o (by simpa using Array.mem_of_getElem? ho)) hQ hK h
      · exact absurd h.2 hQ
    · rename_i hw
      rw [if_neg hw] at h
      exact ⟨fun _ _ => trivial, hK _ _ h⟩

theorem any_in {md : Region.Mode} (hQ : ¬ LetsOut Q) (hd : rd.isSome = true → ∀ o ∈ ops.toList, notDef o = true) : ∀ (n : Nat) (listed : Array Bool) (a : Act) (w : World), wpAny P md ops Q n listed a w → wpAnyIn (fenceAt rd) 0 P md ops Q n listed a w
  | 0, _, _, _, h => h
  | n + 1, listed, a, w, h => ⟨h.1, fun i hi => op_in hQ hd (fun a w h => any_in hQ hd n _ a w h) (h.2 i hi)⟩

theorem reg_list {id : Nat} {a : Act} {w : World} (hd : rd.isSome = true → allNotDef ops.toList = true) (h : wpList P ops (onlyQ Q) ops.toList a w) : (Code.region id ops false).wpIn (fenceAt rd) 0 P Q a w :=
  wpIn_mono (wpIn_region_list (list_in onlyQ_lets _ _ _ (fun hh => allNotDef_spec (hd hh)) h)) onlyQ_out

theorem reg_any {id : Nat} {a : Act} {w : World} (hd : rd.isSome = true → allNotDef ops.toList = true) (hm : P.follows .mixedOrders = true) (h : wpAny P .any ops (calmQ (onlyQ Q)) ops.size (Array.replicate ops.size false) a (w.drewN 1)) :
    (Code.region id ops true).wpIn (fenceAt rd) 0 P Q a w :=
  wpIn_mono (wpIn_region_any hm (any_in (fun ⟨_, _, h⟩ => h) (fun hh => allNotDef_spec (hd hh)) _ _ _ _ h)) fun e a w h => onlyQ_out _ _ _ (calmQ_out _ _ _ h)

theorem reg_quiet {id : Nat} {a : Act} {w : World} (hd : rd.isSome = true → allNotDef ops.toList = true) (hm : P.follows .mixedOrders = true) (hB : Region.lexB .any ops = true)
    (h : wpQuiet P ops (fun w' => ∃ n, w' = w.drewN n) (fun a' => ∀ w', (∃ n, w' = w.drewN n) → Q .normal a' w') ops.toList a) : (Code.region id ops true).wpIn (fenceAt rd) 0 P Q a w := by
  refine reg_any hd hm ?_
  simp only [Region.lexB, Bool.and_eq_true] at hB
  refine wpAny_of_quiet (C := fun w' => ∃ n, w' = w.drewN n) (Q' := calmQ (onlyQ Q)) (Q := fun a' => ∀ w', (∃ n, w' = w.drewN n) → Q .normal a' w') (fun _ w' hw' h => h w' hw') _ _ _ _ ⟨1, rfl⟩ ?_
  have := wpAnyQ_lex (C := fun w' => ∃ n, w' = w.drewN n) (md := .any) hB.1 ops.toList 0 (Array.replicate ops.size false) a (by simp) (by simpa using hB.2) h
  simpa using this
end

/-! ### marks -/
def mark (D : Nat) : Deferred := { target := .collected D, args := #[] }
def markO (D : Nat) : Own := .obj D (.deferred (some []))

/-- what ranges over functions leave behind -/
def Tie (rd : Option Nat) (ds : List Deferred) (G : List Own) (ds' : List Deferred) (G' : List Own) : Prop :=
  ∃ Z : List Nat, (rd.isSome = true → Z = []) ∧ ds' = Z.map mark ++ ds ∧ G' = Z.map markO ++ G

theorem Tie.refl (rd : Option Nat) (ds : List Deferred) (G : List Own) : Tie rd ds G ds G := ⟨[], fun _ => rfl, rfl, rfl⟩
theorem Tie.trans {rd : Option Nat} {ds ds1 ds2 : List Deferred} {G G1 G2 : List Own} (h : Tie rd ds G ds1 G1) (k : Tie rd ds1 G1 ds2 G2) : Tie rd ds G ds2 G2 := by
  obtain ⟨Z, h1, rfl, rfl⟩ := h
  obtain ⟨Y, k1, rfl, rfl⟩ := k
  exact ⟨Y ++ Z, fun hh => by rw [h1 hh, k1 hh]; rfl, by simp, by simp⟩

theorem leaves_marks {P : Program} {fn : Func} {tmps : Array Value} {Rr : Ending → World → Prop} {W : World} {Φ : PW} [Stable Φ] : ∀ (Z : List Nat) (S : List Own) (w : World), Ctx W w (S ++ Z.map markO) Φ →
    (∀ w' S', Ctx W w' (S ++ S') Φ → LeavesIn Fence.wide 0 P fn tmps Rr [] .returning w') → LeavesInM Fence.wide 0 P fn tmps Rr (Z.map mark) .returning w
  | [], S, w, c, h => h w [] c
  | D :: Z, S, w, c, h => by
    refine ⟨by simp, .inl ⟨D, setB w D (.deferred none), rfl, run_takeDeferred (c.own (markO D) (by simp)), ?_⟩⟩
    have hk : (S ++ (D :: Z).map markO)[S.length]? = some (.obj D (.deferred (some []))) := by
      rw [List.getElem?_append_right (Nat.le_refl _)]; simp [markO]
    have c2 := c.putObj S.length (.deferred none) hk
    have e : (S ++ (D :: Z).map markO).set S.length (.obj D (.deferred none)) = (S ++ [Own.obj D (.deferred none)]) ++ Z.map markO := by
      rw [List.set_append_right _ _ (Nat.le_refl _)]; simp
    rw [e] at c2
    exact leaves_marks Z _ _ c2 fun w' S' c' => h w' (Own.obj D (.deferred none) :: S') (by simpa using c')

/-! ### the iterator's word -/
/-- WHAT AN ITERATOR PROMISES THAT READS, and neither writes nor makes anything: as often as it calls its loop's body, in this order with these arguments -/
def Iter (P : Program) (gf : Nat) (lb : Array Value) (N : Nat) (xs : Nat → Array Value) (X : World → Prop) : Prop :=
  ∀ (l : Nat) (J : Nat → World → Prop) (W : World), (∀ k W1, J k W1 → X W1) →
    (∀ k W1, J k W1 → k < N → YieldAt Fence.wide 0 P l (xs k) W1 fun e W' => e = .returned (.bool true) ∧ J (k + 1) W') → J 0 W →
    CallsIn Fence.wide 0 P gf (#[.func (.yield l) #[] #[]] ++ lb) W fun e W' => (∃ v, e = .returned v) ∧ J N W'

/-- ONE RANGE OVER A FUNCTION: Inv k G w: k rounds are over, and G is owned beside -/
theorem wp_range {P : Program} {W : World} {g : Operand} {ps : Array Tmp} {assign body : Code} {Q : Exit → Act → World → Prop} {a : Act} {w : World} {gf : Nat} {lb : Array Value} {N : Nat} {xs : Nat → Array Value} {X : World → Prop} {G : List Own}
    (hg : a.eval g = .func (.func gf) #[] lb) (eg : ∀ args w, (callFunc gf args).run P w = .ok (.enter gf args) w) (hit : Iter P gf lb N xs X) (hps : ∀ k, k < N → (xs k).size = ps.size)
    (Inv : Nat → List Own → World → Prop) (hctx : ∀ k Gx w1, Inv k Gx w1 → ∃ S Φ, Stable Φ ∧ Ctx W w1 (S ++ Gx) Φ ∧ ∀ w2 Gy, Ctx W w2 (S ++ Gy) Φ → Inv k Gy w2) (hX : ∀ k Gx w1, Inv k Gx w1 → X w1) (h0 : Inv 0 G w)
    (hround : ∀ l k Gx w1, k < N → Inv k Gx w1 → assign.wpIn (fenceAt (some l)) 0 P (Exit.then (fun a1 w2 => ∃ S Φ, Stable Φ ∧ Ctx W w2 (S ++ Gx) Φ ∧ ∀ w3 Gx3, Ctx W w3 (S ++ Gx3) Φ → body.wpIn (fenceAt (some l)) 0 P (fun e _ w4 => e = .normal ∧ Inv (k + 1) Gx3 w4) a1 w3) (fun _ _ _ => False))
      { tmps := (ps.zip (xs k)).foldl (fun t (p, v) => t.setIfInBounds p v) a.tmps, defers := [] } w1)
    (hdone : ∀ D w', Inv N (markO D :: G) w' → Q .normal { a with defers := mark D :: a.defers } w') :
    (Code.rangeFunc g ps assign body).wpIn (fenceAt none) 0 P Q a w := by
  refine wpIn_rangeFunc ?_
  intro fn hfn
  show ∃ l mark w₁ d w₁' f args w₂, (Instr.enterLoop fn a.tmps ps assign body none).run P w = _ ∧ _
  obtain ⟨rec, hrec⟩ : ∃ rec : LoopState → Option Code → Loop, rec = fun st pe => { state := st, pending := pe, fn, tmps := a.tmps, params := ps, assign, body, defers := w.heap.size } := ⟨_, rfl⟩
  obtain ⟨W1, hW1⟩ : ∃ W1, (w.alloc (.deferred (some []))).alloc (.loop (rec .ready none)) = W1 := ⟨_, rfl⟩
  obtain ⟨l, hl⟩ : ∃ l, w.heap.size + 1 = l := ⟨_, rfl⟩
  have rl : ∀ st : LoopState, Own.obj l (.loop (rec st none)) = Own.obj l (.loop (rec st none)) := fun _ => rfl
  -- the ghosts in a round
  let gh := fun (st : LoopState) => Own.obj l (.loop (rec st none)) :: markO w.heap.size :: G
  -- the record is turned
  have turn : ∀ {k : Nat} {st st' : LoopState} {S : List Own} {Φ : PW} {w1 : World}, Stable Φ → Ctx W w1 (S ++ gh st) Φ → Ctx W (w1.putObj l (.loop (rec st' none))) (S ++ gh st') Φ := by
    intro k st st' S Φ w1 hs c
    have hk : (S ++ gh st)[S.length]? = some (.obj l (.loop (rec st none))) := by rw [List.getElem?_append_right (Nat.le_refl _)]; simp [gh]
    have c2 := c.putObj S.length (.loop (rec st' none)) hk
    have e : (S ++ gh st).set S.length (.obj l (.loop (rec st' none))) = S ++ gh st' := by rw [List.set_append_right _ _ (Nat.le_refl _)]; simp [gh]
    rw [e] at c2
    exact c2
  have start : Inv 0 (gh .ready) W1 := by
    obtain ⟨S, Φ, hs, c, hn⟩ := hctx 0 G w h0
    refine hn _ _ ?_
    have c1 := c.newObj (o := .deferred (some [])) rfl
    have c2 := c1.newObj (o := .loop (rec .ready none)) rfl
    rw [hW1, World.size_alloc, hl] at c2
    refine c2.perm ?_
    simp only [gh, markO]
    exact (List.Perm.cons _ List.perm_middle.symm).trans List.perm_middle.symm
  have lies : ∀ {k : Nat} {st : LoopState} {w1 : World}, Inv k (gh st) w1 → w1.heap[l]? = some (.loop (rec st none)) := by
    intro k st w1 hi
    obtain ⟨S, Φ, hs, c, _⟩ := hctx _ _ _ hi
    exact c.own (.obj l (.loop (rec st none))) (by simp [gh])
  refine ⟨l, [mark w.heap.size], W1, { target := .fn (.func gf) lb, args := #[.func (.yield l) #[] #[]] }, W1, gf, #[.func (.yield l) #[] #[]] ++ lb, W1, ?_, ?_, fun _ _ => trivial, ?_, fun h => (by cases h), ?_⟩
  · rw [← hW1, hrec, ← hl]; exact run_enterLoop_outer _ _ _ _ _
  · simp only [resolve, hg]
    simp [go_sem]
  · simp [invoke, go_sem, eg]
  · refine CallsIn.mono (F := fenceAt none) (hit l (fun k W' => Inv k (gh .ready) W') W1 (fun k W2 h => hX k _ W2 h) ?_ start) ?_
    · intro k W2 hi hk
      have hlr := lies hi
      have hy := run_yield (P := P) (args := xs k) hlr (by rw [hrec]; exact hps k hk)
      rw [hrec] at hy
      refine ⟨fn, _, assign, body, hy, roundIn_of_wpIn trivial ?_⟩
      refine wpIn_mono (hround l k (gh .ready) W2 hk hi) ?_
      rintro e a1 w2 h
      cases e with
      | normal =>
        obtain ⟨S, Φ, hs, c, hb⟩ := h
        have h2 : w2.heap[l]? = some (.loop (rec .ready none)) := c.own (.obj l (.loop (rec .ready none))) (by simp [gh])
        refine ⟨_, run_beginRound h2 (by rw [hrec]), ?_⟩
        have c3 : Ctx W (w2.putObj l (.loop { rec .ready none with state := .busy })) (S ++ gh .busy) Φ := by
          have := turn (k := k) (st' := .busy) hs c
          rw [hrec] at this ⊢
          exact this
        refine wpIn_mono (hb _ _ c3) ?_
        rintro e a4 w4 ⟨rfl, h4⟩
        have h5 := lies h4
        refine ⟨_, _, run_endRound none h5, rfl, ?_⟩
        obtain ⟨S, Φ, hs, c, hn⟩ := hctx _ _ _ h4
        have := turn (k := k) (st' := .ready) hs c
        refine hn _ _ ?_
        rw [hrec] at this ⊢
        exact this
      | _ => exact h.elim
    · rintro e W3 ⟨⟨v, rfl⟩, hi⟩
      have h5 := lies hi
      have hend := run_endLoop (P := P) h5 (by rw [hrec]; simp)
      rw [hrec] at hend
      refine ⟨none, _, hend, ?_⟩
      refine hdone _ _ ?_
      obtain ⟨S, Φ, hs, c, hn⟩ := hctx _ _ _ hi
      have := turn (k := N) (st' := .exhausted) hs c
      refine hn _ _ ?_
      have h7 := this.sub (S' := S ++ (markO w.heap.size :: G)) (List.Sublist.append (List.Sublist.refl _) (List.sublist_cons_self _ _))
      rw [hrec] at h7
      exact h7

end Go.Vc
end

