/-
  A REGION WHOSE ORDER IS DRAWN, AND THAT WRITES OR CALLS: its reads are taken first, as they yield the same in every world that meets S; the rest waits for one another.
-/
import Derived.Test.YtifgijoeckoojaaVcF
import Derived.OrdersHeld
set_option linter.unusedVariables false
set_option linter.unusedSimpArgs false
namespace Go.Vc

/-- ONE OPERATION THAT ONLY READS, in all worlds that meet S -/
def heldOp (P : Program) (wr : Bool) (o : Oper) (s : Fr) (w : World) (S : World → Prop) (K : Value → Prop) : Prop :=
  match o.op with
  | .pick c x y => match s.eval c with
    | .bool b => Br b (K (s.eval x)) (K (s.eval y))
    | _ => False
  | _ => match okOps s o && notSel o with
    | true => match heapOp P o s.eval K with
      | false => match quietK P wr o s.eval w none K with
        | some p => p
        | none => False
      | true => resK P o.type fun v => (∀ w', S w' → match quietK P wr o s.eval w' none (fun u => u = v) with
        | some p => p
        | none => False) ∧ K v
    | false => False

theorem heldOp_sound {P : Program} {wr : Bool} {o : Oper} {s : Fr} {a : Act} {w : World} {S : World → Prop} {K : Value → Prop} (h : heldOp P wr o s w S K) (hs : Sim s a) :
    ∃ v v', K v ∧ (isU v = false → v' = v) ∧ ∀ w', S w' → (execOp a.eval o).run P w' = .ok (.value v') w' := by
  unfold heldOp at h
  split at h
  · rename_i c x y hop
    split at h
    · rename_i b hc
      have hc' : a.eval c = .bool b := by rw [hs.eval (by rw [hc]; rfl), hc]
      cases b with
      | true => exact ⟨_, a.eval x, h, fun hu => hs.eval hu, fun w' _ => by simp only [execOp, hop, hc', asBool, Sem.run_bind, Sem.run_pure, Result.andThen, if_true]⟩
      | false => exact ⟨_, a.eval y, h, fun hu => hs.eval hu, fun w' _ => by simp [execOp, hop, hc', asBool, Sem.run_bind, Sem.run_pure, Result.andThen]⟩
    · exact h.elim
  · split at h
    · rename_i ho
      simp only [Bool.and_eq_true] at ho
      rw [exec_sim hs ho.1 ho.2]
      split at h
      · rename_i hh
        split at h
        · rename_i p hp
          obtain ⟨v, h1, h2⟩ := quietK_sound' hp h
          exact ⟨v, v, h2, fun _ => rfl, fun w' _ => h1 trivial w' fun e => by rw [hh] at e; cases e⟩
        · exact h.elim
      · obtain ⟨v, h1, h2⟩ := resK_some h
        refine ⟨v, v, h2, fun _ => rfl, fun w' hw' => ?_⟩
        have h3 := h1 w' hw'
        split at h3
        · rename_i p hp
          obtain ⟨u, h4, h5⟩ := quietK_sound hp h3
          subst h5
          exact h4 trivial w' rfl
        · exact h3.elim
    · exact h.elim

/-- the order, checked ahead: a read may be taken first, all else comes alone -/
def heldOrd (ops : Array Oper) : List (Nat × Bool) → Array Bool → Bool
  | [], listed => (Region.ready .any ops listed).isEmpty
  | (i, still) :: rest, listed => (match still with
      | true => (Region.ready .any ops listed).contains i && Region.free .any ops listed i
      | false => Region.ready .any ops listed == [i]) && heldOrd ops rest (listed.setIfInBounds i true)

def stepK (P : Program) (wr : Bool) (o : Oper) (still : Bool) (s : Fr) (w : World) (S : World → Prop) (K : Value → World → Prop) : Prop :=
  match still with
  | true => heldOp P wr o s w S fun v => K v w
  | false => opK P wr (fun _ => none) o s w fun v w' => S w' ∧ K v w'

/-- the region, in that order -/
def heldOps (P : Program) (wr : Nat → Bool) (ops : Array Oper) (S : World → Prop) : List (Nat × Bool) → Fr → World → (Fr → World → Prop) → Prop
  | [], s, w, K => K s w
  | (i, still) :: rest, s, w, K =>
    match ops[i]? with
    | none => False
    | some o =>
      let go (s : Fr) : Prop := stepK P (wr (o.dst.getD 0)) o still s w S fun v w' => heldOps P wr ops S rest (s.put o.dst v) w' K
      match o.guard with
      | none => go s
      | some (j, want) =>
        let d := (ops[j]?).bind (·.dst)
        let on (b : Bool) : Prop := match b == want with
          | true => go (s.put d (.bool b))
          | false => heldOps P wr ops S rest ((s.put d (.bool b)).put o.dst undef) w K
        match boolAt s d with
        | some c => Br c (on true) (on false)
        | none => False

/-- without panics -/
def calmQ (Q : Exit → Act → World → Prop) : Exit → Act → World → Prop
  | .panic _, _, _ => False
  | e, a, w => Q e a w

theorem calmQ_out {Q : Exit → Act → World → Prop} : ∀ e a w, calmQ Q e a w → Q e a w := fun e a w h => by
  cases e <;> first | exact h | exact h.elim

theorem heldOps_sound {P : Program} {wr : Nat → Bool} {ops : Array Oper} {S : World → Prop} {Q : Exit → Act → World → Prop} {K : Fr → World → Prop} {D : Nat → Prop} {s0 : Fr} (hsel : Region.noSelect ops = true)
    (hD : ∀ (j : Nat) (o : Oper) (t : Nat), ops[j]? = some o → o.dst = some t → D t) (hK : ∀ s a w, K s w → Sim s a → Unch D s0 s → Q .normal a w) :
    ∀ (l : List (Nat × Bool)) (listed : Array Bool) (s : Fr) (a : Act) (w : World), heldOrd ops l listed = true → heldOps P wr ops S l s w K → S w → Sim s a → Unch D s0 s → wpAnyH P .any ops (calmQ Q) S l.length listed a w
  | [], listed, s, a, w, ho, h, hS, hs, hu => by
    refine ⟨?_, hK _ _ _ h hs hu⟩
    simpa [heldOrd] using ho
  | (i, still) :: rest, listed, s, a, w, ho, h, hS, hs, hu => by
    simp only [heldOrd, Bool.and_eq_true] at ho
    obtain ⟨ho1, ho2⟩ := ho
    unfold heldOps at h
    split at h
    · exact h.elim
    rename_i o hi
    have hd : ∀ t, o.dst = some t → D t := fun t ht => hD i o t hi ht
    -- behind the operation
    have next : ∀ (s' : Fr) (v v' : Value) (w' : World), Sim s' a → Unch D s0 s' → S w' → (isU v = false → v' = v) → heldOps P wr ops S rest (s'.put o.dst v) w' K →
        wpAnyH P .any ops (calmQ Q) S rest.length (listed.setIfInBounds i true) (a.put o.dst v') w' := fun s' v v' w' hs' hu' hS' hv hk =>
      heldOps_sound hsel hD hK rest _ _ _ _ ho2 hk hS' (hs'.put _ hv) (hu'.put hd _)
    have go : ∀ s', Sim s' a → Unch D s0 s' → Region.wanted o (yielded ops a.tmps) = true → (stepK P (wr (o.dst.getD 0)) o still s' w S fun v w' => heldOps P wr ops S rest (s'.put o.dst v) w' K) → wpAnyH P .any ops (calmQ Q) S (rest.length + 1) listed a w := by
      intro s' hs' hu' hw hk
      unfold stepK at hk
      cases still with
      | true =>
        simp only [Bool.and_eq_true] at ho1
        obtain ⟨v, v', h1, h2, h3⟩ := heldOp_sound hk hs'
        exact wpAnyH_take hi hsel ho1.2 ho1.1 (fun _ _ _ h => h) (.inl ⟨hw, h3⟩) hS (next s' v v' w hs' hu' hS h2 h1)
      | false =>
        simp only [beq_iff_eq] at ho1
        refine wpAnyH_all ho1 (by simp) fun j hj => ?_
        have hj : j = i := by simpa using hj
        subst hj
        unfold wpOp
        simp only [hi, hw, if_true]
        exact .inl (Oper.wp_of_goOn (opK_sound hk hs' fun v v' w' ⟨hS', hk'⟩ hv => ⟨hS', next s' v v' w' hs' hu' hS' hv hk'⟩))
    have skip : ∀ s', Sim s' a → Unch D s0 s' → Region.wanted o (yielded ops a.tmps) = false → heldOps P wr ops S rest (s'.put o.dst undef) w K → wpAnyH P .any ops (calmQ Q) S (rest.length + 1) listed a w := by
      intro s' hs' hu' hw hk
      have hn := next s' undef undef w hs' hu' hS (fun _ => rfl) hk
      cases still with
      | true =>
        simp only [Bool.and_eq_true] at ho1
        exact wpAnyH_take hi hsel ho1.2 ho1.1 (fun _ _ _ h => h) (.inr ⟨hw, rfl⟩) hS hn
      | false =>
        simp only [beq_iff_eq] at ho1
        refine wpAnyH_all ho1 (by simp) fun j hj => ?_
        have hj : j = i := by simpa using hj
        subst hj
        unfold wpOp
        simp only [hi, hw, Bool.false_eq_true, if_false]
        exact ⟨hS, hn⟩
    show wpAnyH P .any ops (calmQ Q) S (rest.length + 1) listed a w
    simp only at h
    split at h
    · rename_i hg
      exact go s hs hu (by simp [Region.wanted, hg]) h
    · rename_i j want hg
      split at h
      · rename_i c hc
        obtain ⟨k, hk, hlt, hv, hsv⟩ := boolAt_spec hs hc
        have hy : yielded ops a.tmps j = some c := by
          unfold yielded
          rw [hk]
          simp only [Option.bind_some]
          rw [Array.getD_eq_getD_getElem?] at hv
          simp only [hlt, getElem?_pos, Option.getD_some] at hv
          simp [hlt, hv]
        have hw : Region.wanted o (yielded ops a.tmps) = (c == want) := by simp [Region.wanted, hg, hy]
        have hs' : Sim (s.put ((ops[j]?).bind (·.dst)) (.bool c)) a := by
          have := hs.put ((ops[j]?).bind (·.dst)) (u := .bool c) (v := .bool c) (fun _ => rfl)
          rw [hk] at this ⊢
          rwa [put_same hlt hv] at this
        have hu' : Unch D s0 (s.put ((ops[j]?).bind (·.dst)) (.bool c)) := hu.put (by
          intro t ht
          cases hj : ops[j]? with
          | none => simp [hj] at ht
          | some oj => rw [hj] at ht; exact hD j oj t hj ht) _
        have main : (match c == want with
          | true => stepK P (wr (o.dst.getD 0)) o still (s.put ((ops[j]?).bind (·.dst)) (.bool c)) w S fun v w' => heldOps P wr ops S rest ((s.put ((ops[j]?).bind (·.dst)) (.bool c)).put o.dst v) w' K
          | false => heldOps P wr ops S rest ((s.put ((ops[j]?).bind (·.dst)) (.bool c)).put o.dst undef) w K) := by
          clear go skip next ho1
          cases c
          · exact h
          · exact h
        cases hcw : c == want with
        | true => rw [hcw] at main; exact go _ hs' hu' (by rw [hw, hcw]) main
        | false => rw [hcw] at main; exact skip _ hs' hu' (by rw [hw, hcw]) main
      · exact h.elim

/-- such a region -/
def heldK (P : Program) (wr : Nat → Bool) (ops : Array Oper) (ord : List (Nat × Bool)) (s : Fr) (w : World) (K : Fr → World → Prop) : Prop :=
  match P.follows .mixedOrders && Region.noSelect ops && heldOrd ops ord (Array.replicate ops.size false) && Nat.beq ord.length ops.size with
  | true => ∃ S : World → Prop, ∀ w1, w1 = w.drewN 1 → S w1 ∧ heldOps P wr ops S ord s w1 K
  | false => False

theorem heldK_wp {P : Program} {wr : Nat → Bool} {ops : Array Oper} {ord : List (Nat × Bool)} {s : Fr} {a : Act} {w : World} {K : Fr → World → Prop} {Q : Exit → Act → World → Prop} {id : Nat} {D : Nat → Prop}
    (hD : ∀ (j : Nat) (o : Oper) (t : Nat), ops[j]? = some o → o.dst = some t → D t)
    (h : heldK P wr ops ord s w K) (hs : Sim s a) (hK : ∀ s' a w, K s' w → Sim s' a → Unch D s s' → Q .normal a w) : (Code.region id ops true).wp P Q a w := by
  unfold heldK at h
  split at h
  · rename_i hc
    simp only [Bool.and_eq_true, Nat.beq_eq] at hc
    obtain ⟨⟨⟨h1, h2⟩, h3⟩, h4⟩ := hc
    obtain ⟨S, h⟩ := h
    obtain ⟨h5, h6⟩ := h _ rfl
    refine wp_mono (wp_region_held (Q := calmQ Q) (S := S) h1 ?_) calmQ_out
    have h7 := heldOps_sound h2 hD hK ord _ _ _ _ h3 h6 h5 hs (Unch.refl _ _)
    rw [h4] at h7
    exact h7
  · exact h.elim

end Go.Vc
