/-
  A REGION WHOSE ORDER IS DRAWN, IN STAGES: some reads, none of which waits for what else may come up; then one operation alone; and so on. It is walked in that order.
-/
import Derived.Test.YtifgijoeckoojaaVcK
set_option linter.unusedVariables false
set_option linter.unusedSimpArgs false
namespace Go.Vc

section
variable {P : Program} {ops : Array Oper} {Q : Exit → Act → World → Prop} {md : Region.Mode} {S : World → Prop} {E : Array Bool → Prop} {K : Act → World → Prop}

/-- whatever comes up in the next so many steps: S holds all the time, and K then -/
def wpAnyK (P : Program) (md : Region.Mode) (ops : Array Oper) (Q : Exit → Act → World → Prop) (S : World → Prop) (E : Array Bool → Prop) (K : Act → World → Prop) : Nat → Array Bool → Act → World → Prop
  | 0, listed, a, w => E listed ∧ K a w
  | n + 1, listed, a, w => Region.ready md ops listed ≠ [] ∧ ∀ i ∈ Region.ready md ops listed, wpOp P ops Q i (fun a' w' => S w' ∧ wpAnyK P md ops Q S E K n (listed.setIfInBounds i true) a' w') a w

theorem wpAny_of_K {m : Nat} (hK : ∀ listed a w, E listed → K a w → wpAny P md ops Q m listed a w) : ∀ (n : Nat) (listed : Array Bool) (a : Act) (w : World), wpAnyK P md ops Q S E K n listed a w → wpAny P md ops Q (n + m) listed a w
  | 0, listed, a, w, h => by rw [Nat.zero_add]; exact hK listed a w h.1 h.2
  | n + 1, listed, a, w, h => by
    rw [show n + 1 + m = (n + m) + 1 by omega]
    exact ⟨fun h0 => absurd h0 h.1, fun i hi => wpOp_mono (fun a' w' h' => wpAny_of_K hK n _ a' w' h'.2) (h.2 i hi)⟩

theorem wpAnyK_first {i : Nat} {oi : Oper} {v : Value} (hi : ops[i]? = some oi) (hsel : ∀ (j : Nat) (o : Oper) cs b, ops[j]? = some o → o.op ≠ .select cs b)
    (hQ : ∀ c a w, Q (.panic c) (a.put oi.dst v) w → Q (.panic c) a w) (hE : ∀ listed, E (listed.setIfInBounds i true) → i ∈ Region.ready md ops listed → ∀ j ∈ Region.ready md ops listed, j = i) :
    ∀ (n : Nat) (listed : Array Bool) (a : Act) (w : World),
      (∀ j oj, ops[j]? = some oj → j ≠ i → listed.getD j true = false → (∀ e ∈ oj.after, Region.binds md e = true → e.on ≠ i) → oi.apart ops oj = true) →
      i ∈ Region.ready md ops listed → YieldsIf P ops S oi v a → S w →
      wpAnyK P md ops Q S E K n (listed.setIfInBounds i true) (a.put oi.dst v) w → wpAnyK P md ops Q S E K (n + 1) listed a w := by
  intro n
  induction n with
  | zero =>
    intro listed a w _ hr hy hS H
    refine ⟨fun h => (by rw [h] at hr; cases hr), fun j hj => ?_⟩
    have := hE listed H.1 hr j hj
    subst this
    exact hy.wpOp hi hS ⟨hS, H⟩
  | succ n ih =>
    intro listed a w hfree hr hy hS H
    refine ⟨fun h => (by rw [h] at hr; cases hr), fun j hj => ?_⟩
    by_cases hji : j = i
    · subst hji; exact hy.wpOp hi hS ⟨hS, H⟩
    · have h1 := H.2 j (ready_mono hj hji)
      obtain ⟨hjun, oj, hoj, hall⟩ := mem_ready.1 hj
      have hnot : ∀ e ∈ oj.after, Region.binds md e = true → e.on ≠ i := fun e he hb heq => by
        have h1 := hall e he hb
        have h0 := (mem_ready.1 hr).1
        rw [heq] at h1
        rcases Nat.lt_or_ge i listed.size with h' | h'
        · simp [h'] at h0 h1; rw [h0] at h1; cases h1
        · simp [Array.getElem?_eq_none h'] at h1
      have h2 := wpOp_putIf hoj (hfree j oj hoj hji hjun hnot) (fun cs b => hsel i oi cs b hi) (fun cs b => hsel j oj cs b hoj) hQ hy h1
      have hfree' : ∀ k ok, ops[k]? = some ok → k ≠ i → (listed.setIfInBounds j true).getD k true = false →
          (∀ e ∈ ok.after, Region.binds md e = true → e.on ≠ i) → oi.apart ops ok = true := fun k ok hk hki hun hno => by
        refine hfree k ok hk hki ?_ hno
        by_cases hjk : j = k
        · subst hjk; exact hjun
        · rw [getD_set_ne true hjk] at hun; exact hun
      refine wpOp_mono (fun a' w' h3 => ⟨h3.2.1, ih (listed.setIfInBounds j true) a' w' hfree' (ready_mono hr (Ne.symm hji)) h3.1 h3.2.1 ?_⟩) h2
      rw [Array.setIfInBounds_comm _ _ hji]
      exact h3.2.2

end

/-- nothing else can come up before number i of those that are listed at last -/
def lastOk (ops : Array Oper) (T : List Nat) (fin : Array Bool) : Bool := T.all fun i => Region.ready .any ops (fin.setIfInBounds i false) == [i]

def listAll : List Nat → Array Bool → Array Bool
  | [], l => l
  | i :: r, l => listAll r (l.setIfInBounds i true)

/-- each of the reads may be taken when its turn comes -/
def readsOk (ops : Array Oper) : List Nat → Array Bool → Bool
  | [], _ => true
  | i :: r, listed => (Region.ready .any ops listed).contains i && Region.free .any ops listed i && readsOk ops r (listed.setIfInBounds i true)

/-- the stages: reads, and then an operation alone -/
def stagesOk (ops : Array Oper) : List (List Nat × Option Nat) → Array Bool → Bool
  | [], listed => (Region.ready .any ops listed).isEmpty
  | (T, none) :: rest, listed => readsOk ops T listed && lastOk ops T (listAll T listed) && stagesOk ops rest (listAll T listed)
  | (T, some i) :: rest, listed => readsOk ops T listed && lastOk ops T (listAll T listed) && (Region.ready .any ops (listAll T listed) == [i] && stagesOk ops rest ((listAll T listed).setIfInBounds i true))

/-- one read, in the world at hand -/
def readK (P : Program) (wr : Bool) (o : Oper) (s : Fr) (w : World) (K : Value → Prop) : Prop :=
  match o.op with
  | .pick c x y => match s.eval c with
    | .bool b => Br b (K (s.eval x)) (K (s.eval y))
    | _ => False
  | _ => match okOps s o && notSel o with
    | true => match quietK P wr o s.eval w none K with
      | some p => p
      | none => False
    | false => False

theorem readK_sound {P : Program} {wr : Bool} {o : Oper} {s : Fr} {a : Act} {w : World} {K : Value → Prop} (h : readK P wr o s w K) (hs : Sim s a) :
    ∃ v v', K v ∧ (isU v = false → v' = v) ∧ (execOp a.eval o).run P w = .ok (.value v') w := by
  unfold readK at h
  split at h
  · rename_i c x y hop
    split at h
    · rename_i b hc
      have hc' : a.eval c = .bool b := by rw [hs.eval (by rw [hc]; rfl), hc]
      cases b with
      | true => exact ⟨_, a.eval x, h, fun hu => hs.eval hu, by simp only [execOp, hop, hc', asBool, Sem.run_bind, Sem.run_pure, Result.andThen, if_true]⟩
      | false => exact ⟨_, a.eval y, h, fun hu => hs.eval hu, by simp [execOp, hop, hc', asBool, Sem.run_bind, Sem.run_pure, Result.andThen]⟩
    · exact h.elim
  · split at h
    · rename_i ho
      simp only [Bool.and_eq_true] at ho
      rw [exec_sim hs ho.1 ho.2]
      split at h
      · rename_i p hp
        obtain ⟨v, h1, h2⟩ := quietK_sound hp h
        exact ⟨v, v, h2, fun _ => rfl, h1 trivial w rfl⟩
      · exact h.elim
    · exact h.elim

/-- an operation of the region under its guard; 'go': what is asked where it is carried out -/
def guardK (ops : Array Oper) (o : Oper) (s : Fr) (go skip : Fr → Prop) : Prop :=
  match o.guard with
  | none => go s
  | some (j, want) =>
    match boolAt s ((ops[j]?).bind (·.dst)) with
    | some c => Br c (match true == want with
        | true => go (s.put ((ops[j]?).bind (·.dst)) (.bool true))
        | false => skip (s.put ((ops[j]?).bind (·.dst)) (.bool true)))
      (match false == want with
        | true => go (s.put ((ops[j]?).bind (·.dst)) (.bool false))
        | false => skip (s.put ((ops[j]?).bind (·.dst)) (.bool false)))
    | none => False

theorem guardK_sound {ops : Array Oper} {o : Oper} {s : Fr} {a : Act} {go skip : Fr → Prop} {D : Nat → Prop} {s0 : Fr} (hD : ∀ (j : Nat) (o : Oper) (t : Nat), ops[j]? = some o → o.dst = some t → D t)
    (h : guardK ops o s go skip) (hs : Sim s a) (hu : Unch D s0 s) :
    ∃ s', Sim s' a ∧ Unch D s0 s' ∧ ((Region.wanted o (yielded ops a.tmps) = true ∧ go s') ∨ (Region.wanted o (yielded ops a.tmps) = false ∧ skip s')) := by
  unfold guardK at h
  split at h
  · rename_i hg
    exact ⟨s, hs, hu, .inl ⟨by simp [Region.wanted, hg], h⟩⟩
  · rename_i j want hg
    split at h
    · rename_i c hc
      obtain ⟨k, hk, hlt, hv, hsv⟩ := boolAt_spec hs hc
      have hy : yielded ops a.tmps j = some c := by
        unfold yielded
        rw [hk]
        simp only [Option.bind_some]
        rw [Array.getD_eq_getD_getElem?] at hv
        simp only [hlt, getElem?_pos, Option.getD_some] at hv
        simp [hlt, hv]
      have hw : Region.wanted o (yielded ops a.tmps) = (c == want) := by simp [Region.wanted, hg, hy]
      have hs' : Sim (s.put ((ops[j]?).bind (·.dst)) (.bool c)) a := by
        have := hs.put ((ops[j]?).bind (·.dst)) (u := .bool c) (v := .bool c) (fun _ => rfl)
        rw [hk] at this ⊢
        rwa [put_same hlt hv] at this
      have hu' : Unch D s0 (s.put ((ops[j]?).bind (·.dst)) (.bool c)) := hu.put (by
        intro t ht
        cases hj : ops[j]? with
        | none => simp [hj] at ht
        | some oj => rw [hj] at ht; exact hD j oj t hj ht) _
      refine ⟨_, hs', hu', ?_⟩
      rw [hw]
      cases c
      · simp only [Br] at h
        cases hcw : false == want with
        | true => rw [hcw] at h; exact .inl ⟨rfl, h⟩
        | false => rw [hcw] at h; exact .inr ⟨rfl, h⟩
      · simp only [Br] at h
        cases hcw : true == want with
        | true => rw [hcw] at h; exact .inl ⟨rfl, h⟩
        | false => rw [hcw] at h; exact .inr ⟨rfl, h⟩
    · exact h.elim

def readsK (P : Program) (wr : Nat → Bool) (ops : Array Oper) (w : World) : List Nat → Fr → (Fr → Prop) → Prop
  | [], s, K => K s
  | i :: r, s, K => match ops[i]? with
    | none => False
    | some o => guardK ops o s (fun s => readK P (wr (o.dst.getD 0)) o s w fun v => readsK P wr ops w r (s.put o.dst v) K) (fun s => readsK P wr ops w r (s.put o.dst undef) K)

def stagesK (P : Program) (wr : Nat → Bool) (ops : Array Oper) : List (List Nat × Option Nat) → Fr → World → (Fr → World → Prop) → Prop
  | [], s, w, K => K s w
  | (T, none) :: rest, s, w, K => readsK P wr ops w T s fun s => stagesK P wr ops rest s w K
  | (T, some i) :: rest, s, w, K => readsK P wr ops w T s fun s => match ops[i]? with
      | none => False
      | some o => guardK ops o s (fun s => opK P (wr (o.dst.getD 0)) (fun i => extractsOf o.dst i ops.toList) o s w fun v w' => stagesK P wr ops rest (s.put o.dst v) w' K)
          (fun s => stagesK P wr ops rest (s.put o.dst undef) w K)

theorem readsK_sound {P : Program} {wr : Nat → Bool} {ops : Array Oper} {Q : Exit → Act → World → Prop} {w : World} {D : Nat → Prop} {s0 : Fr} {Kf : Fr → Prop} {K : Act → World → Prop} {fin : Array Bool} (hsel : Region.noSelect ops = true)
    (hD : ∀ (j : Nat) (o : Oper) (t : Nat), ops[j]? = some o → o.dst = some t → D t) (hK : ∀ s a, Kf s → Sim s a → Unch D s0 s → K a w) :
    ∀ (T : List Nat) (listed : Array Bool) (s : Fr) (a : Act), (∀ i ∈ T, Region.ready .any ops (fin.setIfInBounds i false) = [i]) → readsOk ops T listed = true → listAll T listed = fin → readsK P wr ops w T s Kf → Sim s a → Unch D s0 s →
      wpAnyK P .any ops (calmQ Q) (fun w' => w' = w) (fun l => l = fin) K T.length listed a w
  | [], listed, s, a, _, _, hf, h, hs, hu => ⟨hf, hK s a h hs hu⟩
  | i :: r, listed, s, a, hl, ho, hf, h, hs, hu => by
    simp only [readsOk, Bool.and_eq_true] at ho
    obtain ⟨⟨ho1, ho2⟩, ho3⟩ := ho
    unfold readsK at h
    split at h
    · exact h.elim
    rename_i o hi
    have hd : ∀ t, o.dst = some t → D t := fun t ht => hD i o t hi ht
    have hr : i ∈ Region.ready .any ops listed := by simpa using ho1
    have hE : ∀ l : Array Bool, l.setIfInBounds i true = fin → i ∈ Region.ready .any ops l → ∀ j ∈ Region.ready .any ops l, j = i := by
      intro l hl' hil j hj
      have e : l = fin.setIfInBounds i false := by
        have h0 := (mem_ready.1 hil).1
        rw [← hl']
        have h2 : l[i]? = some false := by
          rw [Array.getD_eq_getD_getElem?] at h0
          cases hx : l[i]? with
          | none => rw [hx] at h0; cases h0
          | some b => rw [hx] at h0; simp at h0; subst h0; rfl
        have hlt : i < l.size := (Array.getElem?_eq_some_iff.1 h2).1
        apply Array.ext_getElem?
        intro k
        by_cases hk : i = k
        · subst hk
          rw [Array.getElem?_setIfInBounds_self_of_lt (by simpa using hlt), h2]
        · rw [Array.getElem?_setIfInBounds_ne hk, Array.getElem?_setIfInBounds_ne hk]
      rw [e, hl i (by simp)] at hj
      simpa using hj
    have take : ∀ (s' : Fr) (v v' : Value), Sim s' a → Unch D s0 s' → (isU v = false → v' = v) → YieldsIf P ops (fun w' => w' = w) o v' a → readsK P wr ops w r (s'.put o.dst v) Kf →
        wpAnyK P .any ops (calmQ Q) (fun w' => w' = w) (fun l => l = fin) K (i :: r).length listed a w := by
      intro s' v v' hs' hu' hv hy hk
      have ih := readsK_sound (Q := Q) hsel hD hK r (listed.setIfInBounds i true) (s'.put o.dst v) (a.put o.dst v') (fun j hj => hl j (List.mem_cons_of_mem _ hj)) ho3 hf hk (hs'.put _ hv) (hu'.put hd _)
      exact wpAnyK_first hi (Region.noSelect_spec hsel) (fun _ _ _ h => h) hE r.length listed a w (Region.free_spec hi ho2) hr hy rfl ih
    obtain ⟨s', hs', hu', h⟩ := guardK_sound hD h hs hu
    rcases h with ⟨hw, h⟩ | ⟨hw, h⟩
    · obtain ⟨v, v', h1, h2, h3⟩ := readK_sound h hs'
      exact take s' v v' hs' hu' h2 (.inl ⟨hw, fun w' e => by subst e; exact h3⟩) h1
    · exact take s' undef undef hs' hu' (fun _ => rfl) (.inr ⟨hw, rfl⟩) h

def stagesLen : List (List Nat × Option Nat) → Nat
  | [] => 0
  | (T, none) :: r => T.length + stagesLen r
  | (T, some _) :: r => T.length + (stagesLen r + 1)

theorem stage_reads {P : Program} {wr : Nat → Bool} {ops : Array Oper} {Q : Exit → Act → World → Prop} {w : World} {D : Nat → Prop} {s0 : Fr} {Kf : Fr → Prop} {m : Nat} (hsel : Region.noSelect ops = true)
    (hD : ∀ (j : Nat) (o : Oper) (t : Nat), ops[j]? = some o → o.dst = some t → D t) {T : List Nat} {listed : Array Bool} {s : Fr} {a : Act}
    (hK : ∀ s a, Kf s → Sim s a → Unch D s0 s → wpAny P .any ops (calmQ Q) m (listAll T listed) a w) (ho1 : readsOk ops T listed = true) (ho2 : lastOk ops T (listAll T listed) = true) (h : readsK P wr ops w T s Kf) (hs : Sim s a) (hu : Unch D s0 s) :
    wpAny P .any ops (calmQ Q) (T.length + m) listed a w := by
  have hl : ∀ j ∈ T, Region.ready .any ops ((listAll T listed).setIfInBounds j false) = [j] := by
    intro j hj
    have := List.all_eq_true.1 ho2 j hj
    simpa using this
  refine wpAny_of_K (S := fun w' => w' = w) (E := fun l => l = listAll T listed) (K := fun a' w' => w' = w ∧ wpAny P .any ops (calmQ Q) m (listAll T listed) a' w) ?_ T.length listed a w ?_
  · rintro l a w1 rfl ⟨rfl, hk⟩; exact hk
  · exact readsK_sound hsel hD (fun s a hk hs hu => ⟨rfl, hK s a hk hs hu⟩) T listed s a hl ho1 rfl h hs hu

theorem stagesK_sound {P : Program} {wr : Nat → Bool} {ops : Array Oper} {Q : Exit → Act → World → Prop} {K : Fr → World → Prop} {D : Nat → Prop} {s0 : Fr} (hsel : Region.noSelect ops = true)
    (hD : ∀ (j : Nat) (o : Oper) (t : Nat), ops[j]? = some o → o.dst = some t → D t) (hK : ∀ s a w, K s w → Sim s a → Unch D s0 s → Q .normal a w) :
    ∀ (l : List (List Nat × Option Nat)) (listed : Array Bool) (s : Fr) (a : Act) (w : World), stagesOk ops l listed = true → stagesK P wr ops l s w K → Sim s a → Unch D s0 s → wpAny P .any ops (calmQ Q) (stagesLen l) listed a w
  | [], listed, s, a, w, ho, h, hs, hu => by
    refine ⟨?_, hK _ _ _ h hs hu⟩
    simpa [stagesOk] using ho
  | (T, none) :: rest, listed, s, a, w, ho, h, hs, hu => by
    simp only [stagesOk, Bool.and_eq_true] at ho
    obtain ⟨⟨ho1, ho2⟩, ho3⟩ := ho
    unfold stagesK at h
    exact stage_reads hsel hD (fun s a h hs hu => stagesK_sound hsel hD hK rest _ s a w ho3 h hs hu) ho1 ho2 h hs hu
  | (T, some i) :: rest, listed, s, a, w, ho, h, hs, hu => by
    simp only [stagesOk, Bool.and_eq_true, beq_iff_eq] at ho
    obtain ⟨⟨ho1, ho2⟩, h1, h2⟩ := ho
    unfold stagesK at h
    refine stage_reads hsel hD (fun s a h hs hu => ?_) ho1 ho2 h hs hu
    split at h
    · exact h.elim
    rename_i o hi
    have hd : ∀ t, o.dst = some t → D t := fun t ht => hD i o t hi ht
    refine ⟨fun h0 => (by rw [h1] at h0; cases h0), fun j hj => ?_⟩
    rw [h1] at hj
    have hj : j = i := by simpa using hj
    subst hj
    obtain ⟨s', hs', hu', hgo⟩ := guardK_sound hD (by assumption) hs hu
    clear h
    have h := hgo
    unfold wpOp
    simp only [hi]
    rcases h with ⟨hw, h⟩ | ⟨hw, h⟩
    · simp only [hw, if_true]
      exact .inl (Oper.wp_of_goOn (opK_sound h hs' fun v v' w' hk' hv => stagesK_sound hsel hD hK rest _ _ _ _ h2 hk' (hs'.put _ hv) (hu'.put hd _)))
    · simp only [hw, Bool.false_eq_true, if_false]
      exact stagesK_sound hsel hD hK rest _ _ _ _ h2 h (hs'.put _ (fun _ => rfl)) (hu'.put hd _)

/-- such a region -/
def stageK (P : Program) (wr : Nat → Bool) (ops : Array Oper) (l : List (List Nat × Option Nat)) (s : Fr) (w : World) (K : Fr → World → Prop) : Prop :=
  match P.follows .mixedOrders && Region.noSelect ops && stagesOk ops l (Array.replicate ops.size false) && Nat.beq (stagesLen l) ops.size with
  | true => ∀ w1, w1 = w.drewN 1 → stagesK P wr ops l s w1 K
  | false => False

theorem stageK_wp {P : Program} {wr : Nat → Bool} {ops : Array Oper} {l : List (List Nat × Option Nat)} {s : Fr} {a : Act} {w : World} {K : Fr → World → Prop} {Q : Exit → Act → World → Prop} {id : Nat} {D : Nat → Prop}
    (hD : ∀ (j : Nat) (o : Oper) (t : Nat), ops[j]? = some o → o.dst = some t → D t)
    (h : stageK P wr ops l s w K) (hs : Sim s a) (hK : ∀ s' a w, K s' w → Sim s' a → Unch D s s' → Q .normal a w) : (Code.region id ops true).wp P Q a w := by
  unfold stageK at h
  split at h
  · rename_i hc
    simp only [Bool.and_eq_true, Nat.beq_eq] at hc
    obtain ⟨⟨⟨h1, h2⟩, h3⟩, h4⟩ := hc
    refine wp_mono (wp_region_any (Q := calmQ Q) h1 ?_) calmQ_out
    have h7 := stagesK_sound h2 hD hK l _ _ _ _ h3 (h _ rfl) hs (Unch.refl _ _)
    rw [h4] at h7
    exact h7
  · exact h.elim

/-! ### reads that may come up late, and reads that all else waits for -/
section
variable {P : Program} {ops : Array Oper} {Q : Exit → Act → World → Prop} {md : Region.Mode} {S : Array Bool → World → Prop} {rd : Nat → Bool} {E : Array Bool → Prop} {K : Act → World → Prop}

/-- whatever comes up in the next so many steps: S holds all the time, of what is listed and the world; a read leaves the world -/
def wpAnyD (P : Program) (md : Region.Mode) (ops : Array Oper) (Q : Exit → Act → World → Prop) (S : Array Bool → World → Prop) (rd : Nat → Bool) (E : Array Bool → Prop) (K : Act → World → Prop) : Nat → Array Bool → Act → World → Prop
  | 0, listed, a, w => E listed ∧ K a w
  | n + 1, listed, a, w => Region.ready md ops listed ≠ [] ∧ ∀ i ∈ Region.ready md ops listed, wpOp P ops Q i (fun a' w' => S (listed.setIfInBounds i true) w' ∧ (rd i = true → w' = w) ∧ wpAnyD P md ops Q S rd E K n (listed.setIfInBounds i true) a' w') a w

theorem wpAny_of_D (hK : ∀ listed a w, E listed → K a w → wpAny P md ops Q 0 listed a w) : ∀ (n : Nat) (listed : Array Bool) (a : Act) (w : World), wpAnyD P md ops Q S rd E K n listed a w → wpAny P md ops Q n listed a w
  | 0, listed, a, w, h => hK listed a w h.1 h.2
  | n + 1, listed, a, w, h => ⟨fun h0 => absurd h0 h.1, fun i hi => wpOp_mono (fun a' w' h' => wpAny_of_D hK n _ a' w' h'.2.2) (h.2 i hi)⟩

theorem wpAnyD_first {i : Nat} {oi : Oper} {v : Value} (hi : ops[i]? = some oi) (hsel : ∀ (j : Nat) (o : Oper) cs b, ops[j]? = some o → o.op ≠ .select cs b)
    (hQ : ∀ c a w, Q (.panic c) (a.put oi.dst v) w → Q (.panic c) a w) (hE : ∀ listed, E (listed.setIfInBounds i true) → i ∈ Region.ready md ops listed → ∀ j ∈ Region.ready md ops listed, j = i)
    (hdown : ∀ x w, S x w → S (x.setIfInBounds i true) w)
    (hmono : ∀ (x : Array Bool) (j : Nat) (w w' : World), i ∈ Region.ready md ops x → j ∈ Region.ready md ops x → j ≠ i → S x w → (rd j = true → w' = w) → S ((x.setIfInBounds i true).setIfInBounds j true) w' → S (x.setIfInBounds j true) w') :
    ∀ (n : Nat) (listed : Array Bool) (a : Act) (w : World),
      (∀ j oj, ops[j]? = some oj → j ≠ i → listed.getD j true = false → (∀ e ∈ oj.after, Region.binds md e = true → e.on ≠ i) → oi.apart ops oj = true) →
      i ∈ Region.ready md ops listed → YieldsIf P ops (fun w => ∃ x, i ∈ Region.ready md ops x ∧ S x w) oi v a → S listed w →
      wpAnyD P md ops Q S rd E K n (listed.setIfInBounds i true) (a.put oi.dst v) w → wpAnyD P md ops Q S rd E K (n + 1) listed a w := by
  intro n
  induction n with
  | zero =>
    intro listed a w _ hr hy hS H
    refine ⟨fun h => (by rw [h] at hr; cases hr), fun j hj => ?_⟩
    have := hE listed H.1 hr j hj
    subst this
    exact hy.wpOp hi ⟨listed, hr, hS⟩ ⟨hdown _ _ hS, fun _ => rfl, H⟩
  | succ n ih =>
    intro listed a w hfree hr hy hS H
    refine ⟨fun h => (by rw [h] at hr; cases hr), fun j hj => ?_⟩
    by_cases hji : j = i
    · subst hji; exact hy.wpOp hi ⟨listed, hr, hS⟩ ⟨hdown _ _ hS, fun _ => rfl, H⟩
    · have h1 := H.2 j (ready_mono hj hji)
      obtain ⟨hjun, oj, hoj, hall⟩ := mem_ready.1 hj
      have hnot : ∀ e ∈ oj.after, Region.binds md e = true → e.on ≠ i := fun e he hb heq => by
        have h1 := hall e he hb
        have h0 := (mem_ready.1 hr).1
        rw [heq] at h1
        rcases Nat.lt_or_ge i listed.size with h' | h'
        · simp [h'] at h0 h1; rw [h0] at h1; cases h1
        · simp [Array.getElem?_eq_none h'] at h1
      have h2 := wpOp_putIf hoj (hfree j oj hoj hji hjun hnot) (fun cs b => hsel i oi cs b hi) (fun cs b => hsel j oj cs b hoj) hQ hy h1
      have hfree' : ∀ k ok, ops[k]? = some ok → k ≠ i → (listed.setIfInBounds j true).getD k true = false →
          (∀ e ∈ ok.after, Region.binds md e = true → e.on ≠ i) → oi.apart ops ok = true := fun k ok hk hki hun hno => by
        refine hfree k ok hk hki ?_ hno
        by_cases hjk : j = k
        · subst hjk; exact hjun
        · rw [getD_set_ne true hjk] at hun; exact hun
      refine wpOp_mono (fun a' w' h3 => ?_) h2
      obtain ⟨hy', hS', hrd, hrest⟩ := h3
      have hSj := hmono listed j w w' hr hj hji hS hrd hS'
      refine ⟨hSj, hrd, ih (listed.setIfInBounds j true) a' w' hfree' (ready_mono hr (Ne.symm hji)) hy' hSj ?_⟩
      rw [Array.setIfInBounds_comm _ _ hji]
      exact hrest

end

end Go.Vc
