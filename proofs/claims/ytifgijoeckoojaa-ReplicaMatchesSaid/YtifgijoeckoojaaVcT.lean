/-
  .. it suffices: one operation.
-/
import Derived.Test.YtifgijoeckoojaaVcS
set_option linter.unusedVariables false
set_option linter.unusedSimpArgs false
namespace Go.Vc
open Go.RowKit

theorem Ctx.perm {W w : World} {S S' : List Own} {Φ : PW} [Stable Φ] (c : Ctx W w S Φ) (h : S.Perm S') : Ctx W w S' Φ := by
  have hd : (dom S).Perm (dom S') := h.flatMap_right _
  exact c.go ⟨Chg.refl _ _, fun b hb => .inl (hd.mem_iff.2 hb)⟩ (fun o ho => c.own o (h.mem_iff.2 ho)) (hd.nodup_iff.1 c.nodup)

section
variable {P : Program} {W w : World} {L : List Tr} {R : List Own} {Φ : PW}

theorem CtxS.blk (c : CtxS W w L R Φ) {k : Nat} {T : Tr} (h : findT k L = some T) : Blk w T.b T.cs T.t :=
  c.own T.own (List.mem_append.2 (.inr (List.mem_map.2 ⟨T, (findT_id h).2, rfl⟩)))

theorem CtxS.new [Stable Φ] (c : CtxS W w L R Φ) {cs : Array Value} {t : TypeId} (d : Nat) : CtxS W (w.alloc (.cells cs t)) (⟨d, w.heap.size, 0, cs.toList, t⟩ :: L) R Φ := by
  have := Ctx.new c (w' := w.alloc (.cells cs t)) rfl
  exact this.perm (by simpa [Tr.own] using List.perm_middle.symm)

theorem CtxS.newR [Stable Φ] (c : CtxS W w L R Φ) {cs : Array Value} {t : TypeId} : CtxS W (w.alloc (.cells cs t)) L (.blk w.heap.size cs.toList t :: R) Φ := Ctx.new c rfl

theorem map_setT {k : Nat} {cs : List Value} {T : Tr} : ∀ {L : List Tr}, findT k L = some T → ∃ i, (L.map Tr.own)[i]? = some T.own ∧ (setT k cs L).map Tr.own = (L.map Tr.own).set i (.blk T.b cs T.t)
  | [], h => by cases h
  | U :: r, h => by
    unfold findT at h
    unfold setT
    cases hb : Nat.beq U.id k with
    | true =>
      rw [hb] at h
      cases h
      exact ⟨0, rfl, rfl⟩
    | false =>
      rw [hb] at h
      obtain ⟨i, h1, h2⟩ := map_setT (cs := cs) h
      exact ⟨i + 1, by simpa using h1, by simp [h2]⟩

theorem CtxS.upd [Stable Φ] (c : CtxS W w L R Φ) {k : Nat} {T : Tr} {cs : List Value} {w' : World} (h : findT k L = some T) (hc : Chg [T.b] w w') (hb : Blk w' T.b cs T.t) : CtxS W w' (setT k cs L) R Φ := by
  obtain ⟨i, h1, h2⟩ := map_setT (cs := cs) h
  unfold CtxS at c ⊢
  rw [h2, show R ++ (L.map Tr.own).set i (.blk T.b cs T.t) = (R ++ L.map Tr.own).set (R.length + i) (.blk T.b cs T.t) by
    rw [List.set_append_right _ _ (by omega)]; congr 2; omega]
  refine Ctx.upd c (o := T.own) (by rw [List.getElem?_append_right (by omega)]; rw [show R.length + i - R.length = i by omega]; exact h1) hc (by simp [Own.dom, Tr.own]) (by simp [Own.dom]) hb

theorem quiet_free {wr : Bool} {o : Oper} {ρ : Operand → Value} {K : Value → Prop} {p : Prop} (W w : World) (h : quietK P wr o ρ W none K = some p) (hf : heapOp P o ρ K = false) (hp : p) :
    ∃ v, (∀ w', (execOp ρ o).run P w' = .ok (.value v) w') ∧ K v :=
  let ⟨v, h1, h2⟩ := quietK_sound' h hp
  ⟨v, fun w' => h1 trivial w' fun e => (by rw [hf] at e; cases e), h2⟩

theorem optP_quiet {wr : Bool} {o : Oper} {ρ : Operand → Value} {K : Value → Prop} (h : optP (quietK P wr o ρ w none K)) : ∃ v, (∀ w', w'.heap = w.heap → (execOp ρ o).run P w' = .ok (.value v) w') ∧ K v := by
  unfold optP at h
  split at h
  · rename_i p hp
    obtain ⟨v, h1, h2⟩ := quietK_sound hp h
    exact ⟨v, h1 trivial, h2⟩
  · exact h.elim

theorem loadT_sound {t : TypeId} {k off : Nat} {K : Value → Prop} {T : Tr} (hT : findT k L = some T) (hb : Blk w T.b T.cs T.t) (h : loadT P t L k off K) :
    ∃ v, (∀ w', w'.heap = w.heap → (loadVar t ⟨T.b, off, none⟩).run P w' = .ok v w') ∧ K v := by
  unfold loadT at h
  rw [hT] at h
  split at h
  · rename_i T' d i e hd hi
    cases e
    have key : vcLoadG P t w none T.b off K := by
      unfold vcLoadG
      rw [hd, hi]
      simp only
      split at h
      · rename_i l ha hz
        split at h
        · rename_i hc
          simp only [Bool.and_eq_true] at hc
          simp only [ha, hz, hc.1]
          refine fitL_ex hc.2 ⟨hb.row fun j hj => ?_, h⟩
          simp only [List.length_take, List.length_drop] at hj
          rw [List.getElem_take, List.getElem_drop, List.getElem?_eq_getElem]
        · exact h.elim
      · rename_i sc ha hz
        split at h
        · rename_i v hv
          split at h
          · obtain ⟨f, a, c, rfl, h⟩ := h
            simp only [ha, hz]
            exact ⟨f, a, c, hb.cell_eq hv, h⟩
          · split at h
            · rename_i hf
              simp only [ha, hz]
              exact Sc.fit_ex hf ⟨hb.cell_eq hv, h⟩
            · exact h.elim
        · exact h.elim
      · exact h.elim
    obtain ⟨v, h1, h2⟩ := vcLoadG_sound key
    exact ⟨v, h1 trivial, h2⟩
  · exact h.elim

theorem fieldT_sound {t : TypeId} {k off f : Nat} {K : SV → Prop} {T : Tr} (hT : findT k L = some T) (h : fieldT P t k off f K) :
    ∃ off', (∀ w, (Instr.fieldAt t (.pointer (some ⟨T.b, off, none⟩)) f).run P w = .ok (.pointer (some ⟨T.b, off', none⟩)) w) ∧ K (.ptr k off') := by
  unfold fieldT at h
  split at h
  · rename_i fs ht
    split at h
    · rename_i fd hf
      split at h
      · rename_i i hi
        split at h
        · rename_i hz
          have hz : ¬ i.size = 0 := Nat.ne_of_beq_eq_false hz
          refine ⟨_, fun w => ?_, h⟩
          simp [Instr.fieldAt, run_underlying ht, Result.andThen, hf, Instr.sureAddr, fieldPlace, run_sizeOf hi, hz, addr_add]
        · exact h.elim
      · exact h.elim
    · exact h.elim
  · exact h.elim

theorem indexT_sound {t : TypeId} {k off : Nat} {i : Value} {K : SV → Prop} {T : Tr} (hT : findT k L = some T) (h : indexT P t k off i K) :
    ∃ off', (∀ w, (Instr.indexAt t (.pointer (some ⟨T.b, off, none⟩)) i).run P w = .ok (.pointer (some ⟨T.b, off', none⟩)) w) ∧ K (.ptr k off') := by
  unfold indexT at h
  split at h
  · rename_i kk n len e ht
    split at h
    · rename_i ie hi
      obtain ⟨⟨h3, h4⟩, h⟩ := h
      refine ⟨_, fun w => ?_, h⟩
      simp [Instr.indexAt, asIntOf, run_underlying ht, Result.andThen, h3, h4, run_sizeOf hi, addr_add, Instr.sureAddr, idx_eq]
    · exact h.elim
  · exact h.elim

theorem val_ptr {L : List Tr} {k off : Nat} {T : Tr} (h : findT k L = some T) : (SV.ptr k off).val L = .pointer (some ⟨T.b, off, none⟩) := by simp [SV.val, h]

theorem readS_sound {wr : Bool} {o : Oper} {s : FrS} {K : SV → Prop} {p : Prop} (hwf : WfS L s) (c : CtxS W w L R Φ) (h : readS P W wr o s L R Φ K = some p) (hp : p) :
    ∃ sv, (∀ k o, sv = SV.ptr k o → (findT k L).isSome = true) ∧ (∀ w', w'.heap = w.heap → (execOp (s.val L) o).run P w' = .ok (.value (sv.val L)) w') ∧ K sv := by
  have viaW : ∀ {p : Prop}, heapOp P o (s.val L) (fun v => K (.v v)) = false → quietK P wr o (s.val L) W none (fun v => K (.v v)) = some p → p →
      ∃ sv, (∀ k o, sv = SV.ptr k o → (findT k L).isSome = true) ∧ (∀ w', w'.heap = w.heap → (execOp (s.val L) o).run P w' = .ok (.value (sv.val L)) w') ∧ K sv := by
    intro p hf hq hp
    obtain ⟨v, h1, h2⟩ := quiet_free W w hq hf hp
    exact ⟨.v v, fun k o e => (by cases e), fun w' _ => h1 w', h2⟩
  have viaw : optP (quietK P wr o (s.val L) w none (fun v => K (.v v))) →
      ∃ sv, (∀ k o, sv = SV.ptr k o → (findT k L).isSome = true) ∧ (∀ w', w'.heap = w.heap → (execOp (s.val L) o).run P w' = .ok (.value (sv.val L)) w') ∧ K sv := by
    intro hq
    obtain ⟨v, h1, h2⟩ := optP_quiet hq
    exact ⟨.v v, fun k o e => (by cases e), h1, h2⟩
  unfold readS at h
  split at h
  · rename_i x hop
    cases h
    exact ⟨s.ev x, fun k o e => hwf.ev e, fun w' _ => by simp [execOp, hop, FrS.val], hp⟩
  · rename_i x hop
    cases h
    exact ⟨s.ev x, fun k o e => hwf.ev e, fun w' _ => by simp [execOp, hop, FrS.val], hp⟩
  · rename_i x hop
    split at h
    · rename_i k off hx
      cases h
      obtain ⟨T, hT⟩ := Option.isSome_iff_exists.1 (hwf.ev hx)
      refine ⟨.ptr k off, fun k' o' e => by cases e; rw [hT]; rfl, fun w' _ => ?_, hp⟩
      have hv : s.val L x = .pointer (some ⟨T.b, off, none⟩) := by rw [FrS.val, hx, val_ptr hT]
      simp [execOp, hop, hv, val_ptr hT]
    · exact viaW (by simp [heapOp, hop]) h hp
  · rename_i t x f hop
    split at h
    · rename_i k off hx
      cases h
      obtain ⟨T, hT⟩ := Option.isSome_iff_exists.1 (hwf.ev hx)
      obtain ⟨off', h1, h2⟩ := fieldT_sound hT hp
      refine ⟨.ptr k off', fun k' o' e => by cases e; rw [hT]; rfl, fun w' _ => ?_, h2⟩
      have hv : s.val L x = .pointer (some ⟨T.b, off, none⟩) := by rw [FrS.val, hx, val_ptr hT]
      simp [execOp, hop, hv, val_ptr hT, h1 w', Result.andThen]
    · exact viaW (by simp [heapOp, hop]) h hp
  · rename_i t x i hop
    split at h
    · rename_i k off hx
      cases h
      obtain ⟨T, hT⟩ := Option.isSome_iff_exists.1 (hwf.ev hx)
      obtain ⟨off', h1, h2⟩ := indexT_sound hT hp
      refine ⟨.ptr k off', fun k' o' e => by cases e; rw [hT]; rfl, fun w' _ => ?_, h2⟩
      have hv : s.val L x = .pointer (some ⟨T.b, off, none⟩) := by rw [FrS.val, hx, val_ptr hT]
      simp [execOp, hop, hv, val_ptr hT, h1 w', Result.andThen]
    · exact viaW (by simp [heapOp, hop]) h hp
  · rename_i t x hop
    split at h
    · rename_i k off hx
      cases h
      obtain ⟨T, hT⟩ := Option.isSome_iff_exists.1 (hwf.ev hx)
      obtain ⟨v, h1, h2⟩ := loadT_sound hT (c.blk hT) hp
      refine ⟨.v v, fun k o e => (by cases e), fun w' hw => ?_, h2⟩
      have hv : s.val L x = .pointer (some ⟨T.b, off, none⟩) := by rw [FrS.val, hx, val_ptr hT]
      simp [execOp, hop, hv, Instr.loadAt, Instr.sureAddr, h1 w' hw, Result.andThen, SV.val]
    · cases h; exact viaw (hp w _ c)
  · cases h; exact viaw (hp w _ c)
  · split at h
    · rename_i hf; exact viaW hf h hp
    · split at h
      · cases h; exact viaw (hp w _ c)
      · cases h

theorem goOn_mono {K K' : Value → World → Prop} (hK : ∀ v w, K v w → K' v w) : ∀ {r}, goOn P K r → goOn P K' r := by
  intro r hr
  cases r with
  | ok n w' =>
    cases n <;> simp only [goOn] at hr ⊢ <;> try exact hr
    · exact hK _ _ hr
    · exact hK _ _ hr
    · exact hr.mono fun e w'' ⟨v, he, hk⟩ => ⟨v, he, hK _ _ hk⟩
  | halt x w' => exact hr

theorem cells_store {t : TypeId} {i : TypeInfo} {b off : Nat} {cs : List Value} {ty : TypeId} {vs : List Value} (hi : P.info? t = some i) (hb : Blk w b cs ty) (hn : vs.length = i.size) (h1 : ∀ v ∈ vs, oneC v = true) (hl : off + i.size ≤ cs.length) :
    (storeVar t ⟨b, off, none⟩ (.agg vs.toArray)).run P w = .ok () (w.setCells b off vs) := by
  have hcan := hb.can (o := off) (n := vs.length) (by omega)
  have hr := run_storeCells (P := P) (b := b) (o := off) vs 0 w h1 (fun j hj => by rw [Nat.zero_add]; exact hcan j hj)
  unfold storeVar
  simp only [Value.cells, Sem.run_bind, run_sizeOf hi, Result.andThen, List.size_toArray, hn, ne_eq, not_true_eq_false, if_false]
  simpa using hr

theorem storeT_sound [Stable Φ] {wr : Bool} {t : TypeId} {k off : Nat} {v : Value} {K : List Tr → Prop} {T : Tr} (hT : findT k L = some T) (c : CtxS W w L R Φ) (h : storeT P wr t L k off v K) :
    ∃ w' L', (storeVar t ⟨T.b, off, none⟩ v).run P w = .ok () w' ∧ K L' ∧ Ext L L' ∧ CtxS W w' L' R Φ := by
  have hb := c.blk hT
  unfold storeT at h
  rw [hT] at h
  split at h
  case h_2 => exact h.elim
  rename_i T' i e hi
  cases e
  have agg : ∀ {cs : Array Value}, cs.toList.length = i.size → (∀ v ∈ cs.toList, oneC v = true) → off + i.size ≤ T.cs.length → K (setT k (setL T.cs off cs.toList) L) →
      ∃ w' L', (storeVar t ⟨T.b, off, none⟩ (.agg cs)).run P w = .ok () w' ∧ K L' ∧ Ext L L' ∧ CtxS W w' L' R Φ := by
    intro cs h1 h2 h3 h4
    have hr := cells_store (P := P) hi hb h1 h2 h3
    rw [Array.toArray_toList] at hr
    exact ⟨_, _, hr, h4, Ext.setT hT, c.upd hT ((Chg.refl _ _).setCells (by simp) _ _) (hb.sets _ _)⟩
  have one : ∀ {v : Value}, i.size = 1 → oneC v = true → off < T.cs.length → K (setT k (T.cs.set off v) L) →
      ∃ w' L', (storeVar t ⟨T.b, off, none⟩ v).run P w = .ok () w' ∧ K L' ∧ Ext L L' ∧ CtxS W w' L' R Φ := by
    intro v h1 h2 h3 h4
    obtain ⟨g1, g2⟩ := hb.can (o := off) (n := 1) (by omega) 0 (by omega)
    exact ⟨_, _, run_storeVar_one hi h1 h2 g1 g2, h4, Ext.setT hT, c.upd hT ((Chg.refl _ _).setCell (by simp) _) (hb.set _ _)⟩
  split at h
  · split at h
    · split at h
      · split at h
        · split at h
          · rename_i hc
            simp only [Bool.and_eq_true] at hc
            exact agg (Nat.eq_of_beq_eq_true hc.1) h.1 (Nat.le_of_ble_eq_true hc.2) h.2
          · exact h.elim
        · exact h.elim
      · split at h
        · rename_i hc
          simp only [Bool.and_eq_true] at hc
          exact one (Nat.eq_of_beq_eq_true hc.1) (h.1 _ (by simp)) (by have h2 := hc.2; rwa [Nat.blt_eq] at h2) h.2
        · exact h.elim
    · exact h.elim
  · split at h
    · split at h
      · rename_i hc
        simp only [Bool.and_eq_true] at hc
        exact agg (Nat.eq_of_beq_eq_true hc.1.1) (fun v hv => List.all_eq_true.1 hc.1.2 v hv) (Nat.le_of_ble_eq_true hc.2) h
      · exact h.elim
    · split at h
      · rename_i hc
        simp only [Bool.and_eq_true] at hc
        exact one (Nat.eq_of_beq_eq_true hc.1.1) hc.1.2 (by have h2 := hc.2; rwa [Nat.blt_eq] at h2) h
      · exact h.elim

/-- what is asked of an operation suffices -/
theorem opS_sound [Stable Φ] {wr trk : Bool} {ex : Nat → Option TypeId} {o : Oper} {s : FrS} {a : Act} {K : SV → List Tr → List Own → PW → Prop} {K' : Value → World → Prop}
    (h : opS P W wr trk ex o s L R Φ K) (hs : Sim (s.fr L) a) (hwf : WfS L s) (c : CtxS W w L R Φ)
    (hK : ∀ sv L' R' Φ' v' w', K sv L' R' Φ' → Stable Φ' → Ext L L' → (∀ k o, sv = SV.ptr k o → (findT k L').isSome = true) → CtxS W w' L' R' Φ' → (isU (sv.val L') = false → v' = sv.val L') → K' v' w') :
    goOn P K' ((execOp a.eval o).run P w) := by
  unfold opS at h
  split at h
  · rename_i cc x y hop
    split at h
    · rename_i b hc
      have hev := fr_eval s L
      have hc' : a.eval cc = .bool b := by rw [hs.eval (by rw [hev, hc]; rfl), hev, hc]
      cases b with
      | true =>
        simp only [Br] at h
        simp only [execOp, hop, hc', asBool, Sem.run_bind, Sem.run_pure, Result.andThen, if_true, goOn]
        exact hK _ _ _ _ _ _ h inferInstance (Ext.refl _) (fun k o e => hwf.ev e) c fun hu => by rw [hs.eval (by rw [hev]; exact hu), hev]; rfl
      | false =>
        simp only [Br] at h
        simp only [execOp, hop, hc', asBool, Sem.run_bind, Sem.run_pure, Result.andThen, goOn, Bool.false_eq_true, if_false]
        exact hK _ _ _ _ _ _ h inferInstance (Ext.refl _) (fun k o e => hwf.ev e) c fun hu => by rw [hs.eval (by rw [hev]; exact hu), hev]; rfl
    · exact h.elim
  · split at h
    case h_2 => exact h.elim
    rename_i ho
    simp only [Bool.and_eq_true] at ho
    rw [exec_sim hs ho.1 ho.2, show (s.fr L).eval = s.val L from funext (fr_eval s L)]
    split at h
    · rename_i p hp
      obtain ⟨sv, h1, h2, h3⟩ := readS_sound hwf c hp h
      rw [h2 w rfl]
      exact hK _ _ _ _ _ _ h3 inferInstance (Ext.refl _) h1 c fun _ => rfl
    · have gen : (∀ w F, Ctx W w (R ++ F) Φ → effA P wr ex o (s.val L) w fun v w' => ∃ R' Φ', Stable Φ' ∧ Ctx W w' (R' ++ F) Φ' ∧ K (.v v) L R' Φ') → goOn P K' ((execOp (s.val L) o).run P w) := by
        intro h
        have h := h w _ c
        have mono : ∀ v w', (∃ R' Φ', Stable Φ' ∧ Ctx W w' (R' ++ L.map Tr.own) Φ' ∧ K (.v v) L R' Φ') → K' v w' := by
          rintro v w' ⟨R', Φ', h1, h2, h3⟩
          exact hK _ _ _ _ _ _ h3 h1 (Ext.refl _) (fun k o e => by cases e) h2 fun _ => rfl
        unfold effA at h
        cases wr with
        | true => exact goOn_mono mono (dynK_sound h)
        | false => exact goOn_mono mono (effK_sound h)
      have new : ∀ {cs : Array Value} {t : TypeId}, newS trk o.dst cs.toList t L R Φ K → K' (.pointer (some ⟨w.heap.size, 0, none⟩)) (w.alloc (.cells cs t)) := by
        intro cs t h
        unfold newS at h
        split at h
        · rename_i d hd _
          split at h
          · rename_i hn
            refine hK _ _ _ _ _ _ (h w.heap.size) inferInstance (Ext.new (T := ⟨d, w.heap.size, 0, cs.toList, t⟩) hn) (fun k o e => ?_) (c.new d) fun _ => ?_
            · cases e; simp [findT]
            · simp [SV.val, findT]
          · exact h.elim
        · exact hK _ _ _ _ _ _ (h w.heap.size) inferInstance (Ext.refl _) (fun k o e => by cases e) c.newR fun _ => rfl
      split at h
      · rename_i t x y hop
        split at h
        · rename_i k off hx
          obtain ⟨T, hT⟩ := Option.isSome_iff_exists.1 (hwf.ev hx)
          obtain ⟨w', L', h1, h2, h3, h4⟩ := storeT_sound hT c h
          have hv : s.val L x = .pointer (some ⟨T.b, off, none⟩) := by rw [FrS.val, hx, val_ptr hT]
          simp only [execOp, hop, hv, Instr.storeAt, Instr.sureAddr, Sem.run_bind, Sem.run_pure, Result.andThen, h1]
          exact hK _ _ _ _ _ _ h2 inferInstance h3 (fun k o e => by cases e) h4 fun _ => rfl
        · exact gen h
      · rename_i t x hop
        simp only [execOp, hop, Instr.box, newVar, newRow, newObj, Sem.run_bind, Sem.run, Sem.run_pure, Result.andThen]
        exact new h
      · rename_i t hop
        split at h
        · rename_i z hz
          simp only [execOp, hop, Instr.alloc, newVar, newRow, newObj, Sem.run_bind, run_zero hz, Sem.run, Sem.run_pure, Result.andThen]
          exact new h
        · exact h.elim
      · rename_i t n parts hop
        split at h
        · rename_i cells e hsc
          have key : vcBuildSlice P t n (parts.toList.map fun p => (p.1, s.val L p.2)) w fun v w' => v = .slice (some ⟨w.heap.size, 0, none⟩) n n ∧ w' = w.alloc (.cells cells.toArray e) := by
            unfold sliceCells at hsc
            unfold vcBuildSlice
            split at hsc
            · rename_i e' ht
              split at hsc
              · rename_i i z hi hz
                split at hsc
                · rename_i hc
                  split at hsc
                  · rename_i cells' hf
                    cases hsc
                    simp only [ht, hi, hz, hc, hf]
                    exact fun w' hw' => ⟨by simp, hw'⟩
                  · cases hsc
                · cases hsc
              · cases hsc
            · cases hsc
          rw [show (parts.toList.map fun p => (p.1, s.val L p.2)) = (parts.map fun (i, x) => (i, s.val L x)).toList by simp] at key
          obtain ⟨v, w', h1, rfl, rfl⟩ := vcBuildSlice_sound key
          simp only [execOp, hop, Sem.run_bind, h1, Sem.run_pure, Result.andThen]
          exact hK _ _ _ _ _ _ (h w.heap.size) inferInstance (Ext.refl _) (fun k o e => by cases e) (by have := c.newR (cs := cells.toArray) (t := e); simpa using this) fun _ => rfl
        · exact h.elim
      · rename_i t l cc hop
        have key : vcMakeSlice P t (s.val L l) (s.val L cc) w fun v w' => ∃ n m cells e, v = .slice (some ⟨w.heap.size, 0, none⟩) n m ∧ w' = w.alloc (.cells (List.toArray cells) e) ∧ ∀ b : Nat, K (.v (.slice (some ⟨b, 0, none⟩) n m)) L (.blk b cells e :: R) Φ := by
          unfold makeS at h
          unfold vcMakeSlice
          split at h
          · rename_i e l' c' ht e1 e2
            rw [ht, e1, e2]
            simp only
            split at h
            · rename_i i z hi hz
              rw [hi, hz]
              obtain ⟨h1, h2⟩ := h
              refine ⟨h1, ?_⟩
              split at h2
              · rename_i hc
                simp only [Bool.and_eq_true, Nat.beq_eq] at hc
                rw [if_pos hc]
                exact fun w' hw' => ⟨_, _, _, _, rfl, hw', h2⟩
              · rename_i hn
                split at h2
                · rename_i hc
                  simp only [Bool.and_eq_true, Nat.beq_eq, Bool.not_eq_true'] at hc
                  rw [if_neg (by rintro ⟨q1, q2⟩; simp [q1, q2] at hn), if_pos ⟨hc.1, Nat.ne_of_beq_eq_false hc.2⟩]
                  exact fun w' hw' => ⟨_, _, _, _, rfl, hw', h2⟩
                · exact h2.elim
            · exact h.elim
          · exact h.elim
        obtain ⟨v, w', h1, n, m, cells, e, rfl, rfl, h2⟩ := vcMakeSlice_sound key
        simp only [execOp, hop, Sem.run_bind, h1, Sem.run_pure, Result.andThen]
        exact hK _ _ _ _ _ _ (h2 w.heap.size) inferInstance (Ext.refl _) (fun k o e => by cases e) (by have := c.newR (cs := cells.toArray) (t := e); simpa using this) fun _ => rfl
      · rename_i t hop
        simp only [execOp, hop, Option.map_none, Instr.makeMap, newObj, Sem.run_bind, Sem.run, Sem.run_pure, Result.andThen]
        exact hK _ _ _ _ _ _ (h w.heap.size) inferInstance (Ext.refl _) (fun k o e => by cases e) (Ctx.newObj c rfl) fun _ => rfl
      · rename_i t parts hop
        rw [show (parts.toList.map fun p => (p.1, s.val L p.2)) = (parts.map fun (i, x) => (i, s.val L x)).toList by simp] at h
        obtain ⟨v, h1, h2⟩ := vcBuild_sound (w := w) h
        simp only [execOp, hop, Sem.run_bind, h1, Sem.run_pure, Result.andThen]
        exact hK _ _ _ _ _ _ h2 inferInstance (Ext.refl _) (fun k o e => by cases e) c fun _ => rfl
      · exact gen h

end

end Go.Vc
