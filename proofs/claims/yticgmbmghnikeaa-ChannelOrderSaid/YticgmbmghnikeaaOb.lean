/-
  The walks of spoil, List and few.
-/
import Derived.Test.YticgmbmghnikeaaOa
import Derived.Test.YticgmbmghnikeaaVh
set_option linter.unusedVariables false
set_option linter.unusedSimpArgs false
namespace Go.Proofs.Yticgmbmghnikeaa
open Go.Vc

theorem Loose.setTime {cs : List Value} {rows : List Own} {l : List DeltaD} (h : Loose cs rows l) (k : Nat) (x : Int) : Loose (setL cs (k * 3) [.int .i64 x]) rows l := by
  have hset : setL cs (k * 3) [.int .i64 x] = cs.set (k * 3) (.int .i64 x) := rfl
  rw [hset]
  refine ⟨by rw [List.length_set, h.len], fun j hj => ?_⟩
  obtain ⟨q, c, vc, t, e1, e2, h3, h4, h5⟩ := h.go j hj
  refine ⟨q, c, vc, if k = j then x else t, ?_, by rw [List.getElem?_set_ne (by omega)]; exact e2, h3, h4, h5⟩
  by_cases hkj : k = j
  · subst hkj; rw [if_pos rfl, List.getElem?_set_self (List.getElem?_eq_some_iff.1 e1).1]
  · rw [if_neg hkj, List.getElem?_set_ne (by omega)]; exact e1

theorem Loose.setRow {cs : List Value} {rows : List Own} {l : List DeltaD} (h : Loose cs rows l) {j n : Nat} {q : Option Addr} {c : Nat} {vc vc' : List Value} (hj : rows[j]? = some (.buf q n c vc 58 3)) (hl : vc'.length = vc.length)
    (hi : ∀ i : Nat, (∃ x, vc[i * 3 + 1]? = some (.int .i64 x)) → ∃ x, vc'[i * 3 + 1]? = some (.int .i64 x)) : Loose cs (rows.set j (.buf q n c vc' 58 3)) l := by
  refine ⟨h.len, fun k hk => ?_⟩
  obtain ⟨q1, c1, vc1, t, e1, e2, h3, h4, h5⟩ := h.go k hk
  obtain ⟨i, hi'⟩ := List.getElem?_of_mem h3
  have hlt := (List.getElem?_eq_some_iff.1 hj).1
  by_cases hij : j = i
  · subst hij
    rw [hj] at hi'
    simp only [Option.some.injEq, Own.buf.injEq] at hi'
    obtain ⟨rfl, rfl, rfl, rfl, _⟩ := hi'
    exact ⟨q, c, vc', t, e1, e2, List.mem_of_getElem? (i := j) (by rw [List.getElem?_set_self hlt]), by rw [hl, h4], fun i hi2 => hi i (h5 i hi2)⟩
  · exact ⟨q1, c1, vc1, t, e1, e2, List.mem_of_getElem? (i := i) (by rw [List.getElem?_set_ne hij]; exact hi'), h4, h5⟩

theorem rows_at {o x : Own} {rows S G : List Own} {j : Nat} (h : rows[j]? = some x) : (o :: rows ++ S ++ G)[j + 1]? = some x := by
  have hj := (List.getElem?_eq_some_iff.1 h).1
  rw [List.cons_append, List.cons_append, List.getElem?_cons_succ, List.append_assoc, List.getElem?_append_left hj]
  exact h

theorem rows_set {o x : Own} {rows S G : List Own} {j : Nat} (h : j < rows.length) : (o :: rows ++ S ++ G).set (j + 1) x = o :: rows.set j x ++ S ++ G := by
  rw [List.cons_append, List.cons_append, List.set_cons_succ, List.append_assoc, List.set_append_left _ _ h, List.cons_append, List.cons_append, List.append_assoc]

set_option maxHeartbeats 2000000 in
theorem spoil_use {W w : World} {S : List Own} {Φ : PW} [Stable Φ] {m : MsgD} {p : Option Addr} {cap : Nat} {cs : List Value} {rows : List Own} (c : Ctx W w (.buf p m.deltas.length cap cs 56 3 :: rows ++ S) Φ) (hl : Loose cs rows m.deltas) (hsm : m.Small)
    {K : Ending → World → Prop} (hk : ∀ w', Ctx W w' S Φ → K (.returned (.tuple #[])) w') : Calls Try.prog F.erratalaw36_spoil #[m.v p cap] w K := by
  have hp : 0 < m.deltas.length → ∃ b, p = some ⟨b, 0, none⟩ := fun h0 => by
    obtain ⟨b, hb, _⟩ := c.bufCell 0 rfl (by rw [hl.len]; omega)
    exact ⟨b, hb⟩
  refine (Berratalaw36_spoil_run m.kind m.node m.inp m.bucket m.n p m.deltas.length cap (J := fun u w' => K (.returned u) w') c ?_).mono fun e w' ⟨v, he, hj⟩ => by rw [he]; exact hj
  have hn8 := hsm.1
  refine fun _ => exI_mk (fun n R' Φ' k => ∃ (i : Nat) (cs : List Value) (rows : List Own), n = i ∧ i ≤ m.deltas.length ∧ R' = .buf p m.deltas.length cap cs 56 3 :: rows ++ S ∧ Φ' = Φ ∧ k = m.deltas.length - i ∧ Loose cs rows m.deltas)
    ⟨⟨_, _, _, inferInstance, fun w G cx => cx, 0, cs, rows, rfl, Nat.zero_le _, rfl, rfl, rfl, hl⟩, ?_⟩
  rintro n R1 Φ1 k _ ⟨i, cs, rows, rfl, hi, rfl, rfl, rfl, hl⟩
  refine Br.intro (fun hlt => ?_) (fun hge => fun w G cx => hk w cx.left.drop1.right)
  have hlt : i < m.deltas.length := by simpa using hlt
  obtain ⟨b, hb⟩ := hp (by omega)
  obtain ⟨_, _, _, t, e1, _⟩ := hl.go i hlt
  have hlt1 := (List.getElem?_eq_some_iff.1 e1).1
  refine ⟨by omega, ptrK_intro b 0 hb fun w G cx => ⟨t, ?_, by omega, ptrK_intro b 0 hb fun w G cx => ⟨?_, fun w' hw' => ?_⟩⟩⟩
  · rw [Int.toNat_natCast, Nat.zero_add]
    exact Ctx.bufGet' cx 0 rfl hb e1
  · rw [Int.toNat_natCast, Nat.zero_add]
    exact cx.bufCan 0 rfl hb (by omega)
  rw [Int.toNat_natCast, Nat.zero_add] at hw'
  have cx1 := cx.bufPuts 0 rfl hb (by omega) (o := i * 3) (vs := [.int .i64 (IntKind.i64.wrap (t + 1))]) (by simp only [List.length_singleton]; omega) hw'
  have hl1 := hl.setTime i (IntKind.i64.wrap (t + 1))
  generalize hcs1 : setL cs (i * 3) [.int .i64 (IntKind.i64.wrap (t + 1))] = cs1 at hl1 cx1
  refine ⟨.buf p m.deltas.length cap cs1 56 3 :: rows ++ S, Φ1, inferInstance, cx1, ?_⟩
  refine exI_mk (fun n R' Φ' k => ∃ (a : Nat) (rows : List Own), n = a ∧ a ≤ m.deltas[i].row.length ∧ R' = .buf p m.deltas.length cap cs1 56 3 :: rows ++ S ∧ Φ' = Φ1 ∧ k = m.deltas[i].row.length - a ∧ Loose cs1 rows m.deltas)
    ⟨⟨_, _, _, inferInstance, fun w G cx => cx, 0, rows, rfl, Nat.zero_le _, rfl, rfl, rfl, hl1⟩, ?_⟩
  rintro n R2 Φ2 k _ ⟨a, rows, rfl, ha, rfl, rfl, rfl, hl2⟩
  obtain ⟨q, qc, vc, t, e1, e2, e3, e4, e5⟩ := hl2.go i hlt
  obtain ⟨j, hj⟩ := List.getElem?_of_mem e3
  have hjl := (List.getElem?_eq_some_iff.1 hj).1
  refine ⟨by omega, ptrK_intro b 0 hb fun w G cx => ⟨q, m.deltas[i].row.length, qc, ?_, Br.intro (fun h => ?_) (fun h => ?_)⟩⟩
  · rw [Int.toNat_natCast, Nat.zero_add]
    exact Ctx.bufGet' cx 0 rfl hb e2
  · have h : a < m.deltas[i].row.length := by simpa using h
    obtain ⟨x, hx⟩ := e5 a h
    have hxl := (List.getElem?_eq_some_iff.1 hx).1
    obtain ⟨g, hg, _⟩ := cx.bufCell (j + 1) (rows_at hj) (by omega)
    refine ⟨by omega, ptrK_intro b 0 hb fun w G cx => ⟨q, m.deltas[i].row.length, qc, ?_, by omega, ptrK_intro g 0 hg fun w G cx => ⟨x, ?_, by omega, ptrK_intro g 0 hg fun w G cx => ⟨?_, fun w' hw' => ?_⟩⟩⟩⟩
    · rw [Int.toNat_natCast, Nat.zero_add]
      exact Ctx.bufGet' cx 0 rfl hb e2
    · rw [Int.toNat_natCast, Nat.zero_add]
      exact Ctx.bufGet' cx (j + 1) (rows_at hj) hg hx
    · rw [Int.toNat_natCast, Nat.zero_add]
      exact cx.bufCan (j + 1) (rows_at hj) hg (by omega)
    · rw [Int.toNat_natCast, Nat.zero_add] at hw'
      have cx2 := cx.bufPuts (j + 1) (rows_at hj) hg (by omega) (o := a * 3 + 1) (vs := [.int .i64 (IntKind.i64.wrap (x + 1))]) (by simp only [List.length_singleton]; omega) hw'
      rw [rows_set hjl] at cx2
      have hrl := hsm.2 _ (List.getElem_mem hlt)
      refine ⟨_, Φ2, inferInstance, cx2, by unfold I64; omega, _, Φ2, m.deltas[i].row.length - (a + 1), inferInstance, fun w G cx => cx, ⟨a + 1, _, rfl, h, rfl, rfl, rfl, hl2.setRow hj (setL_len _ _ _) fun k ⟨y, hy⟩ => ?_⟩, by omega⟩
      have hset : setL vc (a * 3 + 1) [.int .i64 (IntKind.i64.wrap (x + 1))] = vc.set (a * 3 + 1) (.int .i64 (IntKind.i64.wrap (x + 1))) := rfl
      rw [hset]
      by_cases hka : a = k
      · subst hka; exact ⟨_, by rw [List.getElem?_set_self hxl]⟩
      · exact ⟨y, by rw [List.getElem?_set_ne (by omega)]; exact hy⟩
  · exact ⟨by unfold I64; omega, _, Φ2, m.deltas.length - (i + 1), inferInstance, fun w G cx => cx, ⟨i + 1, _, _, rfl, hlt, rfl, rfl, rfl, hl2⟩, by omega⟩

/-! ### List -/
theorem chan_at {W w : World} {S : List Own} {Φ : PW} {b : Nat} {cs : List Value} {q : List MsgD} {first : Nat} (c : Ctx W w S Φ) (hS : ∀ M w, Φ M w → ChanS cs q first M w) {k : Nat} (hk : k < q.length) :
    ∃ p0 c0, (cs.drop ((first + k) % 4 * 6)).take 6 = q[k].cells p0 c0 ∧ q[k].deltas.length ≤ c0 ∧ c0 ≤ maxLen ∧ q[k].Ok ∧ ∀ M w, Φ M w → Sl M w p0 q[k].deltas := by
  obtain ⟨p0, c0, he, h1, h2, h3, _⟩ := msg_cells (hS _ _ c.phi k hk)
  refine ⟨p0, c0, he, h1, h2, h3, fun M w h => ?_⟩
  have := hS _ _ h k hk
  rw [he] at this
  exact msg_sl this

set_option maxHeartbeats 2000000 in
theorem List_use {W w : World} {S : List Own} {Φ : PW} [Stable Φ] {b : Nat} {cs : List Value} {first sent : Nat} {q : List MsgD} (c : Ctx W w (.blk b cs 53 :: S) Φ) (hc : ChanC cs q first sent) (hS : ∀ M w, Φ M w → ChanS cs q first M w) {K : Ending → World → Prop}
    (hk : ∀ p cap w', q.length ≤ cap → Ctx W w' (.blk b cs 53 :: S) (fun M w => Φ M w ∧ Sl M w p q) → K (.returned (.slice p q.length cap)) w') : Calls Try.prog F.channel_Channel_List #[.pointer (some ⟨b, 0, none⟩)] w K := by
  have hf := hc.lt4
  have hl := hc.len
  have hcnt := hc.count
  have hat := fun k (hk : k < q.length) => chan_at (b := b) c hS hk
  refine (Bchannel_Channel_List_run b 0 (J := fun u w' => K (.returned u) w') c ?_).mono fun e w' ⟨v, he, hj⟩ => by rw [he]; exact hj
  refine fun w G cx => ⟨_, cx.left.get 0 rfl (by rw [Nat.zero_add]; exact hc.c25), ?_⟩
  refine exI_mk (fun p n c' nI R' Φ' k => ∃ (i : Nat) (gs : List Value), nI = i ∧ i ≤ q.length ∧ n = i ∧ R' = .buf p i c' gs 31 6 :: .blk b cs 53 :: S ∧ Φ' = (fun M w => Φ M w ∧ Elems M w gs (q.take i)) ∧ k = q.length - i)
    ⟨⟨.buf none 0 0 [] 31 6 :: .blk b cs 53 :: S, fun M w => Φ M w ∧ Elems M w [] (q.take 0), _, inferInstance, fun w G cx => (cx.weak fun M w h => ⟨h, by rw [List.take_zero]; exact Elems.nil⟩).nobuf 31 6, 0, [], rfl, Nat.zero_le _, rfl, rfl, rfl, rfl⟩, ?_⟩
  rintro p i c' nI R1 Φ1 k _ ⟨_, gs, rfl, hi, rfl, rfl, rfl, rfl⟩
  refine Br.intro (fun hlt => ?_) (fun hge => fun w G cx => ?_)
  · have hlt : i < q.length := by simpa using hlt
    obtain ⟨p0, c0, he, h1, h2, hok, hsl⟩ := hat i hlt
    have hix : (first + i) % 4 < 4 := Nat.mod_lt _ (by omega)
    have htm : ((first : Int) + (i : Int)).tmod 4 = ((first + i) % 4 : Nat) := rfl
    have hsm := hc.small q[i] (List.getElem_mem hlt)
    generalize hme : q[i] = m at he h1 hok hsl hsm
    refine ⟨[.blk b cs 53], Φ, inferInstance, fun w G cx => ?_, (first : Int), fun w G cx => ⟨_, cx.get 0 rfl (by rw [Nat.zero_add]; exact hc.c24), rfl⟩, by unfold I64; omega, by omega, by omega, m.kind, m.node, m.inp, m.bucket, m.n, p0, m.deltas.length, c0, fun w G cx => ⟨m.kind, m.node, m.inp, m.bucket, m.n, p0, m.deltas.length, c0, ?_, rfl⟩, fun w G cx => ?_⟩
    · exact cx.fst.sub (List.Sublist.cons _ (List.Sublist.cons_cons _ (List.sublist_append_right _ _)))
    · rw [htm, Int.toNat_natCast, Nat.zero_add]
      exact cx.row 0 rfl (rows_of (vs := m.cells p0 c0) he)
    · have hst : Stable (fun M w => Elems M w gs (q.take i)) := instStableElems gs (q.take i)
      refine ((clone_copy (Φ := fun M w => Φ M w ∧ Elems M w gs (q.take i)) p0 c0 m (fun M w h => hsl M w h.1) hsm.1 hsm.2).gsl).use cx fun p2 cap2 w hcap hmax cx => ?_
      refine ⟨_, _, _, _, _, p2, _, cap2, rfl, _, fun M w => (Φ M w ∧ Elems M w gs (q.take i)) ∧ Sl M w p2 m.deltas, inferInstance, cx, fun w G cx => ?_, fun k2 => ⟨fun w G cx => ?_, fun w G cx => ?_⟩⟩
      · exact cx.fst.fst.sub (List.Sublist.cons _ (List.Sublist.cons_cons _ (List.sublist_append_right _ _)))
      · exact cx.fst.fst.sub (List.Sublist.cons _ (List.Sublist.cons _ (List.Sublist.cons_cons _ (List.sublist_append_right _ _))))
      · obtain ⟨p', cap', w', hrun, _, cx'⟩ := Ctx.app1 (P := Try.prog) (ts := 22) (ty := 22) (kb := #[false, false]) (size := 6) (bytes := 64) cx (by kernel_rfl) (by omega) rfl rfl (by omega) (by omega)
        have hst2 : Stable (fun M w => Φ M w ∧ Elems M w (gs ++ m.cells p2 cap2) (q.take (i + 1))) := inferInstance
        refine ⟨p', i + 1, cap', w', hrun, .buf p' (i + 1) cap' (gs ++ m.cells p2 cap2) 31 6 :: .blk b cs 53 :: S, fun M w => Φ M w ∧ Elems M w (gs ++ m.cells p2 cap2) (q.take (i + 1)), hst2, cx'.weak fun M w h => ⟨h.1.1, ?_⟩, fun w G cx => ?_, by unfold I64; omega, _, _, q.length - (i + 1), hst2, fun w G cx => cx, ⟨i + 1, _, rfl, hlt, rfl, rfl, rfl, rfl⟩, by omega⟩
        · rw [List.take_succ_eq_append_getElem hlt, hme]
          exact h.1.2.snoc (rep_msg hok hcap hmax h.2)
        · exact cx.fst.sub (List.Sublist.cons _ (List.Sublist.cons_cons _ (List.sublist_append_right _ _)))
  · have hge : i = q.length := Nat.le_antisymm hi (by simpa using hge)
    subst hge
    have h := cx.phi.2
    rw [List.take_length] at h
    obtain ⟨cx2, hs, _, hcap, _⟩ := Ctx.freeze (α := MsgD) cx h
    exact hk p c' w hcap (Ctx.left (F := G) (Φ := fun M w => Φ M w ∧ Sl M w p q) ((cx2.add hs).weak fun M w h => ⟨h.1.1, h.2⟩))

/-! ### few -/
structure OpD where
  op : Int
  m : MsgD
instance : Gv OpD := Gv.via (β := Int × MsgD) (fun x => (x.op, x.m)) (fun y => ⟨y.1, y.2⟩) (fun _ => rfl)

abbrev OpD.cells (x : OpD) (p : Option Addr) (c : Nat) : List Value := .int .i64 x.op :: x.m.cells p c

theorem op_cells {M : List Nat} {w : World} {cs : List Value} {x : OpD} (h : Gv.rep M w cs x) : ∃ p c, cs = x.cells p c ∧ x.m.deltas.length ≤ c ∧ c ≤ maxLen ∧ x.m.Ok ∧ Sl M w p x.m.deltas := by
  obtain ⟨_, _, rfl, ⟨rfl, h1⟩, h2⟩ := h
  obtain ⟨p, c, rfl, h3, h4, h5, h6⟩ := msg_cells h2
  exact ⟨p, c, rfl, h3, h4, h5, h6⟩

theorem op_sl {M : List Nat} {w : World} {x : OpD} {p : Option Addr} {c : Nat} (h : Gv.rep M w (x.cells p c) x) : Sl M w p x.m.deltas := by
  obtain ⟨p', c', e, _, _, _, h1⟩ := op_cells h
  simp only [OpD.cells, MsgD.cells, List.cons.injEq, Value.slice.injEq] at e
  rw [e.2.2.2.2.2.2.1.1]
  exact h1

theorem pin_op {M : List Nat} {w : World} {b o : Nat} {cs : List (List Value)} {l : List OpD} (h : Pin b o cs l M w) {j : Nat} (hj : j < l.length) : ∃ p c, cs.getD j [] = l[j].cells p c ∧ l[j].m.deltas.length ≤ c ∧ c ≤ maxLen ∧ l[j].m.Ok := by
  obtain ⟨_, h1, h2⟩ := h j hj
  obtain ⟨p, c, e, g1, g2, g3, _⟩ := op_cells h2
  exact ⟨p, c, e, g1, g2, g3⟩

theorem pin_opSl {M : List Nat} {w : World} {b o : Nat} {cs : List (List Value)} {l : List OpD} (h : Pin b o cs l M w) {j : Nat} (hj : j < l.length) {p : Option Addr} {c : Nat} (e : cs.getD j [] = l[j].cells p c) : Sl M w p l[j].m.deltas := by
  have := (h j hj).2.2
  rw [e] at this
  exact op_sl this

theorem pin_opAt {M : List Nat} {w : World} {b o : Nat} {cs : List (List Value)} {l : List OpD} (h : Pin b o cs l M w) {j : Nat} (hj : j < l.length) {p : Option Addr} {c : Nat} (e : cs.getD j [] = l[j].cells p c) : RowAt w b (o + j * 7) (l[j].cells p c) := by
  have := (h j hj).2.1
  rw [e] at this
  exact this

theorem pin_opMsg {M : List Nat} {w : World} {b o : Nat} {cs : List (List Value)} {l : List OpD} (h : Pin b o cs l M w) {j : Nat} (hj : j < l.length) {p : Option Addr} {c : Nat} (e : cs.getD j [] = l[j].cells p c) : RowAt w b (o + j * 7 + 1) (l[j].m.cells p c) := fun k hk => by
  have := pin_opAt h hj e (k + 1) (by simp at hk ⊢; omega)
  rw [show o + j * 7 + 1 + k = o + j * 7 + (k + 1) by omega]
  simpa using this

abbrev OpCells (cs : List (List Value)) (l : List OpD) : Prop := ∀ j, (hj : j < l.length) → ∃ p c, cs.getD j [] = l[j].cells p c ∧ l[j].m.deltas.length ≤ c ∧ c ≤ maxLen ∧ l[j].m.Ok

set_option maxHeartbeats 1000000 in
theorem few_in {Φ : PW} [Stable Φ] (p : Option Addr) (cap : Nat) (l : List OpD) (n : Int) (b o : Nat) (cs : List (List Value)) (hp : 0 < l.length → p = some ⟨b, o, none⟩) (hΦ : ∀ M w, Φ M w → Pin b o cs l M w) (hcs : OpCells cs l) (hlen : l.length ≤ 9223372036854775807) :
    GivesP Φ Try.prog F.erratalaw36_few #[.slice p l.length cap, .int .i64 n] fun v => ∃ b, v = .bool b ∧ (b = true → (∀ x ∈ l, x.m.Small) ∧ (l.length : Int) ≤ n) := by
  refine gives_p (Berratalaw36_few_run p l.length cap n) fun W R => ?_
  refine exI_mk (fun n R' Φ' k => ∃ i : Nat, n = i ∧ i ≤ l.length ∧ R' = R ∧ Φ' = Φ ∧ k = l.length - i ∧ ∀ j, (hj : j < l.length) → j < i → l[j].m.Small) ⟨⟨R, _, _, inferInstance, fun w F c => c, 0, rfl, Nat.zero_le _, rfl, rfl, rfl, fun j hj h => by omega⟩, ?_⟩
  rintro n' R1 Φ1 k _ ⟨i, rfl, hi, rfl, rfl, rfl, hok⟩
  refine Br.intro (fun hlt => ?_) (fun hge => fun w G cx => ⟨⟨_, rfl, fun h => ?_⟩, cx.left⟩)
  · have hlt : i < l.length := by simpa using hlt
    have hp := hp (by omega)
    obtain ⟨q, qc, he, hq1, hq2, _⟩ := hcs i hlt
    refine ⟨by omega, ptrK_intro b o hp fun w G cx => ⟨l[i].m.kind, l[i].m.node, l[i].m.inp, l[i].m.bucket, l[i].m.n, q, l[i].m.deltas.length, qc, pin_opMsg (hΦ _ _ cx.phi) hlt he, fun w G cx => ?_⟩⟩
    refine (Few_in q qc l[i].m (fun M w h => pin_opSl (hΦ _ _ h) hlt he) (len_max hq1 hq2)).use cx fun v w ⟨bf, hbf, hb⟩ cx => ?_
    subst hbf
    refine ⟨bf, rfl, R1, Φ1, inferInstance, cx, Br.intro (fun h => fun w G cx => ⟨⟨_, rfl, fun h => by cases h⟩, cx.left⟩) (fun h => ⟨by unfold I64; omega, _, Φ1, l.length - (i + 1), inferInstance, fun w F c => c, ⟨i + 1, rfl, hlt, rfl, rfl, rfl, fun j hj hji => ?_⟩, by omega⟩)⟩
    rcases Nat.lt_or_ge j i with h' | h'
    · exact hok j hj h'
    · have : j = i := by omega
      subst this
      exact hb (by simpa using h)
  · have hge : i = l.length := Nat.le_antisymm hi (by simpa using hge)
    have h := of_decide_eq_true h
    refine ⟨fun x hx => ?_, h⟩
    obtain ⟨j, hj, rfl⟩ := List.getElem_of_mem hx
    exact hok j hj (by omega)

end Go.Proofs.Yticgmbmghnikeaa
