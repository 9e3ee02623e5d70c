/-
  The walks of the channel's methods.
-/
import Derived.Test.YticgmbmghnikeaaVc
set_option linter.unusedVariables false
set_option linter.unusedSimpArgs false
namespace Go.Proofs.Yticgmbmghnikeaa
open Go.Vc

def MsgD.Small (m : MsgD) : Prop := m.deltas.length < 100000000 ∧ ∀ x ∈ m.deltas, x.row.length < 100000000

theorem right_small {m : MsgD} (h : rightM m = true) : m.Small := by
  unfold rightM headM at h
  simp only [Bool.and_eq_true, Bool.not_eq_true', Bool.or_eq_false_iff, decide_eq_false_iff_not] at h
  obtain ⟨⟨⟨_, ⟨⟨_, h1⟩, _⟩⟩, _⟩, h2⟩ := h
  refine ⟨by omega, fun x hx => ?_⟩
  rw [List.any_eq_false] at h2
  have := h2 x hx
  simp only [Bool.not_eq_true', Bool.not_eq_false] at this
  unfold rightRow at this
  simp only [Bool.and_eq_true, decide_eq_true_eq] at this
  have := this.1
  omega

/-- the cells of a channel: the messages q stand in it, from first on -/
structure ChanC (cs : List Value) (q : List MsgD) (first : Nat) (sent : Nat) : Prop where
  len : cs.length = 27
  lt4 : first < 4
  count : q.length ≤ 4
  c24 : cs[24]? = some (.int .i64 first)
  c25 : cs[25]? = some (.int .i64 q.length)
  c26 : cs[26]? = some (.int .i64 sent)
  small : ∀ m ∈ q, m.Small

def ChanS (cs : List Value) (q : List MsgD) (first : Nat) (M : List Nat) (w : World) : Prop := ∀ k, (hk : k < q.length) → Gv.rep M w ((cs.drop ((first + k) % 4 * 6)).take 6) q[k]

instance chanS_stable (cs : List Value) (q : List MsgD) (first : Nat) : Stable (fun M w => ChanS cs q first M w) := ⟨fun hs h k hk => Gv.stable hs (h k hk)⟩

abbrev chan0 : List Value := [.int .i64 0, .int .i64 0, .int .i64 0, .int .i64 0, .int .i64 0, .slice none 0 0, .int .i64 0, .int .i64 0, .int .i64 0, .int .i64 0, .int .i64 0, .slice none 0 0, .int .i64 0, .int .i64 0, .int .i64 0, .int .i64 0, .int .i64 0, .slice none 0 0,
  .int .i64 0, .int .i64 0, .int .i64 0, .int .i64 0, .int .i64 0, .slice none 0 0, .int .i64 0, .int .i64 0, .int .i64 0]
abbrev msg0 : MsgD := ⟨0, 0, 0, 0, 0, []⟩

theorem chan0_c : ChanC chan0 [] 0 0 := ⟨rfl, by omega, by simp, rfl, rfl, rfl, by simp⟩
theorem chan0_s (M : List Nat) (w : World) : ChanS chan0 [] 0 M w := fun k hk => by simp at hk

theorem take6 {cs ds : List Value} {o : Nat} (h : ∀ i, i < 6 → cs[o + i]? = ds[o + i]?) : (cs.drop o).take 6 = (ds.drop o).take 6 := by
  apply List.ext_getElem?
  intro i
  rcases Nat.lt_or_ge i 6 with hi | hi
  · rw [List.getElem?_take_of_lt hi, List.getElem?_drop, List.getElem?_take_of_lt hi, List.getElem?_drop, h i hi]
  · rw [List.getElem?_eq_none (by simp; omega), List.getElem?_eq_none (by simp; omega)]

theorem take6_in {cs vs : List Value} {o : Nat} (hv : vs.length = 6) (hl : o + 6 ≤ cs.length) : ((setL cs o vs).drop o).take 6 = vs := by
  apply List.ext_getElem?
  intro i
  rcases Nat.lt_or_ge i 6 with hi | hi
  · rw [List.getElem?_take_of_lt hi, List.getElem?_drop, setL_in _ _ _ _ (by omega) (by omega)]
  · rw [List.getElem?_eq_none (by simp; omega), List.getElem?_eq_none (by omega)]

/-! ### what is taken -/
abbrev taken (cs : List Value) (first count : Nat) : List Value := ((setL cs (first * 6) [.int .i64 0, .int .i64 0, .int .i64 0, .int .i64 0, .int .i64 0, .slice none 0 0]).set 24 (.int .i64 ((first + 1) % 4 : Nat))).set 25 (.int .i64 (count : Nat))

theorem ChanC.take {cs : List Value} {m : MsgD} {q : List MsgD} {first sent : Nat} (h : ChanC cs (m :: q) first sent) : ChanC (taken cs first q.length) q ((first + 1) % 4) sent := by
  have hl := h.len
  have hf := h.lt4
  have hc := h.count
  have hsl : (setL cs (first * 6) [.int .i64 0, .int .i64 0, .int .i64 0, .int .i64 0, .int .i64 0, .slice none 0 0]).length = 27 := by rw [setL_len, hl]
  refine ⟨?_, Nat.mod_lt _ (by omega), ?_, ?_, ?_, ?_, fun m hm => h.small m (List.mem_cons_of_mem _ hm)⟩
  · rw [List.length_set, List.length_set, hsl]
  · simp only [List.length_cons] at hc; omega
  · rw [List.getElem?_set_ne (by omega), List.getElem?_set_self (by omega)]
  · rw [List.getElem?_set_self (by rw [List.length_set]; omega)]
  · rw [List.getElem?_set_ne (by omega), List.getElem?_set_ne (by omega), setL_get _ _ _ _ (by right; simp only [List.length_cons, List.length_nil]; omega), h.c26]

theorem ChanS.take {cs : List Value} {m : MsgD} {q : List MsgD} {first : Nat} (hc : q.length < 4) (hf : first < 4) {M : List Nat} {w : World} (h : ChanS cs (m :: q) first M w) : ChanS (taken cs first q.length) q ((first + 1) % 4) M w := by
  intro k hk
  have := h (k + 1) (by simpa using hk)
  rw [List.getElem_cons_succ] at this
  have e : (first + 1) % 4 + k = (first + 1) % 4 + k := rfl
  have hix : ((first + 1) % 4 + k) % 4 = (first + (k + 1)) % 4 := by omega
  rw [hix]
  have hne : (first + (k + 1)) % 4 ≠ first := by omega
  have hlt : (first + (k + 1)) % 4 < 4 := Nat.mod_lt _ (by omega)
  generalize (first + (k + 1)) % 4 = z at *
  rw [take6 (ds := cs)]
  · exact this
  · intro i hi
    rw [List.getElem?_set_ne (by omega), List.getElem?_set_ne (by omega), setL_get _ _ _ _ (by simp only [List.length_cons, List.length_nil]; omega)]

/-! ### what is sent -/
abbrev sentTo (cs : List Value) (first count sent : Nat) (vs : List Value) : List Value := ((setL cs ((first + count) % 4 * 6) vs).set 25 (.int .i64 (count + 1 : Nat))).set 26 (.int .i64 (sent + 1 : Nat))

theorem ChanC.send {cs vs : List Value} {m : MsgD} {q : List MsgD} {first sent : Nat} (h : ChanC cs q first sent) (hq : q.length < 4) (hv : vs.length = 6) (hm : m.Small) : ChanC (sentTo cs first q.length sent vs) (q ++ [m]) first (sent + 1) := by
  have hl := h.len
  have hf := h.lt4
  have hsl : (setL cs ((first + q.length) % 4 * 6) vs).length = 27 := by rw [setL_len, hl]
  have hlt : (first + q.length) % 4 < 4 := Nat.mod_lt _ (by omega)
  refine ⟨?_, hf, ?_, ?_, ?_, ?_, fun x hx => ?_⟩
  · rw [List.length_set, List.length_set, hsl]
  · rw [List.length_append, List.length_singleton]; omega
  · rw [List.getElem?_set_ne (by omega), List.getElem?_set_ne (by omega), setL_get _ _ _ _ (by right; omega), h.c24]
  · rw [List.getElem?_set_ne (by omega), List.getElem?_set_self (by omega), List.length_append, List.length_singleton]
  · rw [List.getElem?_set_self (by rw [List.length_set]; omega)]
  · rcases List.mem_append.1 hx with hx | hx
    · exact h.small x hx
    · rw [List.mem_singleton.1 hx]; exact hm

theorem ChanS.send {cs : List Value} {m : MsgD} {q : List MsgD} {first sent : Nat} {p : Option Addr} {c : Nat} (hl : cs.length = 27) (hq : q.length < 4) (hf : first < 4) {M : List Nat} {w : World} (h : ChanS cs q first M w) (hm : Gv.rep M w (m.cells p c) m) : ChanS (sentTo cs first q.length sent (m.cells p c)) (q ++ [m]) first M w := by
  intro k hk
  unfold sentTo
  rw [List.length_append, List.length_singleton] at hk
  have hlt : (first + k) % 4 < 4 := Nat.mod_lt _ (by omega)
  by_cases hkq : k < q.length
  · rw [List.getElem_append_left hkq]
    have := h k hkq
    have hne : (first + k) % 4 ≠ (first + q.length) % 4 := by omega
    have hlt2 : (first + q.length) % 4 < 4 := Nat.mod_lt _ (by omega)
    generalize (first + k) % 4 = z at *
    generalize (first + q.length) % 4 = y at *
    rw [take6 (ds := cs)]
    · exact this
    · intro i hi
      rw [List.getElem?_set_ne (by omega), List.getElem?_set_ne (by omega), setL_get _ _ _ _ (by simp only [List.length_cons, List.length_nil]; omega)]
  · have : k = q.length := by omega
    subst this
    rw [List.getElem_append_right (Nat.le_refl _)]
    simp only [Nat.sub_self, List.getElem_cons_zero]
    generalize (first + q.length) % 4 = y at *
    rw [take6 (ds := setL cs (y * 6) (m.cells p c)), take6_in rfl (by omega)]
    · exact hm
    · intro i hi
      rw [List.getElem?_set_ne (by omega), List.getElem?_set_ne (by omega)]

/-! ### the methods -/
section
variable {W w : World} {S : List Own} {Φ : PW}

theorem New_use [Stable Φ] (c : Ctx W w S Φ) {K : Ending → World → Prop} (hk : ∀ b w', Ctx W w' (.blk b chan0 53 :: S) Φ → K (.returned (.pointer (some ⟨b, 0, none⟩))) w') : Calls Try.prog F.channel_New #[] w K :=
  (Bchannel_New_run (J := fun u w' => K (.returned u) w') c fun b w G cx => hk b w (by simpa using cx.left)).mono fun e w' ⟨v, he, hj⟩ => by rw [he]; exact hj

theorem Len_use [Stable Φ] {b : Nat} {cs : List Value} {t : TypeId} {n : Int} {i : Nat} (c : Ctx W w S Φ) (hi : S[i]? = some (.blk b cs t)) (hn : cs[25]? = some (.int .i64 n)) {K : Ending → World → Prop} (hk : ∀ w', Ctx W w' S Φ → K (.returned (.int .i64 n)) w') :
    Calls Try.prog F.channel_Channel_Len #[.pointer (some ⟨b, 0, none⟩)] w K :=
  (Bchannel_Channel_Len_run b 0 (J := fun u w' => K (.returned u) w') c fun w G cx => ⟨n, cx.left.get i hi (by rw [Nat.zero_add]; exact hn), fun w G cx => hk w cx.left⟩).mono fun e w' ⟨v, he, hj⟩ => by rw [he]; exact hj

theorem Free_use [Stable Φ] {b : Nat} {cs : List Value} {t : TypeId} {n : Int} {i : Nat} (c : Ctx W w S Φ) (hi : S[i]? = some (.blk b cs t)) (hn : cs[25]? = some (.int .i64 n)) (h0 : 0 ≤ n) (h4 : n ≤ 4) {K : Ending → World → Prop} (hk : ∀ w', Ctx W w' S Φ → K (.returned (.int .i64 (4 - n))) w') :
    Calls Try.prog F.channel_Channel_Free #[.pointer (some ⟨b, 0, none⟩)] w K :=
  (Bchannel_Channel_Free_run b 0 (J := fun u w' => K (.returned u) w') c fun w G cx => ⟨n, cx.left.get i hi (by rw [Nat.zero_add]; exact hn), by unfold I64; omega, fun w G cx => hk w cx.left⟩).mono fun e w' ⟨v, he, hj⟩ => by rw [he]; exact hj

theorem Head_none [Stable Φ] {b : Nat} {cs : List Value} {first sent : Nat} (c : Ctx W w (.blk b cs 53 :: S) Φ) (hc : ChanC cs [] first sent) {K : Ending → World → Prop} (hk : ∀ w', Ctx W w' (.blk b cs 53 :: S) Φ → K (.returned (.tuple #[msg0.v none 0, .bool false])) w') :
    Calls Try.prog F.channel_Channel_Head #[.pointer (some ⟨b, 0, none⟩)] w K := by
  refine (Bchannel_Channel_Head_run b 0 (J := fun u w' => K (.returned u) w') c ?_).mono fun e w' ⟨v, he, hj⟩ => by rw [he]; exact hj
  refine fun _ w G cx => ⟨0, cx.left.get 0 rfl (by rw [Nat.zero_add]; exact hc.c25), Br.intro (fun h => fun w G cx => hk w cx.left) (fun h => by simp at h)⟩

theorem Head_some [Stable Φ] {b : Nat} {cs : List Value} {first sent : Nat} {m : MsgD} {q : List MsgD} (c : Ctx W w (.blk b cs 53 :: S) Φ) (hc : ChanC cs (m :: q) first sent) (hS : ∀ M w, Φ M w → ChanS cs (m :: q) first M w) {K : Ending → World → Prop}
    (hk : ∀ p cap ds rows w', Fresh ds rows m.deltas → Ctx W w' (.blk b cs 53 :: (.buf p m.deltas.length cap ds 56 3 :: rows) ++ S) Φ → K (.returned (.tuple #[m.v p cap, .bool true])) w') :
    Calls Try.prog F.channel_Channel_Head #[.pointer (some ⟨b, 0, none⟩)] w K := by
  have hf := hc.lt4
  have hl := hc.len
  obtain ⟨p0, c0, he, hle, hcm, hok, _⟩ : ∃ p c, (cs.drop (first * 6)).take 6 = m.cells p c ∧ m.deltas.length ≤ c ∧ c ≤ maxLen ∧ m.Ok ∧ Sl (dom (Own.blk b cs 53 :: S)) w p m.deltas := by
    have := hS _ _ c.phi 0 (by simp)
    rw [Nat.add_zero, Nat.mod_eq_of_lt hf] at this
    exact msg_cells this
  have hsl : ∀ M w, Φ M w → Sl M w p0 m.deltas := fun M w h => by
    have := hS _ _ h 0 (by simp)
    rw [Nat.add_zero, Nat.mod_eq_of_lt hf, he] at this
    exact msg_sl this
  have hsm := hc.small m (by simp)
  refine (Bchannel_Channel_Head_run b 0 (J := fun u w' => K (.returned u) w') c ?_).mono fun e w' ⟨v, he, hj⟩ => by rw [he]; exact hj
  refine fun _ w G cx => ⟨_, cx.left.get 0 rfl (by rw [Nat.zero_add]; exact hc.c25), Br.intro (fun h => by simp at h; omega) (fun h => ?_)⟩
  refine ⟨.blk b cs 53 :: S, Φ, inferInstance, fun w G cx => cx, (first : Int), fun w G cx => ⟨_, cx.get 0 rfl (by rw [Nat.zero_add]; exact hc.c24), rfl⟩, by omega, fun w G cx => ⟨m.kind, m.node, m.inp, m.bucket, m.n, p0, m.deltas.length, c0, cx.row 0 rfl ?_, fun w G cx => ?_⟩⟩
  · rw [Int.toNat_natCast, Nat.zero_add]
    exact rows_of (vs := m.cells p0 c0) he
  · refine (clone_copy p0 c0 m hsl hsm.1 hsm.2).use cx fun p cap ds rows w hfr cx => ⟨_, _, _, _, _, p, _, cap, rfl, .blk b cs 53 :: (.buf p m.deltas.length cap ds 56 3 :: rows) ++ S, Φ, inferInstance, ?_, ?_, ?_, fun w G cx => hk p cap ds rows w hfr cx.left⟩
    · refine cx.perm ?_
      have : (Own.buf p m.deltas.length cap ds 56 3 :: rows ++ (.blk b cs 53 :: (S ++ G))).Perm (.blk b cs 53 :: (Own.buf p m.deltas.length cap ds 56 3 :: rows ++ (S ++ G))) := List.perm_middle
      simpa using this
    · exact fun w G cx => cx.sub (by simp only [List.cons_append, List.append_assoc]; exact List.Sublist.cons_cons _ (List.Sublist.cons _ (List.sublist_append_right _ _)))
    · exact fun w G cx => cx.sub (by simp only [List.cons_append, List.append_assoc]; exact List.Sublist.cons_cons _ (List.Sublist.cons _ (List.sublist_append_right _ _)))

theorem Take_none [Stable Φ] {b : Nat} {cs : List Value} {first sent : Nat} (c : Ctx W w (.blk b cs 53 :: S) Φ) (hc : ChanC cs [] first sent) {K : Ending → World → Prop} (hk : ∀ w', Ctx W w' (.blk b cs 53 :: S) Φ → K (.returned (.tuple #[msg0.v none 0, .int .i64 4])) w') :
    Calls Try.prog F.channel_Channel_Take #[.pointer (some ⟨b, 0, none⟩)] w K := by
  refine (Bchannel_Channel_Take_run b 0 (J := fun u w' => K (.returned u) w') c ?_).mono fun e w' ⟨v, he, hj⟩ => by rw [he]; exact hj
  refine fun _ w G cx => Head_none cx hc fun w cx => ⟨_, _, _, _, _, _, _, _, _, rfl, .blk b cs 53 :: S, Φ, inferInstance, cx, fun _ => Br.intro (fun h => fun w G cx => hk w cx.left) (fun h => by cases h)⟩

theorem Take_some [Stable Φ] {b : Nat} {cs : List Value} {first sent : Nat} {m : MsgD} {q : List MsgD} (c : Ctx W w (.blk b cs 53 :: S) Φ) (hc : ChanC cs (m :: q) first sent) (hS : ∀ M w, Φ M w → ChanS cs (m :: q) first M w) {K : Ending → World → Prop}
    (hk : ∀ p cap ds rows w', Fresh ds rows m.deltas → Ctx W w' (.blk b (taken cs first q.length) 53 :: (.buf p m.deltas.length cap ds 56 3 :: rows) ++ S) Φ → K (.returned (.tuple #[m.v p cap, .int .i64 0])) w') :
    Calls Try.prog F.channel_Channel_Take #[.pointer (some ⟨b, 0, none⟩)] w K := by
  have hf := hc.lt4
  have hl := hc.len
  have hcnt := hc.count
  refine (Bchannel_Channel_Take_run b 0 (J := fun u w' => K (.returned u) w') c ?_).mono fun e w' ⟨v, he, hj⟩ => by rw [he]; exact hj
  refine fun _ w G cx => Head_some cx hc hS fun p cap ds rows w hfr cx => ⟨_, _, _, _, _, p, _, cap, _, rfl, .blk b cs 53 :: (.buf p m.deltas.length cap ds 56 3 :: rows) ++ S, Φ, inferInstance, by simpa using cx, fun _ => Br.intro (fun h => by cases h) (fun h => ?_)⟩
  refine ⟨[], fun _ _ => True, inferInstance, fun w G cx => (cx.right.weak fun _ _ _ => trivial), fun w G cx => ⟨(first : Int), cx.get 0 rfl (by rw [Nat.zero_add]; exact hc.c24), by omega, fun w G cx => ⟨cx.can 0 rfl (by rw [Int.toNat_natCast]; omega), fun w' hw' => ?_⟩⟩⟩
  rw [Int.toNat_natCast, Nat.zero_add] at hw'
  have cx1 := cx.puts 0 hw' rfl
  refine ⟨.blk b (setL cs (first * 6) [.int .i64 0, .int .i64 0, .int .i64 0, .int .i64 0, .int .i64 0, .slice none 0 0]) 53 :: (.buf p m.deltas.length cap ds 56 3 :: rows) ++ S, Φ, inferInstance, cx1, fun w G cx => (cx.right.weak fun _ _ _ => trivial), fun w G cx => ⟨(first : Int), cx.get 0 rfl ?_, by unfold I64; omega, by omega, fun w G cx => ⟨cx.can 0 rfl (by rw [setL_len]; omega), fun w' hw' => ?_⟩⟩⟩
  · rw [Nat.zero_add, setL_get _ _ _ _ (by simp only [List.length_cons, List.length_nil]; omega)]
    exact hc.c24
  rw [Nat.zero_add] at hw'
  have cx1 := cx.put 0 hw' rfl
  have e1 : ((first : Int) + 1).tmod 4 = ((first + 1) % 4 : Nat) := rfl
  rw [e1] at cx1
  refine ⟨.blk b ((setL cs (first * 6) [.int .i64 0, .int .i64 0, .int .i64 0, .int .i64 0, .int .i64 0, .slice none 0 0]).set 24 (.int .i64 ((first + 1) % 4 : Nat))) 53 :: (.buf p m.deltas.length cap ds 56 3 :: rows) ++ S, Φ, inferInstance, cx1, fun w G cx => ⟨((m :: q).length : Int), cx.get 0 rfl ?_, ?_, fun w G cx => ⟨cx.can 0 rfl ?_, fun w' hw' => ?_⟩⟩⟩
  · rw [Nat.zero_add, List.getElem?_set_ne (by omega), setL_get _ _ _ _ (by simp only [List.length_cons, List.length_nil]; omega)]
    exact hc.c25
  · unfold I64; omega
  · rw [List.length_set, setL_len]; omega
  rw [Nat.zero_add] at hw'
  have cx1 := cx.put 0 hw' rfl
  have e2 : ((m :: q).length : Int) - 1 = (q.length : Nat) := by rw [List.length_cons]; omega
  rw [e2] at cx1
  exact ⟨.blk b (taken cs first q.length) 53 :: (.buf p m.deltas.length cap ds 56 3 :: rows) ++ S, Φ, inferInstance, cx1, fun w G cx => hk p cap ds rows w hfr cx.left⟩

theorem Send_arg [Stable Φ] {b : Nat} {cs : List Value} {m : MsgD} {p : Option Addr} {cap : Nat} (c : Ctx W w (.blk b cs 53 :: S) Φ) (hm : ∀ M w, Φ M w → Sl M w p m.deltas) (hlen : m.deltas.length ≤ 9223372036854775807) (hr : rightM m = false) {K : Ending → World → Prop}
    (hk : ∀ w', Ctx W w' (.blk b cs 53 :: S) Φ → K (.returned (.int .i64 1)) w') : Calls Try.prog F.channel_Channel_Send #[.pointer (some ⟨b, 0, none⟩), m.v p cap] w K := by
  refine (Bchannel_Channel_Send_run b 0 m.kind m.node m.inp m.bucket m.n p m.deltas.length cap (J := fun u w' => K (.returned u) w') c ?_).mono fun e w' ⟨v, he, hj⟩ => by rw [he]; exact hj
  exact fun _ w G cx => (Right_in p cap m hm hlen).use cx fun w cx => ⟨_, rfl, .blk b cs 53 :: S, Φ, inferInstance, cx, Br.intro (fun h => fun w G cx => hk w cx.left) (fun h => by rw [hr] at h; cases h)⟩

theorem Send_full [Stable Φ] {b : Nat} {cs : List Value} {m : MsgD} {p : Option Addr} {cap : Nat} {q : List MsgD} {first sent : Nat} (c : Ctx W w (.blk b cs 53 :: S) Φ) (hc : ChanC cs q first sent) (hm : ∀ M w, Φ M w → Sl M w p m.deltas) (hlen : m.deltas.length ≤ 9223372036854775807) (hr : rightM m = true) (hq : q.length = 4)
    {K : Ending → World → Prop} (hk : ∀ w', Ctx W w' (.blk b cs 53 :: S) Φ → K (.returned (.int .i64 27)) w') : Calls Try.prog F.channel_Channel_Send #[.pointer (some ⟨b, 0, none⟩), m.v p cap] w K := by
  refine (Bchannel_Channel_Send_run b 0 m.kind m.node m.inp m.bucket m.n p m.deltas.length cap (J := fun u w' => K (.returned u) w') c ?_).mono fun e w' ⟨v, he, hj⟩ => by rw [he]; exact hj
  exact fun _ w G cx => (Right_in p cap m hm hlen).use cx fun w cx => ⟨_, rfl, .blk b cs 53 :: S, Φ, inferInstance, cx, Br.intro (fun h => by rw [hr] at h; cases h) (fun h => fun w G cx => ⟨_, cx.get 0 rfl (by rw [Nat.zero_add]; exact hc.c25), Br.intro (fun h => fun w G cx => hk w cx.left) (fun h => by simp at h; omega)⟩)⟩

theorem Send_ok [Stable Φ] {b : Nat} {cs : List Value} {m : MsgD} {p : Option Addr} {cap : Nat} {q : List MsgD} {first sent : Nat} (c : Ctx W w (.blk b cs 53 :: S) Φ) (hc : ChanC cs q first sent) (hm : ∀ M w, Φ M w → Sl M w p m.deltas) (hlen : m.deltas.length ≤ 9223372036854775807) (hr : rightM m = true) (hq : q.length < 4)
    (hs : sent < 1000000) {K : Ending → World → Prop}
    (hk : ∀ p' cap' w', m.deltas.length ≤ cap' → cap' ≤ maxLen → Ctx W w' (.blk b (sentTo cs first q.length sent (m.cells p' cap')) 53 :: S) (fun M w => Φ M w ∧ Sl M w p' m.deltas) → K (.returned (.int .i64 0)) w') :
    Calls Try.prog F.channel_Channel_Send #[.pointer (some ⟨b, 0, none⟩), m.v p cap] w K := by
  have hf := hc.lt4
  have hl := hc.len
  have hsm := right_small hr
  have hix : (first + q.length) % 4 < 4 := Nat.mod_lt _ (by omega)
  have htm : ((first : Int) + (q.length : Int)).tmod 4 = ((first + q.length) % 4 : Nat) := rfl
  have held : ∀ {ds : List Value} (h24 : ds[24]? = some (.int .i64 first)) (h25 : ds[25]? = some (.int .i64 q.length)) {w : World} {G : List Own} {Ψ : PW} [Stable Ψ], Ctx W w (.blk b ds 53 :: S ++ G) Ψ → Ctx W w (S ++ G) (fun M w => RowIn b 24 [.int .i64 first, .int .i64 q.length] M w) := by
    intro ds h24 h25 w G Ψ _ cx
    exact cx.park.weak fun M w h => h.2.rowIn fun j hj => by
      match j, hj with
      | 0, _ => exact h24
      | 1, _ => exact h25
  refine (Bchannel_Channel_Send_run b 0 m.kind m.node m.inp m.bucket m.n p m.deltas.length cap (J := fun u w' => K (.returned u) w') c ?_).mono fun e w' ⟨v, he, hj⟩ => by rw [he]; exact hj
  refine fun _ w G cx => (Right_in p cap m hm hlen).use cx fun w cx => ⟨_, rfl, .blk b cs 53 :: S, Φ, inferInstance, cx, Br.intro (fun h => by rw [hr] at h; cases h) (fun h => fun w G cx => ⟨_, cx.get 0 rfl (by rw [Nat.zero_add]; exact hc.c25), Br.intro (fun h => by simp at h; omega) (fun h => ?_)⟩)⟩
  refine ⟨S, fun M w => RowIn b 24 [.int .i64 first, .int .i64 q.length] M w, inferInstance, fun w G cx => held hc.c24 hc.c25 cx, (first : Int), fun w G cx => ⟨_, ?_, rfl⟩, (q.length : Int), fun w G cx => ⟨_, ?_, rfl⟩, by unfold I64; omega, by omega, fun w G cx => ?_⟩
  · have := cx.phi.2.1 0 (by simp)
    rw [Nat.zero_add]
    exact this
  · have := cx.phi.2.1 1 (by simp)
    rw [Nat.zero_add]
    exact this
  refine (clone_copy p cap m hm hsm.1 hsm.2).gsl.use cx fun p' cap' w hc1 hc2 cx => ⟨_, _, _, _, _, p', _, cap', rfl, .blk b cs 53 :: S, fun M w => Φ M w ∧ Sl M w p' m.deltas, inferInstance, cx, fun w G cx => held hc.c24 hc.c25 cx, by rw [htm]; omega, fun w G cx => ⟨cx.can 0 rfl (by rw [htm, Int.toNat_natCast]; omega), fun w' hw' => ?_⟩⟩
  rw [htm, Int.toNat_natCast, Nat.zero_add] at hw'
  have cx1 := cx.puts 0 hw' rfl
  have g24 : (setL cs ((first + q.length) % 4 * 6) (m.cells p' cap'))[24]? = some (.int .i64 first) := by rw [setL_get _ _ _ _ (by simp only [List.length_cons, List.length_nil]; omega)]; exact hc.c24
  have g25 : (setL cs ((first + q.length) % 4 * 6) (m.cells p' cap'))[25]? = some (.int .i64 q.length) := by rw [setL_get _ _ _ _ (by simp only [List.length_cons, List.length_nil]; omega)]; exact hc.c25
  refine ⟨.blk b (setL cs ((first + q.length) % 4 * 6) (m.cells p' cap')) 53 :: S, fun M w => Φ M w ∧ Sl M w p' m.deltas, inferInstance, cx1, fun w G cx => held g24 g25 cx, fun w G cx => ⟨(q.length : Int), cx.get 0 rfl (by rw [Nat.zero_add]; exact g25), by unfold I64; omega, fun w G cx => ⟨cx.can 0 rfl (by rw [setL_len]; omega), fun w' hw' => ?_⟩⟩⟩
  rw [Nat.zero_add] at hw'
  have cx1 := cx.put 0 hw' rfl
  have e1 : (q.length : Int) + 1 = (q.length + 1 : Nat) := by omega
  rw [e1] at cx1
  refine ⟨.blk b ((setL cs ((first + q.length) % 4 * 6) (m.cells p' cap')).set 25 (.int .i64 (q.length + 1 : Nat))) 53 :: S, fun M w => Φ M w ∧ Sl M w p' m.deltas, inferInstance, cx1, fun w G cx => ⟨(sent : Int), cx.get 0 rfl ?_, by unfold I64; omega, fun w G cx => ⟨cx.can 0 rfl ?_, fun w' hw' => ?_⟩⟩⟩
  · rw [Nat.zero_add, List.getElem?_set_ne (by omega), setL_get _ _ _ _ (by simp only [List.length_cons, List.length_nil]; omega)]
    exact hc.c26
  · rw [List.length_set, setL_len]; omega
  rw [Nat.zero_add] at hw'
  have cx1 := cx.put 0 hw' rfl
  have e2 : (sent : Int) + 1 = (sent + 1 : Nat) := by omega
  rw [e2] at cx1
  exact ⟨.blk b (sentTo cs first q.length sent (m.cells p' cap')) 53 :: S, fun M w => Φ M w ∧ Sl M w p' m.deltas, inferInstance, cx1, fun w G cx => hk p' cap' w hc1 hc2 cx.left⟩

end

end Go.Proofs.Yticgmbmghnikeaa
