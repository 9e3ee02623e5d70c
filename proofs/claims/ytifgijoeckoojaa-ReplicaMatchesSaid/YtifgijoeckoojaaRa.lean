/-
  Replica: the cells of entries and replicas; the walks of between, term, others.
-/
import Derived.Test.YtifgijoeckoojaaBq
import Derived.Test.YtifgijoeckoojaaPa
import Derived.Test.YtifgijoeckoojaaVcY
import Derived.Lib.SliceRun
set_option linter.unusedVariables false
set_option linter.unusedSimpArgs false
namespace Go.Proofs.Ytifgijoeckoojaa
open Go.Vc

theorem gl {W w : World} {Q T G : List Own} {Φ : PW} (c : Ctx W w (Q ++ T ++ G) Φ) : Ctx W w (Q ++ (T ++ G)) Φ := c.re (List.append_assoc _ _ _)
theorem gr {W w : World} {Q T G : List Own} {Φ : PW} (c : Ctx W w (Q ++ (T ++ G)) Φ) : Ctx W w (Q ++ T ++ G) Φ := c.re (List.append_assoc _ _ _).symm

theorem mid {W w : World} {Q S : List Own} {a : Own} {Φ : PW} [Stable Φ] (c : Ctx W w (a :: (Q ++ S)) Φ) : Ctx W w (Q ++ a :: S) Φ := c.perm List.perm_middle.symm
theorem front {W w : World} {Q S : List Own} {a : Own} {Φ : PW} [Stable Φ] (c : Ctx W w (Q ++ a :: S) Φ) : Ctx W w (a :: (Q ++ S)) Φ := c.perm List.perm_middle

theorem sink {W w : World} {Q T G : List Own} {a : Own} {Φ : PW} [Stable Φ] (c : Ctx W w (a :: (Q ++ T) ++ G) Φ) : Ctx W w (Q ++ a :: T ++ G) Φ := c.perm (List.Perm.append_right G List.perm_middle.symm)
theorem lift {W w : World} {Q T G : List Own} {a : Own} {Φ : PW} [Stable Φ] (c : Ctx W w (Q ++ a :: T ++ G) Φ) : Ctx W w (a :: (Q ++ T) ++ G) Φ := c.perm (List.Perm.append_right G List.perm_middle)

theorem keepQ {W w : World} {Q T G : List Own} {Φ : PW} [Stable Φ] (c : Ctx W w (Q ++ T ++ G) Φ) : Ctx W w (Q ++ G) (fun _ _ => True) := (c.weak fun _ _ _ => trivial).sub (List.Sublist.append_right (List.sublist_append_left _ _) _)

/-! ### the cells of entries -/
def recCells : List RecD → List Value
  | [] => []
  | x :: l => .int .i64 x.term :: .string x.data :: recCells l

def RecD.Ok (x : RecD) : Prop := I64 x.term ∧ x.data.size ≤ maxLen

theorem recs_len : ∀ l : List RecD, (recCells l).length = l.length * 2
  | [] => rfl
  | x :: l => by simp only [recCells, List.length_cons, recs_len l]; omega

theorem recs_app : ∀ a b : List RecD, recCells (a ++ b) = recCells a ++ recCells b
  | [], b => rfl
  | x :: a, b => by simp only [List.cons_append, recCells, recs_app a b]

theorem recs_drop : ∀ (l : List RecD) (k : Nat), (recCells l).drop (k * 2) = recCells (l.drop k)
  | l, 0 => by simp
  | [], k + 1 => by simp [recCells]
  | x :: l, k + 1 => by
    rw [show (k + 1) * 2 = k * 2 + 1 + 1 by omega]
    simp only [recCells, List.drop_succ_cons]
    exact recs_drop l k

theorem recs_take : ∀ (l : List RecD) (k : Nat), (recCells l).take (k * 2) = recCells (l.take k)
  | l, 0 => by simp [recCells]
  | [], k + 1 => by simp [recCells]
  | x :: l, k + 1 => by
    rw [show (k + 1) * 2 = k * 2 + 1 + 1 by omega]
    simp only [recCells, List.take_succ_cons]
    rw [recs_take l k]

theorem recs_at {l : List RecD} {i : Nat} (h : i < l.length) : ((recCells l).drop (i * 2)).take 2 = [.int .i64 l[i].term, .string l[i].data] := by
  rw [recs_drop, List.drop_eq_getElem_cons h]
  rfl

theorem recs_at0 {l : List RecD} {i : Nat} (h : i < l.length) : (recCells l)[i * 2]? = some (.int .i64 l[i].term) := by
  have h1 := recs_at h
  have : (((recCells l).drop (i * 2)).take 2)[0]? = some (.int .i64 l[i].term) := by rw [h1]; rfl
  rwa [List.getElem?_take_of_lt (by omega), List.getElem?_drop, Nat.add_zero] at this

theorem rep_rec {M : List Nat} {w : World} {x : RecD} (h : x.Ok) : Gv.rep M w [.int .i64 x.term, .string x.data] x := ⟨[_], _, rfl, ⟨rfl, h.1⟩, rfl, h.2⟩

theorem rec_cells {M : List Nat} {w : World} {cs : List Value} {x : RecD} (h : Gv.rep M w cs x) : cs = [.int .i64 x.term, .string x.data] ∧ x.Ok := by
  obtain ⟨_, _, rfl, ⟨rfl, h1⟩, rfl, h2⟩ := h
  exact ⟨rfl, h1, h2⟩

theorem rec_one (M : List Nat) (w : World) (cs : List Value) (x : RecD) (h : Gv.rep M w cs x) : (cs.all fun u => oneC u) = true := by
  rw [(rec_cells h).1]; rfl

theorem recs_elems {M : List Nat} {w : World} {l : List RecD} (h : ∀ x ∈ l, x.Ok) : Elems M w (recCells l) l := by
  refine ⟨recs_len l, fun j hj => ?_⟩
  rw [show (Gv.ty RecD).size = 2 from rfl, recs_at hj]
  exact rep_rec (h _ (List.getElem_mem hj))

theorem elems_recs {M : List Nat} {w : World} {cs : List Value} {l : List RecD} (h : Elems M w cs l) : cs = recCells l ∧ ∀ x ∈ l, x.Ok := by
  refine ⟨?_, fun x hx => ?_⟩
  · apply List.ext_getElem?
    intro i
    by_cases hi : i < cs.length
    · have hl := h.1
      rw [show (Gv.ty RecD).size = 2 from rfl] at hl
      have hj : i / 2 < l.length := by omega
      have h1 := (rec_cells (h.2 (i / 2) hj)).1
      rw [show (Gv.ty RecD).size = 2 from rfl, ← recs_at hj] at h1
      have h2 : ((cs.drop (i / 2 * 2)).take 2)[i % 2]? = (((recCells l).drop (i / 2 * 2)).take 2)[i % 2]? := by rw [h1]
      rw [List.getElem?_take_of_lt (by omega), List.getElem?_take_of_lt (by omega), List.getElem?_drop, List.getElem?_drop] at h2
      rwa [show i / 2 * 2 + i % 2 = i by omega] at h2
    · have hl := h.1
      rw [show (Gv.ty RecD).size = 2 from rfl] at hl
      rw [List.getElem?_eq_none (by omega), List.getElem?_eq_none (by rw [recs_len]; omega)]
  · obtain ⟨j, hj, rfl⟩ := List.getElem_of_mem hx
    exact (rec_cells (h.2 j hj)).2

/-! ### a replica -/
abbrev Rep.cells (r : Rep) (p : Option Addr) (c : Nat) : List Value := [.int .i64 r.id, .int .i64 r.term, .int .i64 r.vote, .slice p r.log.length c, .int .i64 r.role, .int .i64 r.commit, .bool (r.votes 0), .bool (r.votes 1), .bool (r.votes 2), .int .i64 (r.next 0), .int .i64 (r.next 1), .int .i64 (r.next 2), .int .i64 (r.mat 0), .int .i64 (r.mat 1), .int .i64 (r.mat 2)]

/-- what a replica owns -/
abbrev repO (b : Nat) (r : Rep) (p : Option Addr) (c : Nat) : List Own := [.blk b (r.cells p c) 76, .buf p r.log.length c (recCells r.log) 55 2]

/-- a replica lies here -/
structure Here (w : World) (b : Nat) (r : Rep) (p : Option Addr) (c : Nat) : Prop where
  row : RowAt w b 0 (r.cells p c)
  log : ∀ j v, (recCells r.log)[j]? = some v → ∃ g, p = some ⟨g, 0, none⟩ ∧ w.cell? ⟨g, j, none⟩ = some v

theorem here_of {W w : World} {S : List Own} {Φ : PW} {b : Nat} {r : Rep} {p : Option Addr} {c : Nat} (h : Ctx W w (repO b r p c ++ S) Φ) : Here w b r p c :=
  ⟨h.row0 0 rfl, fun j v hj => by
    obtain ⟨g, hg, _, h2⟩ := h.bufCell 1 rfl (by have := (List.getElem?_eq_some_iff.1 hj).1; omega)
    exact ⟨g, hg, (h2 _ _ hj).1⟩⟩

theorem Here.drew {w : World} {b : Nat} {r : Rep} {p : Option Addr} {c : Nat} (h : Here w b r p c) (n : Nat) : Here (w.drewN n) b r p c :=
  ⟨((Chg.refl [] w).drewN n).row h.row (by simp), fun j v hj => by
    obtain ⟨g, hg, h2⟩ := h.log j v hj
    exact ⟨g, hg, ((Chg.refl [] w).drewN n).cell h2 (by simp)⟩⟩

theorem Here.at {w : World} {b : Nat} {r : Rep} {p : Option Addr} {c : Nat} (h : Here w b r p c) (k : Nat) {v : Value} (hv : (r.cells p c)[k]? = some v) : w.cell? ⟨b, k, none⟩ = some v := by
  have hlt := (List.getElem?_eq_some_iff.1 hv).1
  have := h.row k hlt
  rw [Nat.zero_add] at this
  rw [this, ← hv, List.getElem?_eq_getElem hlt]

theorem between_q (n a b : Int) : Quiet Try.prog F.replica_between #[.int .i64 n, .int .i64 a, .int .i64 b] (.bool (decide (a ≤ n) && decide (n ≤ b))) :=
  quiet_of (fun w J h => Qreplica_between_run n a b w J h) fun w => ⟨rfl, rfl⟩

theorem termAt_succ {l : List RecD} {k : Nat} (h : k < l.length) : termAt l (k + 1) = l[k].term := by
  simp only [termAt, List.getElem?_eq_getElem h]

theorem term_q {w : World} {b : Nat} {r : Rep} {p : Option Addr} {c : Nat} (h : Here w b r p c) {n : Int} {k : Nat} (hn : n = k) (hk : k ≤ r.log.length) (h4 : r.log.length ≤ 4000) :
    Calls Try.prog F.replica_Replica_term #[.pointer (some ⟨b, 0, none⟩), .int .i64 n] w fun e w' => e = .returned (.int .i64 (termAt r.log k)) ∧ w' = w := by
  subst hn
  refine (Qreplica_Replica_term_run b 0 k w (fun u w' => u = .int .i64 (termAt r.log k) ∧ w' = w) ?_).mono fun e w' ⟨v, h1, h2, h3⟩ => ⟨by rw [h1, h2], h3⟩
  refine Br.intro (fun h0 => ?_) (fun h0 => ?_)
  · have h0 : k = 0 := by have := of_decide_eq_true h0; omega
    subst h0
    exact ⟨rfl, rfl⟩
  · obtain ⟨j, rfl⟩ : ∃ j, k = j + 1 := ⟨k - 1, by have := of_decide_eq_false h0; omega⟩
    have hj : j < r.log.length := by omega
    obtain ⟨g, hg, hc⟩ := h.log _ _ (recs_at0 hj)
    refine ⟨p, r.log.length, c, by rw [Nat.zero_add]; exact h.at 3 rfl, by unfold I64; omega, by omega, ptrK_intro g 0 hg ⟨r.log[j].term, ?_, ?_, rfl⟩⟩
    · rw [show (((j + 1 : Nat) : Int) - 1).toNat = j by omega, Nat.zero_add]
      exact hc
    · rw [termAt_succ hj]

theorem term_at {w : World} {b : Nat} {r : Rep} {p : Option Addr} {c : Nat} (h : Here w b r p c) {n : Int} {k : Nat} (hn : n = k) (hk : k ≤ r.log.length) (h4 : r.log.length ≤ 4000) {w0 : World} (e : w0 = w) :
    Calls Try.prog F.replica_Replica_term #[.pointer (some ⟨b, 0, none⟩), .int .i64 n] w0 fun e w' => e = .returned (.int .i64 (termAt r.log k)) ∧ w' = w := by
  subst e; exact term_q h hn hk h4

theorem term_dr {w : World} {b : Nat} {r : Rep} {p : Option Addr} {c : Nat} (h : Here w b r p c) {n : Int} {k : Nat} (hn : n = k) (hk : k ≤ r.log.length) (h4 : r.log.length ≤ 4000) {w0 : World} (e : ∃ m, w0 = w.drewN m) :
    Calls Try.prog F.replica_Replica_term #[.pointer (some ⟨b, 0, none⟩), .int .i64 n] w0 fun e w' => e = .returned (.int .i64 (termAt r.log k)) ∧ ∃ m, w' = w.drewN m := by
  obtain ⟨m, rfl⟩ := e
  exact (term_q (h.drew m) hn hk h4).mono fun e w' ⟨h1, h2⟩ => ⟨h1, m, h2⟩

theorem term_use {W w : World} {S : List Own} {Φ : PW} [Stable Φ] {b : Nat} {r : Rep} {p : Option Addr} {c : Nat} (cx : Ctx W w (repO b r p c ++ S) Φ) {n : Int} {k : Nat} (hn : n = k) (hk : k ≤ r.log.length) (h4 : r.log.length ≤ 4000) {K : Ending → World → Prop}
    (hK : ∀ w', Ctx W w' (repO b r p c ++ S) Φ → K (.returned (.int .i64 (termAt r.log k))) w') : Calls Try.prog F.replica_Replica_term #[.pointer (some ⟨b, 0, none⟩), .int .i64 n] w K :=
  (term_q (here_of cx) hn hk h4).mono fun e w' ⟨h1, h2⟩ => by subst h2; rw [h1]; exact hK _ cx

/-! ### others -/
abbrev intv (x : Int) : Value := .int .i64 x

def findZ (q : Int → Bool) : Nat → List Int → Int
  | _, [] => -1
  | i, x :: r => if q x = true then i else findZ q (i + 1) r

theorem findZ_drop (q : Int → Bool) (l : List Int) (i : Nat) (hi : i < l.length) : findZ q i (l.drop i) = if q l[i] = true then (i : Int) else findZ q (i + 1) (l.drop (i + 1)) := by
  rw [List.drop_eq_getElem_cons hi]; rfl

theorem ints_at {l : List Int} {i : Nat} (h : i < l.length) : (l.map intv)[i]? = some (.int .i64 l[i]) := by rw [List.getElem?_map, List.getElem?_eq_getElem h]; rfl

theorem IndexZ_use {W w : World} {S : List Own} {Φ : PW} [Stable Φ] {k : Nat} {l : List Int} {t : TypeId} (c : Ctx W w (.blk k (l.map intv) t :: S) Φ) (n cap : Nat) (hn : n = l.length) (f : FuncId) (cp : Array Value) (q : Int → Bool) (hlen : l.length ≤ 1000000) (hf : okFun Try.prog f = true)
    (hq : ∀ x, GivesIn Φ Try.prog f (Array.mk (.int .i64 x :: cp.toList)) (.bool (q x))) {K : Ending → World → Prop} (hk : ∀ w', Ctx W w' (.blk k (l.map intv) t :: S) Φ → K (.returned (.int .i64 (findZ q 0 l))) w') :
    Calls Try.prog F.slices_IndexFunc_int_int #[.slice (some ⟨k, 0, none⟩) n cap, .func (.func f) #[] cp] w K := by
  subst hn
  refine (Bslices_IndexFunc_int_int_run (some ⟨k, 0, none⟩) l.length cap f cp (J := fun u w' => K (.returned u) w') c ?_).mono fun e w' ⟨v, he, hj⟩ => by rw [he]; exact hj
  refine exI_mk (fun n R' Φ' m => ∃ i : Nat, n = i ∧ i ≤ l.length ∧ R' = .blk k (l.map intv) t :: S ∧ Φ' = Φ ∧ m = l.length - i ∧ findZ q 0 l = findZ q i (l.drop i)) ⟨⟨_, Φ, _, inferInstance, fun w F c => c, 0, rfl, Nat.zero_le _, rfl, rfl, rfl, rfl⟩, ?_⟩
  rintro n R1 Φ1 m _ ⟨i, rfl, hi, rfl, rfl, rfl, hor⟩
  refine Br.intro (fun hlt => ?_) (fun hge => fun w G cx => ?_)
  · have hlt : i < l.length := by simpa using hlt
    rw [findZ_drop q l i hlt] at hor
    refine ⟨by omega, ptrK_intro k 0 rfl fun w G cx => ⟨l[i], by rw [Int.toNat_natCast, Nat.zero_add]; exact cx.get 0 rfl (ints_at hlt), fun w G cx => ⟨hf, (hq l[i]).use cx fun w cx => ⟨_, rfl, _, Φ1, inferInstance, cx, Br.intro (fun h => fun w G cx => ?_) (fun h => ⟨by unfold I64; omega, _, Φ1, l.length - (i + 1), inferInstance, fun w F c => c, ⟨i + 1, rfl, hlt, rfl, rfl, rfl, ?_⟩, by omega⟩)⟩⟩⟩⟩
    · have := hk w cx.left
      rw [hor, if_pos h] at this
      exact this
    · rw [hor, if_neg (by rw [h]; simp)]
  · have hge : i = l.length := Nat.le_antisymm hi (by simpa using hge)
    have := hk w cx.left
    rw [hor, hge, List.drop_length] at this
    exact this

theorem others1_in {W : World} {b k0 : Nat} {r : Rep} {p : Option Addr} {c : Nat} {Φ : PW} [Stable Φ] (x : Int) :
    GivesIn (Aside W (.blk k0 [.pointer (some ⟨b, 0, none⟩)] 46 :: repO b r p c) Φ) Try.prog F.replica_Replica_others_1 (Array.mk (.int .i64 x :: (#[.pointer (some ⟨k0, 0, none⟩)] : Array Value).toList)) (.bool (decide (x = r.id))) := by
  refine gives_in (Breplica_Replica_others_1_run x k0 0) fun W' R => ?_
  have h1 : ∀ {M w}, Aside W (.blk k0 [.pointer (some ⟨b, 0, none⟩)] 46 :: repO b r p c) Φ M w → w.cell? ⟨k0, 0, none⟩ = some (.pointer (some ⟨b, 0, none⟩)) := fun {M w} h => by
    have := (h.parked (o := .blk k0 [.pointer (some ⟨b, 0, none⟩)] 46) (by simp)).1
    exact (show Blk w k0 [.pointer (some ⟨b, 0, none⟩)] 46 from this).cell_eq rfl
  have h2 : ∀ {M w}, Aside W (.blk k0 [.pointer (some ⟨b, 0, none⟩)] 46 :: repO b r p c) Φ M w → w.cell? ⟨b, 0, none⟩ = some (.int .i64 r.id) := fun {M w} h => by
    have := (h.parked (o := .blk b (r.cells p c) 76) (by simp)).1
    exact (show Blk w b (r.cells p c) 76 from this).cell_eq rfl
  exact fun w G cx => ⟨some ⟨b, 0, none⟩, h1 cx.phi, ptrK_intro b 0 rfl fun w G cx => ⟨r.id, h2 cx.phi, fun w G cx => ⟨rfl, cx.left⟩⟩⟩

theorem run_clr {P : Program} {ats : Array TypeId} {ty : TypeId} {cs : Array Bool} {args : Array Value} {v : Value} {w w' : World} (h : (Builtin.clear_ ats ty args).run P w = .ok v w') : Sem.run P (builtin Builtin.clear ats ty cs args) w = .ok (.value v) w' := by
  unfold builtin
  simp only [Sem.run_bind, h, Result.andThen, Sem.run_pure]

theorem setL_app (vs : List Value) : ∀ (a b : List Value) (n : Nat), n = a.length → vs.length = b.length → setL (a ++ b) n vs = a ++ vs := by
  intro a b n hn hl
  subst hn
  apply List.ext_getElem?
  intro i
  by_cases hi : i < a.length
  · rw [setL_get _ _ _ _ (.inl hi), List.getElem?_append_left hi, List.getElem?_append_left hi]
  · by_cases hi2 : i < a.length + vs.length
    · obtain ⟨j, rfl⟩ : ∃ j, i = a.length + j := ⟨i - a.length, by omega⟩
      rw [setL_in _ _ _ _ (by omega) (by rw [List.length_append]; omega), List.getElem?_append_right (by omega), show a.length + j - a.length = j by omega]
    · rw [List.getElem?_eq_none (by rw [setL_len, List.length_append]; omega), List.getElem?_eq_none (by rw [List.length_append]; omega)]

theorem zero3 : ∀ w : World, (zeroValue 3).run Try.prog w = .ok (.int .i64 0) w := fun w => rfl

/-- what is left after DeleteFunc -/
theorem DeleteZ_use {W w : World} {S : List Own} {Φ : PW} [Stable Φ] {k : Nat} {l : List Int} (c : Ctx W w (.blk k (l.map intv) 3 :: S) Φ) (f : FuncId) (cp : Array Value) (q : Int → Bool) (n : Nat) (hn : n = l.length) (h0 : 0 < l.length) (hlen : l.length ≤ 1000000) (hf : okFun Try.prog f = true)
    (hq : ∀ x, GivesIn Φ Try.prog f (Array.mk (.int .i64 x :: cp.toList)) (.bool (q x))) (hsome : l.any q = true) {K : Ending → World → Prop}
    (hk : ∀ w' rest, Ctx W w' (.blk k ((l.filter fun x => !q x).map intv ++ rest) 3 :: S) Φ → K (.returned (.slice (some ⟨k, 0, none⟩) (l.filter fun x => !q x).length l.length)) w') :
    Calls Try.prog F.slices_DeleteFunc_int_int #[.slice (some ⟨k, 0, none⟩) n n, .func (.func f) #[] cp] w K := by
  subst hn
  have hfind : ∀ (l : List Int) (i : Nat), l.any q = true → ∃ j : Nat, findZ q i l = ((i + j : Nat) : Int) ∧ ∃ h : j < l.length, q l[j] = true ∧ ∀ x ∈ l.take j, q x = false := by
    intro l
    induction l with
    | nil => intro i h; simp at h
    | cons x r ih =>
      intro i h
      cases hx : q x with
      | true => exact ⟨0, by unfold findZ; rw [if_pos hx]; rfl, by simp, by simpa using hx, by simp⟩
      | false =>
        rw [List.any_cons, hx, Bool.false_or] at h
        obtain ⟨j, h1, h2, h3, h4⟩ := ih (i + 1) h
        refine ⟨j + 1, ?_, by simp; omega, by simpa using h3, fun y hy => ?_⟩
        · unfold findZ; rw [if_neg (by rw [hx]; simp), h1]; congr 1; omega
        · rw [List.take_succ_cons] at hy
          rcases List.mem_cons.1 hy with rfl | hy
          · exact hx
          · exact h4 y hy
  obtain ⟨j0, hj0, hj1, hj2, hj3⟩ := hfind l 0 hsome
  rw [Nat.zero_add] at hj0
  refine (Bslices_DeleteFunc_int_int_run (some ⟨k, 0, none⟩) l.length l.length f cp (J := fun u w' => K (.returned u) w') c ?_).mono fun e w' ⟨v, he, hj⟩ => by rw [he]; exact hj
  refine fun w G cx => IndexZ_use (S := S ++ G) cx l.length l.length rfl f cp q hlen hf hq fun w cx => ⟨_, rfl, .blk k (l.map intv) 3 :: S, Φ, inferInstance, cx, ?_⟩
  rw [hj0]
  refine Br.intro (fun h => by have := of_decide_eq_true h; omega) (fun _ => ⟨by unfold I64; omega, ?_⟩)
  have hfil : (l.take j0).filter (fun x => !q x) = l.take j0 := List.filter_eq_self.2 fun x hx => by rw [hj3 x hx]; rfl
  have hstart : (l.take (j0 + 1)).filter (fun x => !q x) = l.take j0 := by
    rw [List.take_succ_eq_append_getElem hj1, List.filter_append, hfil]
    simp [hj2]
  refine exI_mk (fun a n R' Φ' m => ∃ (i j : Nat) (cs : List Value), a = i ∧ n = j ∧ j ≤ l.length ∧ i < j ∧ R' = .blk k cs 3 :: S ∧ Φ' = Φ ∧ m = l.length - j ∧ cs.length = l.length ∧ i = ((l.take j).filter fun x => !q x).length ∧ cs.take i = ((l.take j).filter fun x => !q x).map intv ∧ cs.drop j = (l.map intv).drop j)
    ⟨⟨_, Φ, _, inferInstance, fun w G cx => cx, j0, j0 + 1, l.map intv, rfl, by omega, by omega, by omega, rfl, rfl, rfl, by simp, by rw [hstart]; simp; omega, by rw [hstart, List.map_take], rfl⟩, ?_⟩
  rintro _ _ R1 Φ1 m _ ⟨i, j, cs, rfl, rfl, hjl, hij, rfl, rfl, rfl, hcl, hi, hct, hcd⟩
  refine Br.intro (fun hlt => ?_) (fun hge => ?_)
  · have hlt : j < l.length := by simpa using hlt
    have hcj : cs[j]? = some (.int .i64 l[j]) := by
      have : (cs.drop j)[0]? = ((l.map intv).drop j)[0]? := by rw [hcd]
      rw [List.getElem?_drop, List.getElem?_drop, Nat.add_zero, ints_at hlt] at this
      exact this
    have hts : (l.take (j + 1)).filter (fun x => !q x) = (l.take j).filter (fun x => !q x) ++ (if q l[j] = true then [] else [l[j]]) := by
      rw [List.take_succ_eq_append_getElem hlt, List.filter_append]
      congr 1
      cases h : q l[j] <;> simp [h]
    refine ⟨by omega, ptrK_intro k 0 rfl fun w G cx => ⟨l[j], by rw [Int.toNat_natCast, Nat.zero_add]; exact cx.get 0 rfl hcj, fun w G cx => ⟨hf, (hq l[j]).use cx fun w cx => ⟨_, rfl, _, Φ1, inferInstance, cx, Br.intro (fun h => ⟨by omega, ptrK_intro k 0 rfl fun w G cx => ⟨cx.can 0 rfl (by rw [Int.toNat_natCast]; omega), fun w' hw' => ?_⟩⟩) (fun h => ?_)⟩⟩⟩⟩
    · rw [Int.toNat_natCast, Nat.zero_add] at hw'
      have cx1 := cx.put 0 hw' rfl
      have h : q l[j] = false := by simpa using h
      rw [if_neg (by rw [h]; simp)] at hts
      refine ⟨.blk k (cs.set i (.int .i64 l[j])) 3 :: S, Φ1, inferInstance, cx1, by unfold I64; omega, by unfold I64; omega, _, Φ1, l.length - (j + 1), inferInstance, fun w G cx => cx, ⟨i + 1, j + 1, cs.set i (.int .i64 l[j]), by omega, by omega, hlt, by omega, rfl, rfl, rfl, by simp [hcl], by rw [hts, List.length_append, ← hi]; rfl, ?_, ?_⟩, by omega⟩
      · rw [hts, List.map_append, ← hct, List.take_succ_eq_append_getElem (by simp [hcl]; omega), List.take_set_of_le (Nat.le_refl _), List.getElem_set_self]
        rfl
      · rw [List.drop_set_of_lt (by omega)]
        have := congrArg (List.drop 1) hcd
        rw [List.drop_drop, List.drop_drop] at this
        exact this
    · have h : q l[j] = true := by simpa using h
      rw [if_pos h, List.append_nil] at hts
      refine ⟨by unfold I64; omega, _, Φ1, l.length - (j + 1), inferInstance, fun w G cx => cx, ⟨i, j + 1, cs, rfl, by omega, hlt, by omega, rfl, rfl, rfl, hcl, by rw [hts]; exact hi, by rw [hts]; exact hct, ?_⟩, by omega⟩
      have := congrArg (List.drop 1) hcd
      rw [List.drop_drop, List.drop_drop] at this
      exact this
  · have hge : j = l.length := Nat.le_antisymm hjl (by simpa using hge)
    subst hge
    rw [List.take_length] at hi hct
    refine ⟨by omega, fun w G cx => ?_⟩
    have hne : ¬ l.length = i := by omega
    have hsub : subPtr (some ⟨k, 0, none⟩) 1 (i : Int).toNat l.length = some ⟨k, i, none⟩ := by
      unfold subPtr
      rw [Int.toNat_natCast, if_neg hne]
      simp [Addr.add]
      intro h
      exact h.symm
    rw [hsub, Int.toNat_natCast]
    have hb := cx.blk 0 rfl
    have hrun := Lib.run_clear_slice (P := Try.prog) w 65 3 0 (.int .i64 0) Try.underlying65 zero3 rfl rfl k i (l.length - i) (l.length - i) (by omega) (fun t ht => (cx.can 0 rfl (o := i) (n := l.length - i) (by omega) t ht).1) (fun t ht => (cx.can 0 rfl (o := i) (n := l.length - i) (by omega) t ht).2)
    refine ⟨_, run_clr hrun, .blk k (setL cs i (List.replicate (l.length - i) (.int .i64 0))) 3 :: S, Φ1, inferInstance, cx.puts 0 rfl rfl, by omega, fun w G cx => ?_⟩
    have hcs : cs = (l.filter fun x => !q x).map intv ++ cs.drop i := by rw [← hct, List.take_append_drop]
    have e1 : setL cs i (List.replicate (l.length - i) (.int .i64 0)) = (l.filter fun x => !q x).map intv ++ List.replicate (l.length - i) (.int .i64 0) := by
      conv => lhs; rw [hcs]
      exact setL_app _ _ _ _ (by rw [List.length_map]; exact hi) (by simp [hcl])
    rw [e1] at cx
    have e2 : subPtr (some ⟨k, 0, none⟩) 1 0 l.length = some ⟨k, 0, none⟩ := by
      unfold subPtr
      split
      · rfl
      · simp [Addr.add]
    rw [e2, hi]
    exact hk w _ cx.left

/-- the numbers of the others, in a block of their own -/
theorem others_use {W w : World} {S : List Own} {Φ : PW} [Stable Φ] {b : Nat} {r : Rep} {p : Option Addr} {c : Nat} (hid : r.id ≤ 2) (cx : Ctx W w (repO b r p c ++ S) Φ) {K : Ending → World → Prop}
    (hK : ∀ k rest w', Ctx W w' (.blk k ((othersOf r.id).map (fun x : Nat => intv (x : Int)) ++ rest) 3 :: (repO b r p c ++ S)) Φ → K (.returned (.slice (some ⟨k, 0, none⟩) 2 3)) w') :
    Calls Try.prog F.replica_Replica_others #[.pointer (some ⟨b, 0, none⟩)] w K := by
  refine (Breplica_Replica_others_run b 0 (J := fun u w' => K (.returned u) w') cx ?_).mono fun e w' ⟨v, he, hj⟩ => by rw [he]; exact hj
  intro k0 k1 w G cx
  have cx1 : Ctx W w ((.blk k0 [.pointer (some ⟨b, 0, none⟩)] 46 :: repO b r p c) ++ (.blk k1 ([0, 1, 2].map intv) 3 :: (S ++ G))) Φ := by
    refine cx.perm ?_
    show (Own.blk k1 [.int .i64 0, .int .i64 1, .int .i64 2] 3 :: ((Own.blk k0 [.pointer (some ⟨b, 0, none⟩)] 46 :: repO b r p c) ++ S ++ G)).Perm _
    rw [List.append_assoc]
    exact List.perm_middle.symm
  have hst : Stable (Aside W (.blk k0 [.pointer (some ⟨b, 0, none⟩)] 46 :: repO b r p c) Φ) := inferInstance
  refine DeleteZ_use cx1.aside 57 #[.pointer (some ⟨k0, 0, none⟩)] (fun x : Int => decide (x = (r.id : Int))) 3 rfl (by simp) (by simp) (by kernel_rfl) (fun x => others1_in x) ?_ fun w rest cx => ?_
  · have : r.id = 0 ∨ r.id = 1 ∨ r.id = 2 := by omega
    rcases this with h | h | h <;> rw [h] <;> rfl
  · have hfil : ([0, 1, 2] : List Int).filter (fun x : Int => !decide (x = (r.id : Int))) = (othersOf r.id).map (fun x : Nat => (x : Int)) := by
      have : r.id = 0 ∨ r.id = 1 ∨ r.id = 2 := by omega
      rcases this with h | h | h <;> rw [h] <;> rfl
    rw [hfil] at cx ⊢
    have hl : ((othersOf r.id).map (fun x : Nat => (x : Int))).length = 2 := by unfold othersOf; split; rfl; split <;> rfl
    rw [hl]
    refine ⟨some ⟨k1, 0, none⟩, 2, 3, rfl, .blk k1 ((othersOf r.id).map (fun x : Nat => intv (x : Int)) ++ rest) 3 :: (repO b r p c ++ S), Φ, inferInstance, ?_, fun w G cx => hK k1 rest w cx.left⟩
    have cx2 := cx.unaside
    rw [List.map_map] at cx2
    refine Ctx.perm (cx2.sub (S' := repO b r p c ++ (.blk k1 ((othersOf r.id).map (fun x : Nat => intv (x : Int)) ++ rest) 3 :: (S ++ G))) (List.sublist_cons_self _ _)) ?_
    refine List.perm_middle.trans (List.Perm.cons _ ?_)
    rw [← List.append_assoc]
    exact List.Perm.refl _

end Go.Proofs.Ytifgijoeckoojaa
