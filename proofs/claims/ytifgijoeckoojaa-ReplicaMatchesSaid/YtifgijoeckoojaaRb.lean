/-
  Replica: messages, entries, all, answer; Clone; sound; New.
-/
import Derived.Test.YtifgijoeckoojaaRa
set_option linter.unusedVariables false
set_option linter.unusedSimpArgs false
namespace Go.Proofs.Ytifgijoeckoojaa
open Go.Vc

/-! ### messages as data -/
abbrev MsgR.cells (x : MsgR) (p : Option Addr) (c : Nat) : List Value := [.int .i64 x.kind, .int .i64 x.src, .int .i64 x.to, .int .i64 x.term, .int .i64 x.index, .int .i64 x.prev, .int .i64 x.commit, .bool x.yes, .slice p x.recs.length c]
abbrev MsgR.v (x : MsgR) (p : Option Addr) (c : Nat) : Value := .agg #[.int .i64 x.kind, .int .i64 x.src, .int .i64 x.to, .int .i64 x.term, .int .i64 x.index, .int .i64 x.prev, .int .i64 x.commit, .bool x.yes, .slice p x.recs.length c]

structure MsgR.Ok (x : MsgR) : Prop where
  kind : I64 x.kind
  src : I64 x.src
  to : I64 x.to
  term : I64 x.term
  index : I64 x.index
  prev : I64 x.prev
  commit : I64 x.commit

theorem msg_cells {M : List Nat} {w : World} {cs : List Value} {x : MsgR} (h : Gv.rep M w cs x) : ∃ p c, cs = x.cells p c ∧ x.recs.length ≤ c ∧ c ≤ maxLen ∧ x.Ok ∧ Sl M w p x.recs := by
  obtain ⟨_, _, rfl, ⟨rfl, h1⟩, _, _, rfl, ⟨rfl, h2⟩, _, _, rfl, ⟨rfl, h3⟩, _, _, rfl, ⟨rfl, h4⟩, _, _, rfl, ⟨rfl, h5⟩, _, _, rfl, ⟨rfl, h6⟩, _, _, rfl, ⟨rfl, h7⟩, _, _, rfl, rfl, p, c, rfl, h8, h9, h10⟩ := h
  exact ⟨p, c, rfl, h8, h9, ⟨h1, h2, h3, h4, h5, h6, h7⟩, h10⟩

theorem rep_msg {M : List Nat} {w : World} {x : MsgR} {p : Option Addr} {c : Nat} (h : x.Ok) (h6 : x.recs.length ≤ c) (h7 : c ≤ maxLen) (h8 : Sl M w p x.recs) : Gv.rep M w (x.cells p c) x :=
  ⟨[_], _, rfl, ⟨rfl, h.kind⟩, [_], _, rfl, ⟨rfl, h.src⟩, [_], _, rfl, ⟨rfl, h.to⟩, [_], _, rfl, ⟨rfl, h.term⟩, [_], _, rfl, ⟨rfl, h.index⟩, [_], _, rfl, ⟨rfl, h.prev⟩, [_], _, rfl, ⟨rfl, h.commit⟩, [_], _, rfl, rfl, p, c, rfl, h6, h7, h8⟩

theorem msg_sl {M : List Nat} {w : World} {x : MsgR} {p : Option Addr} {c : Nat} (h : Gv.rep M w (x.cells p c) x) : Sl M w p x.recs := by
  obtain ⟨p', c', e, _, _, _, h1⟩ := msg_cells h
  simp only [MsgR.cells, List.cons.injEq, Value.slice.injEq] at e
  rw [e.2.2.2.2.2.2.2.2.1.1]
  exact h1

theorem sl_rec {M : List Nat} {w : World} {b o : Nat} {l : List RecD} (h : Sl M w (some ⟨b, o, none⟩) l) {i : Nat} (hi : i < l.length) : RowAt w b (o + i * 2) [.int .i64 l[i].term, .string l[i].data] := by
  obtain ⟨b', o', cs, e, _, h3, h4⟩ := h i hi
  cases e
  rw [← (rec_cells h4).1]
  exact h3

theorem sl_recOk {M : List Nat} {w : World} {p : Option Addr} {l : List RecD} (h : Sl M w p l) : ∀ x ∈ l, x.Ok := fun x hx => by
  obtain ⟨i, hi, rfl⟩ := List.getElem_of_mem hx
  obtain ⟨_, _, _, _, _, _, h4⟩ := h i hi
  exact (rec_cells h4).2

/-! ### Clone -/
/-- what is cloned: a slice of plain data -/
theorem CloneR_use {W w : World} {S : List Own} {Φ : PW} [Stable Φ] {q : Option Addr} {l : List RecD} {c2 : Nat} (c : Ctx W w S Φ) (hsl : ∀ M w, Φ M w → Sl M w q l) (hlen : l.length < 100000000) {K : Ending → World → Prop}
    (hk : ∀ p cap w', Ctx W w' (.buf p l.length cap (recCells l) 55 2 :: S) Φ → K (.returned (.slice p l.length cap)) w') : Calls Try.prog F.slices_Clone_api_Rec_api_Rec #[.slice q l.length c2] w K := by
  refine (Bslices_Clone_api_Rec_api_Rec_run q l.length c2 (J := fun u w' => K (.returned u) w') c ?_).mono fun e w' ⟨v, he, hj⟩ => by rw [he]; exact hj
  refine Br.intro (fun h => fun w G cx => ?_) (fun h => fun k w G cx => ?_)
  · have hq : q = none := by simpa using h
    have hl : l.length = 0 := by
      rcases Nat.eq_zero_or_pos l.length with h0 | h0
      · exact h0
      · obtain ⟨b, o, hb⟩ := (hsl _ _ cx.phi).there h0
        rw [hq] at hb; cases hb
    have hl' : l = [] := List.eq_nil_of_length_eq_zero hl
    subst hl'
    exact hk none 0 w (cx.left.nobuf 55 2)
  · obtain ⟨p', cap', w', cs, hrun, cx'⟩ := Ctx.cloned (P := Try.prog) (ts := 35) (ty := 35) (kb := #[false, false]) (bytes := 24) (c2 := c2) cx (by kernel_rfl) rec_one hsl hlen (by omega)
    obtain ⟨rfl, _⟩ := elems_recs cx'.phi.2
    exact ⟨p', l.length, cap', w', hrun, .buf p' l.length cap' (recCells l) 55 2 :: S, Φ, inferInstance, cx'.fst, fun w G cx => hk p' cap' w cx.left⟩

/-- the log of a replica, while it is laid aside -/
theorem log_sl {W w : World} {Q : List Own} {Φ : PW} {M : List Nat} {p : Option Addr} {n c : Nat} {l : List RecD} (h : Aside W Q Φ M w) (hm : Own.buf p n c (recCells l) 55 2 ∈ Q) (hok : ∀ x ∈ l, x.Ok) : Sl M w p l :=
  Parked.sl (α := RecD) (D := []) (h.parked hm) (recs_elems hok)

/-- what a replica's Ok says of its entries -/
theorem Rep.Ok.recs {r : Rep} (h : r.Ok) : ∀ x ∈ r.log, x.Ok := fun x hx => by
  have h1 := h.log.lo x hx
  have h2 := h.log.hi x hx
  have h3 := h.log.data x hx
  have h4 := h.termM
  exact ⟨by unfold I64; omega, by unfold maxLen; omega⟩

theorem Sl.take {α : Type} [Gv α] {M : List Nat} {w : World} {p : Option Addr} {l : List α} (h : Sl M w p l) (k : Nat) : Sl M w p (l.take k) := fun j hj => by
  have hj' : j < l.length := by simp at hj; omega
  rw [List.getElem_take]
  exact h j hj'

/-! ### message -/
theorem message_use {W w : World} {S : List Own} {Φ : PW} [Stable Φ] {b : Nat} {r : Rep} {p : Option Addr} {c : Nat} (cx : Ctx W w (repO b r p c ++ S) Φ) (kind to : Int) {K : Ending → World → Prop}
    (hK : ∀ w', Ctx W w' (repO b r p c ++ S) Φ → K (.returned ((msgOf r kind to).v none 0)) w') : Calls Try.prog F.replica_Replica_message #[.pointer (some ⟨b, 0, none⟩), .int .i64 kind, .int .i64 to] w K := by
  refine (Breplica_Replica_message_run b 0 kind to (J := fun u w' => K (.returned u) w') cx ?_).mono fun e w' ⟨v, he, hj⟩ => by rw [he]; exact hj
  exact fun _ w G cx => ⟨r.id, cx.get 0 rfl rfl, fun w G cx => ⟨r.term, cx.get 0 rfl rfl, fun w G cx => hK w cx.left⟩⟩

/-- next is a place in the log, or behind it -/
structure Fit (r : Rep) (to : Nat) : Prop where
  lo : 1 ≤ r.next to
  hi : r.next to ≤ r.log.length + 1
  len : r.log.length ≤ 4000
  to : to < 3

theorem cells_next {r : Rep} {p : Option Addr} {c : Nat} {to : Nat} (h : to < 3) : (r.cells p c)[9 + to]? = some (.int .i64 (r.next to)) := by
  match to, h with
  | 0, _ => rfl
  | 1, _ => rfl
  | 2, _ => rfl

theorem cells_mat {r : Rep} {p : Option Addr} {c : Nat} {to : Nat} (h : to < 3) : (r.cells p c)[12 + to]? = some (.int .i64 (r.mat to)) := by
  match to, h with
  | 0, _ => rfl
  | 1, _ => rfl
  | 2, _ => rfl

set_option maxHeartbeats 1000000 in
theorem entries_use {W w : World} {S : List Own} {Φ : PW} [Stable Φ] {b : Nat} {r : Rep} {p : Option Addr} {c : Nat} (cx : Ctx W w (repO b r p c ++ S) Φ) (hok : ∀ x ∈ r.log, x.Ok) {to : Int} (n : Nat) (hto : to = n) (hf : Fit r n) {K : Ending → World → Prop}
    (hK : ∀ q cap w', (entriesOf r n).recs.length ≤ cap → cap ≤ maxLen → Ctx W w' (repO b r p c ++ S) (fun M w => Φ M w ∧ Sl M w q (entriesOf r n).recs) → K (.returned ((entriesOf r n).v q cap)) w') :
    Calls Try.prog F.replica_Replica_entries #[.pointer (some ⟨b, 0, none⟩), .int .i64 to] w K := by
  subst hto
  have h1 := hf.lo
  have h2 := hf.hi
  have h3 := hf.len
  have h4 := hf.to
  refine (Breplica_Replica_entries_run b 0 n (J := fun u w' => K (.returned u) w') cx ?_).mono fun e w' ⟨v, he, hj⟩ => by rw [he]; exact hj
  refine fun _ w G cx => message_use (gl cx) 2 n fun w cx => ⟨_, _, _, _, _, _, _, _, none, _, 0, rfl, repO b r p c ++ S, Φ, inferInstance, gr cx, fun _ => ⟨by omega, fun w G cx => ⟨r.next n, ?_, by unfold I64; omega, ?_⟩⟩⟩
  · rw [Nat.zero_add, Int.toNat_natCast]
    exact cx.get 0 rfl (cells_next h4)
  have hnx : ((r.next n : Nat) : Int) - 1 = ((r.next n - 1 : Nat) : Int) := by omega
  rw [hnx]
  have hmin : min ((r.log.length : Nat) : Int) (((r.next n - 1 : Nat) : Int) + 8) = ((min r.log.length (r.next n - 1 + 8) : Nat) : Int) := by omega
  refine ⟨repO b r p c ++ S, Φ, inferInstance, fun w G cx => cx, (r.commit : Int), fun w G cx => ⟨_, cx.get 0 rfl rfl, rfl⟩, fun w G cx => term_use (gl cx) rfl (by omega) h3 fun w cx => ⟨_, rfl, repO b r p c ++ S, Φ, inferInstance, gr cx, fun w G cx => cx, fun w G cx => cx, fun w G cx => cx,
    repO b r p c, Φ, inferInstance, fun w G cx => cx.sub (by rw [List.append_assoc]; exact List.Sublist.append_left (List.sublist_append_right _ _) _), by unfold I64; omega, p, r.log.length, c, fun w G cx => ⟨p, r.log.length, c, cx.get 0 rfl rfl, rfl⟩, p, r.log.length, c, fun w G cx => ⟨p, r.log.length, c, cx.get 0 rfl rfl, rfl⟩, ?_, fun w G cx => ?_⟩⟩
  · have hc := (cx.bufLen 1 rfl).2.1
    omega
  rw [hmin, Int.toNat_natCast, Int.toNat_natCast]
  have hlen : min r.log.length (r.next n - 1 + 8) - (r.next n - 1) = ((r.log.drop (r.next n - 1)).take 8).length := by
    rw [List.length_take, List.length_drop]; omega
  rw [hlen]
  have hc := (cx.bufLen 1 rfl).2.1
  have cx1 : Ctx W w (S ++ G) (Aside W (repO b r p c) Φ) := Ctx.aside (cx.re (List.append_assoc _ _ _))
  refine CloneR_use cx1 (fun M w h => Sl.take (addr_sub (log_sl h (n := r.log.length) (c := c) (by simp) hok) (r.next n - 1) hc) 8) (by rw [← hlen]; omega) fun q cap w cx => ?_
  obtain ⟨_, hcap1, hcap2⟩ := cx.bufLen 0 rfl
  have cx2 : Ctx W w (.buf q ((r.log.drop (r.next n - 1)).take 8).length cap (recCells ((r.log.drop (r.next n - 1)).take 8)) 55 2 :: (repO b r p c ++ (S ++ G))) Φ := cx.unaside.perm List.perm_middle
  obtain ⟨cx3, hs, _⟩ := Ctx.freeze (α := RecD) cx2 (recs_elems fun x hx => hok x (List.mem_of_mem_drop (List.mem_of_mem_take hx)))
  have hst : Stable (fun M w => Φ M w ∧ Sl M w q ((r.log.drop (r.next n - 1)).take 8)) := inferInstance
  refine ⟨q, _, cap, rfl, repO b r p c ++ S, fun M w => Φ M w ∧ Sl M w q ((r.log.drop (r.next n - 1)).take 8), hst, gr (cx3.add hs), fun w G cx => ?_, fun w G cx => hK q cap w hcap1 hcap2 cx.left⟩
  exact cx.fst.sub (by rw [List.append_assoc]; exact List.Sublist.append_left (List.sublist_append_right _ _) _)

/-! ### answer -/
theorem answer_use {W w : World} {S : List Own} {Φ : PW} [Stable Φ] (cx : Ctx W w S Φ) (m : MsgR) (p : Option Addr) (c : Nat) (hm : m.Ok) (h1 : m.recs.length ≤ c) (h2 : c ≤ maxLen) (hsl : ∀ M w, Φ M w → Sl M w p m.recs) {K : Ending → World → Prop}
    (hK : ∀ q w', Ctx W w' S (fun M w => Φ M w ∧ Sl M w q [m]) → K (.returned (.agg #[.bool false, .int .i64 0, .int .i64 0, .int .i64 0, .slice none 0 0, .slice q 1 1])) w') :
    Calls Try.prog F.replica_answer #[m.v p c] w K := by
  refine (Breplica_answer_run m.kind m.src m.to m.term m.index m.prev m.commit m.yes p m.recs.length c (J := fun u w' => K (.returned u) w') cx ?_).mono fun e w' ⟨v, he, hj⟩ => by rw [he]; exact hj
  refine fun _ _ k w G cx => ?_
  obtain ⟨cx1, hs⟩ := cx.freezeBlk (Elems.one (rep_msg (x := m) hm h1 h2 (hsl _ _ cx.phi)))
  exact hK (some ⟨k, 0, none⟩) w (Ctx.left (F := G) (Φ := fun M w => Φ M w ∧ Sl M w (some ⟨k, 0, none⟩) [m]) (cx1.add hs))

end Go.Proofs.Ytifgijoeckoojaa
