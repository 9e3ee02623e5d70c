/-
  The walks of strings.Builder, of the decimal form of ints, and of the encodings of ints and texts.
-/
import Derived.Test.YtebnciehcnedjaaGreatDoorSTl6
import Derived.Test.YtebnciehcnedjaaGreatDoorSTl8
import Derived.Test.YtebnciehcnedjaaGreatDoorSTl4
import Derived.Lib.ItoaNum
import Derived.Test.YtebnciehcnedjaaGreatDoorSTl7
import Derived.Shelf.Strconv.AtoiAll
import Derived.Shelf.Small.Wraps
import Derived.Stop.IfaceNil
import Derived.Lib.AtoiErrMem
import Derived.Lib.AtoiAllCases

set_option linter.unusedVariables false
set_option linter.unusedSimpArgs false
section
namespace Go.Proofs.YtebnciehcnedjaaGreatDoor
open Go.Vc
abbrev BdT (b : Nat) (l : List UInt8) (R : List Own) : Prop := Bd 89 5 b l R
theorem bd_info : ∃ j, Tryz.prog.info? 89 = some j ∧ j.size = 2 := by
  have h : (Tryz.prog.info? 89).map (·.size) = some 2 := by kernel_rfl
  exact Option.map_eq_some_iff.1 h
set_option maxHeartbeats 1000000 in
set_option maxRecDepth 100000 in
theorem copyCheck_used (b : Nat) (w : World) (h0 : w.cell? ⟨b, 0, none⟩ = some (.pointer (some ⟨b, 0, none⟩))) :
    Calls Tryz.prog 86 #[.pointer (some ⟨b, 0, none⟩)] w fun e w' => e = .returned (.tuple #[]) ∧ w' = w := by
  obtain ⟨j, hj, _⟩ := bd_info
  go_enter Tryz.func86, Tryz.ntmps86
  go_wp2
  rw [Lib.run_neq_ptr_same w _ Tryz.underlying86 hj]
  go_wp2
  go_end0
  exact ⟨rfl, rfl⟩
set_option maxHeartbeats 1000000 in
set_option maxRecDepth 100000 in
theorem copyCheck_fresh (b : Nat) (w : World) (h0 : w.cell? ⟨b, 0, none⟩ = some (.pointer none)) (hsh : w.shape? b = some (89, 2)) (hfz : w.frozen? ⟨b, 0, none⟩ = false) :
    Calls Tryz.prog 86 #[.pointer (some ⟨b, 0, none⟩)] w fun e w' => e = .returned (.tuple #[]) ∧ w' = w.setCell ⟨b, 0, none⟩ (.pointer (some ⟨b, 0, none⟩)) := by
  obtain ⟨j, hj, hjs⟩ := bd_info
  go_enter Tryz.func86, Tryz.ntmps86
  go_wp2
  rw [Lib.run_to_unsafe w ⟨b, 0, none⟩ Tryz.underlying86 Tryz.underlying134 hj (by rw [hjs]; decide) hsh (Nat.zero_lt_succ 1)]
  simp only [Result.andThen]
  rw [Oper.upon_value]
  go_wp2
  rw [run_callFunc_extern Tryz.func112 (by kernel_rfl) (by kernel_rfl) (by kernel_rfl) (e := Extern.AbiNoEscape.same) (by kernel_rfl)]
  rw [Lib.run_noEscape]
  simp only [Result.andThen]
  rw [Oper.upon_value]
  go_wp2
  rw [Lib.run_from_unsafe w ⟨b, 0, none⟩ Tryz.underlying134 Tryz.underlying86 hj hsh (by kernel_rfl)]
  simp only [Result.andThen]
  rw [Oper.upon_value]
  go_wp2
  go_end0
  exact ⟨rfl, rfl⟩
theorem copyCheck_use {W w : World} {S : List Own} {Φ : PW} [Stable Φ] {b : Nat} {pa v : Value} (hp : pa = .pointer none ∨ pa = .pointer (some ⟨b, 0, none⟩)) (c : Ctx W w (.blk b [pa, v] 89 :: S) Φ) {K : Ending → World → Prop}
    (hk : ∀ w', Ctx W w' (.blk b [.pointer (some ⟨b, 0, none⟩), v] 89 :: S) Φ → K (.returned (.tuple #[])) w') : Calls Tryz.prog F.strings_Builder_copyCheck #[.pointer (some ⟨b, 0, none⟩)] w K := by
  have hb : w.heap[b]? = some (.cells #[pa, v] 89 (0, 0)) := c.blk 0 rfl
  rcases hp with rfl | rfl
  · exact (copyCheck_fresh b w (c.get 0 rfl rfl) (by simp [World.shape?, hb]) (by simp [World.frozen?, hb])).mono fun e w' ⟨he, hw⟩ => by
      subst he
      exact hk w' (c.put 0 hw rfl)
  · exact (copyCheck_used b w (c.get 0 rfl rfl)).mono fun e w' ⟨he, hw⟩ => by
      subst he; subst hw
      exact hk w' c
theorem byte_info : ∃ i, Tryz.prog.info? 5 = some i ∧ i.zero = some (.int .u8 0) ∧ i.size = 1 ∧ i.bytes = 1 := by
  have h : (Tryz.prog.info? 5).map (fun i => (i.zero, i.size, i.bytes)) = some (some (.int .u8 0), 1, 1) := by kernel_rfl
  obtain ⟨i, hi, he⟩ := Option.map_eq_some_iff.1 h
  simp only [Prod.mk.injEq] at he
  exact ⟨i, hi, he⟩
theorem strCells_bytes (s : ByteArray) : Lib.strCells s = Lib.byteCells s.data.toList := rfl
theorem WriteString_use {W w : World} {S R : List Own} {Φ : PW} [Stable Φ] {b : Nat} {l : List UInt8} (s : ByteArray) (h : BdT b l R) (c : Ctx W w (R ++ S) Φ) (hlen : l.length + s.size ≤ 100000000000) {K : Ending → World → Prop}
    (hk : ∀ R' w', BdT b (l ++ s.data.toList) R' → Ctx W w' (R' ++ S) Φ → K (.returned (.tuple #[.int .i64 s.size, .nilIface])) w') : Calls Tryz.prog F.strings_Builder_WriteString #[.pointer (some ⟨b, 0, none⟩), .string s] w K := by
  obtain ⟨pa, p, cap, hpa, rfl⟩ := h
  obtain ⟨i, hi, hz, hsz, hby⟩ := byte_info
  refine (Bstrings_Builder_WriteString_run b 0 s (J := fun u w' => K (.returned u) w') c ?_).mono fun e w' ⟨v, he, hj⟩ => by rw [he]; exact hj
  refine fun w G c => copyCheck_use hpa c fun w c => ⟨rfl, [.blk b [.pointer (some ⟨b, 0, none⟩), .slice p l.length cap] 89, .buf p l.length cap (Lib.byteCells l) 5 1] ++ S, Φ, inferInstance, c, fun w G c => ⟨p, l.length, cap, c.get 0 rfl rfl, fun w G c => ?_⟩⟩
  obtain ⟨p', cap', w', hrun, c'⟩ := Ctx.appStr (P := Tryz.prog) (t := 87) (u := 9) (ty := 87) (kb := #[false, false]) (c.swap) Tryz.underlying87 Tryz.underlying9 hi hz hsz hby s (by omega) (by unfold maxLen; omega)
  refine ⟨p', _, cap', w', hrun, [.blk b [.pointer (some ⟨b, 0, none⟩), .slice p l.length cap] 89, .buf p' (l.length + s.size) cap' (Lib.byteCells l ++ Lib.strCells s) 5 1] ++ S, Φ, inferInstance, c'.swap, fun w G c => ⟨c.can 0 rfl (by simp), fun w' hw' => ?_⟩⟩
  refine ⟨[.blk b [.pointer (some ⟨b, 0, none⟩), .slice p' (l.length + s.size) cap'] 89, .buf p' (l.length + s.size) cap' (Lib.byteCells l ++ Lib.strCells s) 5 1] ++ S, Φ, inferInstance, c.put 0 hw' rfl, fun w G c => hk [.blk b [.pointer (some ⟨b, 0, none⟩), .slice p' (l.length + s.size) cap'] 89, .buf p' (l.length + s.size) cap' (Lib.byteCells l ++ Lib.strCells s) 5 1] w ⟨_, p', cap', .inr rfl, ?_⟩ c.left⟩
  have hl : (l ++ s.data.toList).length = l.length + s.size := by rw [List.length_append, Array.length_toList]; rfl
  rw [hl, strCells_bytes, Lib.byteCells_append]
theorem String_use {W w : World} {S R : List Own} {Φ : PW} [Stable Φ] {b : Nat} {l : List UInt8} (h : BdT b l R) (c : Ctx W w (R ++ S) Φ) {K : Ending → World → Prop}
    (hk : ∀ w', Ctx W w' S Φ → K (.returned (.string ⟨l.toArray⟩)) w') : Calls Tryz.prog F.strings_Builder_String #[.pointer (some ⟨b, 0, none⟩)] w K :=
  Bd.string Tryz.lays169 Tryz.Builder_Extra_169 h c hk
end Go.Proofs.YtebnciehcnedjaaGreatDoor
end

section
namespace Go.Vc
theorem GivesSl.know {Φ : PW} {P : Program} {f : FuncId} {args : Array Value} {α : Type} [Gv α] {l : List α} {mk : Value → Value} {p : Prop} (hΦ : ∀ M w, Φ M w → p) (h : p → GivesSl Φ P f args l mk) : GivesSl Φ P f args l mk :=
  ⟨fun W w S c => (h (hΦ _ _ c.phi)).go W w S c⟩
end Go.Vc
namespace Go.Proofs.YtebnciehcnedjaaGreatDoor
open Go.Vc
def numB (n : Int) : ByteArray := ⟨(Lib.itoa n).toArray⟩
def intB (n : Int) : ByteArray := numB n ++ ByteArray.mk #[59]
def natB (n : Int) : ByteArray := if n < 0 then ByteArray.mk #[] else intB n
def textB (s : ByteArray) : ByteArray := numB s.size ++ ByteArray.mk #[58] ++ s ++ ByteArray.mk #[44]
theorem size_app (a b : ByteArray) : (a ++ b).size = a.size + b.size := ByteArray.size_append
theorem size_list (l : List UInt8) : (ByteArray.mk l.toArray).size = l.length := by simp [ByteArray.size]
theorem list_size (a : ByteArray) : a.data.toList.length = a.size := by rw [Array.length_toList]; rfl
theorem nDigits_le : ∀ (k u : Nat), u < 10 ^ k → 0 < k → Lib.nDigits u ≤ k
  | 0, u, _, h => by omega
  | k + 1, u, h, _ => by
    by_cases h1 : u < 10
    · rw [Lib.nDigits_small h1]; omega
    · rw [Lib.nDigits_big h1]
      have hk : 0 < k := by
        rcases Nat.eq_zero_or_pos k with rfl | h2
        · simp at h; omega
        · exact h2
      have := nDigits_le k (u / 10) (by rw [Nat.pow_succ] at h; omega) hk
      omega
theorem itoa_len {n : Int} (h : I64 n) : 1 ≤ (Lib.itoa n).length ∧ (Lib.itoa n).length ≤ 20 := by
  unfold I64 at h
  unfold Lib.itoa
  split
  · have h1 := nDigits_le 19 n.natAbs (by omega) (by decide)
    have h2 := Lib.nDigits_pos n.natAbs
    rw [List.length_cons, Lib.decDigits_length]; omega
  · have h1 := nDigits_le 19 n.toNat (by omega) (by decide)
    have h2 := Lib.nDigits_pos n.toNat
    rw [Lib.decDigits_length]; omega
theorem numB_size {n : Int} (h : I64 n) : 1 ≤ (numB n).size ∧ (numB n).size ≤ 20 := by
  unfold numB; rw [size_list]; exact itoa_len h
theorem intB_size {n : Int} (h : I64 n) : 2 ≤ (intB n).size ∧ (intB n).size ≤ 21 := by
  have := numB_size h
  have e : (ByteArray.mk #[59]).size = 1 := rfl
  unfold intB; rw [size_app, e]; omega
theorem natB_size {n : Int} (h : I64 n) : (natB n).size ≤ 21 := by
  unfold natB
  split
  · exact Nat.zero_le _
  · exact (intB_size h).2
theorem textB_size {s : ByteArray} (h : s.size ≤ 9223372036854775807) : (textB s).size ≤ s.size + 22 ∧ s.size + 3 ≤ (textB s).size := by
  have := numB_size (n := s.size) (by unfold I64; omega)
  have e : (ByteArray.mk #[58]).size = 1 := rfl
  have e2 : (ByteArray.mk #[44]).size = 1 := rfl
  unfold textB; rw [size_app, size_app, size_app, e, e2]; omega
abbrev tabN : String := ((Rows.storeBoundsRow.laid.map Prod.fst).drop 2).headD default
abbrev TabI : PW := Tab Tryz.prog tabN .u64 Lib.pow10Tab
theorem Itoa_in {Φ : PW} [Stable Φ] (hΦ : ∀ M w, Φ M w → TabI M w) (n : Int) (h : I64 n) : GivesIn Φ Tryz.prog F.strconv_Itoa #[.int .i64 n] (.string (numB n)) :=
  itoa_in (name := tabN) (fun n h0 h1 w ht => Any.strconv_Itoa Tryz.laysM171 n h0 h1 w ht) hΦ n h
theorem Itoa_small (i : Nat) (hi : i < 100) : Gives Tryz.prog F.strconv_Itoa #[.int .i64 i] (.string (numB i)) :=
  Quiet.gives ⟨fun w => by
    have h := Any.strconv_Itoa_small { Tryz.lays171 with } i hi w
    rw [← Lib.itoa_nonneg] at h
    exact h⟩
def Dec (Φ : PW) (n : Int) : Prop := (∀ M w, Φ M w → TabI M w) ∧ I64 n ∨ ∃ i : Nat, i < 100 ∧ n = i
theorem Itoa_dec {Φ : PW} [Stable Φ] {n : Int} (h : Dec Φ n) : GivesIn Φ Tryz.prog F.strconv_Itoa #[.int .i64 n] (.string (numB n)) := by
  rcases h with ⟨h1, h2⟩ | ⟨i, hi, rfl⟩
  · exact Itoa_in h1 n h2
  · exact (Itoa_small i hi).in
theorem Dec.i64 {Φ : PW} {n : Int} (h : Dec Φ n) : I64 n := by
  rcases h with ⟨_, h2⟩ | ⟨i, hi, rfl⟩
  · exact h2
  · unfold I64; omega
theorem Int_in {Φ : PW} [Stable Φ] {n : Int} (h : Dec Φ n) : GivesIn Φ Tryz.prog F.wire_Int #[.int .i64 n] (.string (intB n)) := by
  refine gives_in (Bwire_Int_run n) fun W R => ?_
  have := numB_size h.i64
  exact fun w G cx => (Itoa_dec h).use cx fun w cx => ⟨_, rfl, R, Φ, inferInstance, cx, by show (numB n).size + 1 ≤ _; omega, fun w G cx => ⟨rfl, cx.left⟩⟩
theorem Num_in {Φ : PW} [Stable Φ] {n : Int} (h : Dec Φ n) : GivesIn Φ Tryz.prog F.wire_Num #[.int .i64 n] (.string (natB n)) := by
  refine gives_in (Bwire_Num_run n) fun W R => Br.intro (fun hn => fun w G cx => ⟨?_, cx.left⟩) (fun hn => fun w G cx => (Int_in h).use cx fun w cx => ⟨_, rfl, R, Φ, inferInstance, cx, fun w G cx => ⟨?_, cx.left⟩⟩)
  · unfold natB; rw [if_pos (of_decide_eq_true hn)]
  · unfold natB; rw [if_neg (of_decide_eq_false hn)]
theorem Text_in {Φ : PW} [Stable Φ] {s : ByteArray} (h : Dec Φ s.size) (hs : s.size ≤ 1000000000000) : GivesIn Φ Tryz.prog F.wire_Text #[.string s] (.string (textB s)) := by
  refine gives_in (Bwire_Text_run s) fun W R => ?_
  have h1 := numB_size h.i64
  have e : (ByteArray.mk #[58]).size = 1 := rfl
  have e2 : (ByteArray.mk #[44]).size = 1 := rfl
  exact fun w G cx => (Itoa_dec h).use cx fun w cx => ⟨_, rfl, R, Φ, inferInstance, cx, by show (numB s.size).size + 1 ≤ _; omega, by show (numB s.size ++ ByteArray.mk #[58]).size + s.size ≤ _; rw [size_app, e]; omega, by show (numB s.size ++ ByteArray.mk #[58] ++ s).size + 1 ≤ _; rw [size_app, size_app, e]; omega, fun w G cx => ⟨rfl, cx.left⟩⟩
end Go.Proofs.YtebnciehcnedjaaGreatDoor
end

section
namespace Go.Vc
def ErrAt (g : Nat) : PW := fun M w => g ∉ M ∧ ∃ ev, w.cell? ⟨g, 0, none⟩ = some ev ∧ (ev = .nilIface ∨ ∃ te pe, ev = .iface te pe)
instance instStableErrAt (g : Nat) : Stable (ErrAt g) := ⟨fun {M M' w w'} hs ⟨h1, ev, h2, h3⟩ => by
  have hlt : g < w.heap.size := by
    rcases Nat.lt_or_ge g w.heap.size with h' | h'
    · exact h'
    · simp [World.cell?, Array.getElem?_eq_none h'] at h2
  refine ⟨fun hm => ?_, ev, hs.chg.cell h2 h1, h3⟩
  rcases hs.sub g hm with h | h
  · exact h1 h
  · omega⟩
theorem chg_below {w w' : World} (h : Go.RowKit.Below w.heap.size w w') : Chg [] w w' := ⟨h.os, h.tape, h.output, h.size, fun k hk _ => h.block k hk⟩
theorem eqGuard_iface {P : Program} {op : BinOp} {t : TypeId} {ox oy : Operand} {u : TypeId} {v : Value} (w : World) : (eqGuard op t ox oy (.iface u v) .nilIface).run P w = .ok () w := by
  unfold eqGuard
  cases op <;> rfl
theorem eqGuard_nil {P : Program} {op : BinOp} {t : TypeId} {k : Nat} {v : Value} (w : World) : (eqGuard op t (.tmp k) (.const v) .nilIface .nilIface).run P w = .ok () w := by
  unfold eqGuard
  cases op <;> rfl
theorem neq_nil {P : Program} {op : BinOp} {t t' : TypeId} {k : Nat} {v : Value} (ht : P.isIface t' = true) (w : World) : ((eqGuard op t (.tmp k) (.const v) .nilIface .nilIface) >>= fun _ => binOp .neq t' .nilIface .nilIface).run P w = .ok (.bool false) w := by
  rw [Sem.run_bind, eqGuard_nil]
  exact Go.run_neq_nil_nil_at w t' ht
theorem neq_err {P : Program} {op : BinOp} {t t' : TypeId} {ox oy : Operand} {u : TypeId} {v : Value} (ht : P.isIface t' = true) (w : World) : ((eqGuard op t ox oy (.iface u v) .nilIface) >>= fun _ => binOp .neq t' (.iface u v) .nilIface).run P w = .ok (.bool true) w := by
  rw [Sem.run_bind, eqGuard_iface]
  exact Go.run_neq_iface_nil w t' ht u v
end Go.Vc
namespace Go.Proofs.YtebnciehcnedjaaGreatDoor
open Go.Vc
def NumI : PW := fun M w => TabI M w ∧ ErrAt 1 M w ∧ ErrAt 2 M w
instance instStableNumI : Stable NumI := instStableAnd TabI (fun M w => ErrAt 1 M w ∧ ErrAt 2 M w)
def bs (l : List UInt8) : ByteArray := ⟨l.toArray⟩
theorem bs_list (l : List UInt8) : (bs l).data.toList = l := rfl
theorem bs_size (l : List UInt8) : (bs l).size = l.length := size_list l
theorem bs_ext (l : List UInt8) (a b : Nat) : (bs l).extract a b = bs ((l.drop a).take (b - a)) := by
  apply ByteArray.ext
  apply Array.toList_inj.1
  rw [ByteArray.data_extract, Array.toList_extract]
  rfl
theorem bs_inj {a b : List UInt8} : bs a = bs b ↔ a = b := ⟨fun h => by have := congrArg (fun x => x.data.toList) h; exact this, fun h => by rw [h]⟩
abbrev RdS := List UInt8 × Bool
def numP (e : UInt8) (least : Int) (l : List UInt8) : Option (Int × List UInt8) :=
  let i := Lib.indexByte (l.take 21) e
  if i < 0 then none else match Lib.atoiAll (l.take i.toNat) with
    | .ok n => if Lib.itoa n = l.take i.toNat ∧ least ≤ n then some (n, l.drop (i.toNat + 1)) else none
    | _ => none
def stepN (e : UInt8) (least : Int) (st : RdS) : Int × RdS := match numP e least st.1 with
  | some (n, r) => (n, (r, st.2))
  | none => (0, ([], true))
def stepC (c : UInt8) (st : RdS) : RdS := match st.1 with
  | [] => ([], true)
  | x :: r => if x = c then (r, st.2) else ([], true)
def stepT (st : RdS) : ByteArray × RdS :=
  let a := stepN 58 0 st
  if (a.2.1.length : Int) < a.1 then (ByteArray.mk #[], ([], true)) else
    let c := stepC 44 (a.2.1.drop a.1.toNat, a.2.2)
    (if c.2 then ByteArray.mk #[] else bs (a.2.1.take a.1.toNat), c)
theorem at_of_split {l r : List UInt8} {i : Nat} {e : UInt8} (h : l.take i ++ e :: r = l) (hi : i < l.length) : l[i]? = some e := by
  have hl : (l.take i).length = i := by rw [List.length_take]; omega
  rw [← h, List.getElem?_append_right (by omega), hl, Nat.sub_self]
  rfl
theorem index_neg : ∀ (l : List UInt8) (c : UInt8), -1 ≤ Lib.indexByte l c ∧ (Lib.indexByte l c = -1 ∨ (0 ≤ Lib.indexByte l c ∧ Lib.indexByte l c < l.length ∧ l.take (Lib.indexByte l c).toNat ++ c :: l.drop ((Lib.indexByte l c).toNat + 1) = l ∧ c ∉ l.take (Lib.indexByte l c).toNat))
  | [], c => by simp [Lib.indexByte]
  | b :: l, c => by
    have ih := index_neg l c
    unfold Lib.indexByte
    by_cases hb : (b == c) = true
    · rw [if_pos hb]
      have : b = c := by simpa using hb
      subst this
      refine ⟨by omega, .inr ⟨by omega, by simp, by simp, by simp⟩⟩
    · rw [if_neg hb]
      by_cases h1 : (Lib.indexByte l c == -1) = true
      · rw [if_pos h1]; exact ⟨by omega, .inl rfl⟩
      · rw [if_neg h1]
        have h1 : Lib.indexByte l c ≠ -1 := by simpa using h1
        obtain ⟨h2, h3⟩ := ih
        rcases h3 with h3 | ⟨h3, h4, h5, h6⟩
        · exact absurd h3 h1
        · have e : (Lib.indexByte l c + 1).toNat = (Lib.indexByte l c).toNat + 1 := by omega
          refine ⟨by omega, .inr ⟨by omega, by simp; omega, ?_, ?_⟩⟩
          · rw [e, List.take_succ_cons, List.drop_succ_cons, List.cons_append, h5]
          · rw [e, List.take_succ_cons, List.mem_cons, not_or]
            exact ⟨fun e => hb (by simp [e]), h6⟩
theorem index_least {l : List UInt8} {c : UInt8} {a r : List UInt8} (hl : l = a ++ c :: r) (hc : c ∉ a) : Lib.indexByte l c = a.length := by
  subst hl
  induction a with
  | nil => simp [Lib.indexByte]
  | cons b a ih =>
    have hb : b ≠ c := fun e => hc (by simp [e])
    have ih := ih fun h => hc (by simp [h])
    rw [List.cons_append]
    unfold Lib.indexByte
    rw [if_neg (by simpa using hb), if_neg (by rw [ih]; simp), ih]
    simp
theorem digits_chars : ∀ (u : Nat), ∀ c ∈ Lib.decDigits u, 48 ≤ c.toNat ∧ c.toNat ≤ 57 := by
  intro u
  induction u using Nat.strongRecOn with
  | _ u ih =>
    intro c hc
    rw [Lib.decDigits] at hc
    split at hc
    · rename_i h
      rw [List.mem_singleton] at hc
      subst hc
      have : (UInt8.ofNat (48 + u)).toNat = 48 + u := by simp; omega
      omega
    · rename_i h
      rcases List.mem_append.1 hc with hc | hc
      · exact ih (u / 10) (by omega) c hc
      · rw [List.mem_singleton] at hc
        subst hc
        have : (UInt8.ofNat (48 + u % 10)).toNat = 48 + u % 10 := by simp; omega
        omega
theorem itoa_chars {n : Int} {c : UInt8} (h : c ∈ Lib.itoa n) : c.toNat = 45 ∨ 48 ≤ c.toNat ∧ c.toNat ≤ 57 := by
  unfold Lib.itoa at h
  split at h
  · rcases List.mem_cons.1 h with rfl | h
    · left; rfl
    · right; exact digits_chars _ c h
  · right; exact digits_chars _ c h
def digV (acc : Nat) (l : List UInt8) : Nat := l.foldl (fun a c => a * 10 + (c.toNat - 48)) acc
theorem digV_snoc (acc : Nat) (l : List UInt8) (c : UInt8) : digV acc (l ++ [c]) = digV acc l * 10 + (c.toNat - 48) := by simp [digV]
theorem digV_dec : ∀ u : Nat, digV 0 (Lib.decDigits u) = u := by
  intro u
  induction u using Nat.strongRecOn with
  | _ u ih =>
    rw [Lib.decDigits]
    split
    · rename_i h
      show 0 * 10 + ((UInt8.ofNat (48 + u)).toNat - 48) = u
      have : (UInt8.ofNat (48 + u)).toNat = 48 + u := by simp; omega
      omega
    · rename_i h
      rw [digV_snoc, ih (u / 10) (by omega)]
      have : (UInt8.ofNat (48 + u % 10)).toNat = 48 + u % 10 := by simp; omega
      omega
theorem digV_mono : ∀ (l : List UInt8) (acc : Nat), acc ≤ digV acc l
  | [], acc => Nat.le_refl _
  | c :: l, acc => by
    have := digV_mono l (acc * 10 + (c.toNat - 48))
    show acc ≤ digV (acc * 10 + (c.toNat - 48)) l
    omega
theorem parse_dig : ∀ (l : List UInt8) (acc : Nat), (∀ c ∈ l, 48 ≤ c.toNat ∧ c.toNat ≤ 57) → digV acc l < 18446744073709551616 → Lib.parseUint10 acc l = .ok (digV acc l)
  | [], acc, _, _ => rfl
  | c :: l, acc, hc, h => by
    have h0 := hc c (by simp)
    have hm := digV_mono l (acc * 10 + (c.toNat - 48))
    have e : digV acc (c :: l) = digV (acc * 10 + (c.toNat - 48)) l := rfl
    rw [e] at h ⊢
    unfold Lib.parseUint10
    rw [if_pos h0, if_neg (by omega), if_neg (by omega)]
    exact parse_dig l _ (fun d hd => hc d (by simp [hd])) h
theorem dec_ne (u : Nat) : Lib.decDigits u ≠ [] := by
  intro e
  have h1 := Lib.decDigits_length u
  have h2 := Lib.nDigits_pos u
  rw [e] at h1
  simp at h1
  omega
theorem mag_dec {u : Nat} (h : u < 18446744073709551616) : Lib.parseMag (Lib.decDigits u) = .ok u := by
  unfold Lib.parseMag
  rw [if_neg (dec_ne u), parse_dig _ 0 (digits_chars u) (by rw [digV_dec]; exact h), digV_dec]
theorem atoi_itoa {n : Int} (h : I64 n) : Lib.atoiAll (Lib.itoa n) = .ok n := by
  unfold I64 at h
  unfold Lib.itoa
  split
  · rename_i hn
    have hm := mag_dec (u := n.natAbs) (by omega)
    unfold Lib.atoiAll
    simp only
    rw [if_pos (.inr rfl), hm]
    simp only
    have e45 : (45 : UInt8).toNat = 45 := rfl
    rw [if_neg (by intro h; exact h.1 e45), if_neg (by intro h; omega), if_pos e45]
    congr 1
    omega
  · rename_i hn
    have hm := mag_dec (u := n.toNat) (by omega)
    obtain ⟨c, r, hcr⟩ : ∃ c r, Lib.decDigits n.toNat = c :: r := by
      cases hd : Lib.decDigits n.toNat with
      | nil => exact absurd hd (dec_ne _)
      | cons c r => exact ⟨c, r, rfl⟩
    have h0 := digits_chars n.toNat c (by rw [hcr]; simp)
    rw [hcr] at hm ⊢
    unfold Lib.atoiAll
    simp only
    rw [if_neg (by omega), hm]
    simp only
    rw [if_neg (by omega), if_neg (by omega), if_neg (by omega)]
    congr 1
    omega
theorem numP_iff {e : UInt8} (he : e.toNat = 58 ∨ e.toNat = 59 ∨ e.toNat = 91) {least : Int} {l : List UInt8} {n : Int} {r : List UInt8} : numP e least l = some (n, r) ↔ (I64 n ∧ least ≤ n) ∧ l = Lib.itoa n ++ e :: r := by
  have hne : ∀ n : Int, e ∉ Lib.itoa n := fun n h => by have := itoa_chars h; omega
  constructor
  · intro h
    unfold numP at h
    simp only at h
    split at h
    · cases h
    · rename_i hi
      split at h
      · rename_i m hm
        split at h
        · rename_i hc
          cases h
          have hb := Lib.atoiAll_bounds hm
          obtain ⟨_, h3⟩ := index_neg (l.take 21) e
          rcases h3 with h3 | ⟨h3, h4, h5, h6⟩
          · omega
          · refine ⟨⟨by unfold I64; omega, hc.2⟩, ?_⟩
            rw [hc.1]
            have hlt : (Lib.indexByte (l.take 21) e).toNat < (l.take 21).length := by omega
            have hlt2 : (Lib.indexByte (l.take 21) e).toNat < l.length := by rw [List.length_take] at hlt; omega
            have hg : l[(Lib.indexByte (l.take 21) e).toNat] = e := by
              have h7 : (l.take 21)[(Lib.indexByte (l.take 21) e).toNat]? = some e := at_of_split h5 (by omega)
              rw [List.getElem?_take_of_lt (by rw [List.length_take] at hlt; omega), List.getElem?_eq_getElem hlt2] at h7
              exact Option.some.inj h7
            conv => lhs; rw [← List.take_append_drop (Lib.indexByte (l.take 21) e).toNat l, List.drop_eq_getElem_cons hlt2, hg]
        · cases h
      · cases h
  · rintro ⟨⟨h1, h2⟩, rfl⟩
    have hlen := itoa_len h1
    have ht : (Lib.itoa n ++ e :: r).take 21 = Lib.itoa n ++ e :: r.take (20 - (Lib.itoa n).length) := by
      rw [List.take_append, List.take_of_length_le (by omega)]
      congr 1
      rw [show 21 - (Lib.itoa n).length = (20 - (Lib.itoa n).length) + 1 by omega, List.take_succ_cons]
    have hi := index_least ht (hne n)
    unfold numP
    simp only
    rw [hi, if_neg (by omega), Int.toNat_natCast, List.take_left', atoi_itoa h1]
    · simp only
      rw [if_pos ⟨by simp, h2⟩]
      congr 2
      rw [List.drop_append, List.drop_of_length_le (by omega), List.nil_append, show (Lib.itoa n).length + 1 - (Lib.itoa n).length = 1 by omega]
      rfl
    · rfl
abbrev rd (b : Nat) (st : RdS) : Own := .blk b [.string (bs st.1), .bool st.2] 107
section
variable {W w : World} {R G S : List Own} {Φ : PW} {b : Nat} {st : RdS}
theorem Open_use [Stable Φ] (l : List UInt8) (c : Ctx W w S Φ) {K : Ending → World → Prop} (hk : ∀ b w', Ctx W w' (rd b (l, false) :: S) Φ → K (.returned (.pointer (some ⟨b, 0, none⟩))) w') :
    Calls Tryz.prog F.wire_Open #[.string (bs l)] w K := by
  refine (Bwire_Open_run (bs l) (J := fun u w' => K (.returned u) w') c ?_).mono fun e w' ⟨v, he, hj⟩ => by rw [he]; exact hj
  exact fun b w G cx => hk b w (Ctx.left (S := rd b (l, false) :: S) cx)
theorem fail_use [Stable Φ] (c : Ctx W w (rd b st :: S) Φ) {K : Ending → World → Prop} (hk : ∀ w', Ctx W w' (rd b ([], true) :: S) Φ → K (.returned (.tuple #[])) w') :
    Calls Tryz.prog F.wire_Reader_fail #[.pointer (some ⟨b, 0, none⟩)] w K := by
  refine (Bwire_Reader_fail_run b 0 (J := fun u w' => K (.returned u) w') c ?_).mono fun e w' ⟨v, he, hj⟩ => by rw [he]; exact hj
  refine fun w G cx => ⟨cx.can 0 rfl (by simp), fun w' hw' => ⟨.blk b [.string (bs []), .bool st.2] 107 :: S, Φ, inferInstance, cx.put 0 hw' rfl, fun w G cx => ⟨cx.can 0 rfl (by simp), fun w' hw' => ⟨rd b ([], true) :: S, Φ, inferInstance, cx.put 0 hw' rfl, fun w G cx => hk w cx.left⟩⟩⟩⟩
theorem fail_to [Stable Φ] (c : Ctx W w (rd b st :: S ++ G) Φ) {K : List Own → PW → Prop} (hk : K (rd b ([], true) :: S) Φ) :
    Calls Tryz.prog F.wire_Reader_fail #[.pointer (some ⟨b, 0, none⟩)] w fun e w' => e = .returned (.tuple #[]) ∧ ∃ R' Φ', Stable Φ' ∧ Ctx W w' (R' ++ G) Φ' ∧ K R' Φ' :=
  fail_use (S := S ++ G) c fun w' c => ⟨rfl, rd b ([], true) :: S, Φ, inferInstance, c, hk⟩
theorem index_g (s : ByteArray) (c : Int) : Gives Tryz.prog F.strings_IndexByte #[.string s, .int .u8 c] (.int .i64 (Lib.indexByte s.data.toList c.toNat.toUInt8)) :=
  Quiet.gives ⟨fun w => Any.strings_IndexByte Tryz.lays137 s c w⟩
theorem atoi_to [Stable Φ] (h1 : ∀ M w, Φ M w → ErrAt 1 M w) (h2 : ∀ M w, Φ M w → ErrAt 2 M w) (s : ByteArray) (hs : s.size ≤ 1000000) (c : Ctx W w (R ++ G) Φ) {K1 : Int → List Own → PW → Prop} {K2 : Int → TypeId → Value → List Own → PW → Prop}
    (k1 : ∀ n, Lib.atoiAll s.data.toList = .ok n → K1 n R Φ) (k2 : ∀ n t v, (∀ m, Lib.atoiAll s.data.toList ≠ .ok m) → K2 n t v R Φ) :
    Calls Tryz.prog F.strconv_Atoi #[.string s] w fun e w' => (∃ n : Int, e = .returned (.tuple #[.int .i64 n, .nilIface]) ∧ ∃ R' Φ', Stable Φ' ∧ Ctx W w' (R' ++ G) Φ' ∧ K1 n R' Φ') ∨
      ∃ (n : Int) (t : TypeId) (v : Value), e = .returned (.tuple #[.int .i64 n, .iface t v]) ∧ ∃ R' Φ', Stable Φ' ∧ Ctx W w' (R' ++ G) Φ' ∧ K2 n t v R' Φ' := by
  obtain ⟨_, ev, hv, hev⟩ := h1 _ _ c.phi
  obtain ⟨_, er, hr, her⟩ := h2 _ _ c.phi
  cases h : Lib.atoiAll s.data.toList
  · rename_i n
    refine (Any.strconv_Atoi_ok Tryz.laysC172 s (by omega) n h w).mono fun e w' ⟨he, hw⟩ => .inl ⟨n, he, R, Φ, inferInstance, ?_, k1 n h⟩
    rcases hw with rfl | ⟨t, rfl⟩
    · exact c
    · exact c.call (chg_below (Lib.bytesWorld_below _ _ _))
  · exact (Any.strconv_Atoi_syntax Tryz.laysC172 s (by omega) h ev w hv hev).mono fun e w' ⟨N, he, _, _, hb⟩ => .inr ⟨_, _, _, he, R, Φ, inferInstance, c.call (chg_below hb), k2 _ _ _ fun m hm => by rw [h] at hm; cases hm⟩
  · exact (Any.strconv_Atoi_range Tryz.laysC172 s (by omega) h er w hr her).mono fun e w' ⟨N, he, _, _, hb⟩ => .inr ⟨_, _, _, he, R, Φ, inferInstance, c.call (chg_below hb), k2 _ _ _ fun m hm => by rw [h] at hm; cases hm⟩
theorem stepN_none {e : UInt8} {least : Int} (h : numP e least st.1 = none) : stepN e least st = (0, ([], true)) := by unfold stepN; rw [h]
theorem stepN_some {e : UInt8} {least n : Int} {r : List UInt8} (h : numP e least st.1 = some (n, r)) : stepN e least st = (n, (r, st.2)) := by unfold stepN; rw [h]
set_option maxHeartbeats 2000000 in
theorem number_use [Stable Φ] (hΦ : ∀ M w, Φ M w → NumI M w) (e : Int) (least : Int) (hl : st.1.length ≤ 1000000000) (c : Ctx W w (rd b st :: S) Φ) {K : Ending → World → Prop}
    (hk : ∀ w', Ctx W w' (rd b (stepN e.toNat.toUInt8 least st).2 :: S) Φ → K (.returned (.int .i64 (stepN e.toNat.toUInt8 least st).1)) w') :
    Calls Tryz.prog F.wire_Reader_number #[.pointer (some ⟨b, 0, none⟩), .int .u8 e, .int .i64 least] w K := by
  refine (Bwire_Reader_number_run b 0 e least (J := fun u w' => K (.returned u) w') c ?_).mono fun e w' ⟨v, he, hj⟩ => by rw [he]; exact hj
  clear c
  obtain ⟨l, bad⟩ := st
  simp only at hl
  have hsz : (bs l).size = l.length := bs_size l
  have hmin : (min ((bs l).size : Int) 21).toNat = min l.length 21 := by rw [hsz]; omega
  have hhead : (bs l).extract 0 (min ((bs l).size : Int) 21).toNat = bs (l.take 21) := by
    rw [hmin, bs_ext, List.drop_zero, Nat.sub_zero]
    congr 1
    rcases Nat.le_total l.length 21 with h | h
    · rw [Nat.min_eq_left h, List.take_of_length_le (Nat.le_refl _), List.take_of_length_le h]
    · rw [Nat.min_eq_right h]
  refine fun w G cx => ⟨bs l, cx.get 0 rfl rfl, bs l, cx.get 0 rfl rfl, by omega, fun w G cx => ?_⟩
  rw [hhead]
  refine (index_g (bs (l.take 21)) e).in.toI (R := rd b (l, bad) :: S) cx ?_
  rw [bs_list]
  obtain ⟨i, hi⟩ : ∃ i, Lib.indexByte (l.take 21) e.toNat.toUInt8 = i := ⟨_, rfl⟩
  obtain ⟨hge, hidx⟩ := index_neg (l.take 21) e.toNat.toUInt8
  rw [hi] at hge hidx ⊢
  have failK : numP e.toNat.toUInt8 least l = none → ∀ (w : World) (G : List Own), Ctx W w (rd b (l, bad) :: S ++ G) Φ → Calls Tryz.prog F.wire_Reader_fail #[.pointer (some ⟨b, 0, none⟩)] w fun e w' => e = .returned (.tuple #[]) ∧ ∃ R' Φ', Stable Φ' ∧ Ctx W w' (R' ++ G) Φ' ∧ ∀ w F1, Ctx W w (R' ++ F1) Φ' → K (.returned (.int .i64 0)) w := fun hn w G cx => by
    rw [stepN_none (st := (l, bad)) hn] at hk
    exact fail_to (S := S) cx fun w F1 cx => hk w cx.left
  refine Br.intro (fun hneg => fun w G cx => failK ?_ w G cx) (fun hpos => ?_)
  · unfold numP
    simp only [hi]
    rw [if_pos (of_decide_eq_true hneg)]
  have hpos := of_decide_eq_false hpos
  rcases hidx with hidx | ⟨_, hlt, _, _⟩
  · omega
  have hlt2 : i.toNat < (l.take 21).length := by omega
  have hll : (l.take 21).length ≤ l.length := by rw [List.length_take]; omega
  have h21 : (l.take 21).length ≤ 21 := by rw [List.length_take]; omega
  have hhd : (bs (l.take 21)).extract 0 i.toNat = bs (l.take i.toNat) := by
    rw [bs_ext, List.drop_zero, Nat.sub_zero, List.take_take, Nat.min_eq_left (by omega)]
  refine ⟨⟨by omega, by rw [bs_size]; omega⟩, fun w G cx => ?_⟩
  rw [hhd]
  refine atoi_to (R := rd b (l, bad) :: S) (fun M w h => (hΦ M w h).2.1) (fun M w h => (hΦ M w h).2.2) (bs (l.take i.toNat)) (by rw [bs_size, List.length_take]; omega) cx (fun n hn => ?_) (fun n t v hn => ?_)
  · rw [bs_list] at hn
    have hb := Lib.atoiAll_bounds hn
    refine ⟨rd b (l, bad) :: S, Φ, inferInstance, fun w G cx => cx, false, fun w => neq_nil (by decide +kernel) w, Br.intro (fun h => by cases h) (fun _ => ⟨⟨by omega, by rw [bs_size]; omega⟩, fun w G cx => ?_⟩)⟩
    refine (Itoa_in (fun M w h => (hΦ M w h).1) n (by unfold I64; omega)).toS cx ⟨fun w G cx => cx, Br.intro (fun hne => fun w G cx => failK ?_ w G cx) (fun heq => Br.intro (fun hls => fun w G cx => failK ?_ w G cx) (fun hls => fun w G cx => ?_))⟩
    · have hne := of_decide_eq_true hne
      unfold numP
      simp only [hi]
      rw [if_neg (by omega), hn]
      simp only
      rw [if_neg (fun h => hne (by show bs (Lib.itoa n) = _; rw [h.1]))]
    · unfold numP
      simp only [hi]
      rw [if_neg (by omega), hn]
      simp only
      rw [if_neg (fun h => by have := of_decide_eq_true hls; omega)]
    · have heq : Lib.itoa n = l.take i.toNat := bs_inj.1 (Decidable.not_not.1 (of_decide_eq_false heq))
      have hls := of_decide_eq_false hls
      have hnum : numP e.toNat.toUInt8 least l = some (n, l.drop (i.toNat + 1)) := by
        unfold numP
        simp only [hi]
        rw [if_neg (by omega), hn]
        simp only
        rw [if_pos ⟨heq, by omega⟩]
      rw [stepN_some (st := (l, bad)) hnum] at hk
      have hex : (bs l).extract (i + 1).toNat (bs l).size = bs (l.drop (i.toNat + 1)) := by
        rw [bs_ext, hsz, show (i + 1).toNat = i.toNat + 1 by omega]
        congr 1
        exact List.take_of_length_le (by rw [List.length_drop]; omega)
      refine ⟨bs l, cx.get 0 rfl rfl, ?_, ⟨by omega, by omega, Nat.le_refl _⟩, fun w G cx => ⟨cx.can 0 rfl (by simp), fun w' hw' => ?_⟩⟩
      · unfold I64
        omega
      rw [hex] at hw'
      exact ⟨rd b (l.drop (i.toNat + 1), bad) :: S, Φ, inferInstance, cx.put 0 hw' rfl, fun w G cx => hk w cx.left⟩
  · rw [bs_list] at hn
    refine ⟨[], fun _ _ => True, inferInstance, fun w G cx => (cx.weak fun _ _ _ => trivial).right, true, fun w => ?_, Br.intro (fun _ => fun w G cx => failK ?_ w G cx) (fun h => by cases h)⟩
    · exact neq_err (by decide +kernel) w
    · unfold numP
      simp only [hi]
      rw [if_neg (by omega)]
theorem number_to [Stable Φ] (hΦ : ∀ M w, Φ M w → NumI M w) (e : Int) (least : Int) (hl : st.1.length ≤ 1000000000) (c : Ctx W w (rd b st :: S ++ G) Φ) {K : Int → List Own → PW → Prop}
    (hk : K (stepN e.toNat.toUInt8 least st).1 (rd b (stepN e.toNat.toUInt8 least st).2 :: S) Φ) :
    Calls Tryz.prog F.wire_Reader_number #[.pointer (some ⟨b, 0, none⟩), .int .u8 e, .int .i64 least] w fun e w' => ∃ n, e = .returned (.int .i64 n) ∧ ∃ R' Φ', Stable Φ' ∧ Ctx W w' (R' ++ G) Φ' ∧ K n R' Φ' :=
  number_use (S := S ++ G) hΦ e least hl c fun w' c => ⟨_, rfl, _, Φ, inferInstance, c, hk⟩
def rdInt (st : RdS) : Int × RdS := stepN 59 (-9223372036854775808) st
def rdNat (st : RdS) : Int × RdS := stepN 59 0 st
theorem RInt_to [Stable Φ] (hΦ : ∀ M w, Φ M w → NumI M w) (hl : st.1.length ≤ 1000000000) (c : Ctx W w (rd b st :: S ++ G) Φ) {K : Int → List Own → PW → Prop}
    (hk : K (rdInt st).1 (rd b (rdInt st).2 :: S) Φ) :
    Calls Tryz.prog F.wire_Reader_Int #[.pointer (some ⟨b, 0, none⟩)] w fun e w' => ∃ n, e = .returned (.int .i64 n) ∧ ∃ R' Φ', Stable Φ' ∧ Ctx W w' (R' ++ G) Φ' ∧ K n R' Φ' := by
  refine (Bwire_Reader_Int_run b 0 (J := fun u w' => ∃ n, (Ending.returned u) = .returned (.int .i64 n) ∧ ∃ R' Φ', Stable Φ' ∧ Ctx W w' (R' ++ G) Φ' ∧ K n R' Φ') (R := rd b st :: (S ++ G)) c ?_).mono fun e w' ⟨v, he, hj⟩ => by rw [he]; exact hj
  exact fun w F1 cx => number_to (S := S ++ G) hΦ 59 _ hl cx fun w F1 cx => ⟨_, rfl, _, Φ, inferInstance, cx.left, hk⟩
theorem RNum_to [Stable Φ] (hΦ : ∀ M w, Φ M w → NumI M w) (hl : st.1.length ≤ 1000000000) (c : Ctx W w (rd b st :: S ++ G) Φ) {K : Int → List Own → PW → Prop}
    (hk : K (rdNat st).1 (rd b (rdNat st).2 :: S) Φ) :
    Calls Tryz.prog F.wire_Reader_Num #[.pointer (some ⟨b, 0, none⟩)] w fun e w' => ∃ n, e = .returned (.int .i64 n) ∧ ∃ R' Φ', Stable Φ' ∧ Ctx W w' (R' ++ G) Φ' ∧ K n R' Φ' := by
  refine (Bwire_Reader_Num_run b 0 (J := fun u w' => ∃ n, (Ending.returned u) = .returned (.int .i64 n) ∧ ∃ R' Φ', Stable Φ' ∧ Ctx W w' (R' ++ G) Φ' ∧ K n R' Φ') (R := rd b st :: (S ++ G)) c ?_).mono fun e w' ⟨v, he, hj⟩ => by rw [he]; exact hj
  exact fun w F1 cx => number_to (S := S ++ G) hΦ 59 _ hl cx fun w F1 cx => ⟨_, rfl, _, Φ, inferInstance, cx.left, hk⟩
def rdDone (st : RdS) : Bool := !st.2 && decide (st.1 = [])
theorem Done_to [Stable Φ] (c : Ctx W w (rd b st :: S ++ G) Φ) {K : Bool → List Own → PW → Prop} (hk : K (rdDone st) (rd b st :: S) Φ) :
    Calls Tryz.prog F.wire_Reader_Done #[.pointer (some ⟨b, 0, none⟩)] w fun e w' => ∃ n, e = .returned (.bool n) ∧ ∃ R' Φ', Stable Φ' ∧ Ctx W w' (R' ++ G) Φ' ∧ K n R' Φ' := by
  refine (Bwire_Reader_Done_run b 0 (J := fun u w' => ∃ n, (Ending.returned u) = .returned (.bool n) ∧ ∃ R' Φ', Stable Φ' ∧ Ctx W w' (R' ++ G) Φ' ∧ K n R' Φ') (R := rd b st :: (S ++ G)) c ?_).mono fun e w' ⟨v, he, hj⟩ => by rw [he]; exact hj
  refine fun w F1 cx => ⟨st.2, cx.get 0 rfl rfl, bs st.1, fun _ => cx.get 0 rfl rfl, fun w F1 cx => ⟨rdDone st, ?_, _, Φ, inferInstance, cx.left, hk⟩⟩
  have e : decide (bs st.1 = ByteArray.mk #[]) = decide (st.1 = []) := by
    rw [show ByteArray.mk #[] = bs [] from rfl]
    exact decide_eq_decide.2 bs_inj
  rw [e]
  rfl
theorem prefix_one (c : UInt8) (l : List UInt8) : Lib.hasPrefix l [c] = (match l with | [] => false | x :: _ => x == c) := by
  cases l with
  | nil => rfl
  | cons x r =>
    unfold Lib.hasPrefix
    rw [List.isPrefixOf_cons_cons]
    simp [Bool.beq_comm]
theorem close_to [Stable Φ] (e : UInt8) (c : Ctx W w (rd b st :: S ++ G) Φ) {K : List Own → PW → Prop} (hk : K (rd b (stepC e st) :: S) Φ) :
    Calls Tryz.prog F.wire_Reader_close #[.pointer (some ⟨b, 0, none⟩), .string (ByteArray.mk #[e])] w fun e w' => e = .returned (.tuple #[]) ∧ ∃ R' Φ', Stable Φ' ∧ Ctx W w' (R' ++ G) Φ' ∧ K R' Φ' := by
  refine (Bwire_Reader_close_run b 0 (ByteArray.mk #[e]) (J := fun u w' => (Ending.returned u) = .returned (.tuple #[]) ∧ ∃ R' Φ', Stable Φ' ∧ Ctx W w' (R' ++ G) Φ' ∧ K R' Φ') (R := rd b st :: (S ++ G)) c ?_).mono fun e w' ⟨v, he, hj⟩ => by rw [he]; exact hj
  clear c
  obtain ⟨l, bad⟩ := st
  refine fun w F1 cx => ⟨bs l, cx.get 0 rfl rfl, fun w F1 cx => ?_⟩
  refine (Any.strings_CutPrefix Tryz.lays103 (bs l) (ByteArray.mk #[e]) w).mono fun e2 w' ⟨he, hw⟩ => ?_
  subst hw
  refine ⟨_, _, he, rd b (l, bad) :: (S ++ G), Φ, inferInstance, cx, ?_⟩
  clear cx
  rw [bs_list, show (ByteArray.mk #[e]).data.toList = [e] from rfl]
  unfold Lib.trimPrefix
  rw [prefix_one]
  unfold stepC at hk
  cases l with
  | nil =>
    refine fun w F1 cx => ⟨cx.can 0 rfl (by simp), fun w' hw' => ⟨rd b ([], bad) :: (S ++ G), Φ, inferInstance, cx.put 0 hw' rfl, Br.intro (fun _ => fun w F1 cx => fail_to (S := S ++ G) cx fun w F1 cx => ⟨by first | trivial | rfl, _, Φ, inferInstance, cx.left, hk⟩) (fun h => by cases h)⟩⟩
  | cons x r =>
    simp only at hk ⊢
    by_cases hx : x = e
    · subst hx
      rw [if_pos rfl] at hk
      rw [if_pos (by simp)]
      refine fun w F1 cx => ⟨cx.can 0 rfl (by simp), fun w' hw' => ⟨rd b (r, bad) :: (S ++ G), Φ, inferInstance, cx.put 0 hw' rfl, Br.intro (fun h => by simp at h) (fun _ => fun w F1 cx => ⟨by first | trivial | rfl, _, Φ, inferInstance, cx.left, hk⟩)⟩⟩
    · rw [if_neg hx] at hk
      rw [if_neg (by simpa using hx)]
      refine fun w F1 cx => ⟨cx.can 0 rfl (by simp), fun w' hw' => ⟨rd b (x :: r, bad) :: (S ++ G), Φ, inferInstance, cx.put 0 hw' rfl, Br.intro (fun _ => fun w F1 cx => fail_to (S := S ++ G) cx fun w F1 cx => ⟨by first | trivial | rfl, _, Φ, inferInstance, cx.left, hk⟩) (fun h => by simp at h; exact absurd h hx)⟩⟩
theorem stepN_nonneg {e : UInt8} (he : e.toNat = 58 ∨ e.toNat = 59 ∨ e.toNat = 91) (st : RdS) : 0 ≤ (stepN e 0 st).1 ∧ (stepN e 0 st).1 ≤ 9223372036854775807 := by
  unfold stepN
  split
  · rename_i n r h
    obtain ⟨⟨h1, h2⟩, _⟩ := (numP_iff he).1 h
    unfold I64 at h1
    simp only; omega
  · simp only; omega
theorem stepN_len (e : UInt8) (least : Int) (st : RdS) : (stepN e least st).2.1.length ≤ st.1.length := by
  unfold stepN
  split
  · rename_i n r h
    unfold numP at h
    simp only at h
    split at h
    · cases h
    · split at h
      · split at h
        · cases h
          simp only [List.length_drop]; omega
        · cases h
      · cases h
  · simp
theorem Text_to [Stable Φ] (hΦ : ∀ M w, Φ M w → NumI M w) (hl : st.1.length ≤ 1000000000) (c : Ctx W w (rd b st :: S ++ G) Φ) {K : ByteArray → List Own → PW → Prop}
    (hk : K (stepT st).1 (rd b (stepT st).2 :: S) Φ) :
    Calls Tryz.prog F.wire_Reader_Text #[.pointer (some ⟨b, 0, none⟩)] w fun e w' => ∃ n, e = .returned (.string n) ∧ ∃ R' Φ', Stable Φ' ∧ Ctx W w' (R' ++ G) Φ' ∧ K n R' Φ' := by
  refine (Bwire_Reader_Text_run b 0 (J := fun u w' => ∃ n, (Ending.returned u) = .returned (.string n) ∧ ∃ R' Φ', Stable Φ' ∧ Ctx W w' (R' ++ G) Φ' ∧ K n R' Φ') (R := rd b st :: (S ++ G)) c ?_).mono fun e w' ⟨v, he, hj⟩ => by rw [he]; exact hj
  clear c
  refine fun w F1 cx => number_to (S := S ++ G) hΦ 58 0 hl cx ?_
  rw [show ((58 : Int).toNat.toUInt8) = (58 : UInt8) from rfl]
  unfold stepT at hk
  simp only at hk
  have hn := stepN_nonneg (e := 58) (.inl rfl) st
  obtain ⟨⟨n, l, bad⟩, ha⟩ : ∃ a, stepN 58 0 st = a := ⟨_, rfl⟩
  rw [ha] at hk hn ⊢
  simp only at hk hn ⊢
  refine fun w F1 cx => ⟨bs l, cx.get 0 rfl rfl, Br.intro (fun h => ?_) (fun h => ?_)⟩
  · have h := of_decide_eq_true h
    rw [bs_size] at h
    rw [if_pos h] at hk
    exact fun w F1 cx => fail_to (S := S ++ G) cx fun w F1 cx => ⟨_, rfl, _, Φ, inferInstance, cx.left, hk⟩
  · have h := of_decide_eq_false h
    rw [bs_size] at h
    rw [if_neg h] at hk
    have e1 : (bs l).extract n.toNat (bs l).size = bs (l.drop n.toNat) := by
      rw [bs_ext, bs_size]
      congr 1
      exact List.take_of_length_le (by rw [List.length_drop]; omega)
    have e2 : (bs l).extract 0 n.toNat = bs (l.take n.toNat) := by rw [bs_ext, List.drop_zero, Nat.sub_zero]
    refine fun w F1 cx => ⟨bs l, cx.get 0 rfl rfl, ⟨by omega, by rw [bs_size]; omega⟩, fun w F1 cx => ⟨bs l, cx.get 0 rfl rfl, ⟨by omega, by rw [bs_size]; omega, Nat.le_refl _⟩, fun w F1 cx => ⟨cx.can 0 rfl (by simp), fun w' hw' => ?_⟩⟩⟩
    rw [e1] at hw'
    refine ⟨rd b (l.drop n.toNat, bad) :: (S ++ G), Φ, inferInstance, cx.put 0 hw' rfl, fun w F1 cx => close_to (S := S ++ G) 44 cx fun w F1 cx => ⟨(stepC 44 (l.drop n.toNat, bad)).2, cx.get 0 rfl rfl, Br.intro (fun hb => ?_) (fun hb => ?_)⟩⟩
    · rw [hb] at hk
      exact fun w F1 cx => ⟨_, rfl, _, Φ, inferInstance, cx.left, hk⟩
    · rw [hb] at hk
      rw [e2]
      exact fun w F1 cx => ⟨_, rfl, _, Φ, inferInstance, cx.left, hk⟩
end
end Go.Proofs.YtebnciehcnedjaaGreatDoor
end

section
namespace Go.Proofs.YtebnciehcnedjaaGreatDoor
open Go.Vc
theorem num_read {e : UInt8} (he : e.toNat = 58 ∨ e.toNat = 59 ∨ e.toNat = 91) {least n : Int} {r : List UInt8} {bad : Bool} (h : I64 n) (h2 : least ≤ n) : stepN e least (Lib.itoa n ++ e :: r, bad) = (n, (r, bad)) :=
  stepN_some (st := (Lib.itoa n ++ e :: r, bad)) ((numP_iff he).2 ⟨⟨h, h2⟩, rfl⟩)
theorem intB_list (n : Int) : (intB n).data.toList = Lib.itoa n ++ [59] := by
  unfold intB numB
  rw [ByteArray.data_append, Array.toList_append]
theorem int_read {n : Int} {r : List UInt8} {bad : Bool} (h : I64 n) : rdInt ((intB n).data.toList ++ r, bad) = (n, (r, bad)) := by
  rw [intB_list, List.append_assoc]
  exact num_read (.inr (.inl rfl)) h h.1
theorem nat_read {n : Nat} {r : List UInt8} {bad : Bool} (h : (n : Int) ≤ 9223372036854775807) : rdNat ((natB n).data.toList ++ r, bad) = ((n : Int), (r, bad)) := by
  unfold natB
  rw [if_neg (by omega), intB_list, List.append_assoc]
  exact num_read (.inr (.inl rfl)) (by unfold I64; omega) (by omega)
theorem textB_list (s : ByteArray) : (textB s).data.toList = Lib.itoa s.size ++ 58 :: (s.data.toList ++ [44]) := by
  unfold textB numB
  simp [ByteArray.data_append]
theorem text_read {s : ByteArray} {r : List UInt8} (h : s.size ≤ 9223372036854775807) : stepT ((textB s).data.toList ++ r, false) = (s, (r, false)) := by
  have e1 : stepN 58 0 ((textB s).data.toList ++ r, false) = ((s.size : Int), (s.data.toList ++ 44 :: r, false)) := by
    rw [textB_list, List.append_assoc, List.cons_append, List.append_assoc]
    exact num_read (.inl rfl) (by unfold I64; omega) (by omega)
  unfold stepT
  simp only [e1]
  have hl : s.data.toList.length = s.size := list_size s
  rw [if_neg (by rw [List.length_append, List.length_cons, hl]; omega), Int.toNat_natCast, List.drop_left' hl, List.take_left' hl]
  rfl
theorem stepC_len (c : UInt8) (st : RdS) : (stepC c st).1.length ≤ st.1.length := by
  unfold stepC
  split
  · simp
  · rename_i h
    split
    · rw [h]; simp
    · simp
theorem stepT_len (st : RdS) : (stepT st).2.1.length ≤ st.1.length ∧ (stepT st).1.size ≤ st.1.length := by
  have h1 := stepN_len 58 0 st
  have h2 := stepC_len 44 (((stepN 58 0 st).2.1.drop (stepN 58 0 st).1.toNat, (stepN 58 0 st).2.2))
  rw [List.length_drop] at h2
  unfold stepT
  simp only
  split
  · exact ⟨Nat.zero_le _, Nat.zero_le _⟩
  · refine ⟨by simp only; omega, ?_⟩
    simp only
    split
    · exact Nat.zero_le _
    · rw [bs_size, List.length_take]; omega
theorem rdInt_i64 (st : RdS) : I64 (rdInt st).1 := by
  unfold rdInt stepN
  split
  · rename_i n r h
    exact ((numP_iff (.inr (.inl rfl))).1 h).1.1
  · unfold I64; simp
section
variable {W w : World} {R G S : List Own} {Φ : PW} {b : Nat} {st : RdS}
end
end Go.Proofs.YtebnciehcnedjaaGreatDoor
end

section
namespace Go.Proofs.YtebnciehcnedjaaGreatDoor
set_option maxRecDepth 100000
open Go.Vc
def Berratalaw29_small  (W : World) (R : List Own) (Φ : PW) (J : Value → World → Prop) : Prop :=
  ∀ w0 R1, Ctx W w0 (R ++ R1) Φ → Calls Tryz.prog F.store_New #[] w0 fun e2 w3 => ∃ p4, e2 = .returned (.pointer p4) ∧ ∃ R5 Φ6, Stable Φ6 ∧ Ctx W w3 (R5 ++ R1) Φ6 ∧ ∀ w7 R8, Ctx W w7 (R5 ++ R8) Φ6 → Calls Tryz.prog F.store_New #[] w7 fun e9 w10 => ∃ p11, e9 = .returned (.pointer p11) ∧ ∃ R12 Φ13, Stable Φ13 ∧ Ctx W w10 (R12 ++ R8) Φ13 ∧ ∀ w14 R15, Ctx W w14 (R12 ++ R15) Φ13 → Br (p4.isNone || p11.isNone) (∀ w16 R17, Ctx W w16 (R12 ++ R17) Φ13 → J (.bool false) w16) (∀ w18 R19, Ctx W w18 (R12 ++ R19) Φ13 → Calls Tryz.prog F.store_Store_Put #[.pointer p4, Value.string (ByteArray.mk #[OfNat.ofNat 97]), Value.string (ByteArray.mk #[OfNat.ofNat 49])] w18 fun e20 w21 => e20 = .returned (Value.tuple #[]) ∧ ∃ R22 Φ23, Stable Φ23 ∧ Ctx W w21 (R22 ++ R19) Φ23 ∧ ∀ w24 R25, Ctx W w24 (R22 ++ R25) Φ23 → Calls Tryz.prog F.store_Store_Put #[.pointer p4, Value.string (ByteArray.mk #[OfNat.ofNat 98]),
  Value.string (ByteArray.mk #[OfNat.ofNat 50])] w24 fun e26 w27 => e26 = .returned (Value.tuple #[]) ∧ ∃ R28 Φ29, Stable Φ29 ∧ Ctx W w27 (R28 ++ R25) Φ29 ∧ ∀ w30 R31, Ctx W w30 (R28 ++ R31) Φ29 → Calls Tryz.prog F.store_Store_Put #[.pointer p4, Value.string (ByteArray.mk #[OfNat.ofNat 97]), Value.string (ByteArray.mk #[])] w30 fun e32 w33 => e32 = .returned (Value.tuple #[]) ∧ ∃ R34 Φ35, Stable Φ35 ∧ Ctx W w33 (R34 ++ R31) Φ35 ∧ ∀ w36 R37, Ctx W w36 (R34 ++ R37) Φ35 → Calls Tryz.prog F.store_Store_Scan #[.pointer p4, Value.string (ByteArray.mk #[])] w36 fun e38 w39 => ∃ p40 k41 k42, e38 = .returned (.slice p40 k41 k42) ∧ ∃ R43 Φ44, Stable Φ44 ∧ Ctx W w39 (R43 ++ R37) Φ44 ∧ ∀ w45 R46, Ctx W w45 (R43 ++ R46) Φ44 → Calls Tryz.prog F.store_Store_Since #[.pointer p4, .int .i64 1] w45 fun e47 w48 => ∃ p49 k50 k51 n52, e47 = .returned (Value.tuple #[.slice p49 k50 k51, .int .i64 n52]) ∧ ∃ R53
  Φ54, Stable Φ54 ∧ Ctx W w48 (R53 ++ R46) Φ54 ∧ ∀ w55 R56, Ctx W w55 (R53 ++ R56) Φ54 → Br (decide ((↑k41 : Int) ≠ 1) || decide ((↑k50 : Int) ≠ 2) || decide (n52 ≠ 0)) (∀ w57 R58, Ctx W w57 (R53 ++ R58) Φ54 → J (.bool false) w57) (exI fun (I59 : Int → List Own → PW → Nat → Prop) => (∃ R60 Φ61 k62, Stable Φ61 ∧ Wk W R53 Φ54 R60 Φ61 ∧ I59 0 R60 Φ61 k62) ∧ ∀ n65 R66 I67 k68, Stable I67 → I59 n65 R66 I67 k68 → Br (decide (n65 < 32)) (∀ w69 R70, Ctx W w69 (R66 ++ R70) I67 → Calls Tryz.prog F.erratalaw29_digits #[.int .i64 n65] w69 fun e71 w72 => ∃ s73, e71 = .returned (.string s73) ∧ ∃ R74 Φ75, Stable Φ75 ∧ Ctx W w72 (R74 ++ R70) Φ75 ∧ ∀ w76 R77, Ctx W w76 (R74 ++ R77) Φ75 → Calls Tryz.prog F.store_Store_Put #[.pointer p11, Value.string s73, Value.string (ByteArray.mk #[OfNat.ofNat 120])] w76 fun e78 w79 => e78 = .returned (Value.tuple #[]) ∧ ∃ R80 Φ81, Stable Φ81 ∧ Ctx W w79 (R80 ++ R77) Φ81
  ∧ I64 (n65 + 1) ∧ ∃ R82 Φ83 k84, Stable Φ83 ∧ Wk W R80 Φ81 R82 Φ83 ∧ I59 (n65 + 1) R82 Φ83 k84 ∧ k84 < k68) (∀ w87 R88, Ctx W w87 (R66 ++ R88) I67 → Calls Tryz.prog F.store_Store_Runs #[.pointer p11] w87 fun e89 w90 => ∃ p91 k92 k93, e89 = .returned (.slice p91 k92 k93) ∧ ∃ R94 Φ95, Stable Φ95 ∧ Ctx W w90 (R94 ++ R88) Φ95 ∧ Br (decide ((↑k92 : Int) ≠ 2)) (∀ w96 R97, Ctx W w96 (R94 ++ R97) Φ95 → J (.bool false) w96) (∀ w98 R99, Ctx W w98 (R94 ++ R99) Φ95 → ((0 : Int) ≤ 0 ∧ 0 < (↑k92 : Int)) ∧ ptrK none p91 fun k100 k101 => ∃ p102 k103 k104, w98.cell? (Addr.mk k100 k101 none) = some (.slice p102 k103 k104) ∧ ((!decide ((↑k103 : Int) ≠ 0)) = true → (0 : Int) ≤ 1 ∧ 1 < (↑k92 : Int)) ∧ ptrK (some !decide ((↑k103 : Int) ≠ 0)) p91 fun k105 k106 => ∃ (p107 : Option Addr) (k108 k109 : Nat), ((!decide ((↑k103 : Int) ≠ 0)) = true → w98.cell? (Addr.mk k105 k106.succ none) = some (.slice p107 k108
  k109)) ∧ Br (decide ((↑k103 : Int) ≠ 0) || decide ((↑k108 : Int) ≠ 1)) (∀ w110 R111, Ctx W w110 (R94 ++ R111) Φ95 → J (.bool false) w110) (((0 : Int) ≤ 0 ∧ 0 < (↑k41 : Int)) ∧ ptrK none p40 fun k112 k113 => ∀ w114 R115, Ctx W w114 (R94 ++ R115) Φ95 → ∃ s116 s117, RowAt w114 k112 k113 [.string s116, .string s117] ∧ okAgg Tryz.prog 69 = true ∧ Br (decide (s116 = ByteArray.mk #[OfNat.ofNat 98]) && (decide (s117 = ByteArray.mk #[OfNat.ofNat 50]) && true)) (∀ w118 R119, Ctx W w118 (R94 ++ R119) Φ95 → Calls Tryz.prog F.store_Store_Len #[.pointer p4] w118 fun e120 w121 => ∃ n122, e120 = .returned (.int .i64 n122) ∧ ∃ R123 Φ124, Stable Φ124 ∧ Ctx W w121 (R123 ++ R119) Φ124 ∧ Br (decide (n122 = 1)) (∀ w125 R126, Ctx W w125 (R123 ++ R126) Φ124 → Calls Tryz.prog F.store_Store_Versions #[.pointer p4] w125 fun e127 w128 => ∃ n129, e127 = .returned (.int .i64 n129) ∧ ∃ R130 Φ131, Stable Φ131 ∧ Ctx W
  w128 (R130 ++ R126) Φ131 ∧ Br (decide (n129 = 2)) (∀ w132 R133, Ctx W w132 (R130 ++ R133) Φ131 → Calls Tryz.prog F.store_Store_Seq #[.pointer p4] w132 fun e134 w135 => ∃ n136, e134 = .returned (.int .i64 n136) ∧ ∃ R137 Φ138, Stable Φ138 ∧ Ctx W w135 (R137 ++ R133) Φ138 ∧ Br (decide (n136 = 3)) (((0 : Int) ≤ 0 ∧ 0 < (↑k50 : Int)) ∧ ptrK none p49 fun k139 k140 => ∀ w141 R142, Ctx W w141 (R137 ++ R142) Φ138 → ∃ n143, w141.cell? (Addr.mk k139 k140 none) = some (.int .i64 n143) ∧ Br (decide (n143 = 2)) (((0 : Int) ≤ 1 ∧ 1 < (↑k92 : Int)) ∧ ptrK none p91 fun k144 k145 => ∀ w146 R147, Ctx W w146 (R137 ++ R147) Φ138 → ∃ p148 k149 k150, w146.cell? (Addr.mk k144 k145.succ none) = some (.slice p148 k149 k150) ∧ ((0 : Int) ≤ 0 ∧ 0 < (↑k149 : Int)) ∧ ptrK none p148 fun k151 k152 => ∀ w153 R154, Ctx W w153 (R137 ++ R154) Φ138 → ∃ n155, w153.cell? (Addr.mk k151 k152 none) = some (.int .i64 n155) ∧ ∀
  w156 R157, Ctx W w156 (R137 ++ R157) Φ138 → J (.bool (decide (n155 = 32))) w156) (∀ w158 R159, Ctx W w158 (R137 ++ R159) Φ138 → J (.bool false) w158)) (∀ w160 R161, Ctx W w160 (R137 ++ R161) Φ138 → J (.bool false) w160)) (∀ w162 R163, Ctx W w162 (R130 ++ R163) Φ131 → J (.bool false) w162)) (∀ w164 R165, Ctx W w164 (R123 ++ R165) Φ124 → J (.bool false) w164)) (∀ w166 R167, Ctx W w166 (R94 ++ R167) Φ95 → J (.bool false) w166))))))
theorem Berratalaw29_small_run  {W w : World} {R : List Own} {Φ : PW} [Stable Φ] {J : Value → World → Prop} (c : Ctx W w R Φ) (h : Berratalaw29_small  W R Φ J) : Calls Tryz.prog F.erratalaw29_small #[] w fun e w' => ∃ v, e = .returned v ∧ J v w' :=
  vcFS_sound (H := { keep := some [0, 1, 2, 3, 4, 5, 6, 7, 15, 40, 42, 53, 65], split := [21], loops := [(13, [(6, .one (.int .i64))], [])] }) (by rw [show vcFS Tryz.prog W { keep := some [0, 1, 2, 3, 4, 5, 6, 7, 15, 40, 42, 53, 65], split := [21], loops := [(13, [(6, .one (.int .i64))], [])] } F.erratalaw29_small #[] R Φ J = Berratalaw29_small  W R Φ J by kernel_rfl]; exact h) c
def Berratalaw29_few (lP : Option Addr) (lN lC : Nat) (n : Int) (W : World) (R : List Own) (Φ : PW) (J : Value → World → Prop) : Prop :=
  exI fun (I0 : Int → List Own → PW → Nat → Prop) => (∃ R1 Φ2 k3, Stable Φ2 ∧ Wk W R Φ R1 Φ2 ∧ I0 0 R1 Φ2 k3) ∧ ∀ n6 R7 I8 k9, Stable I8 → I0 n6 R7 I8 k9 → Br (decide (n6 < (↑lN : Int))) (∀ w10 R11, Ctx W w10 (R7 ++ R11) I8 → (0 ≤ n6 ∧ n6 < (↑lN : Int)) ∧ ptrK none lP fun k12 k13 => ∃ s14, w10.cell? (Addr.mk k12 (k13 + n6.toNat * 4 + 2) none) = some (.string s14) ∧ ((!decide (20 < (↑s14.size : Int))) = true → 0 ≤ n6 ∧ n6 < (↑lN : Int)) ∧ ptrK (some !decide (20 < (↑s14.size : Int))) lP fun k15 k16 => ∃ (s17 : ByteArray), ((!decide (20 < (↑s14.size : Int))) = true → w10.cell? (Addr.mk k15 (k16 + n6.toNat * 4 + 3) none) = some (.string s17)) ∧ Br (decide (20 < (↑s14.size : Int)) || decide (20 < (↑s17.size : Int))) (∀ w18 R19, Ctx W w18 (R7 ++ R19) I8 → J (.bool false) w18) (I64 (n6 + 1) ∧ ∃ R20 Φ21 k22, Stable Φ21 ∧ Wk W R7 I8 R20 Φ21 ∧ I0 (n6 + 1) R20 Φ21 k22 ∧ k22 < k9)) (∀ w25 R26, Ctx W
  w25 (R7 ++ R26) I8 → J (.bool (decide ((↑lN : Int) ≤ n))) w25)
theorem Berratalaw29_few_run (lP : Option Addr) (lN lC : Nat) (n : Int) {W w : World} {R : List Own} {Φ : PW} [Stable Φ] {J : Value → World → Prop} (c : Ctx W w R Φ) (h : Berratalaw29_few lP lN lC n W R Φ J) : Calls Tryz.prog F.erratalaw29_few #[.slice lP lN lC, .int .i64 n] w fun e w' => ∃ v, e = .returned v ∧ J v w' :=
  vcFS_sound (H := { keep := some [0, 1, 4, 5, 9, 27], loops := [(2, [(5, .one (.int .i64))], [])] }) (by rw [show vcFS Tryz.prog W { keep := some [0, 1, 4, 5, 9, 27], loops := [(2, [(5, .one (.int .i64))], [])] } F.erratalaw29_few #[.slice lP lN lC, .int .i64 n] R Φ J = Berratalaw29_few lP lN lC n W R Φ J by kernel_rfl]; exact h) c
def Bstore_Restore (x : ByteArray) (W : World) (R : List Own) (Φ : PW) (J : Value → World → Prop) : Prop :=
  ∀ w0 R1, Ctx W w0 (R ++ R1) Φ → Calls Tryz.prog F.wire_Open #[.string x] w0 fun e2 w3 => ∃ p4, e2 = .returned (.pointer p4) ∧ ∃ R5 Φ6, Stable Φ6 ∧ Ctx W w3 (R5 ++ R1) Φ6 ∧ ∀ w7 R8, Ctx W w7 (R5 ++ R8) Φ6 → Calls Tryz.prog F.wire_Reader_Int #[.pointer p4] w7 fun e9 w10 => ∃ n11, e9 = .returned (.int .i64 n11) ∧ ∃ R12 Φ13, Stable Φ13 ∧ Ctx W w10 (R12 ++ R8) Φ13 ∧ ∀ (k14 : Nat) (w15 : World) (R16 : List Own), Ctx W w15 (Own.blk k14 [.slice none 0 0, .slice none 0 0, .int .i64 n11, .slice none 0 0, .int .i64 0] 77 :: R12 ++ R16) Φ13 → Calls Tryz.prog F.wire_Reader_Num #[.pointer p4] w15 fun e17 w18 => ∃ n19, e17 = .returned (.int .i64 n19) ∧ ∃ R20 Φ21, Stable Φ21 ∧ Ctx W w18 (R20 ++ R16) Φ21 ∧ exI fun (I22 : Option Addr → Nat → Nat → List Own → PW → Nat → Prop) => (∃ R23 Φ24 k25, Stable Φ24 ∧ Wk W R20 Φ21 R23 Φ24 ∧ I22 none 0 0 R23 Φ24 k25) ∧ ∀ p28 k29 k30 R31 I32 k33, Stable I32 → I22 p28
  k29 k30 R31 I32 k33 → Br (decide ((↑k29 : Int) < n19)) (∀ w34 R35, Ctx W w34 (R31 ++ R35) I32 → Calls Tryz.prog F.wire_Reader_Text #[.pointer p4] w34 fun e36 w37 => ∃ s38, e36 = .returned (.string s38) ∧ ∃ R39 Φ40, Stable Φ40 ∧ Ctx W w37 (R39 ++ R35) Φ40 ∧ ∀ w41 R42, Ctx W w41 (R39 ++ R42) Φ40 → Calls Tryz.prog F.wire_Reader_Text #[.pointer p4] w41 fun e43 w44 => ∃ s45, e43 = .returned (.string s45) ∧ ∃ R46 Φ47, Stable Φ47 ∧ Ctx W w44 (R46 ++ R42) Φ47 ∧ ∀ (b : Nat) (w48 : World) (R49 : List Own), Ctx W w48 (R46 ++ R49) Φ47 → ((!decide (s45 = ByteArray.mk #[]) && decide (0 < (↑k29 : Int))) = true → I64 ((↑k29 : Int) - 1)) ∧ ((!decide (s45 = ByteArray.mk #[]) && decide (0 < (↑k29 : Int))) = true → 0 ≤ (↑k29 : Int) - 1 ∧ (↑k29 : Int) - 1 < (↑k29 : Int)) ∧ ptrK (some (!decide (s45 = ByteArray.mk #[]) && decide (0 < (↑k29 : Int)))) p28 fun k50 k51 => ∃ (s52 : ByteArray), ((!decide (s45 =
  ByteArray.mk #[]) && decide (0 < (↑k29 : Int))) = true → w48.cell? (Addr.mk k50 (k51 + ((↑k29 : Int) - 1).toNat * 2) none) = some (.string s52)) ∧ ∃ (c53 : Bool), ((!decide (s45 = ByteArray.mk #[]) && decide (0 < (↑k29 : Int))) = true → ∀ (w54 : World), Sem.run Tryz.prog (binOp BinOp.geq 9 (Value.string s52) (Value.string s38)) w54 = Result.ok (Value.bool c53) w54) ∧ Br (decide (s45 = ByteArray.mk #[]) || decide (0 < (↑k29 : Int)) && c53) (∀ w55 R56, Ctx W w55 (R46 ++ R56) Φ47 → J (Value.tuple #[.pointer none, .bool false]) w55) (∀ (k57 : Nat) (w58 : World) (R59 : List Own), Ctx W w58 (Own.blk k57 [.string s38, .string s45] 69 :: R46 ++ R59) Φ47 → ∃ (p60 : Option Addr) (k61 k62 : Nat) (w63 : World), Sem.run Tryz.prog (builtin Builtin.append #[74, 74] 74 #[false, false] #[.slice p28 k29 k30, .slice (some (Addr.mk k57 0 none)) 1 1]) w58 = .ok (.value (.slice p60 k61 k62)) w63 ∧ ∃ R64 Φ65,
  Stable Φ65 ∧ Ctx W w63 (R64 ++ R59) Φ65 ∧ ∃ R66 Φ67 k68, Stable Φ67 ∧ Wk W R64 Φ65 R66 Φ67 ∧ I22 p60 k61 k62 R66 Φ67 k68 ∧ k68 < k33)) (∀ w71 R72, Ctx W w71 (R31 ++ R72) I32 → Calls Tryz.prog F.wire_Reader_Done #[.pointer p4] w71 fun e73 w74 => ∃ c75, e73 = .returned (.bool c75) ∧ ∃ R76 Φ77, Stable Φ77 ∧ Ctx W w74 (R76 ++ R72) Φ77 ∧ Br (!c75) (∀ w78 R79, Ctx W w78 (R76 ++ R79) Φ77 → J (Value.tuple #[.pointer none, .bool false]) w78) (∀ w80 R81, Ctx W w80 (R76 ++ R81) Φ77 → ∃ n82, w80.cell? (Addr.mk k14 2 none) = some (.int .i64 n82) ∧ Br (decide (n82 < 0)) (∀ w83 R84, Ctx W w83 (R76 ++ R84) Φ77 → J (Value.tuple #[.pointer none, .bool false]) w83) (∀ w85 R86, Ctx W w85 (R76 ++ R86) Φ77 → ∃ n87, w85.cell? (Addr.mk k14 2 none) = some (.int .i64 n87) ∧ Br (decide (1099511627776 < n87)) (∀ w88 R89, Ctx W w88 (R76 ++ R89) Φ77 → J (Value.tuple #[.pointer none, .bool false]) w88) (∀ w90 R91,
  Ctx W w90 (R76 ++ R91) Φ77 → ∃ n92, w90.cell? (Addr.mk k14 2 none) = some (.int .i64 n92) ∧ ∀ w93 R94, Ctx W w93 (R76 ++ R94) Φ77 → CanWrite w93 k14 4 1 ∧ ∀ (w95 : World), w95 = w93.setCell (Addr.mk k14 4 none) (Value.int IntKind.i64 n92) → ∃ R96 Φ97, Stable Φ97 ∧ Ctx W w95 (R96 ++ R94) Φ97 ∧ ∀ w98 R99, Ctx W w98 (R96 ++ R99) Φ97 → Calls Tryz.prog F.store_Store_add #[.pointer (some (Addr.mk k14 0 none)), .int .i64 1, .slice p28 k29 k30] w98 fun e100 w101 => e100 = .returned (Value.tuple #[]) ∧ ∃ R102 Φ103, Stable Φ103 ∧ Ctx W w101 (R102 ++ R99) Φ103 ∧ ∀ w104 R105, Ctx W w104 (R102 ++ R105) Φ103 → J (Value.tuple #[.pointer (some (Addr.mk k14 0 none)), .bool true]) w104))))
theorem Bstore_Restore_run (x : ByteArray) {W w : World} {R : List Own} {Φ : PW} [Stable Φ] {J : Value → World → Prop} (c : Ctx W w R Φ) (h : Bstore_Restore x W R Φ J) : Calls Tryz.prog F.store_Restore #[.string x] w fun e w' => ∃ v, e = .returned v ∧ J v w' :=
  vcFS_sound (H := { keep := some [0, 2, 3, 4, 5, 6, 7, 8, 20, 45, 66], track := [8], split := [10], loops := [(5, [(6, .one (.slice))], [])] }) (by rw [show vcFS Tryz.prog W { keep := some [0, 2, 3, 4, 5, 6, 7, 8, 20, 45, 66], track := [8], split := [10], loops := [(5, [(6, .one (.slice))], [])] } F.store_Restore #[.string x] R Φ J = Bstore_Restore x W R Φ J by kernel_rfl]; exact h) c
def Bstore_Store_Snapshot (sB sO : Nat) (W : World) (R : List Own) (Φ : PW) (J : Value → World → Prop) : Prop :=
  ∀ w0 R1, Ctx W w0 (R ++ R1) Φ → Calls Tryz.prog F.store_Store_Scan #[.pointer (some (Addr.mk sB sO none)), Value.string (ByteArray.mk #[])] w0 fun e2 w3 => ∃ p4 k5 k6, e2 = .returned (.slice p4 k5 k6) ∧ ∃ R7 Φ8, Stable Φ8 ∧ Ctx W w3 (R7 ++ R1) Φ8 ∧ ∀ (k9 : Nat) (w10 : World) (R11 : List Own), Ctx W w10 (Own.blk k9 [Value.pointer none, Value.slice none 0 0] 89 :: R7 ++ R11) Φ8 → ∃ n12, w10.cell? (Addr.mk sB (sO + 2) none) = some (.int .i64 n12) ∧ ∀ w13 R14, Ctx W w13 (Own.blk k9 [Value.pointer none, Value.slice none 0 0] 89 :: R7 ++ R14) Φ8 → Calls Tryz.prog F.wire_Int #[.int .i64 n12] w13 fun e15 w16 => ∃ s17, e15 = .returned (.string s17) ∧ ∃ R18 Φ19, Stable Φ19 ∧ Ctx W w16 (R18 ++ R14) Φ19 ∧ ∀ w20 R21, Ctx W w20 (R18 ++ R21) Φ19 → Calls Tryz.prog F.wire_Num #[.int .i64 (↑k5 : Int)] w20 fun e22 w23 => ∃ s24, e22 = .returned (.string s24) ∧ ∃ R25 Φ26, Stable Φ26 ∧ Ctx W w23 (R25 ++ R21)
  Φ26 ∧ (s17.size + s24.size).le 9223372036854775807 ∧ ∀ w27 R28, Ctx W w27 (R25 ++ R28) Φ26 → Calls Tryz.prog F.strings_Builder_WriteString #[.pointer (some (Addr.mk k9 0 none)), .string (s17 ++ s24)] w27 fun e29 w30 => ∃ (n31 : Int) (v32 : Value), e29 = .returned (Value.tuple #[.int .i64 n31, v32]) ∧ ∃ R33 Φ34, Stable Φ34 ∧ Ctx W w30 (R33 ++ R28) Φ34 ∧ exI fun (I35 : Int → List Own → PW → Nat → Prop) => (∃ R36 Φ37 k38, Stable Φ37 ∧ Wk W R33 Φ34 R36 Φ37 ∧ I35 0 R36 Φ37 k38) ∧ ∀ n41 R42 I43 k44, Stable I43 → I35 n41 R42 I43 k44 → Br (decide (n41 < (↑k5 : Int))) ((0 ≤ n41 ∧ n41 < (↑k5 : Int)) ∧ ptrK none p4 fun k45 k46 => ∀ w47 R48, Ctx W w47 (R42 ++ R48) I43 → ∃ s49 s50, RowAt w47 k45 (k46 + n41.toNat * 2) [.string s49, .string s50] ∧ ∀ (b : Nat), ∃ R51 Φ52, Stable Φ52 ∧ Wk W R42 I43 R51 Φ52 ∧ ∀ w55 R56, Ctx W w55 (R42 ++ R56) I43 → Calls Tryz.prog F.wire_Text #[.string s49] w55 fun e57
  w58 => ∃ s59, e57 = .returned (.string s59) ∧ ∃ R60 Φ61, Stable Φ61 ∧ Ctx W w58 (R60 ++ R56) Φ61 ∧ Wk W R60 Φ61 R51 Φ52 ∧ ∀ w64 R65, Ctx W w64 (R60 ++ R65) Φ61 → Calls Tryz.prog F.wire_Text #[.string s50] w64 fun e66 w67 => ∃ s68, e66 = .returned (.string s68) ∧ ∃ R69 Φ70, Stable Φ70 ∧ Ctx W w67 (R69 ++ R65) Φ70 ∧ (s59.size + s68.size).le 9223372036854775807 ∧ ∀ w71 R72, Ctx W w71 (R69 ++ R72) Φ70 → Calls Tryz.prog F.strings_Builder_WriteString #[.pointer (some (Addr.mk k9 0 none)), .string (s59 ++ s68)] w71 fun e73 w74 => ∃ (n75 : Int) (v76 : Value), e73 = .returned (Value.tuple #[.int .i64 n75, v76]) ∧ ∃ R77 Φ78, Stable Φ78 ∧ Ctx W w74 (R77 ++ R72) Φ78 ∧ I64 (n41 + 1) ∧ ∃ R79 Φ80 k81, Stable Φ80 ∧ Wk W R77 Φ78 R79 Φ80 ∧ I35 (n41 + 1) R79 Φ80 k81 ∧ k81 < k44) (∀ w84 R85, Ctx W w84 (R42 ++ R85) I43 → Calls Tryz.prog F.strings_Builder_String #[.pointer (some (Addr.mk k9 0 none))] w84 fun
  e86 w87 => ∃ s88, e86 = .returned (.string s88) ∧ ∃ R89 Φ90, Stable Φ90 ∧ Ctx W w87 (R89 ++ R85) Φ90 ∧ ∀ w91 R92, Ctx W w91 (R89 ++ R92) Φ90 → J (.string s88) w91)
theorem Bstore_Store_Snapshot_run (sB sO : Nat) {W w : World} {R : List Own} {Φ : PW} [Stable Φ] {J : Value → World → Prop} (c : Ctx W w R Φ) (h : Bstore_Store_Snapshot sB sO W R Φ J) : Calls Tryz.prog F.store_Store_Snapshot #[.pointer (some ⟨sB, sO, none⟩)] w fun e w' => ∃ v, e = .returned v ∧ J v w' :=
  vcFS_sound (H := { keep := some [0, 2, 3, 4, 6, 19, 20, 21, 22], track := [6], stages := [(7, [.held [(0, true), (3, true), (1, true), (4, true), (2, false)], .stage [] (some 5), .stage [6] (some 7)])], loops := [(5, [(21, .one (.int .i64))], [])] }) (by rw [show vcFS Tryz.prog W { keep := some [0, 2, 3, 4, 6, 19, 20, 21, 22], track := [6], stages := [(7, [.held [(0, true), (3, true), (1, true), (4, true), (2, false)], .stage [] (some 5), .stage [6] (some 7)])], loops := [(5, [(21, .one (.int .i64))], [])] } F.store_Store_Snapshot #[.pointer (some ⟨sB, sO, none⟩)] R Φ J = Bstore_Store_Snapshot sB sO W R Φ J by kernel_rfl]; exact h) c
def Berratalaw29_do (sB sO : Nat) (x0 : Int) (x1 : Int) (x2 : ByteArray) (x3 : ByteArray) (W : World) (R : List Own) (Φ : PW) (J : Value → World → Prop) : Prop :=
  ∀ (b : Nat), ∃ (n0 : Int), (∀ (w1 : World), Sem.run Tryz.prog (binOp BinOp.and 3 (Value.int IntKind.i64 x0) (Value.int IntKind.i64 7)) w1 = Result.ok (Value.int IntKind.i64 n0) w1) ∧ Br (decide (n0 = 5)) (∀ w2 R3, Ctx W w2 (R ++ R3) Φ → Calls Tryz.prog F.store_Store_Trim #[.pointer (some (Addr.mk sB sO none)), .int .i64 x1] w2 fun e4 w5 => e4 = .returned (Value.tuple #[]) ∧ ∃ R6 Φ7, Stable Φ7 ∧ Ctx W w5 (R6 ++ R3) Φ7 ∧ ∀ w8 R9, Ctx W w8 (R6 ++ R9) Φ7 → J (Value.tuple #[.pointer (some (Addr.mk sB sO none)), .int .i64 0]) w8) (Br (decide (n0 = 6)) (∀ w10 R11, Ctx W w10 (R ++ R11) Φ → Calls Tryz.prog F.store_Store_Apply #[.pointer (some (Addr.mk sB sO none)), Value.agg #[.int .i64 x1, .string x2, .string x3]] w10 fun e12 w13 => ∃ n14, e12 = .returned (.int .i64 n14) ∧ ∃ R15 Φ16, Stable Φ16 ∧ Ctx W w13 (R15 ++ R11) Φ16 ∧ ∀ w17 R18, Ctx W w17 (R15 ++ R18) Φ16 → J (Value.tuple #[.pointer
  (some (Addr.mk sB sO none)), .int .i64 n14]) w17) (Br (decide (n0 = 7)) (∃ (n19 : Int), (∀ (w20 : World), Sem.run Tryz.prog (binOp BinOp.and 3 (Value.int IntKind.i64 x1) (Value.int IntKind.i64 1)) w20 = Result.ok (Value.int IntKind.i64 n19) w20) ∧ Br (decide (n19 = 0)) (∀ w21 R22, Ctx W w21 (R ++ R22) Φ → Calls Tryz.prog F.store_Store_Copy #[.pointer (some (Addr.mk sB sO none))] w21 fun e23 w24 => ∃ p25, e23 = .returned (.pointer p25) ∧ ∃ R26 Φ27, Stable Φ27 ∧ Ctx W w24 (R26 ++ R22) Φ27 ∧ ∀ w28 R29, Ctx W w28 (R26 ++ R29) Φ27 → J (Value.tuple #[.pointer p25, .int .i64 0]) w28) (∀ w30 R31, Ctx W w30 (R ++ R31) Φ → Calls Tryz.prog F.store_Store_Snapshot #[.pointer (some (Addr.mk sB sO none))] w30 fun e32 w33 => ∃ s34, e32 = .returned (.string s34) ∧ ∃ R35 Φ36, Stable Φ36 ∧ Ctx W w33 (R35 ++ R31) Φ36 ∧ ∀ w37 R38, Ctx W w37 (R35 ++ R38) Φ36 → Calls Tryz.prog F.store_Restore #[.string s34]
  w37 fun e39 w40 => ∃ p41 c42, e39 = .returned (Value.tuple #[.pointer p41, .bool c42]) ∧ ∃ R43 Φ44, Stable Φ44 ∧ Ctx W w40 (R43 ++ R38) Φ44 ∧ Br (!c42) (∀ w45 R46, Ctx W w45 (R43 ++ R46) Φ44 → J (Value.tuple #[.pointer none, .int .i64 0]) w45) (∀ w47 R48, Ctx W w47 (R43 ++ R48) Φ44 → J (Value.tuple #[.pointer p41, .int .i64 0]) w47))) (∀ w49 R50, Ctx W w49 (R ++ R50) Φ → Calls Tryz.prog F.store_Store_Put #[.pointer (some (Addr.mk sB sO none)), .string x2, .string x3] w49 fun e51 w52 => e51 = .returned (Value.tuple #[]) ∧ ∃ R53 Φ54, Stable Φ54 ∧ Ctx W w52 (R53 ++ R50) Φ54 ∧ ∀ w55 R56, Ctx W w55 (R53 ++ R56) Φ54 → J (Value.tuple #[.pointer (some (Addr.mk sB sO none)), .int .i64 0]) w55)))
theorem Berratalaw29_do_run (sB sO : Nat) (x0 : Int) (x1 : Int) (x2 : ByteArray) (x3 : ByteArray) {W w : World} {R : List Own} {Φ : PW} [Stable Φ] {J : Value → World → Prop} (c : Ctx W w R Φ) (h : Berratalaw29_do sB sO x0 x1 x2 x3 W R Φ J) : Calls Tryz.prog F.erratalaw29_do #[.pointer (some ⟨sB, sO, none⟩), .agg #[.int .i64 x0, .int .i64 x1, .string x2, .string x3]] w fun e w' => ∃ v, e = .returned v ∧ J v w' :=
  vcFS_sound (H := { keep := some [0, 3, 4, 5, 6, 7, 10, 17, 23, 35, 40, 50], track := [3] }) (by rw [show vcFS Tryz.prog W { keep := some [0, 3, 4, 5, 6, 7, 10, 17, 23, 35, 40, 50], track := [3] } F.erratalaw29_do #[.pointer (some ⟨sB, sO, none⟩), .agg #[.int .i64 x0, .int .i64 x1, .string x2, .string x3]] R Φ J = Berratalaw29_do sB sO x0 x1 x2 x3 W R Φ J by kernel_rfl]; exact h) c
def Berratalaw29_digits (n : Int) (W : World) (R : List Own) (Φ : PW) (J : Value → World → Prop) : Prop :=
  ((10 : Int) = 0 → False) ∧ I64 (n.tdiv 10) ∧ ((10 : Int) = 0 → False) ∧ I64 (48 + (n.tdiv 10).tmod 10) ∧ ((10 : Int) = 0 → False) ∧ I64 (48 + n.tmod 10) ∧ ∀ (k0 : Nat) (w1 : World) (R2 : List Own), Ctx W w1 (Own.blk k0 [.int IntKind.u8 (IntKind.u8.wrap (48 + (n.tdiv 10).tmod 10)), .int IntKind.u8 (IntKind.u8.wrap (48 + n.tmod 10))] 5 :: R ++ R2) Φ → ∃ (s3 : ByteArray) (w4 : World), Sem.run Tryz.prog (convert 87 9 (Value.slice (some (Addr.mk k0 0 none)) 2 2)) w1 = Result.ok (Value.string s3) w4 ∧ ∃ R5 Φ6, Stable Φ6 ∧ Ctx W w4 (R5 ++ R2) Φ6 ∧ ∀ w7 R8, Ctx W w7 (R5 ++ R8) Φ6 → J (.string s3) w7
theorem Berratalaw29_digits_run (n : Int) {W w : World} {R : List Own} {Φ : PW} [Stable Φ] {J : Value → World → Prop} (c : Ctx W w R Φ) (h : Berratalaw29_digits n W R Φ J) : Calls Tryz.prog F.erratalaw29_digits #[.int .i64 n] w fun e w' => ∃ v, e = .returned v ∧ J v w' :=
  vcFS_sound (H := { keep := some [0, 2] }) (by rw [show vcFS Tryz.prog W { keep := some [0, 2] } F.erratalaw29_digits #[.int .i64 n] R Φ J = Berratalaw29_digits n W R Φ J by kernel_rfl]; exact h) c
end Go.Proofs.YtebnciehcnedjaaGreatDoor
end

section
namespace Go.Proofs.YtebnciehcnedjaaGreatDoor
open Go.Vc
def pairL (x : PairD) : List UInt8 := (textB x.key ++ textB x.val).data.toList
def pairsL (l : Run) : List UInt8 := l.flatMap pairL
def headL (seq : Int) (n : Nat) : List UInt8 := (intB seq ++ natB n).data.toList
def snapL (seq : Int) (l : Run) : List UInt8 := headL seq l.length ++ pairsL l
def snapB (s : StD) : ByteArray := ⟨(snapL s.seq (scanS s tE)).toArray⟩
abbrev Fit1 (l : Run) : Prop := ∀ x ∈ l, x.key.size ≤ 1000 ∧ x.val.size ≤ 1000
theorem pairsL_app (a b : Run) : pairsL (a ++ b) = pairsL a ++ pairsL b := List.flatMap_append
theorem pairsL_one (x : PairD) : pairsL [x] = pairL x := by simp [pairsL]
theorem pairL_len {x : PairD} (h : x.key.size ≤ 1000 ∧ x.val.size ≤ 1000) : (pairL x).length ≤ 2044 := by
  have h1 := textB_size (s := x.key) (by omega)
  have h2 := textB_size (s := x.val) (by omega)
  unfold pairL
  rw [list_size, size_app]
  omega
theorem pairsL_len : ∀ {l : Run}, Fit1 l → (pairsL l).length ≤ l.length * 2044
  | [], _ => by simp [pairsL]
  | x :: l, h => by
    have h1 := pairL_len (h x (by simp))
    have h2 := pairsL_len (l := l) fun y hy => h y (by simp [hy])
    rw [show x :: l = [x] ++ l from rfl, pairsL_app, pairsL_one, List.length_append, List.length_append]
    simp only [List.length_cons, List.length_nil]
    omega
theorem pairsL_pre {l : Run} (h : Fit1 l) (hl : l.length ≤ 1000000) (i : Nat) : (pairsL (l.take i)).length ≤ 2044000000 := by
  have h1 := pairsL_len (l := l.take i) fun y hy => h y (List.mem_of_mem_take hy)
  rw [List.length_take] at h1
  omega
theorem headL_len {seq : Int} (h : I64 seq) {n : Nat} (hn : n ≤ 1000000) : (headL seq n).length ≤ 42 := by
  have h1 := intB_size h
  have h2 := natB_size (n := n) (by unfold I64; omega)
  unfold headL
  rw [list_size, size_app]
  omega
section
variable {Φ : PW} {q : TO} {s : StD}
set_option maxHeartbeats 1000000 in
theorem Snapshot_in [Stable Φ] [hΦ : Has Φ (StR q s)] (hT : ∀ M w, Φ M w → TabI M w) (hC : StC q s) (hn : s.levels.length ≤ 900000) (hl : s.levels.flatten.length ≤ 900000) (hv : (verP s).length ≤ 1000000) (hz : Fit1 (verP s)) (hs : I64 s.seq) :
    GivesIn Φ Tryz.prog F.store_Store_Snapshot #[.pointer (some ⟨q.sb, 0, none⟩)] (.string (snapB s)) := by
  have hz1 : Szs (verP s) := fun x hx => by have := hz x hx; unfold maxLen; omega
  obtain ⟨l, hL⟩ : ∃ l, scanS s tE = l := ⟨_, rfl⟩
  have hsub : l.length ≤ (verP s).length ∧ Fit1 l := by
    have h1 : (scanS s tE).length ≤ (verP s).length := Nat.le_trans (List.length_filter_le _ _) (Nat.le_trans (List.length_filter_le _ _) (normK_len _))
    rw [hL] at h1
    refine ⟨h1, fun x hx => hz x ?_⟩
    rw [← hL] at hx
    exact normK_mem x (List.mem_filter.1 (List.mem_filter.1 hx).1).1
  have hll : l.length ≤ 1000000 := by omega
  have hpre := pairsL_pre hsub.2 hll
  have hhd := headL_len hs hll
  refine gives_in (Bstore_Store_Snapshot_run q.sb 0) fun W R => fun w G cx => ?_
  refine (Scan_sl (pre := tE) hC hn hl (by omega) hz1 (by show 0 ≤ _; omega)).use cx fun p c w g1 g2 cx => ?_
  have hth := cx.phi.2.there
  rw [hL] at cx hth ⊢
  have st : Stable (fun M w => Φ M w ∧ Sl M w p l) := instStableAnd Φ (fun M w => Sl M w p l)
  obtain ⟨Φ1, hΦ1⟩ : ∃ Φ1 : PW, Φ1 = (fun M w => Φ M w ∧ Sl M w p l) := ⟨_, rfl⟩
  rw [← hΦ1] at cx st
  have r1 : ∀ M w, Φ1 M w → Φ M w := fun M w h => by rw [hΦ1] at h; exact h.1
  have r2 : ∀ M w, Φ1 M w → Sl M w p l := fun M w h => by rw [hΦ1] at h; exact h.2
  have hT1 : ∀ M w, Φ1 M w → TabI M w := fun M w h => hT M w (r1 M w h)
  refine ⟨p, _, c, rfl, R, Φ1, st, cx, fun b w G cx => ⟨s.seq, (hΦ.go _ _ (r1 _ _ cx.phi)).1.2.1 2 (by show 2 < 5; decide), fun w G cx => ?_⟩⟩
  have hi1 := intB_size hs
  have hn1 := natB_size (n := l.length) (by unfold I64; omega)
  refine (Int_in (.inl ⟨hT1, hs⟩)).use cx fun w cx => ⟨_, rfl, .blk b [.pointer none, .slice none 0 0] 89 :: R, Φ1, st, cx, fun w G cx => ?_⟩
  refine (Num_in (.inl ⟨hT1, by unfold I64; omega⟩)).use cx fun w cx => ⟨_, rfl, .blk b [.pointer none, .slice none 0 0] 89 :: R, Φ1, st, cx, by show (intB s.seq).size + (natB l.length).size ≤ _; omega, fun w G cx => ?_⟩
  refine WriteString_use (intB s.seq ++ natB l.length) Bd.nil (Bd.fresh cx) (by rw [size_app]; simp only [List.length_nil]; omega) fun R1 w hB cx => ⟨_, _, rfl, R1 ++ R, Φ1, st, by rw [List.append_assoc]; exact cx, ?_⟩
  rw [List.nil_append] at hB
  clear cx
  refine exI_mk (fun iI R' Φ' k => ∃ (i : Nat) (Q : List Own), iI = i ∧ i ≤ l.length ∧ BdT b (headL s.seq l.length ++ pairsL (l.take i)) Q ∧ R' = Q ++ R ∧ Φ' = Φ1 ∧ k = l.length - i) ⟨⟨_, Φ1, _, st, fun w G cx => cx, 0, R1, rfl, Nat.zero_le _, by rw [List.take_zero, show pairsL [] = [] from rfl, List.append_nil]; exact hB, rfl, rfl, rfl⟩, ?_⟩
  rintro iI R2 Φ2 k _ ⟨i, Q, rfl, hi, hQ, rfl, rfl, rfl⟩
  refine Br.intro (fun hlt => ?_) (fun hge => fun w G cx => ?_)
  · have hlt : i < l.length := by have := of_decide_eq_true hlt; omega
    obtain ⟨g, o, rfl⟩ := hth (by omega)
    have hx := hsub.2 _ (List.getElem_mem hlt)
    have hk1 := textB_size (s := l[i].key) (by omega)
    have hk2 := textB_size (s := l[i].val) (by omega)
    have hstep : pairsL (l.take (i + 1)) = pairsL (l.take i) ++ pairL l[i] := by rw [List.take_succ_eq_append_getElem hlt, pairsL_app, pairsL_one]
    have hp1 := hpre i
    have any : ∀ {w : World} {R G : List Own} {Ψ : PW} [Stable Ψ], Ctx W w (R ++ G) Ψ → Ctx W w ([] ++ G) (fun _ _ => True) := fun cx => (Ctx.right cx).weak fun _ _ _ => trivial
    refine ⟨by omega, ptrK_intro g o rfl fun w G cx => ⟨l[i].key, l[i].val, by rw [Int.toNat_natCast]; exact sl_pair (r2 _ _ cx.phi) hlt, fun _ => ⟨[], fun _ _ => True, inferInstance, fun w G cx => any cx, fun w G cx => ?_⟩⟩⟩
    refine (Text_in (.inl ⟨hT1, by unfold I64; omega⟩) (by omega)).use cx fun w cx => ⟨_, rfl, Q ++ R, Φ2, inferInstance, cx, fun w G cx => any cx, fun w G cx => ?_⟩
    refine (Text_in (.inl ⟨hT1, by unfold I64; omega⟩) (by omega)).use cx fun w cx => ⟨_, rfl, Q ++ R, Φ2, inferInstance, cx, by show (textB l[i].key).size + (textB l[i].val).size ≤ _; omega, fun w G cx => ?_⟩
    refine WriteString_use (textB l[i].key ++ textB l[i].val) hQ (cx.re (List.append_assoc _ _ _)) (by rw [List.length_append, size_app]; omega) fun Q' w hQ' cx => ⟨_, _, rfl, Q' ++ R, Φ2, inferInstance, by rw [List.append_assoc]; exact cx, by unfold I64; omega, _, Φ2, l.length - (i + 1), inferInstance, fun w G cx => cx, ⟨i + 1, Q', by omega, hlt, ?_, rfl, rfl, rfl⟩, by omega⟩
    rw [hstep, ← List.append_assoc]; exact hQ'
  · have hge : i = l.length := by have := of_decide_eq_false hge; omega
    subst hge
    rw [List.take_length] at hQ
    exact String_use hQ (cx.re (List.append_assoc _ _ _)) fun w cx => ⟨_, rfl, R, Φ2, inferInstance, cx, fun w G cx => ⟨by unfold snapB; rw [hL]; rfl, cx.left.weak r1⟩⟩
end
end Go.Proofs.YtebnciehcnedjaaGreatDoor
end

section
namespace Go.Proofs.YtebnciehcnedjaaGreatDoor
open Go.Vc
theorem geq_run (a b : ByteArray) (t : TypeId) (w : World) : Sem.run Tryz.prog (binOp BinOp.geq t (.string a) (.string b)) w = .ok (.bool (decide (0 ≤ cmpT a b))) w := by
  have e : binOp .geq t (.string a) (.string b) = pure (.bool !(Op.bytesLess a.toList b.toList)) := by simp [binOp, Op.stringOp]
  rw [e, Sem.run_pure]
  have h1 : Op.bytesLess a.toList b.toList = decide (cmpT a b < 0) := bl_cmp a b
  rw [h1]
  congr 2
  by_cases h : cmpT a b < 0
  · rw [decide_eq_true h, decide_eq_false (show ¬ 0 ≤ cmpT a b by omega)]; rfl
  · rw [decide_eq_false h, decide_eq_true (show 0 ≤ cmpT a b by omega)]; rfl
abbrev keyT (st : RdS) : ByteArray := (stepT st).1
abbrev valT (st : RdS) : ByteArray := (stepT (stepT st).2).1
abbrev nextT (st : RdS) : RdS := (stepT (stepT st).2).2
def lastKey (acc : Run) : ByteArray := (acc.getLast?.map PairD.key).getD tE
def stopB (acc : Run) (st : RdS) : Bool := decide (valT st = tE) || (decide ((0 : Int) < acc.length) && decide (0 ≤ cmpT (lastKey acc) (keyT st)))
def pairsK : Nat → RdS → Run → Option (Run × RdS)
  | 0, st, acc => some (acc, st)
  | k + 1, st, acc => if stopB acc st = true then none else pairsK k (nextT st) (acc ++ [⟨keyT st, valT st⟩])
def restS (n : Int) (ps : Run) : StD := ⟨[], addAt 1 [] ps, n, [], n⟩
def restL (l : List UInt8) : Option StD :=
  match pairsK (rdNat (rdInt (l, false)).2).1.toNat (rdNat (rdInt (l, false)).2).2 [] with
  | none => none
  | some (ps, st) => if (rdDone st = true ∧ 0 ≤ (rdInt (l, false)).1) ∧ (rdInt (l, false)).1 ≤ 1099511627776 then some (restS (rdInt (l, false)).1 ps) else none
theorem stepT_eats (st : RdS) : (stepT st).1.data.toList = [] ∨ (stepT st).2.1.length + 3 + (stepT st).1.size ≤ st.1.length := by
  unfold stepT
  simp only
  split
  · exact .inl rfl
  · rename_i h
    by_cases hc : (stepC 44 ((stepN 58 0 st).2.1.drop (stepN 58 0 st).1.toNat, (stepN 58 0 st).2.2)).2 = true
    · left
      rw [if_pos hc]
    · right
      simp only
      rw [if_neg hc, bs_size, List.length_take]
      unfold stepN at hc ⊢
      split at hc
      · rename_i n r hn
        obtain ⟨⟨h1, _⟩, h2⟩ := (numP_iff (.inl rfl)).1 hn
        have := itoa_len h1
        simp only at hc ⊢
        unfold stepC at hc ⊢
        simp only at hc ⊢
        split at hc
        · exact absurd rfl hc
        · rename_i x r2 hx
          have hlen := congrArg List.length hx
          rw [List.length_drop, List.length_cons] at hlen
          split at hc
          · rename_i hxe
            rw [if_pos hxe, h2, List.length_append, List.length_cons]
            simp only; omega
          · exact absurd rfl hc
      · exfalso
        apply hc
        rfl
theorem pair_eats {acc : Run} {st : RdS} (h : stopB acc st = false) : (nextT st).1.length + 3 ≤ st.1.length ∧ (keyT st).size ≤ st.1.length ∧ (valT st).size ≤ st.1.length := by
  unfold stopB at h
  rw [Bool.or_eq_false_iff] at h
  have h1 := of_decide_eq_false h.1
  have a := stepT_len st
  have b := stepT_len (stepT st).2
  have c := stepT_eats (stepT st).2
  rcases c with c | c
  · exfalso
    apply h1
    show (stepT (stepT st).2).1 = tE
    refine ByteArray.ext ?_
    exact Array.toList_inj.1 c
  · exact ⟨by show (stepT (stepT st).2).2.1.length + 3 ≤ _; omega, by show (stepT st).1.size ≤ _; omega, by show (stepT (stepT st).2).1.size ≤ _; omega⟩
theorem lastKey_at {acc : Run} (h : 0 < acc.length) : lastKey acc = (acc[acc.length - 1]'(by omega)).key := by
  unfold lastKey
  rw [List.getLast?_eq_getElem?, List.getElem?_eq_getElem (by omega)]
  rfl
theorem idxL_at : ∀ (n : Nat) (a : Run) (i : Nat) (h : i < a.length), (idxL n a)[i]? = some ⟨a[i], n + i⟩
  | n, x :: a, 0, _ => rfl
  | n, x :: a, i + 1, h => by
    rw [idxL, List.getElem?_cons_succ, idxL_at (n + 1) a i (by simpa using h), List.getElem_cons_succ, show n + 1 + i = n + (i + 1) by omega]
set_option maxHeartbeats 4000000 in
theorem Restore_use {W w : World} {S : List Own} {Φ : PW} [Stable Φ] (hΦ : ∀ M w, Φ M w → NumI M w) (l : List UInt8) (hl : l.length ≤ 1000000) (cx : Ctx W w S Φ) {K : Ending → World → Prop}
    (h0 : ∀ w', restL l = none → Ctx W w' S Φ → K (.returned (.tuple #[.pointer none, .bool false])) w')
    (h1 : ∀ q s w', restL l = some s → StQ q s → Ctx W w' (stO q s S) (fun M w => Φ M w ∧ stF q s M w) → K (.returned (.tuple #[.pointer (some ⟨q.sb, 0, none⟩), .bool true])) w') :
    Calls Tryz.prog F.store_Restore #[.string (bs l)] w K := by
  refine (Bstore_Restore_run (bs l) (J := fun u w' => K (.returned u) w') cx ?_).mono fun e w' ⟨v, he, hj⟩ => by rw [he]; exact hj
  clear cx
  refine fun w G cx => Open_use l cx fun b w cx => ⟨_, rfl, rd b (l, false) :: S, Φ, inferInstance, cx, fun w G cx => ?_⟩
  refine RInt_to hΦ (by show l.length ≤ _; omega) cx ?_
  have hlen1 : (rdInt (l, false)).2.1.length ≤ l.length := stepN_len 59 (-9223372036854775808) (l, false)
  unfold restL at h0 h1
  have hsq := rdInt_i64 (l, false)
  obtain ⟨⟨sq, st1⟩, e1⟩ : ∃ x, rdInt (l, false) = x := ⟨_, rfl⟩
  rw [e1] at h0 h1 hlen1 hsq ⊢
  simp only at h0 h1 hlen1 hsq ⊢
  refine fun kb w G cx => ?_
  have cx1 : Ctx W w (rd b st1 :: (Own.blk kb [.slice none 0 0, .slice none 0 0, .int .i64 sq, .slice none 0 0, .int .i64 0] 77 :: S) ++ G) Φ := cx.swap
  clear cx
  refine RNum_to hΦ (by omega) cx1 ?_
  clear cx1
  have hlen2 : (rdNat st1).2.1.length ≤ st1.1.length := stepN_len 59 0 st1
  have hN : 0 ≤ (rdNat st1).1 := (stepN_nonneg (e := 59) (.inr (.inl rfl)) st1).1
  obtain ⟨⟨N, st2⟩, e2⟩ : ∃ x, rdNat st1 = x := ⟨_, rfl⟩
  rw [e2] at h0 h1 hlen2 hN ⊢
  simp only at h0 h1 hlen2 hN ⊢
  obtain ⟨B, hB⟩ : ∃ B, Own.blk kb [.slice none 0 0, .slice none 0 0, .int .i64 sq, .slice none 0 0, .int .i64 0] 77 = B := ⟨_, rfl⟩
  rw [hB]
  refine exI_mk (fun p n c R' Φ' k => ∃ (acc : Run) (st : RdS), n = acc.length ∧ pairsK (N.toNat - acc.length) st acc = pairsK N.toNat st2 [] ∧ acc.length ≤ N.toNat ∧ acc.length + st.1.length ≤ l.length ∧ (∀ x ∈ acc, x.key.size ≤ l.length ∧ x.val.size ≤ l.length) ∧ R' = rd b st :: tabO p c acc :: B :: S ∧ Φ' = Φ ∧ k = N.toNat - acc.length)
    ⟨⟨rd b st2 :: tabO none 0 [] :: B :: S, Φ, _, inferInstance, fun w G cx => (Ctx.nobuf cx 69 2).swap, [], st2, rfl, by rw [List.length_nil, Nat.sub_zero], by simp, by simp only [List.length_nil]; omega, fun x hx => (by cases hx), rfl, rfl, rfl⟩, ?_⟩
  rintro p n c R1 Φ1 k _ ⟨acc, st, rfl, hK, hle, hlen, hsz, rfl, rfl, rfl⟩
  refine Br.intro (fun hlt => fun w G cx => ?_) (fun hge => fun w G cx => ?_)
  · have hlt : acc.length < N.toNat := by have := of_decide_eq_true hlt; omega
    obtain ⟨m, hm⟩ : ∃ m, N.toNat - acc.length = m + 1 := ⟨N.toNat - acc.length - 1, by omega⟩
    rw [hm, show pairsK (m + 1) st acc = if stopB acc st = true then none else pairsK m (nextT st) (acc ++ [⟨keyT st, valT st⟩]) from rfl] at hK
    have ha := stepT_len st
    have hb := stepT_len (stepT st).2
    refine Text_to hΦ (by omega) cx fun w G cx => Text_to hΦ (by omega) cx fun b1 w G cx => ?_
    refine ⟨fun _ => by unfold I64; omega, fun hc => ?_, ?_⟩
    · have := (Bool.and_eq_true _ _).mp hc
      have := of_decide_eq_true this.2
      omega
    have hptr : ∀ (w : World) (G : List Own), Ctx W w (rd b (nextT st) :: tabO p c acc :: B :: S ++ G) Φ1 → 0 < acc.length → ∃ g, p = some ⟨g, 0, none⟩ := fun w G cx h => e_ptr cx.swap (by rw [idxL_len]; exact h)
    have body : ∀ s52 : ByteArray, (0 < acc.length → s52 = lastKey acc) → ∃ c53 : Bool, ((!decide (valT st = ByteArray.mk #[]) && decide ((0 : Int) < acc.length)) = true → ∀ w, Sem.run Tryz.prog (binOp BinOp.geq 9 (.string s52) (.string (keyT st))) w = .ok (.bool c53) w) ∧ (decide (valT st = ByteArray.mk #[]) || decide ((0 : Int) < acc.length) && c53) = stopB acc st := fun s52 hs => ⟨decide (0 ≤ cmpT s52 (keyT st)), fun _ w => geq_run _ _ _ _, by
      unfold stopB
      by_cases h : (0 : Int) < acc.length
      · rw [hs (by omega)]
      · rw [decide_eq_false h]; rfl⟩
    have tail : ∀ c0 : Bool, (c0 = stopB acc st) → c0 = true → K (.returned (.tuple #[.pointer none, .bool false])) w ∨ True := fun _ _ _ => .inr trivial
    clear tail
    have hptrK : ∀ {X : Nat → Nat → Prop}, (∀ g o, (0 < acc.length → p = some ⟨g, o, none⟩ ∧ o = 0) → X g o) → ptrK (some (!decide (valT st = ByteArray.mk #[]) && decide ((0 : Int) < acc.length))) p X := fun {X} hX => by
      by_cases h : 0 < acc.length
      · obtain ⟨g, hg⟩ := hptr _ _ cx h
        exact ptrK_intro g 0 hg (hX g 0 fun _ => ⟨hg, rfl⟩)
      · exact ptrK_off (by rw [decide_eq_false (show ¬ (0 : Int) < acc.length by omega), Bool.and_false]) fun g o => hX g o fun h2 => absurd h2 h
    refine hptrK fun g o hg => ⟨lastKey acc, fun hc => ?_, ?_⟩
    · have h3 := of_decide_eq_true ((Bool.and_eq_true _ _).mp hc).2
      obtain ⟨rfl, rfl⟩ := hg (by omega)
      have h4 := e_row cx.swap (idxL_at 0 acc (acc.length - 1) (by omega))
      rw [lastKey_at (by omega)]
      have h5 := h4 0 (by show 0 < 2; decide)
      rw [show ((acc.length : Int) - 1).toNat = acc.length - 1 by omega, Nat.zero_add]
      exact h5
    obtain ⟨c53, hc1, hc2⟩ := body (lastKey acc) fun _ => rfl
    refine ⟨c53, hc1, ?_⟩
    rw [hc2]
    clear hc1 hc2 body hptrK hg
    refine Br.intro (fun hs => fun w G cx => ?_) (fun hs => ?_)
    · rw [hs, if_pos rfl] at hK
      have cx2 : Ctx W w (S ++ G) Φ1 := cx.drop1.drop1.drop1
      exact h0 w (by rw [← hK]) cx2.left
    · rw [if_neg (by rw [hs]; simp)] at hK
      obtain ⟨h3, h4, h5⟩ := pair_eats hs
      refine fun k2 w G cx => ?_
      have hsw : (Own.blk k2 [.string (keyT st), .string (valT st)] 69 :: tabO p c acc :: (rd b (nextT st) :: (B :: S ++ G))).Perm (Own.blk k2 [.string (keyT st), .string (valT st)] 69 :: rd b (nextT st) :: tabO p c acc :: (B :: S ++ G)) := List.Perm.cons _ (List.Perm.swap _ _ _)
      have cx2 := Ctx.perm cx hsw.symm
      have hil := idxL_len 0 acc
      obtain ⟨p', cap', w', hr, _, cx3⟩ := cx2.app1 (ts := 74) (ty := 74) (kb := #[false, false]) (bytes := 32) (P := Tryz.prog) (by kernel_rfl) (by omega) rfl rfl (by omega) (by omega)
      have ea : (acc ++ [(⟨keyT st, valT st⟩ : PairD)]).length = acc.length + 1 := by rw [List.length_append]; rfl
      have eb : cellsE (idxL 0 acc) ++ [Value.string (keyT st), Value.string (valT st)] = cellsE (idxL 0 (acc ++ [(⟨keyT st, valT st⟩ : PairD)])) := by
        rw [idxL_app, cellsE_app]
        rfl
      rw [hil] at hr
      have cx4 : Ctx W w' (rd b (nextT st) :: tabO p' cap' (acc ++ [(⟨keyT st, valT st⟩ : PairD)]) :: (B :: S ++ G)) Φ1 := by
        have h6 := cx3.swap
        rw [eb, hil] at h6
        show Ctx W w' (rd b (nextT st) :: Own.buf p' (idxL 0 (acc ++ [(⟨keyT st, valT st⟩ : PairD)])).length cap' (cellsE (idxL 0 (acc ++ [(⟨keyT st, valT st⟩ : PairD)]))) _ 2 :: (B :: S ++ G)) Φ1
        rw [idxL_len, ea]
        exact h6
      refine ⟨p', _, cap', w', hr, rd b (nextT st) :: tabO p' cap' (acc ++ [(⟨keyT st, valT st⟩ : PairD)]) :: B :: S, Φ1, inferInstance, cx4, _, Φ1, N.toNat - (acc.length + 1), inferInstance, fun w G cx => cx, ⟨acc ++ [(⟨keyT st, valT st⟩ : PairD)], nextT st, by rw [ea], ?_, by rw [ea]; omega, by rw [ea]; omega, fun x hx => ?_, rfl, rfl, by rw [ea]⟩, by omega⟩
      · rw [ea, show N.toNat - (acc.length + 1) = m by omega]
        exact hK
      · rcases List.mem_append.1 hx with hx | hx
        · exact hsz x hx
        · rw [List.mem_singleton.1 hx]
          exact ⟨by show (keyT st).size ≤ _; omega, by show (valT st).size ≤ _; omega⟩
  · have hge : N.toNat - acc.length = 0 := by have := of_decide_eq_false hge; omega
    rw [hge, show pairsK 0 st acc = some (acc, st) from rfl] at hK
    rw [← hK] at h0 h1
    simp only at h0 h1
    have drop : ∀ (w : World) (G : List Own), Ctx W w (rd b st :: tabO p c acc :: B :: S ++ G) Φ1 → Ctx W w S Φ1 := fun w G cx => by
      have cx2 : Ctx W w (S ++ G) Φ1 := cx.drop1.drop1.drop1
      exact cx2.left
    refine Done_to cx ?_
    refine Br.intro (fun hd => fun w G cx => h0 w (if_neg fun h => by rw [h.1.1] at hd; cases hd) (drop w G cx)) (fun hd => fun w G cx => ⟨sq, by rw [← hB] at cx; exact cx.get 2 rfl rfl, Br.intro (fun hn => fun w G cx => h0 w (if_neg fun h => by have := of_decide_eq_true hn; omega) (drop w G cx)) (fun hn => fun w G cx => ⟨sq, by rw [← hB] at cx; exact cx.get 2 rfl rfl, Br.intro (fun hx => fun w G cx => h0 w (if_neg fun h => by have := of_decide_eq_true hx; omega) (drop w G cx)) (fun hx => fun w G cx => ⟨sq, by rw [← hB] at cx; exact cx.get 2 rfl rfl, fun w G cx => ⟨by rw [← hB] at cx; exact cx.can 2 rfl (by show 0 + 4 + 1 ≤ 5; omega), fun w' hw' => ?_⟩⟩)⟩)⟩)
    have hn := of_decide_eq_false hn
    have hx := of_decide_eq_false hx
    have hd : rdDone st = true := by cases hr : rdDone st with
      | true => rfl
      | false => rw [hr] at hd; cases hd
    rw [← hB] at cx
    have cx1 := cx.put 2 hw' rfl
    have hel : restS sq acc = ⟨[], addAt 1 [] acc, sq, [], sq⟩ := rfl
    refine ⟨rd b st :: tabO p c acc :: Own.blk kb [.slice none 0 0, .slice none 0 0, .int .i64 sq, .slice none 0 0, .int .i64 sq] 77 :: S, Φ1, inferInstance, cx1, fun w G cx => ?_⟩
    have cx2 := cx.drop1
    have hz1 : Szs acc := fun x hx => by have := hsz x hx; unfold maxLen; omega
    obtain ⟨c1, c2, c3⟩ := freezeE (S := Own.blk kb [.slice none 0 0, .slice none 0 0, .int .i64 sq, .slice none 0 0, .int .i64 sq] 77 :: S ++ G) cx2 (by rw [idxL_d]; exact hz1)
    rw [idxL_d] at c1 c2
    have st1 : Stable (fun M w => Φ1 M w ∧ Sl M w p acc) := instStableAnd Φ1 (fun M w => Sl M w p acc)
    have c4 := ((c1.nobuf 84 1).swap).weak (Ψ := fun M w => (Φ1 M w ∧ Sl M w p acc) ∧ LBE [] M w) fun M w h => ⟨h, fun x hx => by cases hx⟩
    refine add_use (Φ := fun M w => Φ1 M w ∧ Sl M w p acc) (hR := ⟨fun M w h => h.2⟩) (i := 1) (sb := kb) (tS := 77) (a := .slice none 0 0) (lp := none) (lc := 0) (c := .int .i64 sq) (d := .slice none 0 0) (e := .int .i64 sq) (bs := []) (S := S ++ G) c2 c3 (by omega) (by simp) (fun x hx => by cases hx) c4 fun lp' lc' bs' w' hb' cx5 => ?_
    have stL : Stable (fun M w => (Φ1 M w ∧ Sl M w p acc) ∧ LBE bs' M w) := instStableAnd (fun M w => Φ1 M w ∧ Sl M w p acc) (LBE bs')
    refine ⟨rfl, stA kb 77 (.slice none 0 0) lp' lc' (.int .i64 sq) (.slice none 0 0) (.int .i64 sq) bs' S, _, stL, cx5.re (by unfold stA; simp only [List.append_assoc, List.cons_append]), fun w G cx => ?_⟩
    have cx6 := (cx.left.nobuf 46 3).nobuf 69 2
    refine h1 ⟨kb, none, 0, lp', lc', bs', none, 0, []⟩ (restS sq acc) w (if_pos ⟨⟨hd, by omega⟩, by omega⟩) ⟨hb', fun x hx => by cases hx⟩ ((cx6.perm ?_).weak fun M w h => ⟨h.1.1, Elems.nil, h.2⟩)
    unfold stO stA
    show (Own.buf none 0 0 [] 69 2 :: Own.buf none 0 0 [] 46 3 :: (Own.blk kb [.slice none 0 0, .slice lp' bs'.length lc', .int .i64 sq, .slice none 0 0, .int .i64 sq] 77 :: Own.buf lp' bs'.length lc' (bs'.map LB.cell) 84 1 :: (bs'.map LB.own ++ S))).Perm (Own.blk kb [.slice none 0 0, .slice lp' bs'.length lc', .int .i64 sq, .slice none 0 0, .int .i64 sq] 77 :: Own.buf lp' bs'.length lc' (bs'.map LB.cell) 84 1 :: (bs'.map LB.own ++ (Own.buf none 0 0 [] 69 2 :: Own.buf none 0 0 [] 46 3 :: S)))
    have h := List.perm_append_comm_assoc [Own.buf none 0 0 [] 69 2, Own.buf none 0 0 [] 46 3] (Own.blk kb [.slice none 0 0, .slice lp' bs'.length lc', .int .i64 sq, .slice none 0 0, .int .i64 sq] 77 :: Own.buf lp' bs'.length lc' (bs'.map LB.cell) 84 1 :: bs'.map LB.own) S
    simp only [List.cons_append, List.nil_append, List.append_assoc] at h
    exact h
end Go.Proofs.YtebnciehcnedjaaGreatDoor
end

section
namespace Go.Proofs.YtebnciehcnedjaaGreatDoor
open Go.Vc
end Go.Proofs.YtebnciehcnedjaaGreatDoor
end

section
namespace Go.Proofs.YtebnciehcnedjaaGreatDoor
open Go.Vc
abbrev NeV (l : Run) : Prop := ∀ x ∈ l, x.val ≠ tE
theorem pairsK_succ (k : Nat) (st : RdS) (acc : Run) : pairsK (k + 1) st acc = if stopB acc st = true then none else pairsK k (nextT st) (acc ++ [⟨keyT st, valT st⟩]) := rfl
theorem pair_read {x : PairD} {t : List UInt8} (h : x.key.size ≤ 1000 ∧ x.val.size ≤ 1000) : keyT (pairL x ++ t, false) = x.key ∧ valT (pairL x ++ t, false) = x.val ∧ nextT (pairL x ++ t, false) = (t, false) := by
  have e : pairL x ++ t = (textB x.key).data.toList ++ ((textB x.val).data.toList ++ t) := by
    unfold pairL
    simp [ByteArray.data_append]
  have h1 := text_read (s := x.key) (r := (textB x.val).data.toList ++ t) (by omega)
  have h2 := text_read (s := x.val) (r := t) (by omega)
  unfold keyT valT nextT
  rw [e, h1]
  simp only
  rw [h2]
  exact ⟨trivial, rfl, rfl⟩
theorem asc_last {acc : Run} {x : PairD} {l : Run} (h : AscK (acc ++ x :: l)) (h0 : 0 < acc.length) : cmpT (lastKey acc) x.key < 0 := by
  rw [lastKey_at h0]
  exact (List.pairwise_append.1 h).2.2 _ (List.getElem_mem _) x (by simp)
theorem pairsK_read : ∀ (l acc : Run) (t : List UInt8), Fit1 l → NeV l → AscK (acc ++ l) → pairsK l.length (pairsL l ++ t, false) acc = some (acc ++ l, (t, false))
  | [], acc, t, _, _, _ => by rw [List.append_nil]; rfl
  | x :: l, acc, t, hf, hv, ha => by
    obtain ⟨h1, h2, h3⟩ := pair_read (t := pairsL l ++ t) (hf x (by simp))
    have e : pairsL (x :: l) ++ t = pairL x ++ (pairsL l ++ t) := by
      rw [show x :: l = [x] ++ l from rfl, pairsL_app, pairsL_one, List.append_assoc]
    have hs : stopB acc (pairL x ++ (pairsL l ++ t), false) = false := by
      unfold stopB
      rw [h1, h2, Bool.or_eq_false_iff, decide_eq_false_iff_not]
      refine ⟨hv x (by simp), ?_⟩
      by_cases h0 : 0 < acc.length
      · have := asc_last ha h0
        rw [decide_eq_false (show ¬ 0 ≤ cmpT (lastKey acc) x.key by omega), Bool.and_false]
      · rw [decide_eq_false (show ¬ (0 : Int) < acc.length by omega), Bool.false_and]
    rw [List.length_cons, e, pairsK_succ, if_neg (by rw [hs]; simp), h1, h2, h3, show (⟨x.key, x.val⟩ : PairD) = x from rfl, pairsK_read l (acc ++ [x]) t (fun y hy => hf y (by simp [hy])) (fun y hy => hv y (by simp [hy])) (by rw [List.append_assoc]; exact ha), List.append_assoc]
    rfl
theorem headL_app (seq : Int) (n : Nat) (t : List UInt8) : headL seq n ++ t = (intB seq).data.toList ++ ((natB n).data.toList ++ t) := by
  unfold headL
  simp [ByteArray.data_append]
theorem rest_snap {seq : Int} {l : Run} (h0 : 0 ≤ seq) (h1 : seq ≤ 1099511627776) (hf : Fit1 l) (hv : NeV l) (ha : AscK l) (hl : l.length ≤ 1000000) : restL (snapL seq l) = some (restS seq l) := by
  unfold restL snapL
  rw [headL_app, int_read (by unfold I64; omega)]
  simp only
  rw [nat_read (by omega)]
  simp only
  have h2 := pairsK_read l [] [] hf hv ha
  rw [List.append_nil, List.nil_append] at h2
  rw [Int.toNat_natCast, h2]
  exact if_pos ⟨⟨rfl, h0⟩, h1⟩
structure RestOk (seq : Int) (ps : Run) (l : List UInt8) : Prop where
  snap : snapL seq ps = l
  asc : AscK ps
  ne : NeV ps
  pos : 0 ≤ seq
  top : seq ≤ 1099511627776
  fit : ∀ x ∈ ps, x.key.size ≤ l.length ∧ x.val.size ≤ l.length
  len : ps.length ≤ l.length
theorem filt_true {l : Run} : (l.filter fun x => preP tE x.key) = l := by
  rw [List.filter_eq_self]
  intro x _
  unfold preP
  rw [Bool.and_eq_true, decide_eq_true_eq, decide_eq_true_eq]
  refine ⟨by show (0 : Int) ≤ _; omega, ?_⟩
  show x.key.extract 0 0 = _
  apply ByteArray.ext
  simp [ByteArray.data_extract]
theorem scan_all (s : StD) : scanS s tE = allS s := filt_true
theorem rest_ver (seq : Int) (ps : Run) : verP (restS seq ps) = ps := by
  show [] ++ allRuns (addAt 1 [] ps) = ps
  rw [addAt_nil, List.nil_append]
  unfold allRuns
  by_cases e : ps = []
  · rw [if_pos e, e]; rfl
  · rw [if_neg e]; simp
theorem rest_i {seq : Int} {ps : Run} (ha : AscK ps) : StI (restS seq ps) := by
  have e : (restS seq ps).levels = [[], if ps = [] then [] else [ps]] := addAt_nil 1 ps
  refine ⟨.nil, by show 0 < 8; decide, ?_, ?_⟩
  · rw [e]
    by_cases h : ps = []
    · rw [if_pos h]
      have no : ∀ l ∈ ([[], []] : List Lev), ∀ r ∈ l, False := fun l hl r hr => by
        simp at hl
        rw [hl] at hr
        cases hr
      exact ⟨fun l hl r hr => (no l hl r hr).elim, fun l hl r hr => (no l hl r hr).elim⟩
    · rw [if_neg h]
      refine ⟨fun l hl r hr => ?_, fun l hl r hr => ?_⟩
      · simp at hl
        rcases hl with rfl | rfl
        · cases hr
        · rw [List.mem_singleton.1 hr]; exact ha
      · simp at hl
        rcases hl with rfl | rfl
        · cases hr
        · rw [List.mem_singleton.1 hr]; exact h
  · rw [e]
    intro l hl
    simp at hl
    rcases hl with rfl | rfl
    · decide
    · split <;> simp
theorem rest_l (seq : Int) (ps : Run) : StL (restS seq ps) := ⟨Int.le_refl _, by show ((0 : Nat) : Int) = seq - seq; omega, fun j h => by cases h⟩
end Go.Proofs.YtebnciehcnedjaaGreatDoor
end

section
namespace Go.Proofs.YtebnciehcnedjaaGreatDoor
open Go.Vc
def andZ (a m : Int) : Int := IntKind.i64.wrap (BitVec.ofInt 64 a &&& BitVec.ofInt 64 m).toNat
theorem and_run (a m : Int) (w : World) : Sem.run Tryz.prog (binOp BinOp.and 3 (.int .i64 a) (.int .i64 m)) w = .ok (.int .i64 (andZ a m)) w := rfl
structure OpD where
  dop : Int
  n : Int
  key : ByteArray
  val : ByteArray
instance : Gv OpD := Gv.via (β := Int × Int × ByteArray × ByteArray) (fun x => (x.dop, x.n, x.key, x.val)) (fun y => ⟨y.1, y.2.1, y.2.2.1, y.2.2.2⟩) (fun _ => rfl)
abbrev OpD.cells (x : OpD) : List Value := [.int .i64 x.dop, .int .i64 x.n, .string x.key, .string x.val]
abbrev OpD.v (x : OpD) : Value := .agg #[.int .i64 x.dop, .int .i64 x.n, .string x.key, .string x.val]
def stepS (s : StD) (x : OpD) : StD × Int :=
  if andZ x.dop 7 = 5 then (trimS s x.n, 0)
  else if andZ x.dop 7 = 6 then ((applyS s x.n x.key x.val).2, (applyS s x.n x.key x.val).1)
  else if andZ x.dop 7 = 7 then (if andZ x.n 1 = 0 then (s, 0) else (restS s.seq (allS s), 0))
  else (putS s x.key x.val, 0)
structure StB (top : Int) (s : StD) (n : Nat) : Prop where
  i : StI s
  l : StL s
  c : StS s n
  f : Fit1 (verP s)
  lo : 0 ≤ s.seq
  hi : s.seq ≤ top + n
theorem new_b : StB 0 stNew 0 := ⟨new_i, new_l, ⟨by show cntL [] ≤ _; decide, by show 0 ≤ 0; decide, by show 0 ≤ 0; decide, by show I64 1; unfold I64; decide⟩, fun x hx => (by cases hx), by show (0 : Int) ≤ 0; decide, by show (0 : Int) ≤ 0 + 0; decide⟩
theorem StB.more {top : Int} {s : StD} {n : Nat} (h : StB top s n) : StB top s (n + 1) :=
  ⟨h.i, h.l, ⟨by have := h.c.cnt; omega, by have := h.c.ver; omega, by have := h.c.log; omega, h.c.seq⟩, h.f, h.lo, by have := h.hi; omega⟩
theorem put_b {top : Int} (ht : 0 ≤ top ∧ top ≤ 1099511627776) {s : StD} {n : Nat} (hn : n ≤ 1000) (h : StB top s n) {k v : ByteArray} (hk : k.size ≤ 1000) (hv : v.size ≤ 1000) : StB top (putS s k v) (n + 1) := by
  have h1 := h.hi
  have h2 := h.lo
  refine ⟨put_i h.i k v, put_l h.l k v, put_s h.c k v (by unfold I64; omega), fun x hx => ?_, by show 0 ≤ s.seq + 1; omega, by show s.seq + 1 ≤ top + ((n + 1 : Nat) : Int); omega⟩
  rcases put_mem x hx with rfl | hx
  · exact ⟨hk, hv⟩
  · exact h.f x hx
theorem trim_b {top : Int} {s : StD} {n : Nat} (h : StB top s n) (m : Int) : StB top (trimS s m) n :=
  ⟨⟨h.i.tab, h.i.few, h.i.lev, h.i.four⟩, trim_l h.l m, ⟨h.c.cnt, h.c.ver, by
    have := h.c.log
    show (s.log.drop _).length ≤ n
    rw [List.length_drop]; omega, h.c.seq⟩, h.f, h.lo, h.hi⟩
theorem all_sub {s : StD} : (allS s).length ≤ (verP s).length ∧ ∀ x ∈ allS s, x ∈ verP s :=
  ⟨Nat.le_trans (List.length_filter_le _ _) (normK_len _), fun x hx => normK_mem x (List.mem_filter.1 hx).1⟩
theorem restS_b {top : Int} {s : StD} {n : Nat} (h : StB top s n) : StB top (restS s.seq (allS s)) (n + 1) := by
  have h1 := (all_sub (s := s)).1
  have h2 := h.c.ver
  have e : (restS s.seq (allS s)).levels = [[], if allS s = [] then [] else [allS s]] := addAt_nil 1 _
  refine ⟨rest_i (all_asc s), rest_l _ _, ⟨?_, by rw [rest_ver]; omega, Nat.zero_le _, h.c.seq⟩, fun x hx => ?_, h.lo, by have := h.hi; show s.seq ≤ top + ((n + 1 : Nat) : Int); omega⟩
  · rw [e]
    by_cases hn : allS s = []
    · rw [if_pos hn]
      show 2 ≤ _
      omega
    · rw [if_neg hn]
      have : 0 < (allS s).length := Nat.pos_of_ne_zero fun h0 => hn (List.eq_nil_of_length_eq_zero h0)
      show 3 ≤ _
      omega
  · rw [rest_ver] at hx
    exact h.f x (all_sub.2 x hx)
theorem step_b {top : Int} (ht : 0 ≤ top ∧ top ≤ 1099511627776) {s : StD} {n : Nat} (hn : n ≤ 1000) (h : StB top s n) {x : OpD} (hk : x.key.size ≤ 1000) (hv : x.val.size ≤ 1000) : StB top (stepS s x).1 (n + 1) := by
  unfold stepS
  split
  · exact (trim_b h x.n).more
  · split
    · show StB top (applyS s x.n x.key x.val).2 (n + 1)
      unfold applyS
      split
      · exact put_b ht hn h hk hv
      · exact h.more
    · split
      · split
        · exact h.more
        · exact restS_b h
      · exact put_b ht hn h hk hv
section
variable {top : Int} {s : StD} {n : Nat}
theorem StB.levels (h : StB top s n) : s.levels.length ≤ 2 * n ∧ s.levels.flatten.length ≤ 2 * n ∧ ∀ l ∈ s.levels, l.length ≤ 2 * n := by
  have h1 := h.c.cnt
  unfold cntL at h1
  have h2 : s.levels.flatten.length = (s.levels.map List.length).sum := List.length_flatten
  refine ⟨by omega, by omega, fun l hl => ?_⟩
  have := List.sublist_flatten_of_mem hl |>.length_le
  omega
theorem StB.szs (h : StB top s n) : Szs (verP s) := fun x hx => by have := h.f x hx; unfold maxLen; omega
end
set_option maxHeartbeats 2000000 in
theorem do_use {W w : World} {S : List Own} {Φ : PW} [Stable Φ] (hΦ : ∀ M w, Φ M w → NumI M w) {q : TO} {s : StD} {n : Nat} (hq : StQ q s) (hB : StB 0 s n) (hn : n ≤ 400) {x : OpD} (hk : x.key.size ≤ 1000) (hv : x.val.size ≤ 1000)
    (cx : Ctx W w (stO q s S) (fun M w => Φ M w ∧ stF q s M w)) {K : Ending → World → Prop}
    (hK : ∀ q' w', StQ q' (stepS s x).1 → Ctx W w' (stO q' (stepS s x).1 S) (fun M w => Φ M w ∧ stF q' (stepS s x).1 M w) → K (.returned (.tuple #[.pointer (some ⟨q'.sb, 0, none⟩), .int .i64 (stepS s x).2])) w') :
    Calls Tryz.prog F.erratalaw29_do #[.pointer (some ⟨q.sb, 0, none⟩), x.v] w K := by
  have hlv := hB.levels
  have hver := hB.c.ver
  have hlog := hB.c.log
  have st0 : ∀ (q : TO) (s : StD), Stable (fun M w => Φ M w ∧ stF q s M w) := fun q s => instStableAnd Φ (fun M w => Elems M w q.gs s.log ∧ LBE q.bs M w)
  have hst := st0 q s
  have eS : ∀ (q : TO) (s : StD) (G : List Own), stO q s S ++ G = stO q s (S ++ G) := fun q s G => by unfold stO stA; simp only [List.append_assoc, List.cons_append]
  refine (Berratalaw29_do_run q.sb 0 x.dop x.n x.key x.val (J := fun u w' => K (.returned u) w') cx ?_).mono fun e w' ⟨v, he, hj⟩ => by rw [he]; exact hj
  clear cx
  unfold stepS at hK
  refine fun _ => ⟨andZ x.dop 7, fun w => and_run _ _ _, Br.intro (fun h5 => fun w G cx => ?_) (fun h5 => Br.intro (fun h6 => fun w G cx => ?_) (fun h6 => Br.intro (fun h7 => ⟨andZ x.n 1, fun w => and_run _ _ _, Br.intro (fun h1 => fun w G cx => ?_) (fun h1 => fun w G cx => ?_)⟩) (fun h7 => fun w G cx => ?_)))⟩
  · rw [if_pos (of_decide_eq_true h5)] at hK
    refine trim_use (S := S ++ G) hq hB.l (by omega) (cx.re (eS q s G)) fun q' w' hb hq' cx2 => ⟨rfl, stO q' (trimS s x.n) S, _, st0 q' _, cx2.re (eS q' _ G).symm, fun w G cx => ?_⟩
    have h := hK q' w hq' cx.left
    rw [hb] at h
    exact h
  · rw [if_neg (of_decide_eq_false h5), if_pos (of_decide_eq_true h6)] at hK
    refine apply_use (S := S ++ G) hq hB.i hB.c hn (by unfold maxLen; omega) (by unfold maxLen; omega) (cx.re (eS q s G)) fun q' w' hb hq' cx2 => ⟨_, rfl, stO q' (applyS s x.n x.key x.val).2 S, _, st0 q' _, cx2.re (eS q' _ G).symm, fun w G cx => ?_⟩
    have h := hK q' w hq' cx.left
    rw [hb] at h
    exact h
  · rw [if_neg (of_decide_eq_false h5), if_neg (of_decide_eq_false h6), if_pos (of_decide_eq_true h7), if_pos (of_decide_eq_true h1)] at hK
    have hb := st_bufs (S := S ++ G) (cx.re (eS q s G))
    have hC := st_caps (S := S ++ G) hq (cx.re (eS q s G))
    have cx1 := ((cx.re (eS q s G)).re (stO_app q s (S ++ G))).aside
    have hst2 : Stable (Aside W (stO q s []) (fun M w => Φ M w ∧ stF q s M w)) := instStableAside W _ _
    have hz := hB.szs
    refine Copy_use (hΦ := ⟨fun M w h => st_reads hq hb h⟩) hC (fun x hx => hz x (List.mem_append_left _ hx)) (by have := hB.i.few; omega) (by omega) (by omega) (fun l hl => by have := hlv.2.2 l hl; omega) cx1 fun q2 w' hq2 cx2 => ?_
    have cx3 := cx2.weak (Ψ := fun M w => Φ M w ∧ stF q2 s M w) fun M w h => ⟨h.1.less.1, h.2⟩
    exact ⟨_, rfl, stO q2 s S, _, st0 q2 s, cx3.re (eS q2 s G).symm, fun w G cx => hK q2 w hq2 cx.left⟩
  · rw [if_neg (of_decide_eq_false h5), if_neg (of_decide_eq_false h6), if_pos (of_decide_eq_true h7), if_neg (of_decide_eq_false h1)] at hK
    have hC := st_caps (S := S ++ G) hq (cx.re (eS q s G))
    refine look (S := S ++ G) hq (v := .string (snapB s)) (cx.re (eS q s G)) (fun Ψ h1 h2 h3 => Snapshot_in (hΦ := h2) (fun M w h => (hΦ M w (h3.go M w h)).1) hC (by omega) (by omega) (by omega) hB.f (by have := hB.c.seq; have := hB.lo; have := hB.hi; unfold I64 at *; omega)) fun w' cx2 => ⟨_, rfl, stO q s S, _, hst, cx2.re (eS q s G).symm, fun w G cx => ?_⟩
    have hsc : scanS s tE = allS s := scan_all s
    have hsn : snapB s = bs (snapL s.seq (allS s)) := by unfold snapB; rw [hsc]; rfl
    have ha := all_sub (s := s)
    have hfit : Fit1 (allS s) := fun x hx => hB.f x (ha.2 x hx)
    have hrest : restL (snapL s.seq (allS s)) = some (restS s.seq (allS s)) := rest_snap hB.lo (by have := hB.hi; omega) hfit (all_ne s) (all_asc s) (by omega)
    have hlen : (snapL s.seq (allS s)).length ≤ 1000000 := by
      have h1 := pairsL_len hfit
      have h2 := headL_len (seq := s.seq) (by have := hB.lo; have := hB.hi; unfold I64; omega) (n := (allS s).length) (by omega)
      unfold snapL
      rw [List.length_append]; omega
    rw [hsn]
    have cx3 : Ctx W w (S ++ G) Φ := (Ctx.right (S := stO q s []) ((cx.re (eS q s G)).re (stO_app q s (S ++ G)))).weak fun M w h => h.1
    refine Restore_use hΦ (snapL s.seq (allS s)) hlen cx3 (fun w' h => by rw [hrest] at h; cases h) fun q2 s2 w' hr hq2 cx4 => ?_
    rw [hrest] at hr
    cases hr
    refine ⟨_, _, rfl, stO q2 (restS s.seq (allS s)) S, _, st0 q2 _, cx4.re (eS q2 _ G).symm, Br.intro (fun h => by cases h) (fun _ => fun w G cx => hK q2 w hq2 cx.left)⟩
  · rw [if_neg (of_decide_eq_false h5), if_neg (of_decide_eq_false h6), if_neg (of_decide_eq_false h7)] at hK
    refine put_use (S := S ++ G) hq hB.i hB.c hn (by unfold maxLen; omega) (by unfold maxLen; omega) (cx.re (eS q s G)) fun q' w' hb hq' cx2 => ⟨rfl, stO q' (putS s x.key x.val) S, _, st0 q' _, cx2.re (eS q' _ G).symm, fun w G cx => ?_⟩
    have h := hK q' w hq' cx.left
    rw [hb] at h
    exact h
end Go.Proofs.YtebnciehcnedjaaGreatDoor
end

section
namespace Go.Proofs.YtebnciehcnedjaaGreatDoor
open Go.Vc
theorem op_cells {M : List Nat} {w : World} {cs : List Value} {x : OpD} (h : Gv.rep M w cs x) : cs = x.cells ∧ x.key.size ≤ maxLen ∧ x.val.size ≤ maxLen := by
  obtain ⟨_, _, rfl, ⟨rfl, _⟩, _, _, rfl, ⟨rfl, _⟩, _, _, rfl, ⟨rfl, h1⟩, rfl, h2⟩ := h
  exact ⟨rfl, h1, h2⟩
theorem sl_op {M : List Nat} {w : World} {b o : Nat} {l : List OpD} (h : Sl M w (some ⟨b, o, none⟩) l) {j : Nat} (hj : j < l.length) : RowAt w b (o + j * 4) l[j].cells := by
  obtain ⟨b', o', cs, e, _, h3, h4⟩ := h j hj
  cases e
  obtain ⟨rfl, _⟩ := op_cells h4
  exact h3
def fewP (x : OpD) : Bool := decide ((x.key.size : Int) ≤ 20) && decide ((x.val.size : Int) ≤ 20)
def fewO (l : List OpD) (n : Int) : Bool := decide ((l.length : Int) ≤ n) && l.all fewP
theorem fewO_len {l : List OpD} {n : Int} (h : fewO l n = true) : (l.length : Int) ≤ n := of_decide_eq_true ((Bool.and_eq_true _ _).mp h).1
theorem fewO_fit {l : List OpD} {n : Int} (h : fewO l n = true) : ∀ x ∈ l, x.key.size ≤ 1000 ∧ x.val.size ≤ 1000 := fun x hx => by
  have h1 := List.all_eq_true.1 ((Bool.and_eq_true _ _).mp h).2 x hx
  unfold fewP at h1
  rw [Bool.and_eq_true] at h1
  have h2 := of_decide_eq_true h1.1
  have h3 := of_decide_eq_true h1.2
  omega
theorem few_in {Φ : PW} [Stable Φ] {p : Option Addr} {cap : Nat} {l : List OpD} {n : Int} (hΦ : ∀ M w, Φ M w → Sl M w p l) (hl : l.length ≤ maxLen) : GivesIn Φ Tryz.prog F.erratalaw29_few #[.slice p l.length cap, .int .i64 n] (.bool (fewO l n)) := by
  refine .there (fun M w h => (hΦ M w h).there) fun hth => ?_
  refine gives_in (Berratalaw29_few_run p l.length cap n) fun W R => ?_
  refine exI_mk (fun iI R' Φ' k => ∃ i : Nat, iI = i ∧ i ≤ l.length ∧ (l.take i).all fewP = true ∧ R' = R ∧ Φ' = Φ ∧ k = l.length - i) ⟨⟨R, Φ, _, inferInstance, fun w G cx => cx, 0, rfl, Nat.zero_le _, rfl, rfl, rfl, rfl⟩, ?_⟩
  rintro iI R1 Φ1 k _ ⟨i, rfl, hi, hs, rfl, rfl, rfl⟩
  refine Br.intro (fun hlt => ?_) (fun hge => fun w G cx => ?_)
  · have hlt : i < l.length := by have := of_decide_eq_true hlt; omega
    obtain ⟨g, o, rfl⟩ := hth (by omega)
    refine fun w G cx => ⟨⟨by omega, by omega⟩, ptrK_intro g o rfl ⟨l[i].key, ?_, fun _ => ⟨by omega, by omega⟩, ptrK_intro g o rfl ⟨l[i].val, fun _ => ?_, Br.intro (fun hb => fun w G cx => ⟨?_, cx.left⟩) (fun hb => ⟨by unfold I64; unfold maxLen at hl; omega, R1, Φ1, l.length - (i + 1), inferInstance, fun w G cx => cx, ⟨i + 1, rfl, hlt, ?_, rfl, rfl, rfl⟩, by omega⟩)⟩⟩⟩
    · rw [Int.toNat_natCast]; exact sl_op (hΦ _ _ cx.phi) hlt 2 (by show 2 < 4; decide)
    · rw [Int.toNat_natCast]; exact sl_op (hΦ _ _ cx.phi) hlt 3 (by show 3 < 4; decide)
    · have : fewP l[i] = false := by
        unfold fewP
        rw [Bool.or_eq_true] at hb
        rcases hb with hb | hb
        · have := of_decide_eq_true hb
          rw [decide_eq_false (show ¬ (l[i].key.size : Int) ≤ 20 by omega)]; rfl
        · have := of_decide_eq_true hb
          rw [decide_eq_false (show ¬ (l[i].val.size : Int) ≤ 20 by omega), Bool.and_false]
      unfold fewO
      rw [List.all_eq_false.2 ⟨l[i], List.getElem_mem _, by rw [this]; simp⟩, Bool.and_false]
    · rw [Bool.or_eq_false_iff] at hb
      have h1 := of_decide_eq_false hb.1
      have h2 := of_decide_eq_false hb.2
      have : fewP l[i] = true := by
        unfold fewP
        rw [decide_eq_true (show (l[i].key.size : Int) ≤ 20 by omega), decide_eq_true (show (l[i].val.size : Int) ≤ 20 by omega)]; rfl
      rw [List.take_succ_eq_append_getElem hlt, List.all_append, hs]
      simp [this]
  · have hge : i = l.length := by have := of_decide_eq_false hge; omega
    subst hge
    rw [List.take_length] at hs
    refine ⟨?_, cx.left⟩
    unfold fewO
    rw [hs, Bool.and_true]
def digB (n : Nat) : ByteArray := ⟨[UInt8.ofNat (48 + n / 10 % 10), UInt8.ofNat (48 + n % 10)].toArray⟩
theorem wrap_dig2 (d : Nat) (h : d < 10) : IntKind.u8.wrap (48 + (d : Int)) = ((UInt8.ofNat (48 + d)).toNat : Int) := by
  have e : (UInt8.ofNat (48 + d)).toNat = 48 + d := by
    rw [UInt8.toNat_ofNat']
    exact Nat.mod_eq_of_lt (by omega)
  rw [e]
  simp [IntKind.wrap, IntKind.signed, IntKind.bits]
  omega
theorem digits29_g (n : Nat) (hn : n ≤ 1000) : Gives Tryz.prog F.erratalaw29_digits #[.int .i64 (n : Int)] (.string (digB n)) := by
  refine gives_of (Berratalaw29_digits_run (n : Int)) fun W R Φ hs => ?_
  have e0 : ((n : Int).tdiv 10).tmod 10 = ((n / 10 % 10 : Nat) : Int) := by rw [Int.tdiv_eq_ediv_of_nonneg (by omega), Int.tmod_eq_emod_of_nonneg (by omega)]; omega
  have e1 : (n : Int).tmod 10 = ((n % 10 : Nat) : Int) := by rw [Int.tmod_eq_emod_of_nonneg (by omega)]; omega
  have e2 : (n : Int).tdiv 10 = ((n / 10 : Nat) : Int) := by rw [Int.tdiv_eq_ediv_of_nonneg (by omega)]; omega
  refine ⟨by omega, by rw [e2]; unfold I64; omega, by omega, by rw [e0]; unfold I64; omega, by omega, by rw [e1]; unfold I64; omega, fun k w G cx => ?_⟩
  rw [e0, e1, wrap_dig2 _ (by omega), wrap_dig2 _ (by omega)] at cx
  have hcell : ∀ j, (hj : j < [UInt8.ofNat (48 + n / 10 % 10), UInt8.ofNat (48 + n % 10)].length) → w.cell? ((⟨k, 0, none⟩ : Addr).add j) = some (.int .u8 ([UInt8.ofNat (48 + n / 10 % 10), UInt8.ofNat (48 + n % 10)][j].toNat : Int)) := fun j hj => by
    match j, hj with
    | 0, _ => exact cx.get 0 rfl rfl
    | 1, _ => exact cx.get 0 rfl rfl
  exact ⟨_, _, run_convert_bytes_back w 87 9 5 ⟨k, 0, none⟩ 2 [UInt8.ofNat (48 + n / 10 % 10), UInt8.ofNat (48 + n % 10)] (by kernel_rfl) (by kernel_rfl) (by kernel_rfl) hcell, R, Φ, hs, cx.drop1, fun w G cx => ⟨rfl, cx.left⟩⟩
def settleF : Nat → List Lev → List Lev
  | 0, _ => []
  | _ + 1, [] => []
  | n + 1, l :: t => if l.length < 4 then l :: settleF n t else [] :: settleF n (addL t (pushR l t))
theorem settleF_eq : ∀ (n : Nat) (ls : List Lev), cntL ls < n → settleL ls = settleF n ls
  | 0, _, h => by omega
  | n + 1, [], _ => by rw [settleL_nil]; rfl
  | n + 1, l :: t, h => by
    have hc : cntL (l :: t) = l.length + 1 + cntL t := by unfold cntL; simp; omega
    show _ = if l.length < 4 then l :: settleF n t else [] :: settleF n (addL t (pushR l t))
    by_cases h4 : l.length < 4
    · rw [settleL_less h4, if_pos h4, settleF_eq n t (by omega)]
    · have ha := addL_cnt t (pushR l t)
      rw [settleL_more h4, if_neg h4, settleF_eq n (addL t (pushR l t)) (by omega)]
def putF (s : StD) (k v : ByteArray) : StD :=
  let t := putK ⟨k, v⟩ s.table
  ⟨if t.length = 8 then [] else t, settleF 100 (if t.length = 8 then addL s.levels t else s.levels), s.seq + 1, s.log ++ [⟨s.seq + 1, k, v⟩], s.cut⟩
theorem putF_eq {s : StD} (h : cntL s.levels ≤ 90) (k v : ByteArray) : putS s k v = putF s k v := by
  have h2 := addL_cnt s.levels (putK ⟨k, v⟩ s.table)
  have h3 : cntL (if (putK ⟨k, v⟩ s.table).length = 8 then addL s.levels (putK ⟨k, v⟩ s.table) else s.levels) < 100 := by split <;> omega
  have e := settleF_eq 100 _ h3
  show (⟨if (putK ⟨k, v⟩ s.table).length = 8 then [] else putK ⟨k, v⟩ s.table, settleL (if (putK ⟨k, v⟩ s.table).length = 8 then addL s.levels (putK ⟨k, v⟩ s.table) else s.levels), s.seq + 1, s.log ++ [⟨s.seq + 1, k, v⟩], s.cut⟩ : StD) = _
  rw [e]
  rfl
abbrev tA : ByteArray := ByteArray.mk #[97]
abbrev tB : ByteArray := ByteArray.mk #[98]
abbrev t1 : ByteArray := ByteArray.mk #[49]
abbrev t2 : ByteArray := ByteArray.mk #[50]
abbrev tX : ByteArray := ByteArray.mk #[120]
def exS : StD := putS (putS (putS stNew tA t1) tB t2) tA tE
def exF : StD := putF (putF (putF stNew tA t1) tB t2) tA tE
def exT : Nat → StD
  | 0 => stNew
  | i + 1 => putS (exT i) (digB i) tX
def exTF : Nat → StD
  | 0 => stNew
  | i + 1 => putF (exTF i) (digB i) tX
theorem exT_b : ∀ i, i ≤ 100 → StB 0 (exT i) i
  | 0, _ => new_b
  | i + 1, h => put_b ⟨by decide, by decide⟩ (by omega) (exT_b i (by omega)) (by show 2 ≤ _; decide) (by show 1 ≤ _; decide)
theorem exT_eq : ∀ i, i ≤ 45 → exT i = exTF i
  | 0, _ => rfl
  | i + 1, h => by
    have hb := (exT_b i (by omega)).c.cnt
    show putS (exT i) (digB i) tX = putF (exTF i) (digB i) tX
    rw [putF_eq (by omega), exT_eq i (by omega)]
theorem exS_b1 : StB 0 (putS stNew tA t1) 1 := put_b ⟨by decide, by decide⟩ (by decide) new_b (by show 1 ≤ _; decide) (by show 1 ≤ _; decide)
theorem exS_b2 : StB 0 (putS (putS stNew tA t1) tB t2) 2 := put_b ⟨by decide, by decide⟩ (by decide) exS_b1 (by show 1 ≤ _; decide) (by show 1 ≤ _; decide)
theorem exS_b : StB 0 exS 3 := put_b ⟨by decide, by decide⟩ (by decide) exS_b2 (by show 1 ≤ _; decide) (by show 0 ≤ _; decide)
theorem exS_eq : exS = exF := by
  have h1 := exS_b1.c.cnt
  have h2 := exS_b2.c.cnt
  unfold exS exF
  rw [putF_eq (by omega), putF_eq (by omega), putF_eq (by show 0 ≤ 90; omega)]
theorem ex_scan : scanS exS tE = [⟨tB, t2⟩] := by rw [exS_eq]; decide +kernel
theorem ex_log : exS.log.map (fun x => x.seq) = [1, 2, 3] := by rw [exS_eq]; decide +kernel
theorem ex_ver : (verP exS).length = 2 ∧ exS.seq = 3 ∧ exS.cut = 0 := by rw [exS_eq]; decide +kernel
theorem ex_runs : runsL (exT 32) = [[], [32]] := by rw [exT_eq 32 (by decide)]; decide +kernel
end Go.Proofs.YtebnciehcnedjaaGreatDoor
end

section
namespace Go.Proofs.YtebnciehcnedjaaGreatDoor
open Go.Vc
theorem stO_re (q : TO) (s : StD) (S G : List Own) : stO q s S ++ G = stO q s (S ++ G) := by unfold stO stA; simp only [List.append_assoc, List.cons_append]
instance instStableSt (Φ : PW) [Stable Φ] (q : TO) (s : StD) : Stable (fun M w => Φ M w ∧ stF q s M w) := instStableAnd Φ (fun M w => Elems M w q.gs s.log ∧ LBE q.bs M w)
theorem st_two (a : TO) (s : StD) (b : TO) (t : StD) (S : List Own) : (stO a s (stO b t S)).Perm (stO b t (stO a s S)) := by
  rw [stO_app a s (stO b t S), stO_app b t (stO a s S), stO_app b t S, stO_app a s S]
  exact List.perm_append_comm_assoc _ _ _
theorem lay {W w : World} {S : List Own} {Φ : PW} [Stable Φ] {q : TO} {s : StD} (hq : StQ q s) (cx : Ctx W w (stO q s S) (fun M w => Φ M w ∧ stF q s M w)) :
    ∃ Ψ : PW, Stable Ψ ∧ (∀ M w, Ψ M w → Φ M w) ∧ (∀ M w, Ψ M w → StR q s M w) ∧ StC q s ∧ (∀ (S : List Own) (w : World), Ctx W w S Ψ → Ctx W w (stO q s S) (fun M w => Φ M w ∧ stF q s M w)) ∧ (∀ (S : List Own) (w : World), Ctx W w (stO q s S) (fun M w => Φ M w ∧ stF q s M w) → Ctx W w S Ψ) :=
  ⟨Aside W (stO q s []) (fun M w => Φ M w ∧ stF q s M w), instStableAside W _ _, fun M w h => h.less.1, fun M w h => st_reads hq (st_bufs cx) h, st_caps hq cx, fun S w c => c.unaside.re (stO_app q s S).symm, fun S w c => (c.re (stO_app q s S)).aside⟩
theorem put_at {W w : World} {S G : List Own} {Φ : PW} [Stable Φ] {q : TO} {b : Nat} (hb : q.sb = b) {s : StD} {n : Nat} {top : Int} (hq : StQ q s) (hB : StB top s n) (hn : n ≤ 400) {k v : ByteArray} (hk : k.size ≤ 1000) (hv : v.size ≤ 1000)
    (cx : Ctx W w (stO q s S ++ G) (fun M w => Φ M w ∧ stF q s M w)) {K : List Own → PW → Prop}
    (hK : ∀ q', q'.sb = b → StQ q' (putS s k v) → K (stO q' (putS s k v) S) (fun M w => Φ M w ∧ stF q' (putS s k v) M w)) :
    Calls Tryz.prog F.store_Store_Put #[.pointer (some ⟨b, 0, none⟩), .string k, .string v] w fun e w' => e = .returned (.tuple #[]) ∧ ∃ R' Φ', Stable Φ' ∧ Ctx W w' (R' ++ G) Φ' ∧ K R' Φ' := by
  subst hb
  exact put_use (S := S ++ G) hq hB.i hB.c hn (by unfold maxLen; omega) (by unfold maxLen; omega) (cx.re (stO_re q s S G)) fun q' w' hb hq' cx2 => ⟨rfl, stO q' (putS s k v) S, _, inferInstance, cx2.re (stO_re q' _ S G).symm, hK q' hb hq'⟩
section
variable {α : Type} [Gv α]
theorem pinl {M : List Nat} {w : World} {g o : Nat} {cs : List (List Value)} {ls : List (List α)} (h : Pin g o cs ls M w) {j : Nat} (hj : j < ls.length) : ∃ p c, cs.getD j [] = [.slice p ls[j].length c] := by
  obtain ⟨_, h1, h2⟩ := h j hj
  obtain ⟨p, c, e, _⟩ := rep_list.1 h2
  exact ⟨p, c, e⟩
theorem pinl_sl {M : List Nat} {w : World} {g o : Nat} {cs : List (List Value)} {ls : List (List α)} (h : Pin g o cs ls M w) {j : Nat} (hj : j < ls.length) {p : Option Addr} {n c : Nat} (e : cs.getD j [] = [.slice p n c]) : Sl M w p ls[j] := by
  obtain ⟨_, h1, h2⟩ := h j hj
  obtain ⟨p', c', e', g1, g2, hs⟩ := rep_list.1 h2
  rw [e] at e'
  simp only [List.cons.injEq, Value.slice.injEq] at e'
  rw [e'.1.1]
  exact hs
theorem pinl_at {M : List Nat} {w : World} {g o : Nat} {cs : List (List Value)} {ls : List (List α)} (h : Pin g o cs ls M w) {j : Nat} (hj : j < ls.length) {p : Option Addr} {n c : Nat} (e : cs.getD j [] = [.slice p n c]) : w.cell? ⟨g, o + j, none⟩ = some (.slice p n c) := by
  obtain ⟨_, h1, h2⟩ := h j hj
  rw [e] at h1
  have := h1 0 (by simp)
  rw [show (Gv.ty (List α)).size = 1 from rfl, Nat.mul_one] at this
  simpa using this
end
theorem sl_int {M : List Nat} {w : World} {p : Option Addr} {l : List Int} (h : Sl M w p l) {j : Nat} (hj : j < l.length) : ∃ b o, p = some ⟨b, o, none⟩ ∧ w.cell? ⟨b, o + j, none⟩ = some (.int .i64 l[j]) := by
  obtain ⟨b', o', cs, e, _, h3, h4⟩ := h j hj
  obtain ⟨rfl, _⟩ := h4
  have := h3 0 (by simp)
  rw [show (Gv.ty Int).size = 1 from rfl, Nat.mul_one] at this
  exact ⟨b', o', e, by simpa using this⟩
theorem sl_chg {M : List Nat} {w : World} {b o : Nat} {l : List ChgD} (h : Sl M w (some ⟨b, o, none⟩) l) {j : Nat} (hj : j < l.length) : RowAt w b (o + j * 3) l[j].cells := by
  obtain ⟨b', o', cs, e, _, h3, h4⟩ := h j hj
  cases e
  obtain rfl := chgD_cells h4
  exact h3
set_option maxHeartbeats 4000000 in
theorem small29_g : Gives Tryz.prog F.erratalaw29_small #[] (.bool true) := by
  refine gives_of (Berratalaw29_small_run) fun W R Φ _ => fun w G cx => ?_
  refine New_use cx fun qs w hqs cx => ⟨_, rfl, stO qs stNew R, _, instStableSt Φ qs stNew, cx.re (stO_re _ _ _ _).symm, fun w G cx => ?_⟩
  refine New_use cx fun qt w hqt cx => ?_
  have hst : Stable (fun M w => Φ M w ∧ stF qt stNew M w) := instStableSt Φ qt stNew
  have cx1 : Ctx W w (stO qs stNew (stO qt stNew R) ++ G) (fun M w => (Φ M w ∧ stF qt stNew M w) ∧ stF qs stNew M w) := ((cx.perm (by
    rw [stO_re qs stNew R G, stO_re qs stNew _ G, stO_re qt stNew R G]
    exact st_two _ _ _ _ _)).weak fun M w h => ⟨⟨h.1.1, h.2⟩, h.1.2⟩)
  refine ⟨_, rfl, stO qs stNew (stO qt stNew R), _, instStableSt _ qs stNew, cx1, fun w G cx => Br.intro (fun h => by cases h) (fun _ => fun w G cx => ?_)⟩
  clear cx1
  refine put_at rfl hqs new_b (by decide) (by show 1 ≤ _; decide) (by show 1 ≤ _; decide) cx fun q1 hb1 hq1 => fun w G cx => ?_
  refine put_at hb1 hq1 exS_b1 (by decide) (by show 1 ≤ _; decide) (by show 1 ≤ _; decide) cx fun q2 hb2 hq2 => fun w G cx => ?_
  refine put_at hb2 hq2 exS_b2 (by decide) (by show 1 ≤ _; decide) (by show 0 ≤ _; decide) cx fun q3 hb3 hq3 => fun w G cx => ?_
  have hqS : StQ q3 exS := hq3
  have cxS : Ctx W w (stO q3 exS (stO qt stNew R ++ G)) (fun M w => (Φ M w ∧ stF qt stNew M w) ∧ stF q3 exS M w) := cx.re (stO_re _ _ _ _)
  clear cx
  obtain ⟨Ψ, stΨ, toΦ, toR, hC, _, hlay⟩ := lay hqS cxS
  have cxa := hlay _ _ cxS
  clear cxS hlay
  rw [← hb3]
  have hlv := exS_b.levels
  have hver := exS_b.c.ver
  obtain ⟨ev1, ev2, ev3⟩ := ex_ver
  have hscan := Scan_sl (Φ := Ψ) (pre := tE) (hΦ := ⟨toR⟩) hC (by omega) (by omega) (by omega) exS_b.szs (by show 0 ≤ _; omega)
  rw [ex_scan] at hscan
  refine hscan.tot cxa fun p1 c1 _ _ ht1 st1 => fun w G cx => ?_
  have hsince := Since_sl (Φ := fun M w => Ψ M w ∧ Sl M w p1 [(⟨tB, t2⟩ : PairD)]) (hΦ := ⟨fun M w h => toR M w h.1⟩) hC exS_b.l (by have := exS_b.c.log; omega) (n := 1) (by rw [ev3]; decide) (by rw [ev2]; decide)
  rw [ev3] at hsince
  have hlg : ((exS.log.drop (1 - 0 : Int).toNat).map fun x => x.seq) = [2, 3] := by rw [List.map_drop, ex_log]; rfl
  obtain ⟨lg, hlgd⟩ : ∃ lg, exS.log.drop (1 - 0 : Int).toNat = lg := ⟨_, rfl⟩
  rw [hlgd] at hsince hlg
  have hlgl : lg.length = 2 := by have := congrArg List.length hlg; rwa [List.length_map] at this
  refine hsince.use cx fun p2 c2 w _ _ cx2 => ?_
  clear cx
  have cx := cx2
  clear cx2
  have ht2 := cx.phi.2.there
  obtain ⟨Ψ2, hΨ2⟩ : ∃ Ψ2 : PW, Ψ2 = (fun M w => (Ψ M w ∧ Sl M w p1 [(⟨tB, t2⟩ : PairD)]) ∧ Sl M w p2 lg) := ⟨_, rfl⟩
  have st2 : Stable Ψ2 := by rw [hΨ2]; exact instStableAnd (fun M w => Ψ M w ∧ Sl M w p1 [(⟨tB, t2⟩ : PairD)]) (fun M w => Sl M w p2 lg)
  have g1 : ∀ M w, Ψ2 M w → Ψ M w := fun M w h => by rw [hΨ2] at h; exact h.1.1
  have g2 : ∀ M w, Ψ2 M w → Sl M w p1 [(⟨tB, t2⟩ : PairD)] := fun M w h => by rw [hΨ2] at h; exact h.1.2
  have g3 : ∀ M w, Ψ2 M w → Sl M w p2 lg := fun M w h => by rw [hΨ2] at h; exact h.2
  rw [← hΨ2] at cx
  rw [hlgl] at ht2 ⊢
  refine ⟨p2, _, c2, _, rfl, stO qt stNew R, Ψ2, st2, cx, fun w G cx => Br.intro (fun h => by simp at h) (fun _ => ?_)⟩
  clear cx
  refine exI_mk (fun iI R' Φ' k => ∃ (i : Nat) (q' : TO), iI = i ∧ i ≤ 32 ∧ q'.sb = qt.sb ∧ StQ q' (exT i) ∧ R' = stO q' (exT i) R ∧ Φ' = (fun M w => Ψ2 M w ∧ stF q' (exT i) M w) ∧ k = 32 - i)
    ⟨⟨_, _, _, instStableSt Ψ2 qt stNew, fun w G cx => cx.weak fun M w h => ⟨h, (toΦ _ _ (g1 _ _ h)).2⟩, 0, qt, rfl, by decide, rfl, hqt, rfl, rfl, rfl⟩, ?_⟩
  rintro iI R1 Φ1 k _ ⟨i, q', rfl, hi, hbq, hq', rfl, rfl, rfl⟩
  refine Br.intro (fun hlt => fun w G cx => ?_) (fun hge => fun w G cx => ?_)
  · have hlt : i < 32 := by have := of_decide_eq_true hlt; omega
    refine ((digits29_g i (by omega)).in).toS cx fun w G cx => ?_
    refine put_at hbq hq' (exT_b i (by omega)) (by omega) (by show 2 ≤ _; decide) (by show 1 ≤ _; decide) cx fun q2 hb2 hq2 => ⟨by unfold I64; omega, _, _, 32 - (i + 1), instStableSt Ψ2 q2 _, fun w G cx => cx, ⟨i + 1, q2, by omega, by omega, hb2, hq2, rfl, rfl, rfl⟩, by omega⟩
  have hge : i = 32 := by have := of_decide_eq_false hge; omega
  subst hge
  have cxT := cx.re (stO_re q' (exT 32) R G)
  obtain ⟨Ψ3, st3, toΨ2, toT, hCT, _, hlayT⟩ := lay hq' cxT
  have cxb := hlayT _ _ cxT
  clear cx cxT hlayT
  have hlt := (exT_b 32 (by decide)).levels
  have hvt := (exT_b 32 (by decide)).c.ver
  rw [← hbq]
  have hruns := Runs_sl (Φ := Ψ3) (hΦ := ⟨toT⟩) (by omega) (fun l hl => by have := hlt.2.2 l hl; omega) (fun l hl r hr => by
    have h1 := List.sublist_flatten_of_mem hr |>.length_le
    have h2 := List.sublist_flatten_of_mem (List.mem_map_of_mem (f := List.flatten) hl) |>.length_le
    have h3 : ((exT 32).levels.map List.flatten).flatten.length ≤ 32 := by
      have e : ((exT 32).levels.map List.flatten).flatten = allRuns (exT 32).levels := by
        unfold allRuns
        rw [List.flatten_flatten]
      rw [e]
      unfold verP at hvt
      rw [List.length_append] at hvt
      omega
    omega)
  rw [ex_runs] at hruns
  refine hruns.use cxb fun p3 c3 w _ _ cx => ?_
  clear cxb
  obtain ⟨b3, o3, cs3, hp3, cx⟩ := cx.pin cx.phi.2
  obtain rfl := hp3 (by decide)
  obtain ⟨pa, ca, ea⟩ := pinl cx.phi.2 (j := 0) (by decide)
  obtain ⟨pb, cb, eb⟩ := pinl cx.phi.2 (j := 1) (by decide)
  obtain ⟨b4, o4, hpb, _⟩ := sl_int (pinl_sl cx.phi.2 (j := 1) (by decide) eb) (j := 0) (by decide)
  subst hpb
  obtain ⟨Ψ4, hΨ4⟩ : ∃ Ψ4 : PW, Ψ4 = (fun M w => (Ψ3 M w ∧ Sl M w (some ⟨b3, o3, none⟩) ([[], [32]] : List (List Int))) ∧ Pin b3 o3 cs3 ([[], [32]] : List (List Int)) M w) := ⟨_, rfl⟩
  have st4 : Stable Ψ4 := by rw [hΨ4]; exact instStableAnd (fun M w => Ψ3 M w ∧ Sl M w (some ⟨b3, o3, none⟩) ([[], [32]] : List (List Int))) (fun M w => Pin b3 o3 cs3 ([[], [32]] : List (List Int)) M w)
  have k1 : ∀ M w, Ψ4 M w → Ψ2 M w := fun M w h => by rw [hΨ4] at h; exact toΨ2 _ _ h.1.1
  have k2 : ∀ M w, Ψ4 M w → Pin b3 o3 cs3 ([[], [32]] : List (List Int)) M w := fun M w h => by rw [hΨ4] at h; exact h.2
  have toS : ∀ M w, Ψ4 M w → StR q3 exS M w := fun M w h => toR _ _ (g1 _ _ (k1 _ _ h))
  have toF : ∀ M w, Ψ4 M w → Φ M w := fun M w h => (toΦ _ _ (g1 _ _ (k1 _ _ h))).1
  rw [← hΨ4] at cx
  obtain ⟨b1, o1, hp1⟩ := ht1 (by decide)
  obtain ⟨b2, o2, hp2⟩ := ht2 (by decide)
  subst hp1 hp2
  refine ⟨_, _, c3, rfl, R, Ψ4, st4, cx, Br.intro (fun h => by simp at h) (fun _ => fun w G cx => ⟨by decide, ptrK_intro b3 o3 rfl ⟨pa, _, ca, pinl_at (k2 _ _ cx.phi) (j := 0) (by decide) ea, fun _ => by decide, ptrK_intro b3 o3 rfl ⟨_, _, cb, fun _ => pinl_at (k2 _ _ cx.phi) (j := 1) (by decide) eb, Br.intro (fun h => by simp at h) (fun _ => ⟨by decide, ptrK_intro b1 o1 rfl fun w G cx => ⟨tB, t2, ?_, by kernel_rfl, Br.intro (fun _ => fun w G cx => ?_) (fun h => by simp at h)⟩⟩)⟩⟩⟩)⟩
  · have := sl_pair (g2 _ _ (k1 _ _ cx.phi)) (j := 0) (by decide)
    rwa [Nat.zero_mul, Nat.add_zero] at this
  have hlen := Len_in (Φ := Ψ4) (hΦ := ⟨toS⟩) hC (by omega) (by omega) (by omega) exS_b.szs
  rw [ex_scan] at hlen
  refine hlen.toI cx (Br.intro (fun _ => fun w G cx => ?_) (fun h => by simp at h))
  have hvs := Versions_in (Φ := Ψ4) (hΦ := ⟨toS⟩) hC (by omega) (by omega) (by omega)
  rw [ev1] at hvs
  refine hvs.toI cx (Br.intro (fun _ => fun w G cx => ?_) (fun h => by simp at h))
  have hsq := Seq_in (Φ := Ψ4) (q := q3) (s := exS) (hΦ := ⟨toS⟩)
  rw [ev2] at hsq
  refine hsq.toI cx (Br.intro (fun _ => ⟨by decide, ptrK_intro b2 o2 rfl fun w G cx => ⟨2, ?_, Br.intro (fun _ => ⟨by decide, ptrK_intro b3 o3 rfl fun w G cx => ⟨_, _, cb, pinl_at (k2 _ _ cx.phi) (j := 1) (by decide) eb, by decide, ptrK_intro b4 o4 rfl fun w G cx => ?_⟩⟩) (fun h => by simp at h)⟩⟩) (fun h => by simp at h))
  · have h := sl_chg (g3 _ _ (k1 _ _ cx.phi)) (j := 0) (by rw [hlgl]; decide)
    have h2 := h 0 (by show 0 < 3; decide)
    have h3 : lg[0].seq = 2 := by
      have := List.getElem_of_eq hlg (i := 0) (by rw [hlg]; decide)
      simpa using this
    rw [Nat.zero_mul, Nat.add_zero] at h2
    rw [← h3]
    exact h2
  obtain ⟨b5, o5, e5, h5⟩ := sl_int (pinl_sl (k2 _ _ cx.phi) (j := 1) (by decide) eb) (j := 0) (by decide)
  cases e5
  exact ⟨32, h5, fun w G cx => ⟨rfl, cx.left.weak toF⟩⟩
end Go.Proofs.YtebnciehcnedjaaGreatDoor
end

section
namespace Go.Proofs.YtebnciehcnedjaaGreatDoor
open Go.Vc
def lvW : Nat → List Lev → Nat
  | _, [] => 0
  | i, l :: t => l.length * 4 ^ i + lvW (i + 1) t
structure WtB (s : StD) (n : Nat) : Prop where
  wt : lvW 0 s.levels ≤ n + 4
  len : s.levels ≠ [] → 4 ^ (s.levels.length - 1) ≤ n + 4
theorem WtB.more {s : StD} {n : Nat} (h : WtB s n) : WtB s (n + 1) := ⟨by have := h.wt; omega, fun hn => by have := h.len hn; omega⟩
theorem WtB.few {s : StD} {n : Nat} (h : WtB s n) (hn : n ≤ 400) : s.levels.length ≤ 5 := by
  rcases Nat.lt_or_ge 5 s.levels.length with h1 | h1
  · exfalso
    have h2 := h.len (fun e => by rw [e] at h1; simp at h1)
    have h3 : 4 ^ 5 ≤ 4 ^ (s.levels.length - 1) := Nat.pow_le_pow_right (by decide) (by omega)
    have h4 : (4 : Nat) ^ 5 = 1024 := by decide
    omega
  · exact h1
theorem rest_empty : ∀ (n : Nat) (ls : List Lev), ls.length = n → allRuns (ls.take (lastN ls)) = allRuns ls
  | 0, ls, h => by rw [List.eq_nil_of_length_eq_zero h]; rfl
  | n + 1, ls, h => by
    obtain ⟨a, l, rfl⟩ : ∃ a l, ls = a ++ [l] := ⟨ls.dropLast, ls.getLast (fun e => by rw [e] at h; cases h), (List.dropLast_concat_getLast _).symm⟩
    have ha : a.length = n := by rw [List.length_append] at h; simpa using h
    rw [lastN_snoc]
    by_cases e : l = []
    · rw [if_pos e, List.take_append_of_le_length (lastN_le a), rest_empty n a ha, all_app, e]
      show _ = allRuns a ++ []
      rw [List.append_nil]
    · rw [if_neg e, List.take_of_length_le (by rw [List.length_append]; simp)]
theorem sum_take {ls : List Lev} {j : Nat} (h : j < ls.length) : (allRuns (ls.take (j + 1))).length = (allRuns (ls.take j)).length + ls[j].flatten.length := by
  rw [List.take_succ_eq_append_getElem h, all_app, List.length_append]
  congr 1
  unfold allRuns
  simp
theorem runsL_at {s : StD} {j : Nat} (h : j < (runsL s).length) : ∃ h2 : j < s.levels.length, (runsL s)[j] = sizesL s.levels[j] := by
  have h1 : (runsL s).length ≤ s.levels.length := by unfold runsL; rw [List.length_take, List.length_map]; omega
  refine ⟨by omega, ?_⟩
  have e : runsL s = (s.levels.map sizesL).take (lastN s.levels) := rfl
  rw [List.getElem_of_eq e h, List.getElem_take, List.getElem_map]
theorem runsL_len (s : StD) : (runsL s).length = lastN s.levels := by
  have := lastN_le s.levels
  unfold runsL
  rw [List.length_take, List.length_map]; omega
end Go.Proofs.YtebnciehcnedjaaGreatDoor
end

section
namespace Go.Proofs.YtebnciehcnedjaaGreatDoor
open Go.Vc
structure Last (s : StD) (h : Run) : Prop where
  get : ∀ k, getS s k = valK h.reverse k
  seq : s.seq = h.length
instance instDecMem (k : ByteArray) (l : List ByteArray) : Decidable (k ∈ l) := decidable_of_iff (l.any (fun y => decide (y = k)) = true) (by simp)
end Go.Proofs.YtebnciehcnedjaaGreatDoor
end

section
namespace Go.Proofs.YtebnciehcnedjaaGreatDoor
set_option maxRecDepth 100000
open Go.Vc
def Merrataref01_Back (s : ByteArray) (W : World) (R : List Own) (Φ : PW) (J : Value → World → Prop) : Prop :=
  ∀ w0 R1, Ctx W w0 (R ++ R1) Φ → ∃ (u2 : UInt8), (decide (0 < (↑s.size : Int)) = true → (0 : Int) ≤ 0 ∧ s.data.toList.get?Internal 0 = some u2) ∧ Br (decide (0 < (↑s.size : Int)) && decide ((↑u2.toNat : Int) = 45)) (exI fun (I3 : Int → Int → List Own → PW → Nat → Prop) => (∃ R4 Φ5 k6, Stable Φ5 ∧ Wk W R Φ R4 Φ5 ∧ I3 0 1 R4 Φ5 k6) ∧ ∀ n9 n10 R11 I12 k13, Stable I12 → I3 n9 n10 R11 I12 k13 → Br (decide (n10 < (↑s.size : Int))) (∀ w14 R15, Ctx W w14 (R11 ++ R15) I12 → ∃ (u16 : UInt8), (0 ≤ n10 ∧ s.data.toList.get?Internal n10.toNat = some u16) ∧ ∃ (u17 : UInt8), ((!decide ((↑u16.toNat : Int) < 48)) = true → 0 ≤ n10 ∧ s.data.toList.get?Internal n10.toNat = some u17) ∧ Br (decide ((↑u16.toNat : Int) < 48) || decide (57 < (↑u17.toNat : Int)) || decide (20 < n10)) (∀ w18 R19, Ctx W w18 (R11 ++ R19) I12 → J (Value.tuple #[.int .i64 0, .bool false]) w18) (∃ (u20 : UInt8), (0 ≤ n10 ∧
  s.data.toList.get?Internal n10.toNat = some u20) ∧ I64 (n10 + 1) ∧ ∃ R21 Φ22 k23, Stable Φ22 ∧ Wk W R11 I12 R21 Φ22 ∧ I3 (IntKind.i64.wrap (IntKind.i64.wrap (10 * n9) - IntKind.i64.wrap (IntKind.u8.wrap ((↑u20.toNat : Int) - 48)))) (n10 + 1) R21 Φ22 k23 ∧ k23 < k13)) (∀ w26 R27, Ctx W w26 (R11 ++ R27) I12 → Calls Tryz.prog F.errataref01_Int #[.int .i64 n9] w26 fun e28 w29 => ∃ s30, e28 = .returned (.string s30) ∧ ∃ R31 Φ32, Stable Φ32 ∧ Ctx W w29 (R31 ++ R27) Φ32 ∧ (s.size + (ByteArray.mk #[OfNat.ofNat 59]).size).le 9223372036854775807 ∧ ∀ w33 R34, Ctx W w33 (R31 ++ R34) Φ32 → J (Value.tuple #[.int .i64 n9, Value.bool (decide (s30 = s ++ ByteArray.mk #[OfNat.ofNat 59]))]) w33)) (exI fun (I35 : Int → Int → List Own → PW → Nat → Prop) => (∃ R36 Φ37 k38, Stable Φ37 ∧ Wk W R Φ R36 Φ37 ∧ I35 0 0 R36 Φ37 k38) ∧ ∀ n41 n42 R43 I44 k45, Stable I44 → I35 n41 n42 R43 I44 k45 → Br (decide (n42 <
  (↑s.size : Int))) (∀ w46 R47, Ctx W w46 (R43 ++ R47) I44 → ∃ (u48 : UInt8), (0 ≤ n42 ∧ s.data.toList.get?Internal n42.toNat = some u48) ∧ ∃ (u49 : UInt8), ((!decide ((↑u48.toNat : Int) < 48)) = true → 0 ≤ n42 ∧ s.data.toList.get?Internal n42.toNat = some u49) ∧ Br (decide ((↑u48.toNat : Int) < 48) || decide (57 < (↑u49.toNat : Int)) || decide (20 < n42)) (∀ w50 R51, Ctx W w50 (R43 ++ R51) I44 → J (Value.tuple #[.int .i64 0, .bool false]) w50) (∃ (u52 : UInt8), (0 ≤ n42 ∧ s.data.toList.get?Internal n42.toNat = some u52) ∧ I64 (n42 + 1) ∧ ∃ R53 Φ54 k55, Stable Φ54 ∧ Wk W R43 I44 R53 Φ54 ∧ I35 (IntKind.i64.wrap (IntKind.i64.wrap (10 * n41) - IntKind.i64.wrap (IntKind.u8.wrap ((↑u52.toNat : Int) - 48)))) (n42 + 1) R53 Φ54 k55 ∧ k55 < k45)) (∀ w58 R59, Ctx W w58 (R43 ++ R59) I44 → Calls Tryz.prog F.errataref01_Int #[.int .i64 (IntKind.i64.wrap (0 - n41))] w58 fun e60 w61 => ∃ s62, e60 =
  .returned (.string s62) ∧ ∃ R63 Φ64, Stable Φ64 ∧ Ctx W w61 (R63 ++ R59) Φ64 ∧ (s.size + (ByteArray.mk #[OfNat.ofNat 59]).size).le 9223372036854775807 ∧ ∀ w65 R66, Ctx W w65 (R63 ++ R66) Φ64 → J (Value.tuple #[.int .i64 (IntKind.i64.wrap (0 - n41)), Value.bool (decide (s62 = s ++ ByteArray.mk #[OfNat.ofNat 59]))]) w65))
theorem Merrataref01_Back_run (s : ByteArray) {W w : World} {R : List Own} {Φ : PW} [Stable Φ] {J : Value → World → Prop} (c : Ctx W w R Φ) (h : Merrataref01_Back s W R Φ J) : Calls Tryz.prog F.errataref01_Back #[.string s] w fun e w' => ∃ v, e = .returned v ∧ J v w' :=
  vcFS_sound (H := { keep := some [0, 2, 3, 4, 5, 6, 14, 19, 35, 45], wrap := [37, 43, 47], loops := [(6, [(5, .one (.int .i64)), (6, .one (.int .i64))], [])] }) (by rw [show vcFS Tryz.prog W { keep := some [0, 2, 3, 4, 5, 6, 14, 19, 35, 45], wrap := [37, 43, 47], loops := [(6, [(5, .one (.int .i64)), (6, .one (.int .i64))], [])] } F.errataref01_Back #[.string s] R Φ J = Merrataref01_Back s W R Φ J by kernel_rfl]; exact h) c
end Go.Proofs.YtebnciehcnedjaaGreatDoor
end

section
namespace Go.Proofs.YtebnciehcnedjaaGreatDoor
set_option maxRecDepth 100000
open Go.Vc
end Go.Proofs.YtebnciehcnedjaaGreatDoor
end

section
namespace Go.Proofs.YtebnciehcnedjaaGreatDoor
open Go.Vc
end Go.Proofs.YtebnciehcnedjaaGreatDoor
end

section
namespace Go.Proofs.YtebnciehcnedjaaGreatDoor
open Go.Vc
theorem st_drop {W w : World} {R G : List Own} {Φ : PW} [Stable Φ] {q : TO} {s : StD} (cx : Ctx W w (stO q s R ++ G) (fun M w => Φ M w ∧ stF q s M w)) : Ctx W w R Φ := by
  have c1 : Ctx W w (stO q s [] ++ (R ++ G)) (fun M w => Φ M w ∧ stF q s M w) := (cx.re (stO_re q s R G)).re (stO_app q s (R ++ G))
  have hst : Stable (fun M w => Φ M w ∧ stF q s M w) := instStableSt Φ q s
  have c2 := Ctx.right c1
  exact (c2.weak (Ψ := Φ) fun M w h => h.1).left
end Go.Proofs.YtebnciehcnedjaaGreatDoor
end

section
namespace Go.Proofs.YtebnciehcnedjaaGreatDoor
open Go.Vc
theorem few_yes {l : List OpD} {n : Int} (h : (!fewO l n) = false) : fewO l n = true := by cases e : fewO l n with
  | true => rfl
  | false => rw [e] at h; cases h
def putAll (s : StD) (ps : Run) : StD := ps.foldl (fun s x => putS s x.key x.val) s
theorem putAll_cons (s : StD) (x : PairD) (ps : Run) : putAll s (x :: ps) = putAll (putS s x.key x.val) ps := rfl
theorem SamePairs_in {Φ : PW} [Stable Φ] {p q : Option Addr} {c d : Nat} {a b : Run} (h1 : ∀ M w, Φ M w → Sl M w p a) (h2 : ∀ M w, Φ M w → Sl M w q b) (hl : a.length ≤ maxLen) :
    GivesIn Φ Tryz.prog F.errataref29_SamePairs #[.slice p a.length c, .slice q b.length d] (.bool (decide (a = b))) := by
  refine .there (fun M w x => (h1 M w x).there) fun ht1 => .there (fun M w x => (h2 M w x).there) fun ht2 => ?_
  refine gives_in (Berrataref29_SamePairs_run p a.length c q b.length d) fun W R => Br.intro (fun hne => fun w G cx => ⟨?_, cx.left⟩) (fun heq => ?_)
  · rw [decide_eq_false fun e => by have := of_decide_eq_true hne; rw [e] at this; exact this rfl]
  have heq : a.length = b.length := by have := Decidable.not_not.1 (of_decide_eq_false heq); omega
  refine exI_mk (fun n R' Φ' k => ∃ i : Nat, n = i ∧ i ≤ a.length ∧ a.take i = b.take i ∧ R' = R ∧ Φ' = Φ ∧ k = a.length - i) ⟨⟨R, Φ, _, inferInstance, fun w G cx => cx, 0, rfl, Nat.zero_le _, rfl, rfl, rfl, rfl⟩, ?_⟩
  rintro n R1 Φ1 k _ ⟨i, rfl, hi, he, rfl, rfl, rfl⟩
  refine Br.intro (fun hlt => fun w G cx => ?_) (fun hge => fun w G cx => ⟨?_, cx.left⟩)
  · have hlt : i < a.length := by have := of_decide_eq_true hlt; omega
    obtain ⟨b1, o1, rfl⟩ := ht1 (by omega)
    obtain ⟨b2, o2, rfl⟩ := ht2 (by omega)
    have hlt2 : i < b.length := by omega
    refine ⟨⟨by omega, by omega⟩, ptrK_intro b1 o1 rfl ⟨a[i].key, a[i].val, by rw [Int.toNat_natCast]; exact sl_pair (h1 _ _ cx.phi) hlt, ⟨by omega, by omega⟩, ptrK_intro b2 o2 rfl ⟨b[i].key, b[i].val, by rw [Int.toNat_natCast]; exact sl_pair (h2 _ _ cx.phi) hlt2, by kernel_rfl, Br.intro (fun hne => fun w G cx => ⟨?_, cx.left⟩) (fun hs => ⟨by unfold I64; unfold maxLen at hl; omega, R1, Φ1, a.length - (i + 1), inferInstance, fun w G cx => cx, ⟨i + 1, rfl, hlt, ?_, rfl, rfl, rfl⟩, by omega⟩)⟩⟩⟩
    · rw [decide_eq_false fun e => by
        subst e
        simp at hne]
    · have hs : a[i] = b[i] := by
        rw [Bool.not_eq_false', Bool.and_true, Bool.and_eq_true] at hs
        exact pair_ext.2 ⟨of_decide_eq_true hs.1, of_decide_eq_true hs.2⟩
      rw [List.take_succ_eq_append_getElem hlt, List.take_succ_eq_append_getElem hlt2, he, hs]
  · have hge : i = a.length := by have := of_decide_eq_false hge; omega
    subst hge
    rw [List.take_length, heq, List.take_length] at he
    rw [decide_eq_true he]
end Go.Proofs.YtebnciehcnedjaaGreatDoor
end

