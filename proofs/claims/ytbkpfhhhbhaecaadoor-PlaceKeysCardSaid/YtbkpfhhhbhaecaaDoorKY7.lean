/-
  For every input erratalaw37.PlaceKeys returns true, does not panic, comes to an end, and leaves what came in as it was; the variables that its row lists are as the program's text lays them.
  Conditions: none beyond the given statement's own (PlaceKeysCardSaid).
-/
import Derived.Test.YtbkpfhhhbhaecaaDoorKY6
import Derived.Test.YtbkpfhhhbhaecaaDoorKY5
import Derived.Lib.ItoaNum
import Derived.Lib.ConvBytes
import Derived.Lib.AtoiErrMem
import Derived.Test.YtbkpfhhhbhaecaaDoorCards
import Derived.MakeChecks
import Derived.Stop.LaidErr
import Derived.Lib.LaidTab
import Derived.Test.YtbkpfhhhbhaecaaDoorTie
import Derived.SevenTiedAt
import Derived.LaidMore
import Derived.ChangeMaps5
import Derived.Test.YtbkpfhhhbhaecaaDoorRows

/-
  The walks of strings.Builder, of the decimal form of ints, and of the encodings of ints and texts.
-/
section
set_option linter.unusedVariables false
set_option linter.unusedSimpArgs false
namespace Go.Proofs.YtbkpfhhhbhaecaaDoor
open Go.Vc


abbrev BdT (b : Nat) (l : List UInt8) (R : List Own) : Prop := Bd 138 5 b l R

theorem bd_info : ∃ j, Tryd.prog.info? 138 = some j ∧ j.size = 2 := by
  have h : (Tryd.prog.info? 138).map (·.size) = some 2 := by kernel_rfl
  exact Option.map_eq_some_iff.1 h

set_option maxHeartbeats 1000000 in
set_option maxRecDepth 100000 in
theorem copyCheck_used (b : Nat) (w : World) (h0 : w.cell? ⟨b, 0, none⟩ = some (.pointer (some ⟨b, 0, none⟩))) :
    Calls Tryd.prog 116 #[.pointer (some ⟨b, 0, none⟩)] w fun e w' => e = .returned (.tuple #[]) ∧ w' = w := by
  obtain ⟨j, hj, _⟩ := bd_info
  go_enter Tryd.func116, Tryd.ntmps116
  go_wp2
  rw [Lib.run_neq_ptr_same w _ Tryd.underlying136 hj]
  go_wp2
  go_end0
  exact ⟨rfl, rfl⟩

set_option maxHeartbeats 1000000 in
set_option maxRecDepth 100000 in
theorem copyCheck_fresh (b : Nat) (w : World) (h0 : w.cell? ⟨b, 0, none⟩ = some (.pointer none)) (hsh : w.shape? b = some (138, 2)) (hfz : w.frozen? ⟨b, 0, none⟩ = false) :
    Calls Tryd.prog 116 #[.pointer (some ⟨b, 0, none⟩)] w fun e w' => e = .returned (.tuple #[]) ∧ w' = w.setCell ⟨b, 0, none⟩ (.pointer (some ⟨b, 0, none⟩)) := by
  obtain ⟨j, hj, hjs⟩ := bd_info
  go_enter Tryd.func116, Tryd.ntmps116
  go_wp2
  rw [Lib.run_to_unsafe w ⟨b, 0, none⟩ Tryd.underlying136 Tryd.underlying174 hj (by rw [hjs]; decide) hsh (Nat.zero_lt_succ 1)]
  simp only [Result.andThen]
  rw [Oper.upon_value]
  go_wp2
  rw [run_callFunc_extern Tryd.func136 (by kernel_rfl) (by kernel_rfl) (by kernel_rfl) (e := Extern.AbiNoEscape.same) (by kernel_rfl)]
  rw [Lib.run_noEscape]
  simp only [Result.andThen]
  rw [Oper.upon_value]
  go_wp2
  rw [Lib.run_from_unsafe w ⟨b, 0, none⟩ Tryd.underlying174 Tryd.underlying136 hj hsh (by kernel_rfl)]
  simp only [Result.andThen]
  rw [Oper.upon_value]
  go_wp2
  go_end0
  exact ⟨rfl, rfl⟩

theorem copyCheck_use {W w : World} {S : List Own} {Φ : PW} [Stable Φ] {b : Nat} {pa v : Value} (hp : pa = .pointer none ∨ pa = .pointer (some ⟨b, 0, none⟩)) (c : Ctx W w (.blk b [pa, v] 138 :: S) Φ) {K : Ending → World → Prop}
    (hk : ∀ w', Ctx W w' (.blk b [.pointer (some ⟨b, 0, none⟩), v] 138 :: S) Φ → K (.returned (.tuple #[])) w') : Calls Tryd.prog F.strings_Builder_copyCheck #[.pointer (some ⟨b, 0, none⟩)] w K := by
  have hb : w.heap[b]? = some (.cells #[pa, v] 138 (0, 0)) := c.blk 0 rfl
  rcases hp with rfl | rfl
  · exact (copyCheck_fresh b w (c.get 0 rfl rfl) (by simp [World.shape?, hb]) (by simp [World.frozen?, hb])).mono fun e w' ⟨he, hw⟩ => by
      subst he
      exact hk w' (c.put 0 hw rfl)
  · exact (copyCheck_used b w (c.get 0 rfl rfl)).mono fun e w' ⟨he, hw⟩ => by
      subst he; subst hw
      exact hk w' c

theorem byte_info : ∃ i, Tryd.prog.info? 5 = some i ∧ i.zero = some (.int .u8 0) ∧ i.size = 1 ∧ i.bytes = 1 := by
  have h : (Tryd.prog.info? 5).map (fun i => (i.zero, i.size, i.bytes)) = some (some (.int .u8 0), 1, 1) := by kernel_rfl
  obtain ⟨i, hi, he⟩ := Option.map_eq_some_iff.1 h
  simp only [Prod.mk.injEq] at he
  exact ⟨i, hi, he⟩

theorem strCells_bytes (s : ByteArray) : Lib.strCells s = Lib.byteCells s.data.toList := rfl

theorem WriteString_use {W w : World} {S R : List Own} {Φ : PW} [Stable Φ] {b : Nat} {l : List UInt8} (s : ByteArray) (h : BdT b l R) (c : Ctx W w (R ++ S) Φ) (hlen : l.length + s.size ≤ 100000000000) {K : Ending → World → Prop}
    (hk : ∀ R' w', BdT b (l ++ s.data.toList) R' → Ctx W w' (R' ++ S) Φ → K (.returned (.tuple #[.int .i64 s.size, .nilIface])) w') : Calls Tryd.prog F.strings_Builder_WriteString #[.pointer (some ⟨b, 0, none⟩), .string s] w K := by
  obtain ⟨pa, p, cap, hpa, rfl⟩ := h
  obtain ⟨i, hi, hz, hsz, hby⟩ := byte_info
  refine (Bstrings_Builder_WriteString_run b 0 s (J := fun u w' => K (.returned u) w') c ?_).mono fun e w' ⟨v, he, hj⟩ => by rw [he]; exact hj
  refine fun w G c => copyCheck_use hpa c fun w c => ⟨rfl, [.blk b [.pointer (some ⟨b, 0, none⟩), .slice p l.length cap] 138, .buf p l.length cap (Lib.byteCells l) 5 1] ++ S, Φ, inferInstance, c, fun w G c => ⟨p, l.length, cap, c.get 0 rfl rfl, fun w G c => ?_⟩⟩
  obtain ⟨p', cap', w', hrun, c'⟩ := Ctx.appStr (P := Tryd.prog) (t := 109) (u := 9) (ty := 109) (kb := #[false, false]) (c.swap) Tryd.underlying109 Tryd.underlying9 hi hz hsz hby s (by omega) (by unfold maxLen; omega)
  refine ⟨p', _, cap', w', hrun, [.blk b [.pointer (some ⟨b, 0, none⟩), .slice p l.length cap] 138, .buf p' (l.length + s.size) cap' (Lib.byteCells l ++ Lib.strCells s) 5 1] ++ S, Φ, inferInstance, c'.swap, fun w G c => ⟨c.can 0 rfl (by simp), fun w' hw' => ?_⟩⟩
  refine ⟨[.blk b [.pointer (some ⟨b, 0, none⟩), .slice p' (l.length + s.size) cap'] 138, .buf p' (l.length + s.size) cap' (Lib.byteCells l ++ Lib.strCells s) 5 1] ++ S, Φ, inferInstance, c.put 0 hw' rfl, fun w G c => hk [.blk b [.pointer (some ⟨b, 0, none⟩), .slice p' (l.length + s.size) cap'] 138, .buf p' (l.length + s.size) cap' (Lib.byteCells l ++ Lib.strCells s) 5 1] w ⟨_, p', cap', .inr rfl, ?_⟩ c.left⟩
  have hl : (l ++ s.data.toList).length = l.length + s.size := by rw [List.length_append, Array.length_toList]; rfl
  rw [hl, strCells_bytes, Lib.byteCells_append]

theorem String_use {W w : World} {S R : List Own} {Φ : PW} [Stable Φ] {b : Nat} {l : List UInt8} (h : BdT b l R) (c : Ctx W w (R ++ S) Φ) {K : Ending → World → Prop}
    (hk : ∀ w', Ctx W w' S Φ → K (.returned (.string ⟨l.toArray⟩)) w') : Calls Tryd.prog F.strings_Builder_String #[.pointer (some ⟨b, 0, none⟩)] w K :=
  Bd.string Tryd.lays169 Tryd.Builder_Extra_169 h c hk

end Go.Proofs.YtbkpfhhhbhaecaaDoor
end

/-
  The encodings of ints, texts, values and rows: in plain Lean, and walked.
-/
section
set_option linter.unusedVariables false
set_option linter.unusedSimpArgs false
namespace Go.Vc
theorem GivesIn.know {Φ : PW} {P : Program} {f : FuncId} {args : Array Value} {v : Value} {p : Prop} (hΦ : ∀ M w, Φ M w → p) (h : p → GivesIn Φ P f args v) : GivesIn Φ P f args v :=
  ⟨fun W w S c => (h (hΦ _ _ c.phi)).go W w S c⟩
theorem GivesSl.know {Φ : PW} {P : Program} {f : FuncId} {args : Array Value} {α : Type} [Gv α] {l : List α} {mk : Value → Value} {p : Prop} (hΦ : ∀ M w, Φ M w → p) (h : p → GivesSl Φ P f args l mk) : GivesSl Φ P f args l mk :=
  ⟨fun W w S c => (h (hΦ _ _ c.phi)).go W w S c⟩
theorem GivesNew.know {Φ : PW} {P : Program} {f : FuncId} {args : Array Value} {α : Type} [Gv α] {l : List α} {t : TypeId} {p : Prop} (hΦ : ∀ M w, Φ M w → p) (h : p → GivesNew Φ P f args l t) : GivesNew Φ P f args l t :=
  ⟨fun W w S c => (h (hΦ _ _ c.phi)).go W w S c⟩
end Go.Vc
namespace Go.Proofs.YtbkpfhhhbhaecaaDoor
open Go.Vc

/-! ### in plain Lean -/
def numB (n : Int) : ByteArray := ⟨(Lib.itoa n).toArray⟩
def intB (n : Int) : ByteArray := numB n ++ ByteArray.mk #[59]
def natB (n : Int) : ByteArray := if n < 0 then ByteArray.mk #[] else intB n
def textB (s : ByteArray) : ByteArray := numB s.size ++ ByteArray.mk #[58] ++ s ++ ByteArray.mk #[44]
def valB (v : ValD) : ByteArray := intB v.kind ++ intB v.num ++ textB v.text
def valsL (r : List ValD) : List UInt8 := r.flatMap fun v => (valB v).data.toList
def rowL (r : List ValD) : List UInt8 := (natB r.length).data.toList ++ valsL r
def rowB (r : List ValD) : ByteArray := ⟨(rowL r).toArray⟩

theorem size_app (a b : ByteArray) : (a ++ b).size = a.size + b.size := ByteArray.size_append
theorem size_list (l : List UInt8) : (ByteArray.mk l.toArray).size = l.length := by simp [ByteArray.size]
theorem list_size (a : ByteArray) : a.data.toList.length = a.size := by rw [Array.length_toList]; rfl

theorem nDigits_le : ∀ (k u : Nat), u < 10 ^ k → 0 < k → Lib.nDigits u ≤ k
  | 0, u, _, h => by omega
  | k + 1, u, h, _ => by
    by_cases h1 : u < 10
    · rw [Lib.nDigits_small h1]; omega
    · rw [Lib.nDigits_big h1]
      have hk : 0 < k := by
        rcases Nat.eq_zero_or_pos k with rfl | h2
        · simp at h; omega
        · exact h2
      have := nDigits_le k (u / 10) (by rw [Nat.pow_succ] at h; omega) hk
      omega

theorem itoa_len {n : Int} (h : I64 n) : 1 ≤ (Lib.itoa n).length ∧ (Lib.itoa n).length ≤ 20 := by
  unfold I64 at h
  unfold Lib.itoa
  split
  · have h1 := nDigits_le 19 n.natAbs (by omega) (by decide)
    have h2 := Lib.nDigits_pos n.natAbs
    rw [List.length_cons, Lib.decDigits_length]; omega
  · have h1 := nDigits_le 19 n.toNat (by omega) (by decide)
    have h2 := Lib.nDigits_pos n.toNat
    rw [Lib.decDigits_length]; omega

theorem numB_size {n : Int} (h : I64 n) : 1 ≤ (numB n).size ∧ (numB n).size ≤ 20 := by
  unfold numB; rw [size_list]; exact itoa_len h
theorem intB_size {n : Int} (h : I64 n) : 2 ≤ (intB n).size ∧ (intB n).size ≤ 21 := by
  have := numB_size h
  have e : (ByteArray.mk #[59]).size = 1 := rfl
  unfold intB; rw [size_app, e]; omega
theorem natB_size {n : Int} (h : I64 n) : (natB n).size ≤ 21 := by
  unfold natB
  split
  · exact Nat.zero_le _
  · exact (intB_size h).2
theorem textB_size {s : ByteArray} (h : s.size ≤ 9223372036854775807) : (textB s).size ≤ s.size + 22 ∧ s.size + 3 ≤ (textB s).size := by
  have := numB_size (n := s.size) (by unfold I64; omega)
  have e : (ByteArray.mk #[58]).size = 1 := rfl
  have e2 : (ByteArray.mk #[44]).size = 1 := rfl
  unfold textB; rw [size_app, size_app, size_app, e, e2]; omega
theorem valB_size {v : ValD} (h1 : I64 v.kind) (h2 : I64 v.num) (h : v.text.size ≤ 9223372036854775807) : (valB v).size ≤ v.text.size + 64 := by
  have a := intB_size h1
  have b := intB_size h2
  have c := textB_size h
  unfold valB; rw [size_app, size_app]; omega

theorem valsL_app (a b : List ValD) : valsL (a ++ b) = valsL a ++ valsL b := by simp [valsL]
theorem valsL_one (v : ValD) : valsL [v] = (valB v).data.toList := by simp [valsL]
theorem valsL_len {m : Nat} : ∀ {r : List ValD}, (∀ v ∈ r, (I64 v.kind ∧ I64 v.num) ∧ v.text.size ≤ m) → m ≤ 9223372036854775807 → (valsL r).length ≤ r.length * (m + 64)
  | [], _, _ => by simp [valsL]
  | v :: r, h, hm => by
    have h1 := valsL_len (r := r) (fun u hu => h u (List.mem_cons_of_mem _ hu)) hm
    obtain ⟨⟨a, b⟩, c⟩ := h v List.mem_cons_self
    have h2 := valB_size a b (by omega)
    have e : valsL (v :: r) = (valB v).data.toList ++ valsL r := by simp [valsL]
    rw [e, List.length_append, list_size, List.length_cons, Nat.add_mul]
    omega
theorem rowL_len {m : Nat} {r : List ValD} (h : ∀ v ∈ r, (I64 v.kind ∧ I64 v.num) ∧ v.text.size ≤ m) (hm : m ≤ 9223372036854775807) (hr : r.length ≤ 1000000) : (rowL r).length ≤ 21 + r.length * (m + 64) := by
  have h1 := valsL_len h hm
  have h2 := natB_size (n := (r.length : Int)) (by unfold I64; omega)
  unfold rowL; rw [List.length_append, list_size]; omega

/-! ### walked -/
theorem rep_val {M : List Nat} {w : World} {cs : List Value} {v : ValD} (h : Gv.rep M w cs v) : cs = [.int .i64 v.kind, .int .i64 v.num, .string v.text] ∧ I64 v.kind ∧ I64 v.num ∧ v.text.size ≤ maxLen := by
  obtain ⟨_, _, rfl, ⟨rfl, h1⟩, _, _, rfl, ⟨rfl, h2⟩, rfl, h3⟩ := h
  exact ⟨rfl, h1, h2, h3⟩

theorem sl_i64 {M : List Nat} {w : World} {p : Option Addr} {l : List ValD} (h : Sl M w p l) : ∀ v ∈ l, (I64 v.kind ∧ I64 v.num) ∧ v.text.size ≤ maxLen := by
  intro v hv
  obtain ⟨i, hi, rfl⟩ := List.getElem_of_mem hv
  obtain ⟨_, _, _, _, _, _, hr⟩ := h i hi
  obtain ⟨_, h1, h2, h3⟩ := rep_val hr
  exact ⟨⟨h1, h2⟩, h3⟩

abbrev tabN : String := ((Rows.placeSpreadRow.laid.map Prod.fst).drop 2).headD default
/-- the table of the powers of ten lies there -/
abbrev TabI : PW := Tab Tryd.prog tabN .u64 Lib.pow10Tab

theorem Itoa_in {Φ : PW} [Stable Φ] (hΦ : ∀ M w, Φ M w → TabI M w) (n : Int) (h : I64 n) : GivesIn Φ Tryd.prog F.strconv_Itoa #[.int .i64 n] (.string (numB n)) :=
  itoa_in (name := tabN) (fun n h0 h1 w ht => Any.strconv_Itoa Tryd.laysM171 n h0 h1 w ht) hΦ n h

theorem Itoa_small (i : Nat) (hi : i < 100) : Gives Tryd.prog F.strconv_Itoa #[.int .i64 i] (.string (numB i)) :=
  Quiet.gives ⟨fun w => by
    have h := Any.strconv_Itoa_small { Tryd.lays171 with } i hi w
    rw [← Lib.itoa_nonneg] at h
    exact h⟩

/-- ints that the library writes: at these places, or small ones -/
def Dec (Φ : PW) (n : Int) : Prop := (∀ M w, Φ M w → TabI M w) ∧ I64 n ∨ ∃ i : Nat, i < 100 ∧ n = i

theorem Itoa_dec {Φ : PW} [Stable Φ] {n : Int} (h : Dec Φ n) : GivesIn Φ Tryd.prog F.strconv_Itoa #[.int .i64 n] (.string (numB n)) := by
  rcases h with ⟨h1, h2⟩ | ⟨i, hi, rfl⟩
  · exact Itoa_in h1 n h2
  · exact (Itoa_small i hi).in
theorem Dec.i64 {Φ : PW} {n : Int} (h : Dec Φ n) : I64 n := by
  rcases h with ⟨_, h2⟩ | ⟨i, hi, rfl⟩
  · exact h2
  · unfold I64; omega

theorem Int_in {Φ : PW} [Stable Φ] {n : Int} (h : Dec Φ n) : GivesIn Φ Tryd.prog F.wire_Int #[.int .i64 n] (.string (intB n)) := by
  refine gives_in (Bwire_Int_run n) fun W R => ?_
  have := numB_size h.i64
  exact fun w G cx => (Itoa_dec h).use cx fun w cx => ⟨_, rfl, R, Φ, inferInstance, cx, by show (numB n).size + 1 ≤ _; omega, fun w G cx => ⟨rfl, cx.left⟩⟩

theorem Num_in {Φ : PW} [Stable Φ] {n : Int} (h : Dec Φ n) : GivesIn Φ Tryd.prog F.wire_Num #[.int .i64 n] (.string (natB n)) := by
  refine gives_in (Bwire_Num_run n) fun W R => Br.intro (fun hn => fun w G cx => ⟨?_, cx.left⟩) (fun hn => fun w G cx => (Int_in h).use cx fun w cx => ⟨_, rfl, R, Φ, inferInstance, cx, fun w G cx => ⟨?_, cx.left⟩⟩)
  · unfold natB; rw [if_pos (of_decide_eq_true hn)]
  · unfold natB; rw [if_neg (of_decide_eq_false hn)]

theorem Text_in {Φ : PW} [Stable Φ] {s : ByteArray} (h : Dec Φ s.size) (hs : s.size ≤ 1000000000000) : GivesIn Φ Tryd.prog F.wire_Text #[.string s] (.string (textB s)) := by
  refine gives_in (Bwire_Text_run s) fun W R => ?_
  have h1 := numB_size h.i64
  have e : (ByteArray.mk #[58]).size = 1 := rfl
  have e2 : (ByteArray.mk #[44]).size = 1 := rfl
  exact fun w G cx => (Itoa_dec h).use cx fun w cx => ⟨_, rfl, R, Φ, inferInstance, cx, by show (numB s.size).size + 1 ≤ _; omega, by show (numB s.size ++ ByteArray.mk #[58]).size + s.size ≤ _; rw [size_app, e]; omega, by show (numB s.size ++ ByteArray.mk #[58] ++ s).size + 1 ≤ _; rw [size_app, size_app, e]; omega, fun w G cx => ⟨rfl, cx.left⟩⟩

theorem Bytes_in {Φ : PW} [Stable Φ] (v : ValD) (hΦ : ∀ M w, Φ M w → TabI M w) (h1 : I64 v.kind) (h2 : I64 v.num) (hs : v.text.size ≤ 1000000000000) : GivesIn Φ Tryd.prog F.value_Bytes #[v.v] (.string (valB v)) := by
  refine gives_in (Bvalue_Bytes_run v.kind v.num v.text) fun W R => ?_
  have a := intB_size h1
  have b := intB_size h2
  have c := textB_size (s := v.text) (by omega)
  exact fun _ => ⟨R, Φ, inferInstance, fun w G cx => cx, fun w G cx => (Int_in (.inl ⟨hΦ, h1⟩)).use cx fun w cx => ⟨_, rfl, R, Φ, inferInstance, cx, fun w G cx => cx, fun w G cx => (Int_in (.inl ⟨hΦ, h2⟩)).use cx fun w cx => ⟨_, rfl, R, Φ, inferInstance, cx, fun w G cx => cx, by show (intB v.kind).size + (intB v.num).size ≤ _; omega,
    fun w G cx => (Text_in (.inl ⟨hΦ, by unfold I64; omega⟩) hs).use cx fun w cx => ⟨_, rfl, R, Φ, inferInstance, cx, fun w G cx => cx, by show (intB v.kind ++ intB v.num).size + (textB v.text).size ≤ _; rw [size_app]; omega, fun w G cx => ⟨rfl, cx.left⟩⟩⟩⟩⟩

theorem RowBytes_in {Φ : PW} [Stable Φ] (p : Option Addr) (cap : Nat) (r : List ValD) (hT : ∀ M w, Φ M w → TabI M w) (hΦ : ∀ M w, Φ M w → Sl M w p r) (hr : r.length ≤ 1000000) (ht : ∀ v ∈ r, v.text.size ≤ 10000) :
    GivesIn Φ Tryd.prog F.value_RowBytes #[.slice p r.length cap] (.string (rowB r)) := by
  refine .there (fun M w h => (hΦ M w h).there) fun hth => .know (fun M w h => sl_i64 (hΦ M w h)) fun hi => ?_
  have hv : ∀ v ∈ r, (I64 v.kind ∧ I64 v.num) ∧ v.text.size ≤ 10000 := fun v h => ⟨(hi v h).1, ht v h⟩
  have hL := rowL_len hv (by decide) hr
  have hL : (rowL r).length ≤ 20000000000 := by
    have : r.length * (10000 + 64) ≤ 1000000 * 10064 := Nat.mul_le_mul hr (Nat.le_refl _)
    omega
  have hnat : (natB r.length).data.toList.length ≤ 20000000000 := by unfold rowL at hL; rw [List.length_append] at hL; omega
  refine gives_in (Bvalue_RowBytes_run p r.length cap) fun W R => ?_
  refine fun b w G cx => (Num_in (Φ := Φ) (.inl ⟨hT, by unfold I64; omega⟩)).use cx fun w cx => ⟨_, rfl, .blk b [.pointer none, .slice none 0 0] 138 :: R, Φ, inferInstance, cx, fun w G cx => ?_⟩
  refine WriteString_use (natB r.length) Bd.nil (Bd.fresh cx) (by rw [← list_size]; simp only [List.length_nil]; omega) fun R1 w hB cx => ⟨_, _, rfl, R1 ++ R, Φ, inferInstance, by rw [List.append_assoc]; exact cx, ?_⟩
  rw [List.nil_append] at hB
  clear cx
  refine exI_mk (fun iI R' Φ' k => ∃ (i : Nat) (Q : List Own), iI = i ∧ i ≤ r.length ∧ BdT b ((natB r.length).data.toList ++ valsL (r.take i)) Q ∧ R' = Q ++ R ∧ Φ' = Φ ∧ k = r.length - i) ⟨⟨_, Φ, _, inferInstance, fun w G cx => cx, 0, R1, rfl, Nat.zero_le _, by rw [List.take_zero, show valsL [] = [] from rfl, List.append_nil]; exact hB, rfl, rfl, rfl⟩, ?_⟩
  rintro iI R2 Φ2 k _ ⟨i, Q, rfl, hi, hQ, rfl, rfl, rfl⟩
  refine Br.intro (fun hlt => ?_) (fun hge => fun w G cx => ?_)
  · have hlt : i < r.length := by have := of_decide_eq_true hlt; omega
    obtain ⟨g, o, rfl⟩ := hth (by omega)
    obtain ⟨⟨h1, h2⟩, h3⟩ := hv r[i] (List.getElem_mem hlt)
    have hsz := valB_size h1 h2 (by omega)
    have hlen : ((natB r.length).data.toList ++ valsL (r.take (i + 1))).length ≤ 20000000000 := by
      have e : valsL r = valsL (r.take (i + 1)) ++ valsL (r.drop (i + 1)) := by rw [← valsL_app, List.take_append_drop]
      unfold rowL at hL
      rw [e, List.length_append, List.length_append] at hL
      rw [List.length_append]; omega
    have hstep : valsL (r.take (i + 1)) = valsL (r.take i) ++ (valB r[i]).data.toList := by rw [List.take_succ_eq_append_getElem hlt, valsL_app, valsL_one]
    refine ⟨by omega, ptrK_intro g o rfl fun w G cx => ⟨r[i].kind, r[i].num, r[i].text, by rw [Int.toNat_natCast]; exact sl_val (hΦ _ _ cx.phi) hlt, fun _ w G cx => (Bytes_in (Φ := Φ2) r[i] hT h1 h2 (by omega)).use cx fun w cx => ⟨_, rfl, Q ++ R, Φ2, inferInstance, cx, fun w G cx => ?_⟩⟩⟩
    refine WriteString_use (valB r[i]) hQ (cx.re (List.append_assoc _ _ _)) (by rw [hstep, ← List.append_assoc, List.length_append, list_size] at hlen; omega) fun Q' w hQ' cx => ⟨_, _, rfl, Q' ++ R, Φ2, inferInstance, by rw [List.append_assoc]; exact cx, by unfold I64; omega, _, Φ2, r.length - (i + 1), inferInstance, fun w G cx => cx, ⟨i + 1, Q', by omega, hlt, ?_, rfl, rfl, rfl⟩, by omega⟩
    rw [hstep, ← List.append_assoc]; exact hQ'
  · have hge : i = r.length := by have := of_decide_eq_false hge; omega
    subst hge
    rw [List.take_length] at hQ
    exact String_use hQ (cx.re (List.append_assoc _ _ _)) fun w cx => ⟨_, rfl, R, Φ2, inferInstance, cx, fun w G cx => ⟨rfl, cx.left⟩⟩

end Go.Proofs.YtbkpfhhhbhaecaaDoor
end

/-
  The bucket of a row, walked.
-/
section
set_option linter.unusedVariables false
set_option linter.unusedSimpArgs false
namespace Go.Vc
/-- bytes that nobody writes -/
def BytesAt (b : Nat) (l : List UInt8) : PW := fun M w => ∀ j, (hj : j < l.length) → b ∉ M ∧ w.cell? ⟨b, j, none⟩ = some (.int .u8 (l[j].toNat : Int))
instance instStableBytesAt (b : Nat) (l : List UInt8) : Stable (BytesAt b l) := ⟨fun {M M' w w'} hs h j hj => by
  obtain ⟨h1, h2⟩ := h j hj
  have hlt : b < w.heap.size := by
    rcases Nat.lt_or_ge b w.heap.size with h' | h'
    · exact h'
    · simp [World.cell?, Array.getElem?_eq_none h'] at h2
  refine ⟨fun hm => ?_, hs.chg.cell h2 h1⟩
  rcases hs.sub b hm with h | h
  · exact h1 h
  · omega⟩
theorem chg_bytes {w : World} {e : TypeId} {s : ByteArray} : Chg [] w (Lib.bytesWorld w e s) :=
  have h := Lib.bytesWorld_below w e s
  ⟨h.os, h.tape, h.output, h.size, fun k hk _ => h.block k hk⟩
theorem Ctx.bytes {W w : World} {S : List Own} {Φ : PW} [Stable Φ] (c : Ctx W w S Φ) (e : TypeId) (s : ByteArray) : Ctx W (Lib.bytesWorld w e s) S (fun M w' => Φ M w' ∧ BytesAt w.heap.size s.data.toList M w') := by
  refine (c.call chg_bytes).add fun j hj => ⟨fun hm => absurd (c.lt hm) (Nat.lt_irrefl _), ?_⟩
  have hj2 : j < s.size := by
    rw [Array.length_toList] at hj
    exact hj
  rw [Lib.bytesWorld_cell w e s j hj2, show s.data.toList.getD j 0 = s.data.toList[j] by rw [List.getD, List.getElem?_eq_getElem hj]; rfl]
end Go.Vc
namespace Go.Proofs.YtbkpfhhhbhaecaaDoor
open Go.Vc


/-! ### in plain Lean -/
def sumB : List UInt8 → Nat
  | [] => 0
  | c :: l => c.toNat + sumB l
theorem sumB_app : ∀ (a b : List UInt8), sumB (a ++ b) = sumB a + sumB b
  | [], b => by simp [sumB]
  | c :: a, b => by simp only [List.cons_append, sumB, sumB_app a b]; omega
theorem sumB_le : ∀ (l : List UInt8), sumB l ≤ l.length * 255
  | [] => Nat.le_refl _
  | c :: l => by
    have h1 := sumB_le l
    have h2 : c.toNat < 256 := c.toNat_lt
    simp only [sumB, List.length_cons, Nat.add_mul]; omega
theorem sumB_step {l : List UInt8} {i : Nat} (h : i < l.length) : sumB (l.take (i + 1)) = sumB (l.take i) + l[i].toNat := by
  rw [List.take_succ_eq_append_getElem h, sumB_app]
  simp [sumB]
def bucketP (r : List ValD) : Int := ((sumB (rowL r) % 16 : Nat) : Int)
theorem bucket_bd (r : List ValD) : 0 ≤ bucketP r ∧ bucketP r < 16 := by unfold bucketP; omega
theorem wrap_u8 (c : UInt8) : IntKind.i64.wrap (c.toNat : Int) = (c.toNat : Int) := w64_id (by unfold I64; have := c.toNat_lt; omega)
theorem rowB_size {r : List ValD} (hi : ∀ v ∈ r, (I64 v.kind ∧ I64 v.num) ∧ v.text.size ≤ maxLen) (h1 : r.length ≤ 10000) (h2 : ∀ v ∈ r, v.text.size ≤ 10000) : (rowB r).size ≤ 200000000 := by
  have hv : ∀ v ∈ r, (I64 v.kind ∧ I64 v.num) ∧ v.text.size ≤ 10000 := fun v h => ⟨(hi v h).1, h2 v h⟩
  have hL := rowL_len hv (by decide) (by omega)
  have : r.length * (10000 + 64) ≤ 10000 * 10064 := Nat.mul_le_mul h1 (Nat.le_refl _)
  unfold rowB
  rw [size_list]; omega

section
variable {Φ : PW} {p : Option Addr} {cap : Nat} {r : List ValD} {l : List DeltaD}

theorem Bucket_in [Stable Φ] [hT : Has Φ TabI] [hΦ : Has Φ (fun M w => Sl M w p r)] (hr : r.length ≤ 10000) (ht : ∀ v ∈ r, v.text.size ≤ 10000) : GivesIn Φ Tryd.prog F.place_Bucket #[.slice p r.length cap] (.int .i64 (bucketP r)) := by
  refine .know (fun M w h => sl_i64 (hΦ.go M w h)) fun hi => ?_
  have hsz := rowB_size hi hr ht
  refine gives_in (Bplace_Bucket_run p r.length cap) fun W R => ?_
  refine fun w G cx => (RowBytes_in p cap r hT.go hΦ.go (by omega) ht).toS cx fun w G cx => ?_
  obtain ⟨b, hb⟩ : ∃ b, w.heap.size = b := ⟨_, rfl⟩
  have cx1 := cx.bytes 5 (rowB r)
  rw [hb] at cx1
  have hL : (rowB r).data.toList = rowL r := rfl
  rw [hL] at cx1
  refine ⟨some ⟨b, 0, none⟩, (rowB r).size, _, _, by rw [← hb]; exact Lib.run_convert_string_bytes w 9 109 5 (rowB r) Tryd.underlying9 (by kernel_rfl) (by kernel_rfl), R, _, inferInstance, cx1, ?_⟩
  clear cx cx1 hb
  have hn : (rowB r).size = (rowL r).length := size_list _
  rw [hn] at hsz ⊢
  have hst : Stable (fun M w => Φ M w ∧ BytesAt b (rowL r) M w) := inferInstance
  refine exI_mk (fun n iI R' Φ' k => ∃ i : Nat, iI = i ∧ i ≤ (rowL r).length ∧ n = (sumB ((rowL r).take i) : Int) ∧ R' = R ∧ Φ' = (fun M w => Φ M w ∧ BytesAt b (rowL r) M w) ∧ k = (rowL r).length - i) ⟨⟨R, _, _, hst, fun w F c => c, 0, rfl, Nat.zero_le _, rfl, rfl, rfl, rfl⟩, ?_⟩
  rintro n iI R1 Φ1 k _ ⟨i, rfl, hi2, rfl, rfl, rfl, rfl⟩
  refine Br.intro (fun hlt => ?_) (fun hge => ?_)
  · have hlt : i < (rowL r).length := by have := of_decide_eq_true hlt; omega
    have h1 := sumB_le ((rowL r).take i)
    rw [List.length_take] at h1
    have h2 := (rowL r)[i].toNat_lt
    refine ⟨by omega, ptrK_intro b 0 rfl fun w G cx => ⟨((rowL r)[i].toNat : Int), ?_, ?_, by unfold I64; omega, R1, _, (rowL r).length - (i + 1), hst, fun w G cx => cx, ⟨i + 1, rfl, hlt, ?_, rfl, rfl, rfl⟩, by omega⟩⟩
    · rw [Nat.zero_add, Int.toNat_natCast]
      exact (cx.phi.2 i hlt).2
    · rw [wrap_u8]; unfold I64; omega
    · rw [wrap_u8, sumB_step hlt]; omega
  · have hge : i = (rowL r).length := by have := of_decide_eq_false hge; omega
    subst hge
    refine ⟨by omega, fun w G cx => ⟨?_, cx.left.fst⟩⟩
    rw [List.take_length]
    rfl
end
end Go.Proofs.YtbkpfhhhbhaecaaDoor
end

/-
  Even and SameInts, walked; the law's small(), walked.
-/
section
set_option linter.unusedVariables false
set_option linter.unusedSimpArgs false
namespace Go.Proofs.YtbkpfhhhbhaecaaDoor
open Go.Vc


section
variable {Φ : PW} {p q : Option Addr} {cap cap2 : Nat} {l a b : List Int} {W w : World} {R G : List Own}

theorem Same37_in [Stable Φ] [hΦ : Has Φ (fun M w => Sl M w p a)] [hΨ : Has Φ (fun M w => Sl M w q b)] (ha : a.length ≤ 1000000) : GivesIn Φ Tryd.prog F.errataref37_SameInts #[.slice p a.length cap, .slice q b.length cap2] (.bool (decide (a = b))) := by
  refine .there (fun M w h => (hΦ.go M w h).there) fun hta => .there (fun M w h => (hΨ.go M w h).there) fun htb => ?_
  refine gives_in (Berrataref37_SameInts_run p a.length cap q b.length cap2) fun W R => Br.intro (fun hn => fun w G cx => ⟨?_, cx.left⟩) (fun hn => ?_)
  · have hn := of_decide_eq_true hn
    rw [decide_eq_false fun e => hn (by rw [e])]
  have hn : b.length = a.length := by have := Decidable.not_not.1 (of_decide_eq_false hn); omega
  refine exI_mk (fun n R' Φ' k => ∃ i : Nat, n = i ∧ i ≤ a.length ∧ R' = R ∧ Φ' = Φ ∧ k = a.length - i ∧ a.take i = b.take i) ⟨⟨R, Φ, _, inferInstance, fun w F c => c, 0, rfl, Nat.zero_le _, rfl, rfl, rfl, rfl⟩, ?_⟩
  rintro n R1 Φ1 k _ ⟨i, rfl, hi, rfl, rfl, rfl, hs⟩
  refine Br.intro (fun hlt => ?_) (fun hge => fun w G cx => ⟨?_, cx.left⟩)
  · have hlt : i < a.length := by have := of_decide_eq_true hlt; omega
    obtain ⟨g1, o1, rfl⟩ := hta (by omega)
    obtain ⟨g2, o2, rfl⟩ := htb (by omega)
    have hlt2 : i < b.length := by omega
    refine fun w G cx => ⟨by omega, ptrK_intro g1 o1 rfl ⟨a[i], by rw [Int.toNat_natCast]; exact sl_int (hΦ.go _ _ cx.phi) hlt, by omega, ptrK_intro g2 o2 rfl ⟨b[i], by rw [Int.toNat_natCast]; exact sl_int (hΨ.go _ _ cx.phi) hlt2, Br.intro (fun h => fun w G cx => ⟨?_, cx.left⟩) (fun h => ⟨by unfold I64; omega, R1, Φ1, a.length - (i + 1), inferInstance, fun w G cx => cx, ⟨i + 1, rfl, hlt, rfl, rfl, rfl, ?_⟩, by omega⟩)⟩⟩⟩
    · have h := of_decide_eq_true h
      rw [decide_eq_false fun e => h (by subst e; rfl)]
    · have h : a[i] = b[i] := Decidable.not_not.1 (of_decide_eq_false h)
      rw [List.take_succ_eq_append_getElem hlt, List.take_succ_eq_append_getElem hlt2, hs, h]
  · have hge : i = a.length := by have := of_decide_eq_false hge; omega
    subst hge
    rw [List.take_length, ← hn, List.take_length] at hs
    rw [decide_eq_true hs]

theorem evenL_i64 {n : Int} (h1 : 1 ≤ n) (h2 : n ≤ 8) (m : Nat) (hm : m ≤ 16) : ∀ x ∈ (List.range m).map (evenAt n), I64 x := fun x hx => by
  obtain ⟨i, hi, rfl⟩ := List.mem_map.1 hx
  have hi := List.mem_range.1 hi
  have h : (i : Int) * n = ((i * n.toNat : Nat) : Int) := by rw [Int.natCast_mul, Int.toNat_of_nonneg (by omega)]
  have h3 : i * n.toNat ≤ 16 * 8 := Nat.mul_le_mul (by omega) (by omega)
  unfold evenAt I64
  rw [h, show ((i * n.toNat : Nat) : Int).tdiv 16 = ((i * n.toNat / 16 : Nat) : Int) from rfl]
  omega

theorem Even_sl [Stable Φ] (n : Int) : GivesSl Φ Tryd.prog F.place_Even #[.int .i64 n] (evenP n) id := by
  refine gives_sl (Bplace_Even_run n) fun W R => ?_
  unfold evenP
  refine fun w G cx => Br.intro (fun h => fun w G cx => ?_) (fun h => ?_)
  · have h : n < 1 ∨ 8 < n := by simpa using h
    rw [if_pos h]
    have cx : Ctx W w (bufZ none 0 [] :: R) Φ := (cx.nobuf 3 1).left
    obtain ⟨cx3, hs, _⟩ := Ctx.freeze (α := Int) (l := []) cx (ints_elems _ (by simp))
    exact ⟨none, 0, rfl, Nat.le_refl _, by decide, cx3.add hs⟩
  have h : ¬ (n < 1 ∨ 8 < n) := by simpa using h
  rw [if_neg h]
  clear cx
  have hmul : ∀ i : Nat, i < 16 → I64 ((i : Int) * n) := fun i hi => by
    have e : (i : Int) * n = ((i * n.toNat : Nat) : Int) := by rw [Int.natCast_mul, Int.toNat_of_nonneg (by omega)]
    have h3 : i * n.toNat ≤ 16 * 8 := Nat.mul_le_mul (by omega) (by omega)
    rw [e]; unfold I64; omega
  refine exI_mk (fun op on oc iI R' Φ' m => ∃ i : Nat, iI = i ∧ i ≤ 16 ∧ on = ((List.range i).map (evenAt n)).length ∧ R' = bufZ op oc ((List.range i).map (evenAt n)) :: R ∧ Φ' = Φ ∧ m = 16 - i) ⟨⟨bufZ none 0 [] :: R, Φ, _, inferInstance, fun w G cx => cx.nobuf 3 1, 0, rfl, by decide, rfl, rfl, rfl, rfl⟩, ?_⟩
  rintro op on oc iI R1 Φ1 m _ ⟨i, rfl, hi, rfl, rfl, rfl, rfl⟩
  have hil : ((List.range i).map (evenAt n)).length = i := by rw [List.length_map, List.length_range]
  refine Br.intro (fun hlt => ?_) (fun hge => fun w G cx => ?_)
  · have hlt : i < 16 := by have := of_decide_eq_true hlt; omega
    refine ⟨hmul i hlt, by omega, evenL_i64 (by omega) (by omega) (i + 1) hlt _ (List.mem_map.2 ⟨i, List.mem_range.2 (by omega), rfl⟩), fun kb w G cx => ?_⟩
    have e : (List.range (i + 1)).map (evenAt n) = (List.range i).map (evenAt n) ++ [((i : Int) * n).tdiv 16] := by rw [List.range_succ, List.map_append, List.map_singleton]; rfl
    obtain ⟨p', c', w', hrun, cx'⟩ := pushZ (by omega) cx
    rw [← e] at hrun cx'
    exact ⟨p', _, c', w', hrun, _, Φ1, inferInstance, cx', by unfold I64; omega, _, Φ1, 16 - (i + 1), inferInstance, fun w G cx => cx, ⟨i + 1, rfl, hlt, rfl, rfl, rfl, rfl⟩, by omega⟩
  · have hge : i = 16 := by have := of_decide_eq_false hge; omega
    subst hge
    have cx := cx.left
    obtain ⟨_, k1, k2⟩ := cx.bufLen 0 rfl
    obtain ⟨cx3, hs, _⟩ := Ctx.freeze (α := Int) cx (ints_elems _ (evenL_i64 (by omega) (by omega) 16 (by decide)))
    rw [hil] at k1
    exact ⟨op, oc, rfl, k1, k2, cx3.add hs⟩
end
end Go.Proofs.YtbkpfhhhbhaecaaDoor
end

/-
  small(), walked.
-/
section
set_option linter.unusedVariables false
set_option linter.unusedSimpArgs false
namespace Go.Proofs.YtbkpfhhhbhaecaaDoor
open Go.Vc


abbrev e3 : List Int := [0, 0, 0, 0, 0, 0, 1, 1, 1, 1, 1, 2, 2, 2, 2, 2]
abbrev e32 : List Int := [0, 0, 0, 0, 0, 0, 1, 1, 1, 1, 1, 0, 0, 1, 1, 1]
abbrev vz : List ValD := [⟨0, 0, ByteArray.mk #[]⟩]
theorem e3_is : evenP 3 = e3 := by decide
theorem e32_is (O : List Nat) : spreadG e3 2 O = e32 := by
  have h : evenRoom 2 O = evenRoom 2 [] := by funext w; simp [evenRoom]
  unfold spreadG
  rw [h]
  decide
theorem bkt_nil : bucketP [] = 11 := by kernel_rfl
theorem bkt_vz : bucketP vz = 8 := by kernel_rfl
theorem vz_rep {M : List Nat} {w : World} : Gv.rep M w [.int .i64 0, .int .i64 0, .string (ByteArray.mk #[])] (⟨0, 0, ByteArray.mk #[]⟩ : ValD) :=
  ⟨[.int .i64 0], [.int .i64 0, .string (ByteArray.mk #[])], rfl, ⟨rfl, by show I64 0; unfold I64; omega⟩, [.int .i64 0], [.string (ByteArray.mk #[])], rfl, ⟨rfl, by show I64 0; unfold I64; omega⟩, rfl, by decide⟩
theorem e3_i64 : ∀ x ∈ e3, I64 x := by unfold I64; decide
theorem e32_i64 : ∀ x ∈ e32, I64 x := by unfold I64; decide

set_option maxHeartbeats 1000000 in
theorem small37_in {Φ : PW} [Stable Φ] [hT : Has Φ TabI] : GivesIn Φ Tryd.prog F.erratalaw37_small #[] (.bool true) := by
  refine gives_in (Berratalaw37_small_run) fun W R => ?_
  intro w G cx
  have cx0 : Ctx W w (bufZ none 0 [] :: (R ++ G)) Φ := cx.nobuf 3 1
  obtain ⟨cx1, hs, _⟩ := Ctx.freeze (α := ValD) (l := []) (cx.nobuf 99 3) (by exact Elems.nil)
  have cx2 : Ctx W w (R ++ G) (fun M w => Φ M w ∧ Sl M w none ([] : List ValD)) := cx1.add hs
  clear cx cx0 cx1 hs
  have b0 := Bucket_in (Φ := fun M w => Φ M w ∧ Sl M w none ([] : List ValD)) (p := none) (cap := 0) (r := []) (by decide) (by simp)
  rw [bkt_nil] at b0
  refine b0.toI cx2 (Br.intro (fun _ => ?_) (fun h => absurd rfl (of_decide_eq_false h)))
  clear cx2 b0
  intro k7 w G cx
  obtain ⟨cx1, hs⟩ := cx.freezeBlk (α := ValD) (l := vz) (Elems.one vz_rep)
  have cx2 : Ctx W w (R ++ G) (fun M w => Φ M w ∧ Sl M w (some ⟨k7, 0, none⟩) vz) := (cx1.add hs).weak fun M w h => ⟨h.1.1, h.2⟩
  clear cx cx1 hs
  have b0 := Bucket_in (Φ := fun M w => Φ M w ∧ Sl M w (some ⟨k7, 0, none⟩) vz) (p := some ⟨k7, 0, none⟩) (cap := 1) (r := vz) (by decide) (by intro v hv; rw [List.mem_singleton.1 hv]; decide)
  rw [bkt_vz] at b0
  refine b0.use cx2 fun w c => ⟨8, rfl, R, Φ, inferInstance, Ctx.has c, ?_⟩
  intro w G cx
  clear b0
  have hE := Even_sl (Φ := Φ) 3
  rw [e3_is] at hE
  refine hE.to cx fun p1 c1 f1 f2 st1 => ?_
  clear cx
  intro k24 w G cx
  obtain ⟨cx1, hs⟩ := cx.freezeBlk (α := Int) (l := e3) (ints_elems e3 e3_i64)
  have hS := Same37_in (Φ := fun M w => (Φ M w ∧ Sl M w p1 e3) ∧ Sl M w (some ⟨k24, 0, none⟩) e3) (p := p1) (cap := c1) (a := e3) (q := some ⟨k24, 0, none⟩) (cap2 := 16) (b := e3) (by decide)
  rw [decide_eq_true rfl] at hS
  refine (hS.toBW (Ψ := Φ)) (cx1.add hs) fun w2 G2 cx2 => ?_
  clear cx1 hs cx hS
  refine hE.to cx2 fun p2 c2 f3 f4 st2 => fun w G cx => ?_
  refine Spread_to (l := e3) (n := 2) cx (fun h => absurd ⟨by decide, by decide, by decide⟩ h) fun O p3 c3 _ _ _ hO s1 s2 st3 => ?_
  rw [show (2 : Int).toNat = 2 from rfl, e32_is] at s1 st3 ⊢
  refine Br.intro (fun _ => Br.intro (fun _ => Br.intro (fun _ => ?_) (fun h => absurd rfl (of_decide_eq_false h))) (fun h => by cases h)) (fun h => absurd rfl (of_decide_eq_false h))
  intro k51 w G cx
  obtain ⟨cx1, hs⟩ := cx.freezeBlk (α := Int) (l := e32) (ints_elems e32 e32_i64)
  have hS := Same37_in (Φ := fun M w => ((Φ M w ∧ Sl M w p2 e3) ∧ Sl M w p3 e32) ∧ Sl M w (some ⟨k51, 0, none⟩) e32) (p := p3) (cap := c3) (a := e32) (q := some ⟨k51, 0, none⟩) (cap2 := 16) (b := e32) (by decide)
  rw [decide_eq_true rfl] at hS
  exact (hS.toBW (Ψ := Φ)) (cx1.add hs) fun w G cx => ⟨rfl, cx.left⟩
end Go.Proofs.YtbkpfhhhbhaecaaDoor
end

/-
  Move, walked; what Move and Even give, in plain Lean.
-/
section
set_option linter.unusedVariables false
set_option linter.unusedSimpArgs false
namespace Go.Proofs.YtbkpfhhhbhaecaaDoor
open Go.Vc


/-! ### plain -/
section
variable {Φ : PW} {p q : Option Addr} {cap cap2 : Nat} {l a b : List Int} {W w : World} {R G : List Own}

def moveOk (l : List Int) (bk wk n : Int) : Prop := rightZ l n = true ∧ 0 ≤ bk ∧ bk < 16 ∧ 0 ≤ wk ∧ wk < n

end
end Go.Proofs.YtbkpfhhhbhaecaaDoor
end

/-
  The law PlaceMoves, walked.
-/
section
set_option linter.unusedVariables false
set_option linter.unusedSimpArgs false
namespace Go.Proofs.YtbkpfhhhbhaecaaDoor
open Go.Vc


section
variable {Φ : PW} {p q : Option Addr} {cap cap2 : Nat} {l a b : List Int} {W w : World} {R G : List Own}

end
end Go.Proofs.YtbkpfhhhbhaecaaDoor
end

/-
  Keys of nodes, and what a node needs: walked.
-/
section
set_option linter.unusedVariables false
set_option linter.unusedSimpArgs false
namespace Go.Proofs.YtbkpfhhhbhaecaaDoor
open Go.Vc


/-- the cells of a node: 0 Op, 1 In, 8 Key, 9 Key2 -/
structure NodeC where
  n0 : Int
  n1P : Option Addr
  n1N : Nat
  n1C : Nat
  n2 : ByteArray
  n3 : Int
  n4P : Option Addr
  n4N : Nat
  n4C : Nat
  n5 : Int
  n6 : Int
  n7 : Int
  n8P : Option Addr
  n8N : Nat
  n8C : Nat
  n9P : Option Addr
  n9N : Nat
  n9C : Nat
  n10 : Int
  n11 : Int
  n12 : Int
  n13P : Option Addr
  n13N : Nat
  n13C : Nat
  n14P : Option Addr
  n14N : Nat
  n14C : Nat
  n15P : Option Addr
  n15N : Nat
  n15C : Nat

abbrev NodeC.cells (x : NodeC) : List Value := [.int .i64 x.n0, .slice x.n1P x.n1N x.n1C, .string x.n2, .int .i64 x.n3, .slice x.n4P x.n4N x.n4C, .int .i64 x.n5, .int .i64 x.n6, .int .i64 x.n7, .slice x.n8P x.n8N x.n8C, .slice x.n9P x.n9N x.n9C,
  .int .i64 x.n10, .int .i64 x.n11, .int .i64 x.n12, .slice x.n13P x.n13N x.n13C, .slice x.n14P x.n14N x.n14C, .slice x.n15P x.n15N x.n15C]
abbrev NodeC.v (x : NodeC) : Value := .agg #[.int .i64 x.n0, .slice x.n1P x.n1N x.n1C, .string x.n2, .int .i64 x.n3, .slice x.n4P x.n4N x.n4C, .int .i64 x.n5, .int .i64 x.n6, .int .i64 x.n7, .slice x.n8P x.n8N x.n8C, .slice x.n9P x.n9N x.n9C,
  .int .i64 x.n10, .int .i64 x.n11, .int .i64 x.n12, .slice x.n13P x.n13N x.n13C, .slice x.n14P x.n14N x.n14C, .slice x.n15P x.n15N x.n15C]

structure ColD where
  name : ByteArray
  type : Int
  unit : ByteArray
instance : Gv ColD := Gv.via (β := ByteArray × Int × ByteArray) (fun x => (x.name, x.type, x.unit)) (fun y => ⟨y.1, y.2.1, y.2.2⟩) (fun _ => rfl)

structure NodeD where
  op : Int
  inp : List Int
  src : ByteArray
  schema : Int
  exprs : Opq
  kind : Int
  size : Int
  step : Int
  key : List Int
  key2 : List Int
  before : Int
  after : Int
  keep : Int
  aggs : Opq
  seq : Opq
  cols : List ColD
instance : Gv NodeD := Gv.via (β := Int × List Int × ByteArray × Int × Opq × Int × Int × Int × List Int × List Int × Int × Int × Int × Opq × Opq × List ColD)
  (fun x => (x.op, x.inp, x.src, x.schema, x.exprs, x.kind, x.size, x.step, x.key, x.key2, x.before, x.after, x.keep, x.aggs, x.seq, x.cols))
  (fun y => ⟨y.1, y.2.1, y.2.2.1, y.2.2.2.1, y.2.2.2.2.1, y.2.2.2.2.2.1, y.2.2.2.2.2.2.1, y.2.2.2.2.2.2.2.1, y.2.2.2.2.2.2.2.2.1, y.2.2.2.2.2.2.2.2.2.1, y.2.2.2.2.2.2.2.2.2.2.1, y.2.2.2.2.2.2.2.2.2.2.2.1, y.2.2.2.2.2.2.2.2.2.2.2.2.1, y.2.2.2.2.2.2.2.2.2.2.2.2.2.1, y.2.2.2.2.2.2.2.2.2.2.2.2.2.2.1, y.2.2.2.2.2.2.2.2.2.2.2.2.2.2.2⟩) (fun _ => rfl)

/-- the cells stand for the node: its number, its inputs and its keys -/
structure NodeC.Of (x : NodeC) (d : NodeD) : Prop where
  op : x.n0 = d.op
  inp : x.n1N = d.inp.length
  key : x.n8N = d.key.length
  key2 : x.n9N = d.key2.length
def NodeC.At (x : NodeC) (d : NodeD) : PW := fun M w => Sl M w x.n1P d.inp ∧ Sl M w x.n8P d.key ∧ Sl M w x.n9P d.key2
instance instStableNodeAt (x : NodeC) (d : NodeD) : Stable (fun M w => x.At d M w) := by unfold NodeC.At; infer_instance
/-- the cells of a node that stands for plain data -/
theorem node_cells {M : List Nat} {w : World} {cs : List Value} {x : NodeD} (h : Gv.rep M w cs x) : ∃ c : NodeC, cs = c.cells ∧ c.Of x ∧ c.At x M w := by
  obtain ⟨_, _, rfl, ⟨rfl, g0⟩, _, _, rfl, ⟨p1, c1, rfl, _, _, s1⟩, _, _, rfl, ⟨rfl, _⟩, _, _, rfl, ⟨rfl, g3⟩, _, _, rfl, ⟨p4, c4, rfl, _⟩, _, _, rfl, ⟨rfl, g5⟩, _, _, rfl, ⟨rfl, g6⟩, _, _, rfl, ⟨rfl, g7⟩, _, _, rfl, ⟨p8, c8, rfl, _, _, s8⟩, _, _, rfl, ⟨p9, c9, rfl, _, _, s9⟩,
    _, _, rfl, ⟨rfl, g10⟩, _, _, rfl, ⟨rfl, g11⟩, _, _, rfl, ⟨rfl, g12⟩, _, _, rfl, ⟨p13, c13, rfl, _⟩, _, _, rfl, ⟨p14, c14, rfl, _⟩, p15, c15, rfl, _, _, s15⟩ := h
  exact ⟨⟨x.op, p1, _, c1, x.src, x.schema, p4, _, c4, x.kind, x.size, x.step, p8, _, c8, p9, _, c9, x.before, x.after, x.keep, p13, _, c13, p14, _, c14, p15, _, c15⟩, rfl, ⟨rfl, rfl, rfl, rfl⟩, s1, s8, s9⟩

/-! ### plain -/
def keyK (op inx : Int) : Nat :=
  if (decide (inx = 0) && (decide (op = 6) || decide (op = 7) || decide (op = 4) || decide (op = 5) || decide (op = 8))) = true then 1
  else if (decide (inx = 1) && (decide (op = 6) || decide (op = 7))) = true then 2 else 0
def keyL (d : NodeD) (inx : Int) : List Int := if keyK d.op inx = 1 then d.key else if keyK d.op inx = 2 then d.key2 else []
def keyB (d : NodeD) (inx : Int) : Bool := decide (keyK d.op inx ≠ 0)
abbrev zeroV : ValD := ⟨0, 0, ByteArray.mk #[]⟩
def valAt (row : List ValD) (i : Int) : ValD := if 0 ≤ i ∧ i < row.length then row.getD i.toNat zeroV else zeroV
def valsP (row : List ValD) (key : List Int) : List ValD := key.map (valAt row)
theorem val_mem {row : List ValD} {i : Int} : valAt row i = zeroV ∨ valAt row i ∈ row := by
  unfold valAt
  split
  · rename_i h
    right
    rw [List.getD_eq_getElem?_getD, List.getElem?_eq_getElem (by omega)]
    exact List.getElem_mem _
  · exact .inl rfl
theorem vals_text {row : List ValD} {key : List Int} (h : ∀ v ∈ row, v.text.size ≤ 300) : ∀ v ∈ valsP row key, v.text.size ≤ 300 := fun v hv => by
  obtain ⟨i, _, rfl⟩ := List.mem_map.1 hv
  rcases val_mem (row := row) (i := i) with e | e
  · rw [e]; decide
  · exact h _ e
theorem vals_step {row : List ValD} {key : List Int} {i : Nat} (h : i < key.length) : valsP row (key.take (i + 1)) = valsP row (key.take i) ++ [valAt row key[i]] := by
  unfold valsP
  rw [List.take_succ_eq_append_getElem h, List.map_append]; rfl
def shortB (r : List ValD) (n : Int) : Bool := (r.all fun v => decide (v.text.size ≤ 300)) && decide ((r.length : Int) ≤ n)

/-! ### walked -/
abbrev ValD.cells (x : ValD) : List Value := [.int .i64 x.kind, .int .i64 x.num, .string x.text]
theorem val_rep {M : List Nat} {w : World} {v : ValD} (h : (I64 v.kind ∧ I64 v.num) ∧ v.text.size ≤ maxLen) : Gv.rep M w v.cells v :=
  ⟨[.int .i64 v.kind], [.int .i64 v.num, .string v.text], rfl, ⟨rfl, h.1.1⟩, [.int .i64 v.num], [.string v.text], rfl, ⟨rfl, h.1.2⟩, rfl, h.2⟩
theorem val_ok {row : List ValD} {i : Int} (h : ∀ v ∈ row, (I64 v.kind ∧ I64 v.num) ∧ v.text.size ≤ maxLen) : (I64 (valAt row i).kind ∧ I64 (valAt row i).num) ∧ (valAt row i).text.size ≤ maxLen := by
  rcases val_mem (row := row) (i := i) with e | e
  · rw [e]; unfold I64; decide
  · exact h _ e

/-- append one value that was made -/
theorem pushV {W w : World} {R G : List Own} {PS : PW} [Stable PS] {op : Option Addr} {oc : Nat} {ds : List Value} {o : List ValD} {x : ValD} {kb : Nat} (hx : (I64 x.kind ∧ I64 x.num) ∧ x.text.size ≤ maxLen) (ho : o.length < 10000000)
    (cx : Ctx W w (.blk kb x.cells 99 :: .buf op o.length oc ds 99 3 :: R ++ G) (fun M w => PS M w ∧ Elems M w ds o)) :
    ∃ p c w', Sem.run Tryd.prog (builtin Builtin.append #[40, 40] 40 #[false, false] #[.slice op o.length oc, .slice (some ⟨kb, 0, none⟩) 1 1]) w = .ok (.value (.slice p (o ++ [x]).length c)) w' ∧ Ctx W w' (.buf p (o ++ [x]).length c (ds ++ x.cells) 99 3 :: R ++ G) (fun M w => PS M w ∧ Elems M w (ds ++ x.cells) (o ++ [x])) := by
  obtain ⟨p', cap', w', hrun, _, cx'⟩ := Ctx.app1 (P := Tryd.prog) (ts := 40) (ty := 40) (kb := #[false, false]) (size := 3) (bytes := 32) cx (by kernel_rfl) (by omega) rfl rfl (by omega) (by omega)
  have e : o.length + 1 = (o ++ [x]).length := by simp
  rw [e] at hrun cx'
  exact ⟨p', cap', w', hrun, cx'.weak fun M w h => ⟨h.1, h.2.snoc (val_rep hx)⟩⟩

/-- a block as an empty slice with room for so many elements -/
theorem toRoom {W w : World} {S : List Own} {Φ : PW} [Stable Φ] {b : Nat} {cs : List Value} {t : TypeId} (c : Ctx W w (.blk b cs t :: S) Φ) (n size : Nat) (hl : cs.length = n * size) (hm : n ≤ maxLen) :
    Ctx W w (.buf (some ⟨b, 0, none⟩) 0 n [] t size :: S) Φ := by
  refine c.upd (k := 0) rfl (Chg.refl _ _) (by simp [Own.dom]) (by simp [Own.dom]) ?_
  exact ⟨by simp, .inr ⟨b, n, cs.toArray, rfl, Nat.zero_le _, c.blk 0 rfl, Nat.zero_le _, hm, by simpa using hl, by simp⟩⟩

section
variable {Φ : PW} {p q : Option Addr} {cap cap2 : Nat} {r a b : List ValD} {W w : World} {R G : List Own}

theorem Short_in [Stable Φ] {n : Int} [hΦ : Has Φ (fun M w => Sl M w p r)] (hlen : r.length ≤ maxLen) : GivesIn Φ Tryd.prog F.errataref03_Short #[.slice p r.length cap, .int .i64 n] (.bool (shortB r n)) := by
  refine .there (fun M w h => (hΦ.go M w h).there) fun hta => ?_
  refine gives_in (Berrataref03_Short_run p r.length cap n) fun W R => ?_
  refine exI_mk (fun n R' Φ' k => ∃ i : Nat, n = i ∧ i ≤ r.length ∧ R' = R ∧ Φ' = Φ ∧ k = r.length - i ∧ ∀ v ∈ r.take i, v.text.size ≤ 300) ⟨⟨R, Φ, _, inferInstance, fun w F c => c, 0, rfl, Nat.zero_le _, rfl, rfl, rfl, by simp⟩, ?_⟩
  rintro n R1 Φ1 k _ ⟨i, rfl, hi, rfl, rfl, rfl, hs⟩
  refine Br.intro (fun hlt => ?_) (fun hge => fun w G cx => ⟨?_, cx.left⟩)
  · have hlt : i < r.length := by have := of_decide_eq_true hlt; omega
    obtain ⟨g1, o1, rfl⟩ := hta (by omega)
    refine ⟨by omega, ptrK_intro g1 o1 rfl fun w G cx => ⟨r[i].text, ?_, Br.intro (fun h => fun w G cx => ⟨?_, cx.left⟩) (fun h => ⟨by unfold I64; unfold maxLen at hlen; omega, R1, Φ1, r.length - (i + 1), inferInstance, fun w G cx => cx, ⟨i + 1, rfl, hlt, rfl, rfl, rfl, ?_⟩, by omega⟩)⟩⟩
    · rw [Int.toNat_natCast]
      exact sl_val (hΦ.go _ _ cx.phi) hlt 2 (by simp)
    · have h := of_decide_eq_true h
      unfold shortB
      rw [List.all_eq_false.2 ⟨r[i], List.getElem_mem _, by simp; omega⟩]; rfl
    · have h := of_decide_eq_false h
      rw [List.take_succ_eq_append_getElem hlt]
      intro v hv
      rcases List.mem_append.1 hv with hv | hv
      · exact hs v hv
      · rw [List.mem_singleton.1 hv]; omega
  · have hge : i = r.length := by have := of_decide_eq_false hge; omega
    subst hge
    rw [List.take_length] at hs
    unfold shortB
    rw [List.all_eq_true.2 fun v hv => decide_eq_true (hs v hv)]; rfl

theorem Same03_in [Stable Φ] [hΦ : Has Φ (fun M w => Sl M w p a)] [hΨ : Has Φ (fun M w => Sl M w q b)] (ha : a.length ≤ 1000000) : GivesIn Φ Tryd.prog F.slices_Equal_api_Value_api_Value #[.slice p a.length cap, .slice q b.length cap2] (.bool (decide (a = b))) := by
  refine .there (fun M w h => (hΦ.go M w h).there) fun hta => .there (fun M w h => (hΨ.go M w h).there) fun htb => ?_
  refine gives_in (Bslices_Equal_api_Value_api_Value_run p a.length cap q b.length cap2) fun W R => Br.intro (fun hn => fun w G cx => ⟨?_, cx.left⟩) (fun hn => ?_)
  · have hn := of_decide_eq_true hn
    rw [decide_eq_false fun e => hn (by rw [e])]
  have hn : b.length = a.length := by have := Decidable.not_not.1 (of_decide_eq_false hn); omega
  refine exI_mk (fun n R' Φ' k => ∃ i : Nat, n = i ∧ i ≤ a.length ∧ R' = R ∧ Φ' = Φ ∧ k = a.length - i ∧ a.take i = b.take i) ⟨⟨R, Φ, _, inferInstance, fun w F c => c, 0, rfl, Nat.zero_le _, rfl, rfl, rfl, rfl⟩, ?_⟩
  rintro n R1 Φ1 k _ ⟨i, rfl, hi, rfl, rfl, rfl, hs⟩
  refine Br.intro (fun hlt => ?_) (fun hge => fun w G cx => ⟨?_, cx.left⟩)
  · have hlt : i < a.length := by have := of_decide_eq_true hlt; omega
    obtain ⟨g1, o1, rfl⟩ := hta (by omega)
    obtain ⟨g2, o2, rfl⟩ := htb (by omega)
    have hlt2 : i < b.length := by omega
    have he : (decide (a[i].kind = b[i].kind) && (decide (a[i].num = b[i].num) && (decide (a[i].text = b[i].text) && true))) = decide (a[i] = b[i]) := by
      rw [Bool.and_true, ← Bool.decide_and, ← Bool.decide_and]
      exact decide_eq_decide.2 val_ext.symm
    refine fun w G cx => ⟨by omega, ptrK_intro g1 o1 rfl ⟨a[i].kind, a[i].num, a[i].text, by rw [Int.toNat_natCast]; exact sl_val (hΦ.go _ _ cx.phi) hlt, by omega, ptrK_intro g2 o2 rfl ⟨b[i].kind, b[i].num, b[i].text, by rw [Int.toNat_natCast]; exact sl_val (hΨ.go _ _ cx.phi) hlt2, by kernel_rfl, ?_⟩⟩⟩
    rw [he]
    refine Br.intro (fun h => fun w G cx => ⟨?_, cx.left⟩) (fun h => ⟨by unfold I64; omega, R1, Φ1, a.length - (i + 1), inferInstance, fun w G cx => cx, ⟨i + 1, rfl, hlt, rfl, rfl, rfl, ?_⟩, by omega⟩)
    · have h : ¬ a[i] = b[i] := by simpa using h
      rw [decide_eq_false fun e => h (by subst e; rfl)]
    · have h : a[i] = b[i] := by simpa using h
      rw [List.take_succ_eq_append_getElem hlt, List.take_succ_eq_append_getElem hlt2, hs, h]
  · have hge : i = a.length := by have := of_decide_eq_false hge; omega
    subst hge
    rw [List.take_length, ← hn, List.take_length] at hs
    rw [decide_eq_true hs]
theorem SameRows_in [Stable Φ] [hΦ : Has Φ (fun M w => Sl M w p a)] [hΨ : Has Φ (fun M w => Sl M w q b)] (ha : a.length ≤ 1000000) : GivesIn Φ Tryd.prog F.value_SameRows #[.slice p a.length cap, .slice q b.length cap2] (.bool (decide (a = b))) := by
  refine gives_in (Bvalue_SameRows_run p a.length cap q b.length cap2) fun W R => ?_
  exact fun w G cx => (Same03_in ha).toB cx fun w G cx => ⟨rfl, cx.left⟩

theorem CloneZ_to [Stable Φ] {l : List Int} [hΦ : Has Φ (fun M w => Sl M w p l)] (hlen : l.length ≤ 1000000) : GivesSl Φ Tryd.prog F.slices_Clone_int_int #[.slice p l.length cap] l id :=
  ⟨fun W w S c => (CloneZ_in (Φ := Φ) (p := p) (cap := cap) (fun M w h => hΦ.go M w h) (by omega)).use c fun p1 cap1 ds w cx => by
    obtain ⟨c2, hs, _, h2, h3⟩ := Ctx.freeze (α := Int) cx cx.phi.2
    exact ⟨p1, cap1, rfl, h2, h3, (c2.add hs).weak fun M w h => ⟨h.1.1, h.2⟩⟩⟩

theorem Key_to [Stable Φ] {x : NodeC} {d : NodeD} {inx : Int} (hx : x.Of d) [hA : Has Φ (fun M w => x.At d M w)] (l1 : d.key.length ≤ 1000000) (l2 : d.key2.length ≤ 1000000) (c : Ctx W w (R ++ G) Φ) {K : Option Addr → Nat → Nat → Bool → List Own → PW → Prop}
    (h : ∀ p' c', (keyL d inx).length ≤ c' → c' ≤ maxLen → There p' (keyL d inx).length → Stable (fun M w => Φ M w ∧ Sl M w p' (keyL d inx)) → K p' (keyL d inx).length c' (keyB d inx) R (fun M w => Φ M w ∧ Sl M w p' (keyL d inx))) :
    Calls Tryd.prog F.place_Key #[x.v, .int .i64 inx] w fun e w' => ∃ p' k c' b, e = .returned (.tuple #[.slice p' k c', .bool b]) ∧ ∃ R' Φ', Stable Φ' ∧ Ctx W w' (R' ++ G) Φ' ∧ K p' k c' b R' Φ' := by
  refine (Bplace_Key_run x.n0 x.n1P x.n1N x.n1C x.n2 x.n3 x.n4P x.n4N x.n4C x.n5 x.n6 x.n7 x.n8P x.n8N x.n8C x.n9P x.n9N x.n9C x.n10 x.n11 x.n12 x.n13P x.n13N x.n13C x.n14P x.n14N x.n14C x.n15P x.n15N x.n15C inx (J := fun v w' => ∃ p' k c' b, v = .tuple #[.slice p' k c', .bool b] ∧ ∃ R' Φ', Stable Φ' ∧ Ctx W w' (R' ++ G) Φ' ∧ K p' k c' b R' Φ') (R := R ++ G) c ?_).mono fun e w' ⟨v, he, p', k, c', m, hv, rest⟩ => ⟨p', k, c', m, by rw [he, hv], rest⟩
  clear c
  obtain ⟨h0, _, h8, h9⟩ := hx
  have hA1 : Has Φ (fun M w => Sl M w x.n8P d.key) := ⟨fun M w h => (hA.go M w h).2.1⟩
  have hA2 : Has Φ (fun M w => Sl M w x.n9P d.key2) := ⟨fun M w h => (hA.go M w h).2.2⟩
  rw [h0, h8, h9]
  refine fun _ w G2 cx => fun w G2 cx => Br.intro (fun h1 => fun w G2 cx => ?_) (fun h1 => fun w G2 cx => Br.intro (fun h2 => fun w G2 cx => ?_) (fun h2 => fun w G2 cx => ?_))
  · have ek : keyK d.op inx = 1 := by unfold keyK; rw [if_pos h1]
    have el : keyL d inx = d.key := by unfold keyL; rw [if_pos ek]
    have eb : keyB d inx = true := by unfold keyB; rw [ek]; rfl
    rw [el, eb] at h
    refine (CloneZ_to (Φ := Φ) (l := d.key) l1).tot cx fun p' c' g1 g2 g3 st => fun w G2 cx => ⟨p', _, c', true, rfl, R, _, st, cx.left, h p' c' g1 g2 g3 st⟩
  · have ek : keyK d.op inx = 2 := by unfold keyK; rw [if_neg (by rw [h1]; simp), if_pos h2]
    have el : keyL d inx = d.key2 := by unfold keyL; rw [if_neg (by omega), if_pos ek]
    have eb : keyB d inx = true := by unfold keyB; rw [ek]; rfl
    rw [el, eb] at h
    refine (CloneZ_to (Φ := Φ) (l := d.key2) l2).tot cx fun p' c' g1 g2 g3 st => fun w G2 cx => ⟨p', _, c', true, rfl, R, _, st, cx.left, h p' c' g1 g2 g3 st⟩
  · have ek : keyK d.op inx = 0 := by unfold keyK; rw [if_neg (by rw [h1]; simp), if_neg (by rw [h2]; simp)]
    have el : keyL d inx = [] := by unfold keyL; rw [if_neg (by omega), if_neg (by omega)]
    have eb : keyB d inx = false := by unfold keyB; rw [ek]; rfl
    rw [el, eb] at h
    exact ⟨none, 0, 0, false, rfl, R, _, inferInstance, cx.left.weak fun M w h => ⟨h, Sl.nil⟩, h none 0 (Nat.le_refl _) (by decide) (fun h => by simp at h) inferInstance⟩

set_option maxHeartbeats 1000000 in
/-- the law's own values -/
theorem Vals37_sl [Stable Φ] {key : List Int} [hΦ : Has Φ (fun M w => Sl M w p r)] [hK : Has Φ (fun M w => Sl M w q key)] (hr : r.length ≤ maxLen) (hk : key.length ≤ 1000000) : GivesSl Φ Tryd.prog F.erratalaw37_values #[.slice p r.length cap, .slice q key.length cap2] (valsP r key) id := by
  refine .there (fun M w h => (hΦ.go M w h).there) fun hta => .there (fun M w h => (hK.go M w h).there) fun htb => ?_
  refine .know (fun M w h => sl_i64 (hΦ.go M w h)) fun hi64 => ?_
  refine gives_sl (Berratalaw37_values_run p r.length cap q key.length cap2) fun W R => ?_
  refine exI_mk (fun op on oc iI R' Φ' m => ∃ i ds, iI = (i : Nat) ∧ i ≤ key.length ∧ on = (valsP r (key.take i)).length ∧ R' = .buf op on oc ds 99 3 :: R ∧ Φ' = (fun M w => Φ M w ∧ Elems M w ds (valsP r (key.take i))) ∧ m = key.length - i) ⟨⟨.buf none 0 0 [] 99 3 :: R, (fun M w => Φ M w ∧ Elems M w [] ([] : List ValD)), _, inferInstance, fun w G cx => ((cx.nobuf 99 3).weak fun M w h => ⟨h, Elems.nil⟩), 0, [], rfl, Nat.zero_le _, rfl, rfl, rfl, rfl⟩, ?_⟩
  rintro op on oc iI R1 Φ1 m _ ⟨i, ds, rfl, hi, rfl, rfl, rfl, rfl⟩
  have hil : (valsP r (key.take i)).length = i := by unfold valsP; rw [List.length_map, List.length_take]; omega
  refine Br.intro (fun hlt => ?_) (fun hge => fun w G cx => ?_)
  · have hlt : i < key.length := by have := of_decide_eq_true hlt; omega
    obtain ⟨gk, ok, rfl⟩ := htb (by omega)
    have rd : ∀ {S : List Own} {w : World}, Ctx W w S (fun M w => Φ M w ∧ Elems M w ds (valsP r (key.take i))) → w.cell? ⟨gk, ok + (i : Int).toNat, none⟩ = some (.int .i64 key[i]) := fun cx => by
      rw [Int.toNat_natCast]; exact sl_int (hK.go _ _ cx.phi.1) hlt
    have stp := vals_step (row := r) hlt
    have hok := val_ok (i := key[i]) hi64
    refine fun _ w G cx => ⟨by omega, ptrK_intro gk ok rfl ⟨key[i], rd cx, fun _ => by omega, ptrK_intro gk ok rfl ⟨key[i], fun _ => rd cx, Br.intro (fun h => ⟨by omega, ptrK_intro gk ok rfl fun w G cx => ⟨key[i], rd cx, ?_⟩⟩) (fun h => fun kb w G cx => ?_)⟩⟩⟩
    · rw [Bool.and_eq_true] at h
      have h1 := of_decide_eq_true h.1
      have h2 := of_decide_eq_true h.2
      obtain ⟨j, hj⟩ : ∃ j : Nat, key[i] = j := ⟨key[i].toNat, by omega⟩
      have hjl : j < r.length := by omega
      have hv : valAt r key[i] = r[j] := by
        unfold valAt
        rw [if_pos ⟨h1, h2⟩, hj, Int.toNat_natCast, List.getD_eq_getElem?_getD, List.getElem?_eq_getElem hjl]; rfl
      obtain ⟨gr, or, rfl⟩ := hta (by omega)
      refine ⟨⟨h1, h2⟩, ptrK_intro gr or rfl fun w G cx => ⟨(valAt r key[i]).kind, (valAt r key[i]).num, (valAt r key[i]).text, ?_, fun kb w G cx => ?_⟩⟩
      · rw [hv, hj, Int.toNat_natCast]
        exact sl_val (hΦ.go _ _ cx.phi.1) hjl
      · obtain ⟨p', c', w', hrun, cx'⟩ := pushV (x := valAt r key[i]) hok (by omega) cx
        rw [← stp] at hrun cx'
        exact ⟨p', _, c', w', hrun, _, _, inferInstance, cx', by unfold I64; omega, _, _, key.length - (i + 1), inferInstance, fun w G cx => cx, ⟨i + 1, _, rfl, hlt, rfl, rfl, rfl, rfl⟩, by omega⟩
    · have hv : valAt r key[i] = zeroV := by
        unfold valAt
        rw [if_neg fun e => by rw [decide_eq_true e.1, decide_eq_true e.2] at h; cases h]
      have cx : Ctx W w (.blk kb (valAt r key[i]).cells 99 :: .buf op (valsP r (key.take i)).length oc ds 99 3 :: R ++ G) (fun M w => Φ M w ∧ Elems M w ds (valsP r (key.take i))) := by rw [hv]; exact cx
      obtain ⟨p', c', w', hrun, cx'⟩ := pushV (x := valAt r key[i]) hok (by omega) cx
      rw [← stp] at hrun cx'
      exact ⟨p', _, c', w', hrun, _, _, inferInstance, cx', by unfold I64; omega, _, _, key.length - (i + 1), inferInstance, fun w G cx => cx, ⟨i + 1, _, rfl, hlt, rfl, rfl, rfl, rfl⟩, by omega⟩
  · have hge : i = key.length := by have := of_decide_eq_false hge; omega
    subst hge
    rw [List.take_length] at cx ⊢
    obtain ⟨cx3, hs, _, k1, k2⟩ := Ctx.freeze (α := ValD) cx.left cx.left.phi.2
    exact ⟨op, oc, rfl, k1, k2, (cx3.add hs).weak fun M w h => ⟨h.1.1, h.2⟩⟩

def needP (d : NodeD) (inx bucket : Int) (r : List ValD) : Int := if keyB d inx = true then bucketP (valsP r (keyL d inx)) else bucket

set_option maxHeartbeats 1000000 in
theorem Need_in [Stable Φ] [hT : Has Φ TabI] {x : NodeC} {d : NodeD} {inx bucket : Int} (hx : x.Of d) [hA : Has Φ (fun M w => x.At d M w)] [hΦ : Has Φ (fun M w => Sl M w p r)] (l1 : d.key.length ≤ 10000) (l2 : d.key2.length ≤ 10000) (hr : r.length ≤ maxLen) (ht : ∀ v ∈ r, v.text.size ≤ 300) :
    GivesIn Φ Tryd.prog F.place_Need #[x.v, .int .i64 inx, .int .i64 bucket, .slice p r.length cap] (.int .i64 (needP d inx bucket r)) := by
  refine .there (fun M w h => (hΦ.go M w h).there) fun hta => ?_
  refine .know (fun M w h => sl_i64 (hΦ.go M w h)) fun hi64 => ?_
  refine gives_in (Bplace_Need_run x.n0 x.n1P x.n1N x.n1C x.n2 x.n3 x.n4P x.n4N x.n4C x.n5 x.n6 x.n7 x.n8P x.n8N x.n8C x.n9P x.n9N x.n9C x.n10 x.n11 x.n12 x.n13P x.n13N x.n13C x.n14P x.n14N x.n14C x.n15P x.n15N x.n15C inx bucket p r.length cap) fun W R => ?_
  have hL : (keyL d inx).length ≤ 10000 := by
    unfold keyL
    split
    · exact l1
    · split
      · exact l2
      · exact Nat.zero_le _
  refine fun _ w G cx => Key_to (x := x) (d := d) hx (by omega) (by omega) cx fun q c1 e1 e2 htb st1 => ?_
  clear cx
  unfold needP
  obtain ⟨key, hkey⟩ : ∃ key, keyL d inx = key := ⟨_, rfl⟩
  rw [hkey] at hL e1 htb st1 ⊢
  refine Br.intro (fun h => fun w G cx => ⟨?_, cx.left.fst⟩) (fun h => ⟨⟨by omega, by omega, by omega, by omega⟩, fun kb => ?_⟩)
  · rw [if_neg (by rw [show keyB d inx = false by simpa using h]; simp)]
  rw [if_pos (show keyB d inx = true by simpa using h)]
  have hΦ2 : ∀ M w, (Φ M w ∧ Sl M w q key) → Sl M w p r := fun M w h => hΦ.go M w h.1
  refine exI_mk (fun op on oc iI R' Φ' m => ∃ i ds, iI = (i : Nat) ∧ i ≤ key.length ∧ on = (valsP r (key.take i)).length ∧ R' = .buf op on oc ds 99 3 :: R ∧ Φ' = (fun M w => (Φ M w ∧ Sl M w q key) ∧ Elems M w ds (valsP r (key.take i))) ∧ m = key.length - i) ⟨⟨.buf (some ⟨kb, 0, none⟩) 0 key.length [] 99 3 :: R, (fun M w => (Φ M w ∧ Sl M w q key) ∧ Elems M w [] ([] : List ValD)), _, inferInstance, fun w G cx => ((toRoom cx key.length 3 (by simp) (by unfold maxLen; omega)).weak fun M w h => ⟨h, Elems.nil⟩), 0, [], rfl, Nat.zero_le _, rfl, rfl, rfl, rfl⟩, ?_⟩
  rintro op on oc iI R1 Φ1 m _ ⟨i, ds, rfl, hi, rfl, rfl, rfl, rfl⟩
  have hil : (valsP r (key.take i)).length = i := by unfold valsP; rw [List.length_map, List.length_take]; omega
  refine Br.intro (fun hlt => ?_) (fun hge => fun w G cx => ?_)
  · have hlt : i < key.length := by have := of_decide_eq_true hlt; omega
    obtain ⟨gk, ok, rfl⟩ := htb (by omega)
    have rd : ∀ {S : List Own} {w : World}, Ctx W w S (fun M w => (Φ M w ∧ Sl M w (some ⟨gk, ok, none⟩) key) ∧ Elems M w ds (valsP r (key.take i))) → w.cell? ⟨gk, ok + (i : Int).toNat, none⟩ = some (.int .i64 key[i]) := fun cx => by
      rw [Int.toNat_natCast]; exact sl_int cx.phi.1.2 hlt
    have stp := vals_step (row := r) hlt
    have hok := val_ok (i := key[i]) hi64
    refine ⟨by omega, ptrK_intro gk ok rfl fun w G cx => ⟨key[i], rd cx, fun _ w G cx => Br.intro (fun h => ?_) (fun h => fun kb w G cx => ?_)⟩⟩
    · rw [Bool.and_eq_true] at h
      have h1 := of_decide_eq_true h.1
      have h2 := of_decide_eq_true h.2
      obtain ⟨j, hj⟩ : ∃ j : Nat, key[i] = j := ⟨key[i].toNat, by omega⟩
      have hjl : j < r.length := by omega
      have hv : valAt r key[i] = r[j] := by
        unfold valAt
        rw [if_pos ⟨h1, h2⟩, hj, Int.toNat_natCast, List.getD_eq_getElem?_getD, List.getElem?_eq_getElem hjl]; rfl
      obtain ⟨gr, or, rfl⟩ := hta (by omega)
      refine ⟨⟨h1, h2⟩, ptrK_intro gr or rfl fun w G cx => ⟨(valAt r key[i]).kind, (valAt r key[i]).num, (valAt r key[i]).text, ?_, fun kb w G cx => ?_⟩⟩
      · rw [hv, hj, Int.toNat_natCast]
        exact sl_val (hΦ2 _ _ cx.phi.1) hjl
      · obtain ⟨p', c', w', hrun, cx'⟩ := pushV (x := valAt r key[i]) hok (by omega) cx
        rw [← stp] at hrun cx'
        exact ⟨p', _, c', w', hrun, _, _, inferInstance, cx', by unfold I64; omega, _, _, key.length - (i + 1), inferInstance, fun w G cx => cx, ⟨i + 1, _, rfl, hlt, rfl, rfl, rfl, rfl⟩, by omega⟩
    · have hv : valAt r key[i] = zeroV := by
        unfold valAt
        rw [if_neg fun e => by rw [decide_eq_true e.1, decide_eq_true e.2] at h; cases h]
      have cx : Ctx W w (.blk kb (valAt r key[i]).cells 99 :: .buf op (valsP r (key.take i)).length oc ds 99 3 :: R ++ G) (fun M w => (Φ M w ∧ Sl M w (some ⟨gk, ok, none⟩) key) ∧ Elems M w ds (valsP r (key.take i))) := by rw [hv]; exact cx
      obtain ⟨p', c', w', hrun, cx'⟩ := pushV (x := valAt r key[i]) hok (by omega) cx
      rw [← stp] at hrun cx'
      exact ⟨p', _, c', w', hrun, _, _, inferInstance, cx', by unfold I64; omega, _, _, key.length - (i + 1), inferInstance, fun w G cx => cx, ⟨i + 1, _, rfl, hlt, rfl, rfl, rfl, rfl⟩, by omega⟩
  · have hge : i = key.length := by have := of_decide_eq_false hge; omega
    subst hge
    rw [List.take_length] at cx ⊢
    obtain ⟨cx3, hs, _, k1, k2⟩ := Ctx.freeze (α := ValD) cx cx.phi.2
    exact (Bucket_in (Φ := fun M w => ((Φ M w ∧ Sl M w q key) ∧ Elems M w ds (valsP r key)) ∧ Sl M w op (valsP r key)) (p := op) (cap := oc) (r := valsP r key) (by unfold valsP; rw [List.length_map]; exact hL) (fun v hv => by have := vals_text (key := key) ht v hv; omega)).toI (cx3.add hs) fun w G cx => ⟨rfl, cx.left.weak fun M w h => h.1.1.1⟩
end
end Go.Proofs.YtbkpfhhhbhaecaaDoor
end

/-
  The law PlaceKeys, walked.
-/
section
set_option linter.unusedVariables false
set_option linter.unusedSimpArgs false
namespace Go.Proofs.YtbkpfhhhbhaecaaDoor
open Go.Vc


section
variable {Φ : PW} {p q : Option Addr} {cap cap2 : Nat} {a b : List ValD}

theorem short_out {r : List ValD} {n : Int} (h : shortB r n = true) : (∀ v ∈ r, v.text.size ≤ 300) ∧ (r.length : Int) ≤ n := by
  unfold shortB at h
  rw [Bool.and_eq_true] at h
  exact ⟨fun v hv => of_decide_eq_true (List.all_eq_true.1 h.1 v hv), of_decide_eq_true h.2⟩
theorem keyL_le {d : NodeD} {inx : Int} {m : Nat} (h1 : d.key.length ≤ m) (h2 : d.key2.length ≤ m) : (keyL d inx).length ≤ m := by
  unfold keyL
  split
  · exact h1
  · split
    · exact h2
    · exact Nat.zero_le _

set_option maxHeartbeats 4000000 in
theorem PlaceKeys_in [Stable Φ] [hT : Has Φ TabI] {x : NodeC} {d : NodeD} {inx other bucket : Int} (hsm : GivesIn Φ Tryd.prog F.erratalaw37_small #[] (.bool true)) (hx : x.Of d) [hX : Has Φ (fun M w => x.At d M w)] [hA : Has Φ (fun M w => Sl M w p a)] [hB : Has Φ (fun M w => Sl M w q b)] (hal : a.length ≤ maxLen) (hbl : b.length ≤ maxLen) :
    GivesIn Φ Tryd.prog F.erratalaw37_PlaceKeys #[x.v, .slice p a.length cap, .slice q b.length cap2, .int .i64 inx, .int .i64 other, .int .i64 bucket] (.bool true) := by
  refine gives_in (Berratalaw37_PlaceKeys_run x.n0 x.n1P x.n1N x.n1C x.n2 x.n3 x.n4P x.n4N x.n4C x.n5 x.n6 x.n7 x.n8P x.n8N x.n8C x.n9P x.n9N x.n9C x.n10 x.n11 x.n12 x.n13P x.n13N x.n13C x.n14P x.n14N x.n14C x.n15P x.n15N x.n15C p a.length cap q b.length cap2 inx other bucket) fun W R => ?_
  refine fun _ w G cx => hsm.toB cx fun w G cx => (Short_in (r := a) (n := 13) hal).toB cx (Br.intro (fun _ => fun w G cx => ⟨rfl, cx.left⟩) fun ha => ?_)
  clear cx
  refine fun w G cx => (Short_in (r := b) (n := 13) hbl).toB cx (Br.intro (fun _ => fun w G cx => ⟨rfl, cx.left⟩) fun hb => ?_)
  clear cx
  obtain ⟨ha, _⟩ := short_out (r := a) (n := 13) (by simpa using ha)
  obtain ⟨hb, _⟩ := short_out (r := b) (n := 13) (by simpa using hb)
  refine Br.intro (fun _ => fun w G cx => ⟨rfl, cx.left⟩) fun h8 => Br.intro (fun _ => fun w G cx => ⟨rfl, cx.left⟩) fun h9 => ?_
  have h8 := of_decide_eq_false h8
  have h9 := of_decide_eq_false h9
  have l1 : d.key.length ≤ 13 := by rw [← hx.key]; omega
  have l2 : d.key2.length ≤ 13 := by rw [← hx.key2]; omega
  have k1 := keyL_le (d := d) (inx := inx) l1 l2
  have k2 := keyL_le (d := d) (inx := other) l1 l2
  refine fun w G cx => Key_to (x := x) (d := d) hx (by omega) (by omega) cx fun p1 c1 e1 e2 t1 st1 => ?_
  clear cx
  refine fun w G cx => Key_to (x := x) (d := d) hx (by omega) (by omega) cx fun p2 c2 e3 e4 t2 st2 => ?_
  clear cx
  refine Br.intro (fun hn => ?_) (fun hn => ?_)
  · have one : keyB d inx = false := by simpa using hn
    have nd : needP d inx bucket a = bucket := by unfold needP; rw [if_neg (by rw [one]; simp)]
    refine fun w G cx => (Need_in (x := x) (d := d) (r := a) hx (by omega) (by omega) hal ha).toI cx ?_
    clear cx
    rw [nd]
    refine Br.intro (fun h => absurd rfl (of_decide_eq_true h)) (fun _ => ?_)
    rw [one]
    exact fun w G cx => Br.intro (fun _ => fun w G cx => ⟨rfl, cx.left.weak fun M w h => h.1.1⟩) (fun h => by cases h)
  have one : keyB d inx = true := by simpa using hn
  refine fun w G cx => ?_
  clear cx
  refine Br.intro (fun _ => fun w G cx => ⟨rfl, cx.left.weak fun M w h => h.1.1⟩) (fun hn2 => ?_)
  have two : keyB d other = true := by rw [one] at hn2; simpa using hn2
  have nd1 : ∀ k, needP d inx k a = bucketP (valsP a (keyL d inx)) := fun k => by unfold needP; rw [if_pos one]
  have nd2 : ∀ k, needP d other k b = bucketP (valsP b (keyL d other)) := fun k => by unfold needP; rw [if_pos two]
  obtain ⟨va, hva⟩ : ∃ va, valsP a (keyL d inx) = va := ⟨_, rfl⟩
  obtain ⟨vb, hvb⟩ : ∃ vb, valsP b (keyL d other) = vb := ⟨_, rfl⟩
  have hbk := bucket_bd va
  have lva : va.length ≤ 13 := by rw [← hva]; unfold valsP; rw [List.length_map]; exact k1
  have tva : ∀ v ∈ va, v.text.size ≤ 300 := by rw [← hva]; exact vals_text ha
  refine fun w G cx => (Need_in (x := x) (d := d) (r := a) hx (by omega) (by omega) hal ha).toI cx ?_
  clear cx
  refine fun w G cx => (Need_in (x := x) (d := d) (r := b) hx (by omega) (by omega) hbl hb).toI cx ?_
  clear cx
  rw [nd1, nd2, hva, hvb]
  refine Br.intro (fun h => by have := of_decide_eq_true h; omega) (fun _ => Br.intro (fun h => by have := of_decide_eq_true h; omega) (fun _ => ?_))
  refine fun w G cx => (Need_in (x := x) (d := d) (r := a) hx (by omega) (by omega) hal ha).toI cx ?_
  clear cx
  rw [nd1, hva]
  refine Br.intro (fun h => absurd rfl (of_decide_eq_true h)) (fun _ => ?_)
  have V1 := fun (Ψ : PW) (s : Stable Ψ) (h1 : Has Ψ (fun M w => Sl M w p a)) (h2 : Has Ψ (fun M w => Sl M w p1 (keyL d inx))) => Vals37_sl (Φ := Ψ) (r := a) (p := p) (cap := cap) (q := p1) (cap2 := c1) (key := keyL d inx) hal (by omega)
  have V2 := fun (Ψ : PW) (s : Stable Ψ) (h1 : Has Ψ (fun M w => Sl M w q b)) (h2 : Has Ψ (fun M w => Sl M w p2 (keyL d other))) => Vals37_sl (Φ := Ψ) (r := b) (p := q) (cap := cap2) (q := p2) (cap2 := c2) (key := keyL d other) hbl (by omega)
  rw [hva] at V1
  rw [hvb] at V2
  refine fun w G cx => (V1 _ inferInstance inferInstance inferInstance).to cx fun p3 c3 _ _ st3 => ?_
  clear cx
  refine fun w G cx => (Bucket_in (r := va) (by omega) fun v hv => by have := tva v hv; omega).toI cx ?_
  clear cx
  refine Br.intro (fun h => absurd rfl (of_decide_eq_true h)) (fun _ => Br.intro (fun _ => ?_) (fun h => by cases h))
  refine fun w G cx => (V1 _ inferInstance inferInstance inferInstance).to cx fun p4 c4 _ _ st4 => ?_
  clear cx
  refine fun w G cx => (V2 _ inferInstance inferInstance inferInstance).to cx fun p5 c5 _ _ st5 => ?_
  clear cx
  refine fun w G cx => (SameRows_in (a := va) (b := vb) (by omega)).toB cx ?_
  clear cx
  refine Br.intro (fun _ => fun w G cx => ⟨rfl, cx.left.weak fun M w h => h.1.1.1.1.1⟩) (fun h => fun w G cx => ⟨?_, cx.left.weak fun M w h => h.1.1.1.1.1⟩)
  have h : va = vb := by simpa using h
  rw [decide_eq_true (by rw [h])]
end
end Go.Proofs.YtbkpfhhhbhaecaaDoor
end

/-
  From what a row lists as laid to the table of the powers of ten.
-/
section
set_option linter.unusedVariables false
set_option linter.unusedSimpArgs false
namespace Go.Proofs.YtbkpfhhhbhaecaaDoor
open Go.Vc Go.RowKit

theorem tab_drop {P : Program} {w : World} : ∀ (n : Nat) {l : List (String × DataW Unit)}, laidMet P l w → laidMet P (l.drop n) w
  | 0, l, h => by rw [List.drop_zero]; exact h
  | n + 1, [], h => h
  | n + 1, x :: l, h => by rw [List.drop_succ_cons]; exact tab_drop n h.tail
/-- the table, out of a list that has it at the n-th place -/
theorem la_tab {W : World} {l : List (String × DataW Unit)} (n : Nat) (h : laidMetH Tryd.prog l W) (hp : (l.all fun x => x.2.handleName?.isNone) = true) (hd : ∃ r, l.drop n = ("internal/strconv.uint64pow10", Lib.tabData .u64 Lib.pow10Tab) :: r) : TabI [] W := by
  rw [MakeChecks.laidMetH_plain Tryd.prog l W hp] at h
  obtain ⟨r, hr⟩ := hd
  have h2 := tab_drop n h
  rw [hr] at h2
  exact Tab.start (Lib.tabIs_of_head (k := .u64) (zs := Lib.pow10Tab) (g := 1) (t := 189) (e := 182) (n := 20) (by kernel_rfl) (by kernel_rfl) (by kernel_rfl) (by kernel_rfl) (by kernel_rfl) (by kernel_rfl) h2)

end Go.Proofs.YtbkpfhhhbhaecaaDoor
end

section
set_option linter.unusedVariables false
set_option linter.unusedSimpArgs false
namespace Go.Proofs.YtbkpfhhhbhaecaaDoor
open Go.ChangeShapes Go.WideShapes Go.ChangeAt Go.RowKit Go.Vc


theorem df_own : ownKnob Tryd.prog.godebug = none := by kernel_rfl
theorem df_laid : laidOutB Tryd.prog = true := by kernel_rfl

theorem trodAll_n {H : Type} {enc : TypeId × Value → H} {P : Program} {w : World} {base : Nat} {spare : Nat → Bool} {held : Bool} {t0 t1 t2 t3 t4 t5 : TypeId} {args : Array Value} {ds : List (DataW H)} {ps : List MemPlace} (h : DataW.TrodAll enc P w base spare held [t0, t1, t2, t3, t4, t5] args.toList ds ps) :
    ∃ v0 v1 v2 v3 v4 v5 d0 d1 d2 d3 d4 d5 p0 p1 p2 p3 p4 p5, args = #[v0, v1, v2, v3, v4, v5] ∧ ds = [d0, d1, d2, d3, d4, d5] ∧ ps = p0 ++ p1 ++ p2 ++ p3 ++ p4 ++ p5 ∧ DataW.Trod enc P w base spare held t0 v0 d0 p0 ∧ DataW.Trod enc P w base spare held t1 v1 d1 p1 ∧ DataW.Trod enc P w base spare held t2 v2 d2 p2 ∧ DataW.Trod enc P w base spare held t3 v3 d3 p3 ∧ DataW.Trod enc P w base spare held t4 v4 d4 p4 ∧ DataW.Trod enc P w base spare held t5 v5 d5 p5 := by
  obtain ⟨v0, vs0, d0, ds0, p0, q0, hargs, rfl, rfl, h0, h⟩ := trodAll_cons h
  obtain ⟨v1, vs1, d1, ds1, p1, q1, rfl, rfl, rfl, h1, h⟩ := trodAll_cons h
  obtain ⟨v2, vs2, d2, ds2, p2, q2, rfl, rfl, rfl, h2, h⟩ := trodAll_cons h
  obtain ⟨v3, vs3, d3, ds3, p3, q3, rfl, rfl, rfl, h3, h⟩ := trodAll_cons h
  obtain ⟨v4, vs4, d4, ds4, p4, q4, rfl, rfl, rfl, h4, h⟩ := trodAll_cons h
  obtain ⟨v5, vs5, d5, ds5, p5, q5, rfl, rfl, rfl, h5, h⟩ := trodAll_cons h
  obtain ⟨rfl, rfl, rfl⟩ := trodAll_nil h
  exact ⟨v0, v1, v2, v3, v4, v5, d0, d1, d2, d3, d4, d5, p0, p1, p2, p3, p4, p5, by cases args; simp_all, rfl, by simp, h0, h1, h2, h3, h4, h5⟩

theorem door_met (os : Os) (args : Array Value) : laidMetH Tryd.prog Rows.placeKeysRow.laid ((World.doorLaid Tryd.prog 400 os).forCall (fun _ _ => 0) ⟨#[], args, []⟩).memory :=
  laidMetH_of_parts3 (fuel := 8) (laidMet_of_run' 8 (by kernel_rfl) (by kernel_rfl)) (by kernel_rfl) (by kernel_rfl)

set_option maxRecDepth 100000 in
theorem law_lifted (os : Os) (started : os.Started) (H : Type) (enc : TypeId × Value → H) :
    ReturnsInHanded {} Tryd.checked os 5 .any (fun w args => (Rows.placeKeysSpec.pre enc Tryd.prog Tryd.f5 Rows.placeKeysRow.domain false w args ∧ laidMetH Tryd.prog Rows.placeKeysRow.laid w) ∧ sizedMet enc Tryd.prog Tryd.f5 (OpenSpec.ofChange Rows.placeKeysSpec) false w args) (Rows.placeKeysSpec.post enc Tryd.prog Tryd.f5 false true false false) := by
  refine lawTrueLaid (C := Tryd.checked) (tb := 4) df_own started (by kernel_rfl) Tryd.func5 df_laid rfl ?_ rfl Tryd.underlying4 (by kernel_rfl)
    (ChangeSpec.witness_shaped (enc := enc) (C := Tryd.checked) (os := os) (X := fun w _ => laidMetH Tryd.prog Rows.placeKeysRow.laid w) false (World.doorLaid Tryd.prog 400 os) #[.agg #[.int .i64 0, .slice none 0 0, .string .empty, .int .i64 0, .slice none 0 0, .int .i64 0, .int .i64 0, .int .i64 0, .slice none 0 0, .slice none 0 0, .int .i64 0, .int .i64 0, .int .i64 0, .slice none 0 0, .slice none 0 0, .slice none 0 0], .slice none 0 0, .slice none 0 0, .int .i64 0, .int .i64 0, .int .i64 0] 8 rfl (World.shaped_of_RefB (by kernel_rfl) (by kernel_rfl)) (by kernel_rfl) (by kernel_rfl) (by kernel_rfl) (door_met os _)) ?_
  · intro ds hd
    match ds, hd with
    | [_, _, _, _, _, _], _ => exact ⟨rfl, rfl, rfl⟩
  · intro W base args ds p hval0 hA0 _ hL
    have hval : ∀ (j : Nat) t v, Tryd.f5.params[j]? = some t → args[j]? = some v → Value.okWide Tryd.prog W .any base t v := hval0
    have hA : DataW.TrodAll enc Tryd.prog W 0 (fun _ => true) true Tryd.f5.params.toList args.toList ds p := hA0
    rw [Tryd.params5] at hA hval
    obtain ⟨v0, v1, v2, v3, v4, v5, d0, d1, d2, d3, d4, d5, p0, p1, p2, p3, p4, p5, rfl, rfl, rfl, h0, h1, h2, h3, h4, h5⟩ := trodAll_n hA
    obtain ⟨ncs, n, rfl, s0⟩ := open_agg (α := NodeD) 12 Tryd.underlying39 (hval 0 39 v0 rfl rfl) (by kernel_rfl) h0
    obtain ⟨nx, rfl, hnx, s0⟩ := node_cells s0
    obtain ⟨ap, ac, a, rfl, aa, ab, s1⟩ := open_sl (α := ValD) 12 Tryd.underlying40 (hval 1 40 v1 rfl rfl) (by kernel_rfl) h1
    obtain ⟨bp, bc, b, rfl, ba, bb, s2⟩ := open_sl (α := ValD) 12 Tryd.underlying40 (hval 2 40 v2 rfl rfl) (by kernel_rfl) h2
    obtain ⟨inx, rfl, rfl, rfl, inxw⟩ := open_int Tryd.underlying3 (hval 3 3 v3 rfl rfl) h3
    obtain ⟨other, rfl, rfl, rfl, otherw⟩ := open_int Tryd.underlying3 (hval 4 3 v4 rfl rfl) h4
    obtain ⟨bucket, rfl, rfl, rfl, bucketw⟩ := open_int Tryd.underlying3 (hval 5 3 v5 rfl rfl) h5
    have st0 : Stable (fun M w => Sl M w bp b) := inferInstance
    have st1 : Stable (fun M w => Sl M w ap a ∧ Sl M w bp b) := instStableAnd (fun M w => Sl M w ap a) (fun M w => Sl M w bp b)
    have st2 : Stable (fun M w => nx.At n M w ∧ Sl M w ap a ∧ Sl M w bp b) := instStableAnd (fun M w => nx.At n M w) (fun M w => Sl M w ap a ∧ Sl M w bp b)
    have st3 : Stable (fun M w => TabI M w ∧ nx.At n M w ∧ Sl M w ap a ∧ Sl M w bp b) := instStableAnd (fun M w => TabI M w) (fun M w => nx.At n M w ∧ Sl M w ap a ∧ Sl M w bp b)
    have fin : GivesIn (fun M w => TabI M w ∧ nx.At n M w ∧ Sl M w ap a ∧ Sl M w bp b) Tryd.prog 5 _ (.bool true) := PlaceKeys_in (Φ := (fun M w => TabI M w ∧ nx.At n M w ∧ Sl M w ap a ∧ Sl M w bp b)) (p := ap) (cap := ac) (a := a) (q := bp) (cap2 := bc) (b := b) (inx := inx) (other := other) (bucket := bucket) (hT := ⟨fun _ _ h => h.1⟩) (small37_in (hT := ⟨fun _ _ h => h.1⟩)) hnx (hX := ⟨fun _ _ h => h.2.1⟩) (hA := ⟨fun _ _ h => h.2.2.1⟩) (hB := ⟨fun _ _ h => h.2.2.2⟩) (by omega) (by omega)
    exact fin.law ⟨la_tab 2 hL (by kernel_rfl) ⟨_, rfl⟩, s0, s1, s2⟩

theorem row_holds : Rows.PlaceKeysSaid :=
  OpenClaim.holds_of_wide 5 Tryd.f5 rfl rfl rfl rfl rfl rfl rfl ⟨rfl, rfl, rfl, rfl, rfl⟩ rfl rfl rfl rfl rfl (by kernel_rfl) Tryd.func5 (by kernel_rfl)
    (of_decide_eq_true (by kernel_rfl)) (by unfold Func.isWrapper; first | (rw [if_pos (by decide +kernel)]; kernel_rfl) | (rw [if_neg (by decide +kernel)]; exact ⟨rfl, rfl⟩))
    (fun os started H enc _ => law_lifted os started H enc)

theorem keys_holds : Rows.PlaceKeysCardSaid :=
  Claim7.holds_tied_plain_at .later [] [.data, .data, .data] true Rows.placeKeysCard.stood.harness true
    row_holds (fun _ h => by cases h) (by kernel_rfl) (fun _ h => by cases h) placeKeys_row_tie rfl ⟨rfl, rfl⟩ (by kernel_rfl) rfl
    (fun f fn hf hfn => by
      obtain rfl : f = 5 := Option.some.inj ((show Tryd.prog.funcNamed Rows.placeKeysRow.func = some 5 by kernel_rfl).symm.trans hf) |>.symm
      obtain rfl : fn = Tryd.f5 := (Option.some.inj (Tryd.func5.symm.trans hfn)).symm
      exact ⟨by kernel_rfl, fun j t ht => by
        rw [Tryd.params5] at ht
        have hm := Array.mem_of_getElem? ht
        have hall : ((Tryd.f5.params.toList).all fun u => !Tryd.prog.wantsStandIn u) = true := by kernel_rfl
        rw [Tryd.params5] at hall
        exact (show Tryd.prog.wantsStandIn t = false by simpa using List.all_eq_true.1 hall t (by simpa using hm))⟩)
    (by kernel_rfl)

end Go.Proofs.YtbkpfhhhbhaecaaDoor
end

