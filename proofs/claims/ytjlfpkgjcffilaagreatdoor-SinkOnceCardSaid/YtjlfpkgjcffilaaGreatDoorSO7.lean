/-
  The walks of strings.Builder, of the decimal form of ints, and of the encodings of ints and texts.
-/
import Derived.Test.YtjlfpkgjcffilaaGreatDoorSO6
import Derived.Test.YtjlfpkgjcffilaaGreatDoorSO4
import Derived.Lib.ItoaNum
import Derived.Lib.ConvBytes
import Derived.Lib.AtoiErrMem
import Derived.Test.YtjlfpkgjcffilaaGreatDoorSO5
import Derived.Lib.AppendZeros
import Derived.Lib.SliceRun

section
set_option linter.unusedVariables false
set_option linter.unusedSimpArgs false
namespace Go.Proofs.YtjlfpkgjcffilaaGreatDoor
open Go.Vc


abbrev BdT (b : Nat) (l : List UInt8) (R : List Own) : Prop := Bd 111 5 b l R

theorem bd_info : ∃ j, Tryz.prog.info? 111 = some j ∧ j.size = 2 := by
  have h : (Tryz.prog.info? 111).map (·.size) = some 2 := by kernel_rfl
  exact Option.map_eq_some_iff.1 h

set_option maxHeartbeats 1000000 in
set_option maxRecDepth 100000 in
theorem copyCheck_used (b : Nat) (w : World) (h0 : w.cell? ⟨b, 0, none⟩ = some (.pointer (some ⟨b, 0, none⟩))) :
    Calls Tryz.prog 124 #[.pointer (some ⟨b, 0, none⟩)] w fun e w' => e = .returned (.tuple #[]) ∧ w' = w := by
  obtain ⟨j, hj, _⟩ := bd_info
  go_enter Tryz.func124, Tryz.ntmps124
  go_wp2
  rw [Lib.run_neq_ptr_same w _ Tryz.underlying108 hj]
  go_wp2
  go_end0
  exact ⟨rfl, rfl⟩

set_option maxHeartbeats 1000000 in
set_option maxRecDepth 100000 in
theorem copyCheck_fresh (b : Nat) (w : World) (h0 : w.cell? ⟨b, 0, none⟩ = some (.pointer none)) (hsh : w.shape? b = some (111, 2)) (hfz : w.frozen? ⟨b, 0, none⟩ = false) :
    Calls Tryz.prog 124 #[.pointer (some ⟨b, 0, none⟩)] w fun e w' => e = .returned (.tuple #[]) ∧ w' = w.setCell ⟨b, 0, none⟩ (.pointer (some ⟨b, 0, none⟩)) := by
  obtain ⟨j, hj, hjs⟩ := bd_info
  go_enter Tryz.func124, Tryz.ntmps124
  go_wp2
  rw [Lib.run_to_unsafe w ⟨b, 0, none⟩ Tryz.underlying108 Tryz.underlying141 hj (by rw [hjs]; decide) hsh (Nat.zero_lt_succ 1)]
  simp only [Result.andThen]
  rw [Oper.upon_value]
  go_wp2
  rw [run_callFunc_extern Tryz.func141 (by kernel_rfl) (by kernel_rfl) (by kernel_rfl) (e := Extern.AbiNoEscape.same) (by kernel_rfl)]
  rw [Lib.run_noEscape]
  simp only [Result.andThen]
  rw [Oper.upon_value]
  go_wp2
  rw [Lib.run_from_unsafe w ⟨b, 0, none⟩ Tryz.underlying141 Tryz.underlying108 hj hsh (by kernel_rfl)]
  simp only [Result.andThen]
  rw [Oper.upon_value]
  go_wp2
  go_end0
  exact ⟨rfl, rfl⟩

theorem copyCheck_use {W w : World} {S : List Own} {Φ : PW} [Stable Φ] {b : Nat} {pa v : Value} (hp : pa = .pointer none ∨ pa = .pointer (some ⟨b, 0, none⟩)) (c : Ctx W w (.blk b [pa, v] 111 :: S) Φ) {K : Ending → World → Prop}
    (hk : ∀ w', Ctx W w' (.blk b [.pointer (some ⟨b, 0, none⟩), v] 111 :: S) Φ → K (.returned (.tuple #[])) w') : Calls Tryz.prog F.strings_Builder_copyCheck #[.pointer (some ⟨b, 0, none⟩)] w K := by
  have hb : w.heap[b]? = some (.cells #[pa, v] 111 (0, 0)) := c.blk 0 rfl
  rcases hp with rfl | rfl
  · exact (copyCheck_fresh b w (c.get 0 rfl rfl) (by simp [World.shape?, hb]) (by simp [World.frozen?, hb])).mono fun e w' ⟨he, hw⟩ => by
      subst he
      exact hk w' (c.put 0 hw rfl)
  · exact (copyCheck_used b w (c.get 0 rfl rfl)).mono fun e w' ⟨he, hw⟩ => by
      subst he; subst hw
      exact hk w' c

theorem byte_info : ∃ i, Tryz.prog.info? 5 = some i ∧ i.zero = some (.int .u8 0) ∧ i.size = 1 ∧ i.bytes = 1 := by
  have h : (Tryz.prog.info? 5).map (fun i => (i.zero, i.size, i.bytes)) = some (some (.int .u8 0), 1, 1) := by kernel_rfl
  obtain ⟨i, hi, he⟩ := Option.map_eq_some_iff.1 h
  simp only [Prod.mk.injEq] at he
  exact ⟨i, hi, he⟩

theorem strCells_bytes (s : ByteArray) : Lib.strCells s = Lib.byteCells s.data.toList := rfl

theorem WriteString_use {W w : World} {S R : List Own} {Φ : PW} [Stable Φ] {b : Nat} {l : List UInt8} (s : ByteArray) (h : BdT b l R) (c : Ctx W w (R ++ S) Φ) (hlen : l.length + s.size ≤ 100000000000) {K : Ending → World → Prop}
    (hk : ∀ R' w', BdT b (l ++ s.data.toList) R' → Ctx W w' (R' ++ S) Φ → K (.returned (.tuple #[.int .i64 s.size, .nilIface])) w') : Calls Tryz.prog F.strings_Builder_WriteString #[.pointer (some ⟨b, 0, none⟩), .string s] w K := by
  obtain ⟨pa, p, cap, hpa, rfl⟩ := h
  obtain ⟨i, hi, hz, hsz, hby⟩ := byte_info
  refine (Bstrings_Builder_WriteString_run b 0 s (J := fun u w' => K (.returned u) w') c ?_).mono fun e w' ⟨v, he, hj⟩ => by rw [he]; exact hj
  refine fun w G c => copyCheck_use hpa c fun w c => ⟨rfl, [.blk b [.pointer (some ⟨b, 0, none⟩), .slice p l.length cap] 111, .buf p l.length cap (Lib.byteCells l) 5 1] ++ S, Φ, inferInstance, c, fun w G c => ⟨p, l.length, cap, c.get 0 rfl rfl, fun w G c => ?_⟩⟩
  obtain ⟨p', cap', w', hrun, c'⟩ := Ctx.appStr (P := Tryz.prog) (t := 109) (u := 9) (ty := 109) (kb := #[false, false]) (c.swap) Tryz.underlying109 Tryz.underlying9 hi hz hsz hby s (by omega) (by unfold maxLen; omega)
  refine ⟨p', _, cap', w', hrun, [.blk b [.pointer (some ⟨b, 0, none⟩), .slice p l.length cap] 111, .buf p' (l.length + s.size) cap' (Lib.byteCells l ++ Lib.strCells s) 5 1] ++ S, Φ, inferInstance, c'.swap, fun w G c => ⟨c.can 0 rfl (by simp), fun w' hw' => ?_⟩⟩
  refine ⟨[.blk b [.pointer (some ⟨b, 0, none⟩), .slice p' (l.length + s.size) cap'] 111, .buf p' (l.length + s.size) cap' (Lib.byteCells l ++ Lib.strCells s) 5 1] ++ S, Φ, inferInstance, c.put 0 hw' rfl, fun w G c => hk [.blk b [.pointer (some ⟨b, 0, none⟩), .slice p' (l.length + s.size) cap'] 111, .buf p' (l.length + s.size) cap' (Lib.byteCells l ++ Lib.strCells s) 5 1] w ⟨_, p', cap', .inr rfl, ?_⟩ c.left⟩
  have hl : (l ++ s.data.toList).length = l.length + s.size := by rw [List.length_append, Array.length_toList]; rfl
  rw [hl, strCells_bytes, Lib.byteCells_append]

theorem String_use {W w : World} {S R : List Own} {Φ : PW} [Stable Φ] {b : Nat} {l : List UInt8} (h : BdT b l R) (c : Ctx W w (R ++ S) Φ) {K : Ending → World → Prop}
    (hk : ∀ w', Ctx W w' S Φ → K (.returned (.string ⟨l.toArray⟩)) w') : Calls Tryz.prog F.strings_Builder_String #[.pointer (some ⟨b, 0, none⟩)] w K :=
  Bd.string Tryz.lays169 Tryz.Builder_Extra_169 h c hk

end Go.Proofs.YtjlfpkgjcffilaaGreatDoor
end

/-
  The encodings of ints, texts, values and rows: in plain Lean, and walked.
-/
section
set_option linter.unusedVariables false
set_option linter.unusedSimpArgs false
namespace Go.Vc
theorem GivesIn.know {Φ : PW} {P : Program} {f : FuncId} {args : Array Value} {v : Value} {p : Prop} (hΦ : ∀ M w, Φ M w → p) (h : p → GivesIn Φ P f args v) : GivesIn Φ P f args v :=
  ⟨fun W w S c => (h (hΦ _ _ c.phi)).go W w S c⟩
theorem GivesSl.know {Φ : PW} {P : Program} {f : FuncId} {args : Array Value} {α : Type} [Gv α] {l : List α} {mk : Value → Value} {p : Prop} (hΦ : ∀ M w, Φ M w → p) (h : p → GivesSl Φ P f args l mk) : GivesSl Φ P f args l mk :=
  ⟨fun W w S c => (h (hΦ _ _ c.phi)).go W w S c⟩
theorem GivesNew.know {Φ : PW} {P : Program} {f : FuncId} {args : Array Value} {α : Type} [Gv α] {l : List α} {t : TypeId} {p : Prop} (hΦ : ∀ M w, Φ M w → p) (h : p → GivesNew Φ P f args l t) : GivesNew Φ P f args l t :=
  ⟨fun W w S c => (h (hΦ _ _ c.phi)).go W w S c⟩
end Go.Vc
namespace Go.Proofs.YtjlfpkgjcffilaaGreatDoor
open Go.Vc

/-! ### in plain Lean -/
def numB (n : Int) : ByteArray := ⟨(Lib.itoa n).toArray⟩
def intB (n : Int) : ByteArray := numB n ++ ByteArray.mk #[59]
def natB (n : Int) : ByteArray := if n < 0 then ByteArray.mk #[] else intB n
def textB (s : ByteArray) : ByteArray := numB s.size ++ ByteArray.mk #[58] ++ s ++ ByteArray.mk #[44]
def valB (v : ValD) : ByteArray := intB v.kind ++ intB v.num ++ textB v.text
def valsL (r : List ValD) : List UInt8 := r.flatMap fun v => (valB v).data.toList
def rowL (r : List ValD) : List UInt8 := (natB r.length).data.toList ++ valsL r
def rowB (r : List ValD) : ByteArray := ⟨(rowL r).toArray⟩

theorem size_app (a b : ByteArray) : (a ++ b).size = a.size + b.size := ByteArray.size_append
theorem size_list (l : List UInt8) : (ByteArray.mk l.toArray).size = l.length := by simp [ByteArray.size]
theorem list_size (a : ByteArray) : a.data.toList.length = a.size := by rw [Array.length_toList]; rfl

theorem nDigits_le : ∀ (k u : Nat), u < 10 ^ k → 0 < k → Lib.nDigits u ≤ k
  | 0, u, _, h => by omega
  | k + 1, u, h, _ => by
    by_cases h1 : u < 10
    · rw [Lib.nDigits_small h1]; omega
    · rw [Lib.nDigits_big h1]
      have hk : 0 < k := by
        rcases Nat.eq_zero_or_pos k with rfl | h2
        · simp at h; omega
        · exact h2
      have := nDigits_le k (u / 10) (by rw [Nat.pow_succ] at h; omega) hk
      omega

theorem itoa_len {n : Int} (h : I64 n) : 1 ≤ (Lib.itoa n).length ∧ (Lib.itoa n).length ≤ 20 := by
  unfold I64 at h
  unfold Lib.itoa
  split
  · have h1 := nDigits_le 19 n.natAbs (by omega) (by decide)
    have h2 := Lib.nDigits_pos n.natAbs
    rw [List.length_cons, Lib.decDigits_length]; omega
  · have h1 := nDigits_le 19 n.toNat (by omega) (by decide)
    have h2 := Lib.nDigits_pos n.toNat
    rw [Lib.decDigits_length]; omega

theorem numB_size {n : Int} (h : I64 n) : 1 ≤ (numB n).size ∧ (numB n).size ≤ 20 := by
  unfold numB; rw [size_list]; exact itoa_len h
theorem intB_size {n : Int} (h : I64 n) : 2 ≤ (intB n).size ∧ (intB n).size ≤ 21 := by
  have := numB_size h
  have e : (ByteArray.mk #[59]).size = 1 := rfl
  unfold intB; rw [size_app, e]; omega
theorem natB_size {n : Int} (h : I64 n) : (natB n).size ≤ 21 := by
  unfold natB
  split
  · exact Nat.zero_le _
  · exact (intB_size h).2
theorem textB_size {s : ByteArray} (h : s.size ≤ 9223372036854775807) : (textB s).size ≤ s.size + 22 ∧ s.size + 3 ≤ (textB s).size := by
  have := numB_size (n := s.size) (by unfold I64; omega)
  have e : (ByteArray.mk #[58]).size = 1 := rfl
  have e2 : (ByteArray.mk #[44]).size = 1 := rfl
  unfold textB; rw [size_app, size_app, size_app, e, e2]; omega
theorem valB_size {v : ValD} (h1 : I64 v.kind) (h2 : I64 v.num) (h : v.text.size ≤ 9223372036854775807) : (valB v).size ≤ v.text.size + 64 := by
  have a := intB_size h1
  have b := intB_size h2
  have c := textB_size h
  unfold valB; rw [size_app, size_app]; omega

theorem valsL_app (a b : List ValD) : valsL (a ++ b) = valsL a ++ valsL b := by simp [valsL]
theorem valsL_one (v : ValD) : valsL [v] = (valB v).data.toList := by simp [valsL]
theorem valsL_len {m : Nat} : ∀ {r : List ValD}, (∀ v ∈ r, (I64 v.kind ∧ I64 v.num) ∧ v.text.size ≤ m) → m ≤ 9223372036854775807 → (valsL r).length ≤ r.length * (m + 64)
  | [], _, _ => by simp [valsL]
  | v :: r, h, hm => by
    have h1 := valsL_len (r := r) (fun u hu => h u (List.mem_cons_of_mem _ hu)) hm
    obtain ⟨⟨a, b⟩, c⟩ := h v List.mem_cons_self
    have h2 := valB_size a b (by omega)
    have e : valsL (v :: r) = (valB v).data.toList ++ valsL r := by simp [valsL]
    rw [e, List.length_append, list_size, List.length_cons, Nat.add_mul]
    omega
theorem rowL_len {m : Nat} {r : List ValD} (h : ∀ v ∈ r, (I64 v.kind ∧ I64 v.num) ∧ v.text.size ≤ m) (hm : m ≤ 9223372036854775807) (hr : r.length ≤ 1000000) : (rowL r).length ≤ 21 + r.length * (m + 64) := by
  have h1 := valsL_len h hm
  have h2 := natB_size (n := (r.length : Int)) (by unfold I64; omega)
  unfold rowL; rw [List.length_append, list_size]; omega

/-! ### walked -/
theorem rep_val {M : List Nat} {w : World} {cs : List Value} {v : ValD} (h : Gv.rep M w cs v) : cs = [.int .i64 v.kind, .int .i64 v.num, .string v.text] ∧ I64 v.kind ∧ I64 v.num ∧ v.text.size ≤ maxLen := by
  obtain ⟨_, _, rfl, ⟨rfl, h1⟩, _, _, rfl, ⟨rfl, h2⟩, rfl, h3⟩ := h
  exact ⟨rfl, h1, h2, h3⟩

theorem sl_i64 {M : List Nat} {w : World} {p : Option Addr} {l : List ValD} (h : Sl M w p l) : ∀ v ∈ l, (I64 v.kind ∧ I64 v.num) ∧ v.text.size ≤ maxLen := by
  intro v hv
  obtain ⟨i, hi, rfl⟩ := List.getElem_of_mem hv
  obtain ⟨_, _, _, _, _, _, hr⟩ := h i hi
  obtain ⟨_, h1, h2, h3⟩ := rep_val hr
  exact ⟨⟨h1, h2⟩, h3⟩

abbrev tabN : String := ((Rows.sinkHidesRow.laid.map Prod.fst).drop 2).headD default
/-- the table of the powers of ten lies there -/
abbrev TabI : PW := Tab Tryz.prog tabN .u64 Lib.pow10Tab

theorem Itoa_in {Φ : PW} [Stable Φ] (hΦ : ∀ M w, Φ M w → TabI M w) (n : Int) (h : I64 n) : GivesIn Φ Tryz.prog F.strconv_Itoa #[.int .i64 n] (.string (numB n)) :=
  itoa_in (name := tabN) (fun n h0 h1 w ht => Any.strconv_Itoa Tryz.laysM171 n h0 h1 w ht) hΦ n h

theorem Itoa_small (i : Nat) (hi : i < 100) : Gives Tryz.prog F.strconv_Itoa #[.int .i64 i] (.string (numB i)) :=
  Quiet.gives ⟨fun w => by
    have h := Any.strconv_Itoa_small { Tryz.lays171 with } i hi w
    rw [← Lib.itoa_nonneg] at h
    exact h⟩

/-- ints that the library writes: at these places, or small ones -/
def Dec (Φ : PW) (n : Int) : Prop := (∀ M w, Φ M w → TabI M w) ∧ I64 n ∨ ∃ i : Nat, i < 100 ∧ n = i

theorem Itoa_dec {Φ : PW} [Stable Φ] {n : Int} (h : Dec Φ n) : GivesIn Φ Tryz.prog F.strconv_Itoa #[.int .i64 n] (.string (numB n)) := by
  rcases h with ⟨h1, h2⟩ | ⟨i, hi, rfl⟩
  · exact Itoa_in h1 n h2
  · exact (Itoa_small i hi).in
theorem Dec.i64 {Φ : PW} {n : Int} (h : Dec Φ n) : I64 n := by
  rcases h with ⟨_, h2⟩ | ⟨i, hi, rfl⟩
  · exact h2
  · unfold I64; omega

theorem Int_in {Φ : PW} [Stable Φ] {n : Int} (h : Dec Φ n) : GivesIn Φ Tryz.prog F.wire_Int #[.int .i64 n] (.string (intB n)) := by
  refine gives_in (Bwire_Int_run n) fun W R => ?_
  have := numB_size h.i64
  exact fun w G cx => (Itoa_dec h).use cx fun w cx => ⟨_, rfl, R, Φ, inferInstance, cx, by show (numB n).size + 1 ≤ _; omega, fun w G cx => ⟨rfl, cx.left⟩⟩

theorem Num_in {Φ : PW} [Stable Φ] {n : Int} (h : Dec Φ n) : GivesIn Φ Tryz.prog F.wire_Num #[.int .i64 n] (.string (natB n)) := by
  refine gives_in (Bwire_Num_run n) fun W R => Br.intro (fun hn => fun w G cx => ⟨?_, cx.left⟩) (fun hn => fun w G cx => (Int_in h).use cx fun w cx => ⟨_, rfl, R, Φ, inferInstance, cx, fun w G cx => ⟨?_, cx.left⟩⟩)
  · unfold natB; rw [if_pos (of_decide_eq_true hn)]
  · unfold natB; rw [if_neg (of_decide_eq_false hn)]

theorem Text_in {Φ : PW} [Stable Φ] {s : ByteArray} (h : Dec Φ s.size) (hs : s.size ≤ 1000000000000) : GivesIn Φ Tryz.prog F.wire_Text #[.string s] (.string (textB s)) := by
  refine gives_in (Bwire_Text_run s) fun W R => ?_
  have h1 := numB_size h.i64
  have e : (ByteArray.mk #[58]).size = 1 := rfl
  have e2 : (ByteArray.mk #[44]).size = 1 := rfl
  exact fun w G cx => (Itoa_dec h).use cx fun w cx => ⟨_, rfl, R, Φ, inferInstance, cx, by show (numB s.size).size + 1 ≤ _; omega, by show (numB s.size ++ ByteArray.mk #[58]).size + s.size ≤ _; rw [size_app, e]; omega, by show (numB s.size ++ ByteArray.mk #[58] ++ s).size + 1 ≤ _; rw [size_app, size_app, e]; omega, fun w G cx => ⟨rfl, cx.left⟩⟩

theorem Bytes_in {Φ : PW} [Stable Φ] (v : ValD) (hΦ : ∀ M w, Φ M w → TabI M w) (h1 : I64 v.kind) (h2 : I64 v.num) (hs : v.text.size ≤ 1000000000000) : GivesIn Φ Tryz.prog F.value_Bytes #[v.v] (.string (valB v)) := by
  refine gives_in (Bvalue_Bytes_run v.kind v.num v.text) fun W R => ?_
  have a := intB_size h1
  have b := intB_size h2
  have c := textB_size (s := v.text) (by omega)
  exact fun _ => ⟨R, Φ, inferInstance, fun w G cx => cx, fun w G cx => (Int_in (.inl ⟨hΦ, h1⟩)).use cx fun w cx => ⟨_, rfl, R, Φ, inferInstance, cx, fun w G cx => cx, fun w G cx => (Int_in (.inl ⟨hΦ, h2⟩)).use cx fun w cx => ⟨_, rfl, R, Φ, inferInstance, cx, fun w G cx => cx, by show (intB v.kind).size + (intB v.num).size ≤ _; omega,
    fun w G cx => (Text_in (.inl ⟨hΦ, by unfold I64; omega⟩) hs).use cx fun w cx => ⟨_, rfl, R, Φ, inferInstance, cx, fun w G cx => cx, by show (intB v.kind ++ intB v.num).size + (textB v.text).size ≤ _; rw [size_app]; omega, fun w G cx => ⟨rfl, cx.left⟩⟩⟩⟩⟩

theorem RowBytes_in {Φ : PW} [Stable Φ] (p : Option Addr) (cap : Nat) (r : List ValD) (hT : ∀ M w, Φ M w → TabI M w) (hΦ : ∀ M w, Φ M w → Sl M w p r) (hr : r.length ≤ 1000000) (ht : ∀ v ∈ r, v.text.size ≤ 10000) :
    GivesIn Φ Tryz.prog F.value_RowBytes #[.slice p r.length cap] (.string (rowB r)) := by
  refine .there (fun M w h => (hΦ M w h).there) fun hth => .know (fun M w h => sl_i64 (hΦ M w h)) fun hi => ?_
  have hv : ∀ v ∈ r, (I64 v.kind ∧ I64 v.num) ∧ v.text.size ≤ 10000 := fun v h => ⟨(hi v h).1, ht v h⟩
  have hL := rowL_len hv (by decide) hr
  have hL : (rowL r).length ≤ 20000000000 := by
    have : r.length * (10000 + 64) ≤ 1000000 * 10064 := Nat.mul_le_mul hr (Nat.le_refl _)
    omega
  have hnat : (natB r.length).data.toList.length ≤ 20000000000 := by unfold rowL at hL; rw [List.length_append] at hL; omega
  refine gives_in (Bvalue_RowBytes_run p r.length cap) fun W R => ?_
  refine fun b w G cx => (Num_in (Φ := Φ) (.inl ⟨hT, by unfold I64; omega⟩)).use cx fun w cx => ⟨_, rfl, .blk b [.pointer none, .slice none 0 0] 111 :: R, Φ, inferInstance, cx, fun w G cx => ?_⟩
  refine WriteString_use (natB r.length) Bd.nil (Bd.fresh cx) (by rw [← list_size]; simp only [List.length_nil]; omega) fun R1 w hB cx => ⟨_, _, rfl, R1 ++ R, Φ, inferInstance, by rw [List.append_assoc]; exact cx, ?_⟩
  rw [List.nil_append] at hB
  clear cx
  refine exI_mk (fun iI R' Φ' k => ∃ (i : Nat) (Q : List Own), iI = i ∧ i ≤ r.length ∧ BdT b ((natB r.length).data.toList ++ valsL (r.take i)) Q ∧ R' = Q ++ R ∧ Φ' = Φ ∧ k = r.length - i) ⟨⟨_, Φ, _, inferInstance, fun w G cx => cx, 0, R1, rfl, Nat.zero_le _, by rw [List.take_zero, show valsL [] = [] from rfl, List.append_nil]; exact hB, rfl, rfl, rfl⟩, ?_⟩
  rintro iI R2 Φ2 k _ ⟨i, Q, rfl, hi, hQ, rfl, rfl, rfl⟩
  refine Br.intro (fun hlt => ?_) (fun hge => fun w G cx => ?_)
  · have hlt : i < r.length := by have := of_decide_eq_true hlt; omega
    obtain ⟨g, o, rfl⟩ := hth (by omega)
    obtain ⟨⟨h1, h2⟩, h3⟩ := hv r[i] (List.getElem_mem hlt)
    have hsz := valB_size h1 h2 (by omega)
    have hlen : ((natB r.length).data.toList ++ valsL (r.take (i + 1))).length ≤ 20000000000 := by
      have e : valsL r = valsL (r.take (i + 1)) ++ valsL (r.drop (i + 1)) := by rw [← valsL_app, List.take_append_drop]
      unfold rowL at hL
      rw [e, List.length_append, List.length_append] at hL
      rw [List.length_append]; omega
    have hstep : valsL (r.take (i + 1)) = valsL (r.take i) ++ (valB r[i]).data.toList := by rw [List.take_succ_eq_append_getElem hlt, valsL_app, valsL_one]
    refine ⟨by omega, ptrK_intro g o rfl fun w G cx => ⟨r[i].kind, r[i].num, r[i].text, by rw [Int.toNat_natCast]; exact sl_val (hΦ _ _ cx.phi) hlt, fun _ w G cx => (Bytes_in (Φ := Φ2) r[i] hT h1 h2 (by omega)).use cx fun w cx => ⟨_, rfl, Q ++ R, Φ2, inferInstance, cx, fun w G cx => ?_⟩⟩⟩
    refine WriteString_use (valB r[i]) hQ (cx.re (List.append_assoc _ _ _)) (by rw [hstep, ← List.append_assoc, List.length_append, list_size] at hlen; omega) fun Q' w hQ' cx => ⟨_, _, rfl, Q' ++ R, Φ2, inferInstance, by rw [List.append_assoc]; exact cx, by unfold I64; omega, _, Φ2, r.length - (i + 1), inferInstance, fun w G cx => cx, ⟨i + 1, Q', by omega, hlt, ?_, rfl, rfl, rfl⟩, by omega⟩
    rw [hstep, ← List.append_assoc]; exact hQ'
  · have hge : i = r.length := by have := of_decide_eq_false hge; omega
    subst hge
    rw [List.take_length] at hQ
    exact String_use hQ (cx.re (List.append_assoc _ _ _)) fun w cx => ⟨_, rfl, R, Φ2, inferInstance, cx, fun w G cx => ⟨rfl, cx.left⟩⟩

end Go.Proofs.YtjlfpkgjcffilaaGreatDoor
end

/-
  The bucket of a row, walked.
-/
section
set_option linter.unusedVariables false
set_option linter.unusedSimpArgs false
namespace Go.Vc
/-- bytes that nobody writes -/
def BytesAt (b : Nat) (l : List UInt8) : PW := fun M w => ∀ j, (hj : j < l.length) → b ∉ M ∧ w.cell? ⟨b, j, none⟩ = some (.int .u8 (l[j].toNat : Int))
instance instStableBytesAt (b : Nat) (l : List UInt8) : Stable (BytesAt b l) := ⟨fun {M M' w w'} hs h j hj => by
  obtain ⟨h1, h2⟩ := h j hj
  have hlt : b < w.heap.size := by
    rcases Nat.lt_or_ge b w.heap.size with h' | h'
    · exact h'
    · simp [World.cell?, Array.getElem?_eq_none h'] at h2
  refine ⟨fun hm => ?_, hs.chg.cell h2 h1⟩
  rcases hs.sub b hm with h | h
  · exact h1 h
  · omega⟩
theorem chg_bytes {w : World} {e : TypeId} {s : ByteArray} : Chg [] w (Lib.bytesWorld w e s) :=
  have h := Lib.bytesWorld_below w e s
  ⟨h.os, h.tape, h.output, h.size, fun k hk _ => h.block k hk⟩
theorem Ctx.bytes {W w : World} {S : List Own} {Φ : PW} [Stable Φ] (c : Ctx W w S Φ) (e : TypeId) (s : ByteArray) : Ctx W (Lib.bytesWorld w e s) S (fun M w' => Φ M w' ∧ BytesAt w.heap.size s.data.toList M w') := by
  refine (c.call chg_bytes).add fun j hj => ⟨fun hm => absurd (c.lt hm) (Nat.lt_irrefl _), ?_⟩
  have hj2 : j < s.size := by
    rw [Array.length_toList] at hj
    exact hj
  rw [Lib.bytesWorld_cell w e s j hj2, show s.data.toList.getD j 0 = s.data.toList[j] by rw [List.getD, List.getElem?_eq_getElem hj]; rfl]
end Go.Vc
namespace Go.Proofs.YtjlfpkgjcffilaaGreatDoor
open Go.Vc


/-! ### in plain Lean -/
section
variable {Φ : PW} {p : Option Addr} {cap : Nat} {r : List ValD} {l : List DeltaD}

end
end Go.Proofs.YtjlfpkgjcffilaaGreatDoor
end

/-
  A ledger: plain data, what is owned of it, and its short functions.
-/
section
set_option linter.unusedVariables false
set_option linter.unusedSimpArgs false
namespace Go.Proofs.YtjlfpkgjcffilaaGreatDoor
open Go.Vc


/-! ### plain data -/
structure BatD where
  no : Int
  mark : Int
  stop : Nat
abbrev BatD.cells (x : BatD) : List Value := [.int .i64 x.no, .int .i64 x.mark, .int .i64 x.stop]
structure LedD where
  lines : List LineD
  bats : List BatD

abbrev LKey : Type := Int × ByteArray
def LineD.at (x : LineD) : LKey := (x.time, rowB x.row)
def cntL : List LineD → LKey → Int
  | [], _ => 0
  | x :: l, k => (if x.at = k then x.n else 0) + cntL l k
/-- where a ledger lies -/
structure LP where
  lb : Nat
  lp : Option Addr
  lc : Nat
  cs : List Value
  bp : Option Addr
  bc : Nat
  mb : Nat
  es : List MEnt
  clk : Nat

structure LedQ (q : LP) (st : LedD) : Prop where
  map : MapOk q.es q.clk
  cnt : ∀ k, getM q.es k = cntL st.lines k
  lpt : 0 < st.lines.length → ∃ g, q.lp = some ⟨g, 0, none⟩
  bpt : 0 < st.bats.length → ∃ g, q.bp = some ⟨g, 0, none⟩
  lcap : st.lines.length ≤ q.lc ∧ q.lc ≤ maxLen
  cells : ∀ i (h : i < st.lines.length), ∃ p c, (q.cs.drop (i * 7)).take 7 = st.lines[i].cells p c ∧ st.lines[i].row.length ≤ c ∧ c ≤ maxLen ∧ st.lines[i].In
  len : q.cs.length = st.lines.length * 7
/-- what bounds a ledger -/
structure LedS (st : LedD) : Prop where
  lines : st.lines.length ≤ 150000
  bats : st.bats.length ≤ 600000
  row : ∀ x ∈ st.lines, x.row.length ≤ 13
  text : ∀ x ∈ st.lines, ∀ v ∈ x.row, v.text.size ≤ 300
  stop : ∀ b ∈ st.bats, b.stop ≤ st.lines.length

theorem LedS.rows {st : LedD} (h : LedS st) : ∀ x ∈ st.lines, x.row.length ≤ 1000000 := fun x hx => by have := h.row x hx; omega

/-! ### the map's keys -/
section
variable {Φ : PW} {q : LP} {st : LedD} {W w : World} {R S G : List Own}

end
end Go.Proofs.YtjlfpkgjcffilaaGreatDoor
end

/-
  Copies of lines, out of a slice that is told or owned; Lines, Line, Batch.
-/
section
set_option linter.unusedVariables false
set_option linter.unusedSimpArgs false
namespace Go.Proofs.YtjlfpkgjcffilaaGreatDoor
open Go.Vc


theorem elems_len7 {M : List Nat} {w : World} {cs : List Value} {l : List LineD} (h : Elems M w cs l) : cs.length = l.length * 7 := h.1
theorem elems_one7 {M : List Nat} {w : World} {cs : List Value} {l : List LineD} (h : Elems M w cs l) : (cs.all fun u => oneC u) = true := by
  have h1 := elems_len7 h
  refine List.all_eq_true.2 fun u hu => ?_
  obtain ⟨j, hj, rfl⟩ := List.getElem_of_mem hu
  have hi : j / 7 < l.length := by omega
  obtain ⟨p, c, e, _⟩ := lrow h hi
  have ha : (((cs.drop (j / 7 * 7)).take 7).all fun u => oneC u) = true := by rw [e]; rfl
  have hm : cs[j] ∈ (cs.drop (j / 7 * 7)).take 7 := by
    refine List.mem_iff_getElem?.2 ⟨j % 7, ?_⟩
    rw [List.getElem?_take_of_lt (by omega), List.getElem?_drop, show j / 7 * 7 + j % 7 = j by omega, List.getElem?_eq_getElem hj]
  exact List.all_eq_true.1 ha _ hm
/-- lines that can be read -/
structure Src (S : List Own) (Φ : PW) (p : Option Addr) (l : List LineD) (cs : List Value) : Prop where
  ptr : 0 < l.length → ∃ b o, p = some ⟨b, o, none⟩
  rd : ∀ {W w : World} {G : List Own} {b o : Nat}, p = some ⟨b, o, none⟩ → Ctx W w (S ++ G) Φ → ∀ j v, cs[j]? = some v → w.cell? ⟨b, o + j, none⟩ = some v
  el : ∀ M w, Φ M w → Elems M w cs l

section
variable {Φ : PW} {q : LP} {st : LedD} {W w : World} {R S G : List Own} {p : Option Addr} {cap : Nat} {l : List LineD} {cs : List Value}

theorem Src.more {Ψ : PW} (h : Src S Φ p l cs) (hi : ∀ M w, Ψ M w → Φ M w) : Src S Ψ p l cs := ⟨h.ptr, fun e c => h.rd e (c.weak hi), fun M w x => h.el M w (hi M w x)⟩
theorem Src.app (h : Src S Φ p l cs) : Src (S ++ R) Φ p l cs := ⟨h.ptr, fun e c => h.rd e (c.re (List.append_assoc _ _ _)), h.el⟩

/-- lines that facts tell of -/
def SrcF (p : Option Addr) (l : List LineD) (cs : List Value) : PW := fun M w => (∀ b o, p = some ⟨b, o, none⟩ → 0 < l.length → RowIn b o cs M w) ∧ Elems M w cs l
instance instStableSrcF (p : Option Addr) (l : List LineD) (cs : List Value) : Stable (SrcF p l cs) := ⟨fun hs h => ⟨fun b o e h0 => Stable.step (Φ := fun M w => RowIn b o cs M w) hs (h.1 b o e h0), Stable.step (Φ := fun M w => Elems M w cs l) hs h.2⟩⟩
theorem srcOf (c : Ctx W w S Φ) (h : Sl (dom S) w p l) : ∃ cs, Ctx W w S (fun M w => Φ M w ∧ SrcF p l cs M w) := by
  rcases Nat.eq_zero_or_pos l.length with h0 | h0
  · have hl : l = [] := List.eq_nil_of_length_eq_zero h0
    subst hl
    exact ⟨[], c.add ⟨fun _ _ _ h => by simp at h, Elems.nil⟩⟩
  · obtain ⟨b, o, news, hp, g1, g2, g3, g4⟩ := h.cells line_one h0
    obtain ⟨b', o', _, e', hb, hr, _⟩ := h 0 h0
    rw [hp] at e'
    cases e'
    refine ⟨news, c.add ⟨fun b' o' e _ => ?_, g3⟩⟩
    rw [hp] at e
    cases e
    refine ⟨hb, fun j hj => g2 j _ (List.getElem?_eq_getElem hj), ?_⟩
    have hsz : (Gv.ty LineD).size = 7 := rfl
    rw [hsz] at g1
    have := g2 0 _ (List.getElem?_eq_getElem (by omega))
    rcases Nat.lt_or_ge b w.heap.size with h' | h'
    · exact h'
    · simp [World.cell?, Array.getElem?_eq_none h'] at this
theorem src_fact (hth : There p l.length) (hf : ∀ M w, Φ M w → SrcF p l cs M w) : Src [] Φ p l cs where
  ptr := hth
  rd := fun {W w G b o} e c j v hj => by
    have hl := elems_len7 (hf _ _ c.phi).2
    have hjl : j < cs.length := (List.getElem?_eq_some_iff.1 hj).1
    have := ((hf _ _ c.phi).1 b o e (by omega)).2.1 j hjl
    rw [this, ← hj, List.getElem?_eq_getElem hjl]
  el := fun M w h => (hf M w h).2

theorem CloneL_new [Stable Φ] (src : Src S Φ p l cs) (hlen : l.length ≤ 1000000) (c : Ctx W w S Φ) :
    Calls Tryz.prog F.slices_Clone_api_Line_api_Line #[.slice p l.length cap] w fun e w' => ∃ p' c' cs', e = .returned (.slice p' l.length c') ∧ Ctx W w' (bufL p' l.length c' cs' :: S) (fun M w => Φ M w ∧ Elems M w cs' l) := by
  refine (Bslices_Clone_api_Line_api_Line_run p l.length cap (J := fun v w' => ∃ p' c' cs', v = .slice p' l.length c' ∧ Ctx W w' (bufL p' l.length c' cs' :: S) (fun M w => Φ M w ∧ Elems M w cs' l)) c ?_).mono fun e w' ⟨v, he, p', c', cs', hv, rest⟩ => ⟨p', c', cs', by rw [he, hv], rest⟩
  clear c
  refine Br.intro (fun hn => fun w F c => ?_) (fun hn => fun k w F c => ?_)
  · have hl : l = [] := by
      rcases Nat.eq_zero_or_pos l.length with h0 | h0
      · exact List.eq_nil_of_length_eq_zero h0
      · obtain ⟨b, o, e⟩ := src.ptr h0
        rw [e] at hn; cases hn
    subst hl
    exact ⟨none, 0, [], rfl, (c.left.buf0 46 7).add Elems.nil⟩
  · have c' : Ctx W w (bufL (some ⟨k, 0, none⟩) 0 0 [] :: (S ++ F)) Φ := c.toBuf 0 0 7 rfl (by simp) (by simp [maxLen])
    obtain ⟨i, z, e1, e2, e3, e4, e5, e6⟩ := appB_out (P := Tryz.prog) (ts := 33) (t := 46) (size := 7) (bytes := 72) (by kernel_rfl)
    rcases Nat.eq_zero_or_pos l.length with h0 | h0
    · have hl : l = [] := List.eq_nil_of_length_eq_zero h0
      subst hl
      exact ⟨_, _, _, w, run_app (c'.append0 0 rfl e1 e2 p cap), bufL (some ⟨k, 0, none⟩) 0 0 [] :: S, _, instStableAnd Φ (fun M w => Elems M w [] ([] : List LineD)), c'.add Elems.nil, fun w G c => ⟨some ⟨k, 0, none⟩, 0, [], rfl, c.left⟩⟩
    · obtain ⟨b, o, hp⟩ := src.ptr h0
      have hel := src.el _ _ c'.phi
      have hcl := elems_len7 hel
      obtain ⟨p', cap', w', hrun, cx⟩ := c'.append 0 rfl (ty := 33) e1 e2 e3 e4 e5 (a := ⟨b, o, none⟩) (m := l.length) (c2 := cap) (news := cs) h0 hcl (fun j u hj => by rw [addr_add]; exact src.rd hp c'.drop1 j u hj) (fun u hu => List.all_eq_true.1 (elems_one7 hel) u hu) (by rw [e6]; omega) (by omega)
      rw [← hp, Nat.zero_add] at hrun
      rw [Nat.zero_add] at cx
      exact ⟨_, _, _, w', run_app hrun, bufL p' l.length cap' cs :: S, _, instStableAnd Φ (fun M w => Elems M w cs l), cx.weak fun M w h => ⟨h, src.el M w h⟩, fun w G c => ⟨p', cap', cs, rfl, c.left⟩⟩

theorem CloneV_sl [Stable Φ] {r : List ValD} [hΦ : Has Φ (fun M w => Sl M w p r)] (hlen : r.length ≤ 1000000) : GivesSl Φ Tryz.prog F.slices_Clone_api_Value_api_Value #[.slice p r.length cap] r id :=
  ⟨fun W w S c => (CloneV_in (Φ := Φ) p cap r (fun M w h => hΦ.go M w h) (by omega)).use c fun p1 cap1 ds w cx => by
    obtain ⟨c2, hs, _, h2, h3⟩ := Ctx.freeze (α := ValD) cx cx.phi.2
    exact ⟨p1, cap1, rfl, h2, h3, (c2.add hs).weak fun M w h => ⟨h.1.1, h.2⟩⟩⟩

/-- the row of a line is replaced by an equal one -/
theorem l_row {W w w' : World} {S : List Own} {Φ : PW} [Stable Φ] {g n cap : Nat} {cs : List Value} {l : List LineD} (cx : Ctx W w (bufL (some ⟨g, 0, none⟩) n cap cs :: S) (fun M w => Φ M w ∧ Elems M w cs l)) {i : Nat} (hi : i < l.length) {p : Option Addr} {c : Nat}
    (h1 : l[i].row.length ≤ c) (h2 : c ≤ maxLen) (hs : ∀ M w, Φ M w → Sl M w p l[i].row) (e : w' = w.setCell ⟨g, i * 7 + 3, none⟩ (.slice p l[i].row.length c)) :
    ∃ cs', Ctx W w' (bufL (some ⟨g, 0, none⟩) n cap cs' :: S) (fun M w => Φ M w ∧ Elems M w cs' l) := by
  have hl := lcells_len cx.phi.2
  obtain ⟨p0, c0, hp, _, _, h3, _⟩ := lrow cx.phi.2 hi
  have h := cx.bufPuts 0 rfl rfl (vs := [.slice p l[i].row.length c]) (o := i * 7 + 3) (by omega) (by simp only [List.length_cons, List.length_nil]; omega) e
  have hrows := rows_of (vs := l[i].cells p0 c0) hp
  rw [setL_cell (l[i].cells p0 c0) 3 cs (i * 7) _ (by show 3 < 7; decide) hrows, show (l[i].cells p0 c0).set 3 (.slice p l[i].row.length c) = l[i].cells p c from rfl] at h
  refine ⟨_, h.weak fun M w h => ⟨h.1, ?_⟩⟩
  have := h.2.setAt i hi (rep_line h1 h2 h3 (hs M w h.1))
  rw [List.set_getElem_self] at this
  exact this

end
end Go.Proofs.YtjlfpkgjcffilaaGreatDoor
end

/-
  Consolidate, walked.
-/
section
set_option linter.unusedVariables false
set_option linter.unusedSimpArgs false
namespace Go.Proofs.YtjlfpkgjcffilaaGreatDoor
open Go.Vc


/-! ### one group, in plain Lean -/
theorem seg_sum {seg : List DeltaD} {k0 : Key} (h : ∀ x ∈ seg, x.key = k0) (k : Key) (hk : k ≠ k0) : sumK seg k = 0 := sumK_none fun x hx e => hk (by rw [← e, h x hx])

theorem Norm.snoc {c : List DeltaD} {x : DeltaD} (h : Norm c) (h1 : ∀ y ∈ c, cmpK y.key x.key < 0) (h2 : x.n ≠ 0) (h3 : I64 x.n) : Norm (c ++ [x]) := by
  refine ⟨List.pairwise_append.2 ⟨h.asc, List.pairwise_singleton _ _, fun y hy z hz => ?_⟩, fun y hy => ?_, fun y hy => ?_⟩
  · rw [List.mem_singleton.1 hz, cmpD_key]; exact h1 y hy
  · rcases List.mem_append.1 hy with hy | hy
    · exact h.nz y hy
    · rw [List.mem_singleton.1 hy]; exact h2
  · rcases List.mem_append.1 hy with hy | hy
    · exact h.i64 y hy
    · rw [List.mem_singleton.1 hy]; exact h3

/-- a group is put as one element, or left out -/
theorem find_group {A seg C : List DeltaD} {k0 : Key} {N : Int} (h : ∀ x ∈ seg, x.key = k0) (hN : N = findP seg k0) (k : Key) :
    (findP (A ++ (⟨k0.1, k0.2, N⟩ :: C)) k = findP (A ++ (seg ++ C)) k) ∧ (N = 0 → findP (A ++ C) k = findP (A ++ (seg ++ C)) k) := by
  have key : (((if k0 = k then N else 0) : Int) - sumK seg k) % 18446744073709551616 = 0 := by
    by_cases hk : k0 = k
    · subst hk
      rw [if_pos rfl, hN]
      exact w64_mod _
    · rw [if_neg hk, seg_sum h k (fun e => hk e.symm)]
      rfl
  have e1 : sumK (A ++ (⟨k0.1, k0.2, N⟩ :: C)) k = sumK A k + ((if k0 = k then N else 0) + sumK C k) := by rw [sumK_app]; rfl
  have e2 : sumK (A ++ (seg ++ C)) k = sumK A k + (sumK seg k + sumK C k) := by rw [sumK_app, sumK_app]
  refine ⟨?_, fun h0 => ?_⟩
  · unfold findP
    rw [e1, e2]
    exact w64_cong (by omega)
  · unfold findP
    rw [sumK_app, e2]
    refine w64_cong ?_
    rw [h0] at key
    have : ((if k0 = k then (0 : Int) else 0)) = 0 := by split <;> rfl
    omega

/-- what the outer loop knows -/
structure COuter (l : List DeltaD) (es outs : List DE) (i : Nat) : Prop where
  le : i ≤ es.length
  norm : Norm (outs.map DE.d)
  lt : ∀ x ∈ outs, ∀ y ∈ es.drop i, cmpK x.d.key y.d.key < 0
  find : ∀ k, findP (outs.map DE.d ++ (es.drop i).map DE.d) k = findP l k
  few : outs.length ≤ i

theorem COuter.step {l : List DeltaD} {es outs : List DE} {i : Nat} (h : COuter l es outs i) {X : DE} (hX : X ∈ es.drop i) {j : Nat} (hij : i + j ≤ es.length) (hj : 1 ≤ j) (hk : ∀ y ∈ (es.drop i).take j, y.d.key = X.d.key) {N : Int} (hN : N = findP (((es.drop i).take j).map DE.d) X.d.key)
    (hgt : ∀ y ∈ es.drop (i + j), cmpK X.d.key y.d.key < 0) : (N = 0 → COuter l es outs (i + j)) ∧ (N ≠ 0 → ∀ (p : Option Addr) (c : Nat), COuter l es (outs ++ [⟨⟨X.d.time, X.d.row, N⟩, p, c⟩]) (i + j)) := by
  have hdr : es.drop i = (es.drop i).take j ++ es.drop (i + j) := by rw [← List.drop_drop, List.take_append_drop]
  have hkm : ∀ x ∈ ((es.drop i).take j).map DE.d, x.key = X.d.key := fun x hx => by
    obtain ⟨y, hy, rfl⟩ := List.mem_map.1 hx
    exact hk y hy
  have hsub : ∀ y ∈ es.drop (i + j), y ∈ es.drop i := fun y hy => by rw [hdr]; exact List.mem_append_right _ hy
  have hf : ∀ k, findP (outs.map DE.d ++ (((es.drop i).take j).map DE.d ++ (es.drop (i + j)).map DE.d)) k = findP l k := fun k => by
    rw [← List.map_append, ← hdr]; exact h.find k
  refine ⟨fun h0 => ⟨hij, h.norm, fun x hx y hy => h.lt x hx y (hsub y hy), fun k => ?_, by have := h.few; omega⟩, fun h0 p c => ⟨hij, ?_, fun x hx y hy => ?_, fun k => ?_, by rw [List.length_append]; have := h.few; simp; omega⟩⟩
  · rw [← hf k]
    exact (find_group (A := outs.map DE.d) (C := (es.drop (i + j)).map DE.d) hkm hN k).2 h0
  · rw [List.map_append]
    refine Norm.snoc h.norm (fun y hy => ?_) h0 (by rw [hN]; exact w64_in _)
    obtain ⟨z, hz, rfl⟩ := List.mem_map.1 hy
    exact h.lt z hz X hX
  · rcases List.mem_append.1 hx with hx | hx
    · exact h.lt x hx y (hsub y hy)
    · rw [List.mem_singleton.1 hx]; exact hgt y hy
  · rw [← hf k, List.map_append, List.append_assoc]
    exact (find_group (A := outs.map DE.d) (C := (es.drop (i + j)).map DE.d) hkm hN k).1

end Go.Proofs.YtjlfpkgjcffilaaGreatDoor
end

/-
  Sub, Diff, Same, walked.
-/
section
set_option linter.unusedVariables false
set_option linter.unusedSimpArgs false
namespace Go.Proofs.YtjlfpkgjcffilaaGreatDoor
open Go.Vc


/-! ### Sub -/
def negD (x : DeltaD) : DeltaD := ⟨x.time, x.row, w64 (0 - x.n)⟩
def subP (a b : List DeltaD) : List DeltaD := consP (a ++ b.map negD)

/-! ### Same -/
theorem delta_iff {x y : DeltaD} : x = y ↔ (x.time = y.time ∧ (x.row = y.row ∧ x.n = y.n)) := by cases x; cases y; simp
instance : DecidableEq DeltaD := fun _ _ => decidable_of_iff _ delta_iff.symm
end Go.Proofs.YtjlfpkgjcffilaaGreatDoor
end

/-
  Concat, Add, Consolidated, walked.
-/
section
set_option linter.unusedVariables false
set_option linter.unusedSimpArgs false
namespace Go.Vc
section
variable {W w : World} {S : List Own} {Φ : PW}

/-- append a slice of plain data, perhaps empty -/
theorem Ctx.appAny [Stable Φ] {P : Program} {α : Type} [Gv α] {q : Option Addr} {l : List α} {c2 : Nat} {p : Option Addr} {n cap : Nat} {cs : List Value} {t : TypeId} {bytes : Nat} (c : Ctx W w (.buf p n cap cs t (Gv.ty α).size :: S) Φ)
    {ts ty : TypeId} {kb : Array Bool} (hb : appB P ts t (Gv.ty α).size bytes = true) (h1 : ∀ M w cs (x : α), Gv.rep M w cs x → (cs.all fun u => oneC u) = true) (hsl : ∀ M w, Φ M w → Sl M w q l) (hlen : n + l.length < 100000000) (hbytes : bytes ≤ 1000) :
    ∃ p' cap' w' news, Sem.run P (builtin Builtin.append #[ts, ts] ty kb #[.slice p n cap, .slice q l.length c2]) w = .ok (.value (.slice p' (n + l.length) cap')) w' ∧
      Ctx W w' (.buf p' (n + l.length) cap' (cs ++ news) t (Gv.ty α).size :: S) (fun M w => Φ M w ∧ Elems M w news l) := by
  rcases Nat.eq_zero_or_pos l.length with h0 | h0
  · obtain ⟨i, z, e1, e2, e3, e4, e5, e6⟩ := appB_out hb
    have hl : l = [] := List.eq_nil_of_length_eq_zero h0
    subst hl
    refine ⟨p, cap, w, [], run_app (c.append0 0 rfl e1 e2 q c2), ?_⟩
    rw [List.append_nil]
    exact c.add Elems.nil
  · obtain ⟨p', cap', w', news, h2, _, c3⟩ := c.appSl (ty := ty) (kb := kb) (c2 := c2) hb h1 hsl h0 hlen hbytes
    exact ⟨p', cap', w', news, h2, c3⟩

end
end Go.Vc

namespace Go.Proofs.YtjlfpkgjcffilaaGreatDoor
open Go.Vc


end Go.Proofs.YtjlfpkgjcffilaaGreatDoor
end

/-
  A sink: New, copies of lines, List, taking a batch: walked.
-/
section
set_option linter.unusedVariables false
set_option linter.unusedSimpArgs false
namespace Go.Proofs.YtjlfpkgjcffilaaGreatDoor
open Go.Vc


def newOk (kind : Int) (key : List Int) : Bool := !decide (kind < 0) && (!decide (3 ≤ kind) && (!decide ((0 : Int) < key.length) || (decide (kind = 1) && !decide (minZ key < 0))))
abbrev newK (kind : Int) (key : List Int) : SkD := ⟨kind, key, [], [], 0, []⟩

theorem skq_of {q : KP} {st : SkD} {W w : World} {S : List Own} {Φ : PW} (c : Ctx W w (SkO q st ++ S) Φ) (hk : st.key.length ≤ q.kc ∧ q.kc ≤ maxLen) (ha : st.aside.length ≤ q.ac ∧ q.ac ≤ maxLen) : SkQ q st where
  lpt := fun h => by
    obtain ⟨g, hg, _⟩ := c.bufCell 2 rfl (by rw [(c.bufLen 2 rfl).1]; omega)
    exact ⟨g, hg⟩
  bpt := fun h => by
    obtain ⟨g, hg, _⟩ := c.bufCell 1 rfl (by rw [(c.bufLen 1 rfl).1]; omega)
    exact ⟨g, hg⟩
  lcap := (c.bufLen 2 rfl).2
  bcap := (c.bufLen 1 rfl).2
  kcap := hk
  acap := ha
  len := (c.bufLen 2 rfl).1
section
variable {Φ : PW} {q : KP} {st : SkD} {W w : World} {R S G : List Own} {p : Option Addr} {cap : Nat} {l : List LineD} {cs : List Value}

set_option maxHeartbeats 1000000 in
theorem CloneK_new [Stable Φ] (src : Src S Φ p l cs) (hlen : l.length ≤ 1000000) (hrow : ∀ x ∈ l, x.row.length ≤ 1000000) (c : Ctx W w S Φ) :
    Calls Tryz.prog F.sink_clone #[.slice p l.length cap] w fun e w' => ∃ p' c' cs', e = .returned (.slice p' l.length c') ∧ Ctx W w' (bufL p' l.length c' cs' :: S) (fun M w => Φ M w ∧ Elems M w cs' l) := by
  refine (Bsink_clone_run p l.length cap (J := fun v w' => ∃ p' c' cs', v = .slice p' l.length c' ∧ Ctx W w' (bufL p' l.length c' cs' :: S) (fun M w => Φ M w ∧ Elems M w cs' l)) c ?_).mono fun e w' ⟨v, he, p', c', cs', hv, rest⟩ => ⟨p', c', cs', by rw [he, hv], rest⟩
  clear c
  refine fun w G c => (CloneL_new (S := S ++ G) src.app hlen c).mono fun e w' ⟨p1, c1, cs1, he, cx⟩ => ⟨p1, l.length, c1, he, bufL p1 l.length c1 cs1 :: S, (fun M w => Φ M w ∧ Elems M w cs1 l), inferInstance, cx, ?_⟩
  clear c
  have hel := cx.phi.2
  have hpt : 0 < l.length → ∃ g, p1 = some ⟨g, 0, none⟩ := fun h0 => l_ptr cx (by rw [elems_len7 hel]; omega)
  clear cx hel
  refine exI_mk (fun iI R' Φ' m => ∃ i cs2, iI = (i : Nat) ∧ i ≤ l.length ∧ R' = bufL p1 l.length c1 cs2 :: S ∧ Φ' = (fun M w => Φ M w ∧ Elems M w cs2 l) ∧ m = l.length - i) ⟨⟨_, _, _, instStableAnd Φ (fun M w => Elems M w cs1 l), fun w G cx => cx, 0, cs1, rfl, Nat.zero_le _, rfl, rfl, rfl⟩, ?_⟩
  rintro iI R1 Φ1 m _ ⟨i, cs2, rfl, hi, rfl, rfl, rfl⟩
  refine Br.intro (fun hlt => ?_) (fun hge => fun w G cx => ⟨p1, c1, cs2, rfl, cx.left⟩)
  have hlt : i < l.length := by have := of_decide_eq_true hlt; omega
  obtain ⟨g, rfl⟩ := hpt (by omega)
  have hst : Stable (fun M w => Φ M w ∧ Elems M w cs2 l) := instStableAnd Φ (fun M w => Elems M w cs2 l)
  refine ⟨by omega, ptrK_intro g 0 rfl fun w G cx => ?_⟩
  obtain ⟨p0, c0, hp, _, _, _, _⟩ := lrow cx.phi.2 hlt
  refine ⟨l[i].no, l[i].batch, l[i].time, p0, l[i].row.length, c0, l[i].n, l[i].cause, l[i].why, ?_, fun _ w G cx => ?_⟩
  · have := l_at (W := W) (w := w) (Φ := fun M w => Φ M w ∧ Elems M w cs2 l) (S := S ++ G) cx hp
    rw [show 0 + (i : Int).toNat * 7 = i * 7 by omega]
    exact this
  have hrd : ∀ M w, (Φ M w ∧ Elems M w cs2 l) → Sl M w p0 l[i].row := fun M w h => by
    have := h.2.2 i hlt
    rw [show (Gv.ty LineD).size = 7 from rfl, hp] at this
    exact line_row this
  have hh : Has (fun M w => Φ M w ∧ Elems M w cs2 l) (fun M w => Sl M w p0 l[i].row) := ⟨hrd⟩
  refine (CloneV_sl (r := l[i].row) (hrow _ (List.getElem_mem _))).to cx fun p3 c3 f1 f2 st3 => ?_
  clear cx
  refine ⟨by omega, ptrK_intro g 0 rfl fun w G cx => ⟨?_, fun w2 hw2 => ?_⟩⟩
  · have hl := elems_len7 cx.phi.1.2
    exact l_can (S := S ++ G) cx (by omega)
  · have cx2 : Ctx W w (bufL (some ⟨g, 0, none⟩) l.length c1 cs2 :: (S ++ G)) (fun M w => (Φ M w ∧ Sl M w p3 l[i].row) ∧ Elems M w cs2 l) := cx.weak fun M w h => ⟨⟨h.1.1, h.2⟩, h.1.2⟩
    have st5 : Stable (fun M w => Sl M w p3 l[i].row) := instStableSl p3 l[i].row
    have st4 : Stable (fun M w => Φ M w ∧ Sl M w p3 l[i].row) := @instStableAnd Φ (fun M w => Sl M w p3 l[i].row) _ st5
    obtain ⟨cs3, cx3⟩ := l_row (w' := w2) (Φ := fun M w => Φ M w ∧ Sl M w p3 l[i].row) cx2 hlt f1 f2 (fun M w h => h.2) (by rw [hw2]; congr 2; omega)
    exact ⟨bufL (some ⟨g, 0, none⟩) l.length c1 cs3 :: S, _, instStableAnd Φ (fun M w => Elems M w cs3 l), cx3.weak fun M w h => ⟨h.1.1, h.2⟩, by unfold I64; omega, _, _, l.length - (i + 1), instStableAnd Φ (fun M w => Elems M w cs3 l), fun w G cx => cx, ⟨i + 1, cs3, rfl, hlt, rfl, rfl, rfl⟩, by omega⟩

theorem CloneK_sl [Stable Φ] [hΦ : Has Φ (fun M w => Sl M w p l)] (hlen : l.length ≤ 1000000) (hrow : ∀ x ∈ l, x.row.length ≤ 1000000) : GivesSl Φ Tryz.prog F.sink_clone #[.slice p l.length cap] l id :=
  .there (fun M w h => (hΦ.go M w h).there) fun hth => ⟨fun W w S c => by
    obtain ⟨cs, c1⟩ := srcOf c (hΦ.go _ _ c.phi)
    refine (CloneK_new (S := S) (Φ := fun M w => Φ M w ∧ SrcF p l cs M w) (src_fact (Φ := fun M w => Φ M w ∧ SrcF p l cs M w) hth (fun M w h => h.2)).app hlen hrow c1).mono fun e w' ⟨p', c', cs', he, cx⟩ => ?_
    obtain ⟨c2, hs, _, h2, h3⟩ := Ctx.freeze (α := LineD) cx cx.phi.2
    exact ⟨p', c', he, h2, h3, (c2.add hs).weak fun M w h => ⟨h.1.1.1, h.2⟩⟩⟩

theorem CloneZ_sl [Stable Φ] {l : List Int} [hΦ : Has Φ (fun M w => Sl M w p l)] (hlen : l.length ≤ 10000000) : GivesSl Φ Tryz.prog F.slices_Clone_int_int #[.slice p l.length cap] l id :=
  ⟨fun W w S c => (CloneZ_in (Φ := Φ) (cap := cap) hΦ.go (by omega)).use c fun p1 cap1 ds w cx => by
    obtain ⟨c2, hs, _, h2, h3⟩ := Ctx.freeze (α := Int) cx cx.phi.2
    exact ⟨p1, cap1, rfl, h2, h3, (c2.add hs).weak fun M w h => ⟨h.1.1, h.2⟩⟩⟩

/-! ### New -/
theorem new_i (kind : Int) (key : List Int) : SkI (newK kind key) := ⟨List.Pairwise.nil, by simp, by simp, by simp⟩

theorem New_to [Stable Φ] {kind : Int} {key : List Int} [hΦ : Has Φ (fun M w => Sl M w p key)] (hlen : key.length ≤ 10000000) (c : Ctx W w (R ++ G) Φ) {K : Option Addr → List Own → PW → Prop}
    (h0 : newOk kind key = false → K none R Φ)
    (h1 : ∀ q : KP, newOk kind key = true → SkQ q (newK kind key) → Stable (fun M w => Φ M w ∧ SkF q (newK kind key) M w) → K (some ⟨q.sb, 0, none⟩) (SkO q (newK kind key) ++ R) (fun M w => Φ M w ∧ SkF q (newK kind key) M w)) :
    Calls Tryz.prog F.sink_New #[.int .i64 kind, .slice p key.length cap] w fun e w' => ∃ p, e = .returned (.pointer p) ∧ ∃ R' Φ', Stable Φ' ∧ Ctx W w' (R' ++ G) Φ' ∧ K p R' Φ' := by
  refine (Bsink_New_run kind p key.length cap (R := R ++ G) (J := fun v w' => ∃ p, v = .pointer p ∧ ∃ R' Φ', Stable Φ' ∧ Ctx W w' (R' ++ G) Φ' ∧ K p R' Φ') c ?_).mono fun e w' ⟨v, he, p, hv, rest⟩ => ⟨p, by rw [he, hv], rest⟩
  clear c
  have bad : newOk kind key = false → ∀ {w : World} {G2 : List Own}, Ctx W w ((R ++ G) ++ G2) Φ → ∃ p, Value.pointer none = .pointer p ∧ ∃ R' Φ', Stable Φ' ∧ Ctx W w (R' ++ G) Φ' ∧ K p R' Φ' := fun h {w G2} cx => ⟨none, rfl, R, Φ, inferInstance, cx.left, h0 h⟩
  have good : newOk kind key = true → ∀ {w : World} {G2 : List Own}, Ctx W w ((R ++ G) ++ G2) Φ → Calls Tryz.prog F.slices_Clone_int_int #[.slice p key.length cap] w fun e17 w18 => ∃ (p19 : Option Addr), ∃ (k20 : Nat), ∃ (k21 : Nat), e17 = .returned (.slice p19 k20 k21) ∧ ∃ (R22 : List Own), ∃ (Φ23 : PW), Stable Φ23 ∧ Ctx W w18 (R22 ++ G2) Φ23 ∧ ∀ (k24 : Nat) (w25 : World) (R26 : List Own), Ctx W w25 (Own.blk k24 [.int .i64 kind, .slice p19 k20 k21, .slice none 0 0, .slice none 0 0, .int .i64 0, .slice none 0 0] 69 :: R22 ++ R26) Φ23 → ∃ p, Value.pointer (some (Addr.mk k24 0 none)) = .pointer p ∧ ∃ R' Φ', Stable Φ' ∧ Ctx W w25 (R' ++ G) Φ' ∧ K p R' Φ' := fun h {w G2} cx => by
    refine (CloneZ_sl (l := key) hlen).to cx fun p1 c1 g1 g2 st1 => ?_
    intro k w3 G3 cx
    have cx := Ctx.left (S := .blk k _ 69 :: (R ++ G)) (F := G3) cx
    have c2 := (cx.nobuf 46 7).nobuf 3 1
    obtain ⟨q, hqe⟩ : ∃ q : KP, q = ⟨k, p1, c1, none, 0, none, 0, [], none, 0⟩ := ⟨_, rfl⟩
    have c3 : Ctx W w3 ((SkO q (newK kind key) ++ R) ++ G) (fun M w => Φ M w ∧ SkF q (newK kind key) M w) := by
      rw [hqe]
      refine Ctx.weak (Φ := fun M w => Φ M w ∧ Sl M w p1 key) (c2.perm ?_) fun M w h => ⟨h.1, Elems.nil, h.2, fun i hi => absurd hi (by simp)⟩
      exact (List.Perm.trans (List.perm_middle (l₁ := [_, _]) (a := _)) (List.Perm.refl _))
    have hq : SkQ q (newK kind key) := skq_of (S := R ++ G) (c3.re (by simp)) (by rw [hqe]; exact ⟨g1, g2⟩) (by rw [hqe]; exact ⟨Nat.le_refl _, Nat.zero_le _⟩)
    have := h1 q h hq inferInstance
    refine ⟨some ⟨k, 0, none⟩, rfl, SkO q (newK kind key) ++ R, _, inferInstance, c3, ?_⟩
    rw [show k = q.sb by rw [hqe]]
    exact this
  unfold newOk at bad good
  refine Br.intro (fun h => fun w G2 cx => bad (by rw [h]; rfl) cx) (fun a1 => ?_)
  rw [a1] at bad good
  refine Br.intro (fun h => fun w G2 cx => bad (by rw [h]; rfl) cx) (fun a2 => ?_)
  rw [a2] at bad good
  refine Br.intro (fun h3 => ?_) (fun h3 => fun w G2 cx => good (by rw [h3]; rfl) cx)
  rw [h3] at bad good
  refine Br.intro (fun h => fun w G2 cx => bad (by rw [decide_eq_false (of_decide_eq_true h)]; rfl) cx) (fun a4 => fun w G2 cx => ?_)
  have h3 := of_decide_eq_true h3
  rw [decide_eq_true (Decidable.not_not.1 (of_decide_eq_false a4))] at bad good
  refine (Min_in (l := key) (by omega) hlen).toI cx ?_
  clear cx
  exact Br.intro (fun h => fun w G2 cx => bad (by rw [h]; rfl) cx) (fun a5 => fun w G2 cx => good (by rw [a5]; rfl) cx)

/-! ### List, take -/
theorem src_sk (hq : SkQ q st) (hF : ∀ M w, Φ M w → Elems M w q.cs st.lines) : Src (SkO q st) Φ q.lp st.lines q.cs where
  ptr := fun h => by obtain ⟨g, hg⟩ := hq.lpt h; exact ⟨g, 0, hg⟩
  rd := fun {W w G b o} e c j v hj => by
    have hjl : j < q.cs.length := (List.getElem?_eq_some_iff.1 hj).1
    have := hq.len
    obtain ⟨g, hg⟩ := hq.lpt (by omega)
    rw [hg] at e
    cases e
    rw [Nat.zero_add]
    exact c.bufGet 2 rfl hg hj
  el := fun M w h => hF M w h
/-- lines, of which nothing is written later -/
theorem List_sl [Stable Φ] [hF : Has Φ (SkF q st)] (hq : SkQ q st) (hI : SkI st) {n : Nat} (hs : SkS st n) (hn : n ≤ 400000) : GivesQSl (SkO q st) Φ Tryz.prog F.sink_Sink_List #[snk q] st.lines := by
  have hl := hs.lines
  exact gives_qsl (Bsink_Sink_List_run q.sb 0) fun W R => fun w G cx => ⟨_, _, _, sk_cell (i := 3) cx rfl, fun w G cx =>
    (CloneK_new (S := (SkO q st ++ R) ++ G) (src_sk (Φ := Φ) hq fun M w h => (hF.go M w h).1).app.app (by omega) (fun x hx => by have := right_len (hI.row x hx); omega) cx).mono fun e w' ⟨p', c', cs', he, cx⟩ => by
      obtain ⟨c2, hs, _, h2, h3⟩ := Ctx.freeze (α := LineD) cx cx.phi.2
      exact ⟨p', _, c', he, (SkO q st ++ R), _, inferInstance, (c2.add hs).weak fun M w h => ⟨h.1.1, h.2⟩, fun w G cx => ⟨p', c', rfl, h2, h3, cx.left⟩⟩⟩
end
end Go.Proofs.YtjlfpkgjcffilaaGreatDoor
end

/-
  The conditions of the walks of some functions, one formula each; 'B<f>_run' says that they suffice. The formulas are printed by a program; the kernel compares them with the functions' code.
-/
section
namespace Go.Proofs.YtjlfpkgjcffilaaGreatDoor
set_option linter.unusedVariables false
set_option linter.unusedSimpArgs false
set_option maxRecDepth 100000
open Go.Vc

end Go.Proofs.YtjlfpkgjcffilaaGreatDoor
end

/-
  The walks of the reference's comparisons; Equal.
-/
section
set_option linter.unusedVariables false
set_option linter.unusedSimpArgs false
namespace Go.Proofs.YtjlfpkgjcffilaaGreatDoor
open Go.Vc

theorem bytesLess_cmp : ∀ a b : List UInt8, Op.bytesLess a b = decide (Lib.compareBytes a b < 0)
  | [], [] => by simp [Op.bytesLess, Lib.compareBytes]
  | [], _ :: _ => by simp [Op.bytesLess, Lib.compareBytes]
  | _ :: _, [] => by simp [Op.bytesLess, Lib.compareBytes]
  | a :: ar, b :: br => by
    unfold Op.bytesLess Lib.compareBytes
    rw [bytesLess_cmp ar br]
    by_cases h1 : a < b
    · simp [h1]
    · by_cases h2 : b < a
      · rw [if_neg h1, if_pos h2]
        have : a ≠ b := fun e => by subst e; exact h1 h2
        simp [h1, this]
      · have : a = b := by
          have h1' : ¬ a.toNat < b.toNat := h1
          have h2' : ¬ b.toNat < a.toNat := h2
          exact UInt8.toNat_inj.1 (by omega)
        rw [if_neg h1, if_neg h2]
        simp [this]

theorem compareBytes_zero (a b : List UInt8) : Lib.compareBytes a b = 0 ↔ a = b := bytes_cmp.eq a b
theorem compareBytes_bd (a b : List UInt8) : -1 ≤ Lib.compareBytes a b ∧ Lib.compareBytes a b ≤ 1 := bytes_cmp.bd a b
theorem cmpT_less (a b : ByteArray) : Op.bytesLess a.toList b.toList = decide (cmpT a b < 0) := by rw [bytesLess_cmp, Lib.toList_data, Lib.toList_data]; rfl
theorem cmpT_gtr (a b : ByteArray) : (!(Op.bytesLess a.toList b.toList || a.toList == b.toList)) = decide (0 < cmpT a b) := by
  rw [cmpT_less]
  have h2 : (a.toList == b.toList) = decide (cmpT a b = 0) := by
    rw [Bool.eq_iff_iff, beq_iff_eq, decide_eq_true_eq]
    unfold cmpT
    rw [compareBytes_zero, Lib.toList_data, Lib.toList_data]
  rw [h2]
  by_cases h : cmpT a b < 0
  · simp [h]; omega
  · by_cases h' : cmpT a b = 0
    · simp [h']
    · rw [decide_eq_false h, decide_eq_false h', decide_eq_true (show 0 < cmpT a b by omega)]; rfl

theorem orI_cons (x : Int) (r : List Int) : orI (x :: r) = if x ≠ 0 then x else orI r := rfl

theorem rcmpV_g (x y : ValD) : Gives Tryz.prog F.errataref03_Compare #[x.v, y.v] (.int .i64 (cmpV x y)) := by
  refine gives_of (Berrataref03_Compare_run x.kind x.num x.text y.kind y.num y.text) fun W R Φ _ => ?_
  have h3 := compareBytes_bd x.text.data.toList y.text.data.toList
  unfold cmpV cmpL
  rw [orI_cons, orI_cons, orI_cons]
  refine fun _ _ => Br.intro (fun h => fun w G c => ⟨?_, c.left⟩) (fun h => Br.intro (fun h2 => fun w G c => ⟨?_, c.left⟩) (fun h2 => Br.intro (fun h3 => fun w G c => ⟨?_, c.left⟩) (fun h3 => Br.intro (fun h4 => fun w G c => ⟨?_, c.left⟩) (fun h4 => Br.intro (fun h5 => fun w G c => ⟨?_, c.left⟩) (fun h5 => ⟨_, fun w => by rw [binOp_string_gtr]; rfl, Br.intro (fun h6 => fun w G c => ⟨?_, c.left⟩) (fun h6 => fun w G c => ⟨?_, c.left⟩)⟩)))))
  · have h := of_decide_eq_true h
    have : cmpI x.kind y.kind = -1 := by unfold cmpI; rw [if_pos h]
    rw [this]; rfl
  all_goals have h := of_decide_eq_false h
  · have h2 := of_decide_eq_true h2
    have : cmpI x.kind y.kind = 1 := by unfold cmpI; rw [if_neg h, if_pos h2]
    rw [this]; rfl
  all_goals have h2 := of_decide_eq_false h2
  all_goals have e1 : cmpI x.kind y.kind = 0 := by unfold cmpI; rw [if_neg h, if_neg h2]
  all_goals rw [e1]
  · have h3 := of_decide_eq_true h3
    have : cmpI x.num y.num = -1 := by unfold cmpI; rw [if_pos h3]
    rw [this]; rfl
  all_goals have h3 := of_decide_eq_false h3
  · have h4 := of_decide_eq_true h4
    have : cmpI x.num y.num = 1 := by unfold cmpI; rw [if_neg h3, if_pos h4]
    rw [this]; rfl
  all_goals have h4 := of_decide_eq_false h4
  all_goals have e2 : cmpI x.num y.num = 0 := by unfold cmpI; rw [if_neg h3, if_neg h4]
  all_goals rw [e2]
  · have h5 : Op.bytesLess x.text.toList y.text.toList = true := h5
    rw [cmpT_less] at h5
    have h5 := of_decide_eq_true h5
    have : cmpT x.text y.text = -1 := by have : -1 ≤ cmpT x.text y.text := (compareBytes_bd _ _).1; omega
    rw [this]; rfl
  all_goals have h5 : Op.bytesLess x.text.toList y.text.toList = false := h5
  all_goals rw [cmpT_less] at h5
  all_goals have h5 := of_decide_eq_false h5
  · rw [cmpT_gtr] at h6
    have h6 := of_decide_eq_true h6
    have : cmpT x.text y.text = 1 := by have : cmpT x.text y.text ≤ 1 := (compareBytes_bd _ _).2; omega
    rw [this]; rfl
  · rw [cmpT_gtr] at h6
    have h6 := of_decide_eq_false h6
    have : cmpT x.text y.text = 0 := by omega
    rw [this]; rfl

theorem cmpR_nil {l r : List ValD} {i : Nat} (h : l.length ≤ i) (hr : r.length ≤ i) : cmpR (l.drop i) (r.drop i) = 0 := by
  rw [List.drop_of_length_le h, List.drop_of_length_le hr]; rfl
theorem cmpR_right {l r : List ValD} {i : Nat} (hi : l.length ≤ i) (hr : i < r.length) : cmpR (l.drop i) (r.drop i) = -1 := by
  rw [List.drop_eq_getElem_cons hr, List.drop_of_length_le hi]; rfl

theorem rCompareRows_in {Φ : PW} [Stable Φ] (p q : Option Addr) (cap cap2 : Nat) (l r : List ValD) (hΦ : ∀ M w, Φ M w → Sl M w p l) (hΨ : ∀ M w, Φ M w → Sl M w q r) (hlen : l.length ≤ 9223372036854775807) :
    GivesIn Φ Tryz.prog F.errataref03_CompareRows #[.slice p l.length cap, .slice q r.length cap2] (.int .i64 (cmpR l r)) := by
  refine .there (fun M w h => (hΦ M w h).there) fun hth => .there (fun M w h => (hΨ M w h).there) fun hth2 => ?_
  refine gives_in (Berrataref03_CompareRows_run p l.length cap q r.length cap2) fun W R => ?_
  refine exI_mk (fun n R' Φ' k => ∃ i : Nat, n = i ∧ i ≤ l.length ∧ i ≤ r.length ∧ R' = R ∧ Φ' = Φ ∧ k = l.length - i ∧ cmpR l r = cmpR (l.drop i) (r.drop i)) ⟨⟨R, Φ, _, inferInstance, fun w F c => c, 0, rfl, Nat.zero_le _, Nat.zero_le _, rfl, rfl, rfl, rfl⟩, ?_⟩
  rintro n R1 Φ1 k _ ⟨i, rfl, hi, hr, rfl, rfl, rfl, hcm⟩
  refine fun w G cx => Br.intro (fun hlt => ?_) (fun hge => ?_)
  · rw [Bool.and_eq_true] at hlt
    have hl : i < l.length := by have := of_decide_eq_true hlt.1; omega
    have hr2 : i < r.length := by have := of_decide_eq_true hlt.2; omega
    obtain ⟨b, o, rfl⟩ := hth (by omega)
    obtain ⟨b2, o2, rfl⟩ := hth2 (by omega)
    rw [cmpR_both hl hr2] at hcm
    refine ⟨R1, Φ1, inferInstance, fun _ _ c => c, by omega, ptrK_intro b o rfl ⟨by omega, ptrK_intro b2 o2 rfl ⟨l[i].kind, l[i].num, l[i].text, fun w G cx => ⟨_, _, _, sl_val (hΦ _ _ cx.phi) hl, rfl⟩, r[i].kind, r[i].num, r[i].text, fun w G cx => ⟨_, _, _, sl_val (hΨ _ _ cx.phi) hr2, rfl⟩, fun w G cx => (rcmpV_g l[i] r[i]).use cx fun w cx => ⟨_, rfl, R1, Φ1, inferInstance, cx,
      Br.intro (fun hn => fun w F cx => ⟨?_, cx.left⟩) (fun hn => ⟨by unfold I64; omega, R1, Φ1, l.length - (i + 1), inferInstance, fun w F c => c, ⟨i + 1, rfl, hl, hr2, rfl, rfl, rfl, ?_⟩, by omega⟩)⟩⟩⟩⟩
    · have hn : cmpV l[i] r[i] ≠ 0 := by simpa using hn
      rw [hcm, if_pos hn]
    · have hn : ¬ cmpV l[i] r[i] ≠ 0 := by simpa using hn
      rw [hcm, if_neg hn]
  · have hge : l.length ≤ i ∨ r.length ≤ i := by
      rw [Bool.and_eq_false_iff] at hge
      rcases hge with h | h
      · left; have := of_decide_eq_false h; omega
      · right; have := of_decide_eq_false h; omega
    refine Br.intro (fun h => fun w G cx => ⟨?_, cx.left⟩) (fun h => Br.intro (fun h2 => fun w G cx => ⟨?_, cx.left⟩) (fun h2 => fun w G cx => ⟨?_, cx.left⟩))
    · have h := of_decide_eq_true h
      rw [hcm, cmpR_right (by omega) (by omega)]
    · have h2 := of_decide_eq_true h2
      rw [hcm, cmpR_left (by omega) (by omega)]
    · have h := of_decide_eq_false h
      have h2 := of_decide_eq_false h2
      rw [hcm, cmpR_nil (by omega) (by omega)]

/-! ### Equal -/
end Go.Proofs.YtjlfpkgjcffilaaGreatDoor
end

/-
  Find, IndexFunc, walked.
-/
section
set_option linter.unusedVariables false
set_option linter.unusedSimpArgs false
namespace Go.Proofs.YtjlfpkgjcffilaaGreatDoor
open Go.Vc


/-! ### Find, Count -/
def findI {α : Type} (p : α → Bool) : Nat → List α → Int
  | _, [] => -1
  | i, x :: r => if p x = true then (i : Int) else findI p (i + 1) r

theorem findI_drop {α : Type} (p : α → Bool) (l : List α) (i : Nat) (hi : i < l.length) : findI p i (l.drop i) = if p l[i] = true then (i : Int) else findI p (i + 1) (l.drop (i + 1)) := by
  rw [List.drop_eq_getElem_cons hi]; rfl
theorem findI_any {α : Type} (p : α → Bool) : ∀ (l : List α) (i : Nat), decide (0 ≤ findI p i l) = l.any p
  | [], _ => rfl
  | x :: r, i => by
    unfold findI
    rw [List.any_cons]
    cases h : p x with
    | true => simp
    | false => simp only [Bool.false_or]; rw [if_neg (by simp)]; exact findI_any p r (i + 1)

end Go.Proofs.YtjlfpkgjcffilaaGreatDoor
end

/-
  DeleteFunc, Upto, After, walked.
-/
section
set_option linter.unusedVariables false
set_option linter.unusedSimpArgs false
namespace Go.Vc
section
variable {P : Program} {W w w' : World} {S F : List Own} {Φ Ψ : PW}

end
end Go.Vc

namespace Go.Proofs.YtjlfpkgjcffilaaGreatDoor
open Go.Vc


/-! ### Upto, After -/
end Go.Proofs.YtjlfpkgjcffilaaGreatDoor
end

/-
  Consolidated, walked; DifferenceLeast in plain Lean, and walked.
-/
section
set_option linter.unusedVariables false
set_option linter.unusedSimpArgs false
namespace Go.Proofs.YtjlfpkgjcffilaaGreatDoor
open Go.Vc


def consAt (l : List DeltaD) (j : Nat) : Bool := match l[j]? with
  | none => false
  | some y => decide (y.n ≠ 0) && match j with
    | 0 => true
    | i + 1 => match l[i]? with
      | none => false
      | some x => decide (cmpD x y < 0)
def consolidated (l : List DeltaD) : Bool := (List.range l.length).all fun j => consAt l j

theorem sumK_neg (k : Key) : ∀ a : List DeltaD, (sumK (a.map negD) k + sumK a k) % 18446744073709551616 = 0
  | [] => rfl
  | x :: a => by
    have ih := sumK_neg k a
    have h := w64_mod (0 - x.n)
    show ((if (negD x).key = k then (negD x).n else 0) + sumK (a.map negD) k + ((if x.key = k then x.n else 0) + sumK a k)) % 18446744073709551616 = 0
    have e1 : (negD x).key = x.key := rfl
    have e2 : (negD x).n = w64 (0 - x.n) := rfl
    rw [e1, e2]
    by_cases hk : x.key = k
    · rw [if_pos hk, if_pos hk]; omega
    · rw [if_neg hk, if_neg hk]; omega

theorem find_neg (a : List DeltaD) (k : Key) : findP (a.map negD) k = w64 (-(findP a k)) := by
  unfold findP
  apply w64_cong
  have := sumK_neg k a
  have := w64_mod (sumK a k)
  omega

theorem find_cons (l : List DeltaD) (k : Key) : findP (consP l) k = findP l k := (consP_norm l).2 k
theorem find_sub (a b : List DeltaD) (k : Key) : findP (subP a b) k = w64 (findP a k - findP b k) := by
  unfold subP
  rw [find_cons, findP_app, find_neg, w64_r, ← Int.sub_eq_add_neg]
theorem sub_self (a : List DeltaD) : subP a a = [] := by
  have h : ∀ k, findP [] k = findP (subP a a) k := fun k => by
    rw [find_sub, Int.sub_self]; rfl
  have := consP_is (l := subP a a) Norm.nil h
  rwa [show consP (subP a a) = subP a a from consP_cons _] at this
end Go.Proofs.YtjlfpkgjcffilaaGreatDoor
end

/-
  The reference's sorting: in plain Lean, and walked.
-/
section
set_option linter.unusedVariables false
set_option linter.unusedSimpArgs false
namespace Go.Proofs.YtjlfpkgjcffilaaGreatDoor
open Go.Vc


/-! ### in plain Lean -/
/-! ### walked -/
/-- the cells of a pinned list -/
theorem Ctx.cells {W w : World} {S : List Own} {Φ : PW} {g o : Nat} {cs : List (List Value)} {l : List DeltaD} (c : Ctx W w S Φ) (h : ∀ M w, Φ M w → Pin g o cs l M w) :
    ∀ j, (hj : j < l.length) → ∃ p c, cs.getD j [] = l[j].cells p c ∧ l[j].row.length ≤ c ∧ c ≤ maxLen ∧ I64 l[j].time ∧ I64 l[j].n := fun j hj => by
  obtain ⟨p, q, h1, h2, h3, h4, h5, _⟩ := pin_delta (h _ _ c.phi) hj
  exact ⟨p, q, h1, h2, h3, h4, h5⟩

end Go.Proofs.YtjlfpkgjcffilaaGreatDoor
end

/-
  The reference's consolidation, and what is built upon it, walked.
-/
section
set_option linter.unusedVariables false
set_option linter.unusedSimpArgs false
namespace Go.Proofs.YtjlfpkgjcffilaaGreatDoor
open Go.Vc


/-! ### in plain Lean -/
def dz (x : DeltaD) : DE := ⟨x, none, 0⟩
theorem dz_d (s : List DeltaD) : (s.map dz).map DE.d = s := by
  rw [List.map_map]
  exact List.map_id s
abbrev CO (l s outs : List DeltaD) (i : Nat) : Prop := COuter l (s.map dz) (outs.map dz) i
theorem CO.start {l s : List DeltaD} (h : s.Perm l) : CO l s [] 0 :=
  ⟨Nat.zero_le _, Norm.nil, by simp, fun k => by rw [List.drop_zero, dz_d, dz_d]; exact findP_perm h k, Nat.le_refl _⟩
theorem CO.step {l s outs : List DeltaD} {i : Nat} (h : CO l s outs i) {X : DeltaD} (hX : X ∈ s.drop i) {j : Nat} (hij : i + j ≤ s.length) (hj : 1 ≤ j) (hk : ∀ y ∈ (s.drop i).take j, y.key = X.key) {N : Int} (hN : N = findP ((s.drop i).take j) X.key)
    (hgt : ∀ y ∈ s.drop (i + j), cmpK X.key y.key < 0) : (N = 0 → CO l s outs (i + j)) ∧ (N ≠ 0 → CO l s (outs ++ [⟨X.time, X.row, N⟩]) (i + j)) := by
  have h1 := COuter.step h (X := dz X) (by rw [← List.map_drop]; exact List.mem_map_of_mem hX) (j := j) (by rw [List.length_map]; exact hij) hj
    (fun y hy => by rw [← List.map_drop, ← List.map_take] at hy; obtain ⟨z, hz, rfl⟩ := List.mem_map.1 hy; exact hk z hz) (N := N) (by rw [← List.map_drop, ← List.map_take, dz_d]; exact hN)
    (fun y hy => by rw [← List.map_drop] at hy; obtain ⟨z, hz, rfl⟩ := List.mem_map.1 hy; exact hgt z hz)
  refine ⟨h1.1, fun h0 => ?_⟩
  have := h1.2 h0 none 0
  unfold CO
  rw [List.map_append]
  exact this
theorem CO.end {l s outs : List DeltaD} (h : CO l s outs s.length) : consP l = outs := by
  have h1 := h.norm
  have h2 := h.find
  rw [dz_d] at h1 h2
  refine consP_is h1 fun k => ?_
  have := h2 k
  rwa [← List.map_drop, List.drop_length, List.map_nil, List.map_nil, List.append_nil] at this
theorem CO.few {l s outs : List DeltaD} {i : Nat} (h : CO l s outs i) : outs.length ≤ i := by
  have := COuter.few h
  rwa [List.length_map] at this

end Go.Proofs.YtjlfpkgjcffilaaGreatDoor
end

/-
  Nets of lines, out of a slice that is told or owned; Net, Upto, At; Lines; the reference's net.
-/
section
set_option linter.unusedVariables false
set_option linter.unusedSimpArgs false
namespace Go.Proofs.YtjlfpkgjcffilaaGreatDoor
open Go.Vc


section
variable {Φ : PW} {q : LP} {st : LedD} {W w : World} {R S G : List Own} {p : Option Addr} {cap : Nat} {l : List LineD} {cs : List Value}

theorem src_sl (src : Src S Φ p l cs) {i : Nat} (hi : i < l.length) {r : Option Addr} {rc : Nat} (he : (cs.drop (i * 7)).take 7 = l[i].cells r rc) {M : List Nat} (h : Φ M w) : Sl M w r l[i].row := by
  have := (src.el M w h).2 i hi
  rw [show (Gv.ty LineD).size = 7 from rfl, he] at this
  exact line_row this

end
end Go.Proofs.YtjlfpkgjcffilaaGreatDoor
end

/-
  Right rows; what a ledger checks: walked.
-/
section
set_option linter.unusedVariables false
set_option linter.unusedSimpArgs false
namespace Go.Proofs.YtjlfpkgjcffilaaGreatDoor
open Go.Vc


/-! ### right rows -/
theorem vInt_g (n : Int) : Gives Tryz.prog F.value_Int #[.int .i64 n] (.agg #[.int .i64 0, .int .i64 n, .string (ByteArray.mk #[])]) :=
  gives_of (Bvalue_Int_run n) fun W R Φ _ => fun _ w G c => ⟨rfl, c.left⟩
theorem vText_g (s : ByteArray) : Gives Tryz.prog F.value_Text #[.string s] (.agg #[.int .i64 1, .int .i64 0, .string s]) :=
  gives_of (Bvalue_Text_run s) fun W R Φ _ => fun _ w G c => ⟨rfl, c.left⟩
theorem vBool_g (b : Bool) : Gives Tryz.prog F.value_Bool #[.bool b] (.agg #[.int .i64 2, .int .i64 (if b = true then 1 else 0), .string (ByteArray.mk #[])]) :=
  gives_of (Bvalue_Bool_run b) fun W R Φ _ => fun _ => Br.intro (fun h => fun w G c => ⟨by rw [if_pos h], c.left⟩) (fun h => fun w G c => ⟨by rw [if_neg (by rw [h]; simp)], c.left⟩)

theorem vRight_g (x : ValD) : Gives Tryz.prog F.value_Right #[x.v] (.bool (rightV3 x)) := by
  refine gives_of (Bvalue_Right_run x.kind x.num x.text) fun W R Φ _ => fun _ => Br.intro (fun h => ?_) (fun h => Br.intro (fun h2 => ?_) (fun h2 => ?_))
  · refine ⟨R, Φ, inferInstance, fun w G c => c, fun w G cx => (vInt_g x.num).use cx fun w c => ⟨0, x.num, ByteArray.mk #[], rfl, R, Φ, inferInstance, c, fun w G c => c, by kernel_rfl, fun w G c => ⟨?_, c.left⟩⟩⟩
    have h := of_decide_eq_true h
    unfold rightV3
    rw [if_pos h, decide_eq_true h, decide_eq_true rfl, Bool.true_and, Bool.true_and, Bool.and_true]
  · refine ⟨R, Φ, inferInstance, fun w G c => c, fun w G cx => (vText_g x.text).use cx fun w c => ⟨1, 0, x.text, rfl, R, Φ, inferInstance, c, fun w G c => c, by kernel_rfl, ?_⟩⟩
    have h := of_decide_eq_false h
    have h2 := of_decide_eq_true h2
    refine Br.intro (fun h3 => fun w G c => ⟨?_, c.left⟩) (fun h3 => fun w G c => ⟨?_, c.left⟩)
    · unfold rightV3
      rw [if_neg h, if_pos h2]
      have : x.num = 0 := by simp at h3; exact h3.2
      rw [decide_eq_true this, Bool.true_and]
    · unfold rightV3
      rw [if_neg h, if_pos h2]
      have : x.num ≠ 0 := by
        intro e
        rw [decide_eq_true h2, decide_eq_true e, decide_eq_true rfl] at h3
        cases h3
      rw [decide_eq_false this, Bool.false_and]
  · have h := of_decide_eq_false h
    have h2 := of_decide_eq_false h2
    have hr : rightV3 x = (decide (x.kind = 2) && (decide (x.num = 0) || decide (x.num = 1)) && decide (x.text = ByteArray.mk #[])) := by unfold rightV3; rw [if_neg h, if_neg h2]
    refine ⟨R, Φ, inferInstance, fun w G c => c, fun w G cx => (vBool_g false).use cx fun w c => ⟨2, 0, ByteArray.mk #[], rfl, R, Φ, inferInstance, c, fun w G c => c, R, Φ, inferInstance, fun w G c => c, by kernel_rfl, ?_⟩⟩
    refine Br.intro (fun h3 => fun w G c => ⟨?_, c.left⟩) (fun h3 => fun w G cx => (vBool_g true).use cx fun w c => ⟨2, 1, ByteArray.mk #[], rfl, R, Φ, inferInstance, c, fun w G c => c, by kernel_rfl, fun w G c => ⟨?_, c.left⟩⟩)
    · rw [hr]
      simp at h3
      simp [h3]
    · rw [hr]
      congr 1
      by_cases k1 : x.kind = 2
      · by_cases k2 : x.text = ByteArray.mk #[]
        · by_cases k3 : x.num = 0
          · rw [k1, k2, k3] at h3
            simp at h3
          · simp [k1, k2, k3]
        · simp [k2]
      · simp [k1]

section
variable {Φ : PW} {q : LP} {st : LedD} {W w : World} {R S G : List Own} {p : Option Addr} {cap : Nat} {r : List ValD}

theorem all1_g (x : ValD) : Gives Tryz.prog F.value_all_1 #[x.v] (.bool (!rightV3 x)) :=
  gives_of (Bvalue_all_1_run x.kind x.num x.text) fun W R Φ _ => fun _ w G cx => (vRight_g x).use cx fun w c => ⟨_, rfl, R, Φ, inferInstance, c, fun w G c => ⟨rfl, c.left⟩⟩

theorem IndexV_in [Stable Φ] (f : FuncId) (g : ValD → Bool) [hΦ : Has Φ (fun M w => Sl M w p r)] (hlen : r.length ≤ maxLen) (hf : okFun Tryz.prog f = true) (cp : Array Value) (hg : ∀ x : ValD, Gives Tryz.prog f (Array.mk (x.v :: cp.toList)) (.bool (g x))) :
    GivesIn Φ Tryz.prog F.slices_IndexFunc_api_Value_api_Value #[.slice p r.length cap, .func (.func f) #[] cp] (.int .i64 (findI g 0 r)) := by
  refine .there (fun M w h => (hΦ.go M w h).there) fun hth => ?_
  refine gives_in (Bslices_IndexFunc_api_Value_api_Value_run p r.length cap f cp) fun W R => ?_
  refine exI_mk (fun n R' Φ' k => ∃ i : Nat, n = i ∧ i ≤ r.length ∧ R' = R ∧ Φ' = Φ ∧ k = r.length - i ∧ findI g 0 r = findI g i (r.drop i)) ⟨⟨R, Φ, _, inferInstance, fun w F c => c, 0, rfl, Nat.zero_le _, rfl, rfl, rfl, rfl⟩, ?_⟩
  rintro n R1 Φ1 k _ ⟨i, rfl, hi, rfl, rfl, rfl, hor⟩
  refine Br.intro (fun hlt => ?_) (fun hge => fun w F cx => ⟨?_, cx.left⟩)
  · have hlt : i < r.length := by simpa using hlt
    rw [findI_drop g r i hlt] at hor
    obtain ⟨b, o, rfl⟩ := hth (by omega)
    refine ⟨by omega, ptrK_intro b o rfl fun w F cx => ⟨r[i].kind, r[i].num, r[i].text, by rw [Int.toNat_natCast]; exact sl_val (hΦ.go _ _ cx.phi) hlt, fun w F cx => ⟨hf, (hg r[i]).use cx fun w cx => ⟨g r[i], rfl, R1, Φ1, inferInstance, cx, Br.intro (fun h => fun w F cx => ⟨?_, cx.left⟩) (fun h => ⟨by unfold I64; unfold maxLen at hlen; omega, R1, Φ1, r.length - (i + 1), inferInstance, fun w F c => c, ⟨i + 1, rfl, hlt, rfl, rfl, rfl, ?_⟩, by omega⟩)⟩⟩⟩⟩
    · rw [hor, if_pos h]
    · rw [hor, if_neg (by rw [h]; simp)]
  · have hge : i = r.length := Nat.le_antisymm hi (by simpa using hge)
    rw [hor, hge, List.drop_length]
    rfl

theorem RightRow_in [Stable Φ] [hΦ : Has Φ (fun M w => Sl M w p r)] : GivesIn Φ Tryz.prog F.value_RightRow #[.slice p r.length cap] (.bool (rightR r)) := by
  refine gives_in (Bvalue_RightRow_run p r.length cap) fun W R => Br.intro (fun h => ?_) (fun h => fun w G cx => ⟨?_, cx.left⟩)
  · have h1 := of_decide_eq_true h
    have hml : r.length ≤ maxLen := by have h2 : (12 : Nat) ≤ maxLen := (by decide); omega
    have hcon : GivesIn Φ Tryz.prog F.slices_ContainsFunc_api_Value_api_Value #[.slice p r.length cap, .func (.func F.value_all_1) #[] #[]] (.bool (r.any fun x => !rightV3 x)) := by
      refine gives_in (Bslices_ContainsFunc_api_Value_api_Value_run p r.length cap F.value_all_1 #[]) fun W R => ?_
      exact fun w G cx => (IndexV_in (r := r) F.value_all_1 (fun x => !rightV3 x) hml (by kernel_rfl) #[] all1_g).toI cx fun w G cx => ⟨by rw [findI_any], cx.left⟩
    have hall : GivesIn Φ Tryz.prog F.value_all #[.slice p r.length cap] (.bool (r.all rightV3)) := by
      refine gives_in (Bvalue_all_run p r.length cap) fun W R => ?_
      refine fun w G cx => hcon.toB cx fun w G cx => ⟨?_, cx.left⟩
      rw [List.all_eq_not_any_not]
    refine fun w G cx => hall.toB cx fun w G cx => ⟨?_, cx.left⟩
    unfold rightR
    rw [decide_eq_true h1, Bool.true_and]
  · unfold rightR
    rw [decide_eq_false (of_decide_eq_false h), Bool.false_and]

/-! ### one line -/
end
end Go.Proofs.YtjlfpkgjcffilaaGreatDoor
end

/-
  What a ledger checks ahead of appending: walked.
-/
section
set_option linter.unusedVariables false
set_option linter.unusedSimpArgs false
namespace Go.Proofs.YtjlfpkgjcffilaaGreatDoor
open Go.Vc


/-! ### plain -/
theorem right_text2 {r : List ValD} (h : rightR r = true) : ∀ v ∈ r, v.text.size ≤ 200 := fun v hv => by
  unfold rightR at h
  rw [Bool.and_eq_true] at h
  have h := List.all_eq_true.1 h.2 v hv
  unfold rightV3 at h
  split at h
  · have h := of_decide_eq_true h
    rw [h]; decide
  · split at h
    · rw [Bool.and_eq_true] at h
      have := of_decide_eq_true h.2
      omega
    · rw [Bool.and_eq_true] at h
      have h := of_decide_eq_true h.2
      rw [h]; decide
section
variable {Φ : PW} {q : LP} {st : LedD} {W w : World} {R S G : List Own} {p : Option Addr} {cap : Nat} {L : List LineD} {cs : List Value}

abbrev Rows7 (cs : List Value) (l : List LineD) : Prop := ∀ i (h : i < l.length), ∃ r rc, (cs.drop (i * 7)).take 7 = l[i].cells r rc ∧ l[i].row.length ≤ rc ∧ rc ≤ maxLen ∧ l[i].In
theorem rows7 {M : List Nat} (h : Elems M w cs L) : Rows7 cs L := fun i hi => by
  obtain ⟨r, rc, he, h1, h2, h3, _⟩ := lrow h hi
  exact ⟨r, rc, he, h1, h2, h3⟩
theorem src_at (src : Src S Φ p L cs) {b o i : Nat} (hp : p = some ⟨b, o, none⟩) (c : Ctx W w (S ++ G) Φ) {x : LineD} {r : Option Addr} {rc : Nat} (he : (cs.drop (i * 7)).take 7 = x.cells r rc) : RowAt w b (o + i * 7) (x.cells r rc) := fun j hj => by
  have := src.rd hp c (i * 7 + j) _ (rows_of (vs := x.cells r rc) he j hj)
  rw [← Nat.add_assoc] at this
  exact this

end
end Go.Proofs.YtjlfpkgjcffilaaGreatDoor
end

/-
  A sink: what is checked ahead of a batch; taking a batch: walked.
-/
section
set_option linter.unusedVariables false
set_option linter.unusedSimpArgs false
namespace Go.Proofs.YtjlfpkgjcffilaaGreatDoor
open Go.Vc


theorem Ctx.rowIn {W w : World} {S : List Own} {Φ : PW} [Stable Φ] {b : Nat} {cs : List Value} {t : TypeId} (c : Ctx W w (.blk b cs t :: S) Φ) : Ctx W w S (fun M w => Φ M w ∧ RowIn b 0 cs M w) := by
  refine c.drop1.add ⟨fun hm => ?_, ?_, c.lt (b := b) (by simp [dom, Own.dom])⟩
  · have h := c.nodup
    have e : dom (.blk b cs t :: S) = b :: dom S := rfl
    rw [e] at h
    exact (List.nodup_cons.1 h).1 hm
  · exact c.row0 0 rfl

section
variable {Φ : PW} {q : KP} {st : SkD} {W w : World} {R S G : List Own} {p : Option Addr} {cap : Nat} {L : List LineD} {cs : List Value}

theorem IndexZ_in [Stable Φ] {l : List Int} [hΦ : Has Φ (fun M w => Sl M w p l)] (f : FuncId) (cp : Array Value) (g : Int → Bool) (hlen : l.length ≤ 10000000) (hf : okFun Tryz.prog f = true) (hg : ∀ x : Int, GivesIn Φ Tryz.prog f (Array.mk (.int .i64 x :: cp.toList)) (.bool (g x))) :
    GivesIn Φ Tryz.prog F.slices_IndexFunc_int_int #[.slice p l.length cap, .func (.func f) #[] cp] (.int .i64 (findI g 0 l)) := by
  refine .there (fun M w h => (hΦ.go M w h).there) fun hth => ?_
  refine gives_in (Bslices_IndexFunc_int_int_run p l.length cap f cp) fun W R => ?_
  refine exI_mk (fun n R' Φ' k => ∃ i : Nat, n = i ∧ i ≤ l.length ∧ R' = R ∧ Φ' = Φ ∧ k = l.length - i ∧ findI g 0 l = findI g i (l.drop i)) ⟨⟨R, Φ, _, inferInstance, fun w F c => c, 0, rfl, Nat.zero_le _, rfl, rfl, rfl, rfl⟩, ?_⟩
  rintro n R1 Φ1 k _ ⟨i, rfl, hi, rfl, rfl, rfl, hor⟩
  refine Br.intro (fun hlt => ?_) (fun hge => fun w F cx => ⟨?_, cx.left⟩)
  · have hlt : i < l.length := by simpa using hlt
    rw [findI_drop g l i hlt] at hor
    obtain ⟨b, o, rfl⟩ := hth (by omega)
    refine ⟨by omega, ptrK_intro b o rfl fun w F cx => ⟨l[i], by rw [Int.toNat_natCast]; exact sl_int (hΦ.go _ _ cx.phi) hlt, fun w F cx => ⟨hf, (hg l[i]).use cx fun w cx => ⟨g l[i], rfl, R1, Φ1, inferInstance, cx, Br.intro (fun h => fun w F cx => ⟨?_, cx.left⟩) (fun h => ⟨by unfold I64; omega, R1, Φ1, l.length - (i + 1), inferInstance, fun w F c => c, ⟨i + 1, rfl, hlt, rfl, rfl, rfl, ?_⟩, by omega⟩)⟩⟩⟩⟩
    · rw [hor, if_pos h]
    · rw [hor, if_neg (by rw [h]; simp)]
  · have hge : i = l.length := Nat.le_antisymm hi (by simpa using hge)
    rw [hor, hge, List.drop_length]
    rfl
theorem ContainsZ_in [Stable Φ] {l : List Int} [hΦ : Has Φ (fun M w => Sl M w p l)] (f : FuncId) (cp : Array Value) (g : Int → Bool) (hlen : l.length ≤ 10000000) (hf : okFun Tryz.prog f = true) (hg : ∀ x : Int, GivesIn Φ Tryz.prog f (Array.mk (.int .i64 x :: cp.toList)) (.bool (g x))) :
    GivesIn Φ Tryz.prog F.slices_ContainsFunc_int_int #[.slice p l.length cap, .func (.func f) #[] cp] (.bool (l.any g)) :=
  gives_in (Bslices_ContainsFunc_int_int_run p l.length cap f cp) fun W R => fun w G cx => (IndexZ_in f cp g hlen hf hg).toI cx fun w G cx => ⟨by rw [findI_any], cx.left⟩

theorem look1_in [Stable Φ] {x : LineD} {r : Option Addr} {rc kb : Nat} [hR : Has Φ (fun M w => RowIn kb 0 (x.cells r rc) M w)] (k : Int) : GivesIn Φ Tryz.prog F.sink_Sink_look_1 (Array.mk (.int .i64 k :: [.pointer (some ⟨kb, 0, none⟩)])) (.bool (decide ((x.row.length : Int) ≤ k))) :=
  gives_in (Bsink_Sink_look_1_run k kb 0) fun W R => fun w G cx => ⟨r, x.row.length, rc, (hR.go _ _ cx.phi).2.1 3 (by show 3 < 7; decide), fun w G cx => ⟨rfl, cx.left⟩⟩

set_option maxHeartbeats 2000000 in
theorem Look_q [Stable Φ] {b : Int} [hF : Has Φ (SkF q st)] (hq : SkQ q st) {n : Nat} (hs : SkS st n) (hn : n ≤ 400000) (src : Src [] Φ p L cs) (hc : Rows7 cs L) (hlen : L.length ≤ 1000000) :
    GivesQ (SkO q st) Φ Tryz.prog F.sink_Sink_look #[snk q, .int .i64 b, .slice p L.length cap] (.int .i64 (lookK st b L)) := by
  have hll := hs.lines
  have hkl := hs.key
  refine gives_q (Bsink_Sink_look_run q.sb 0 b p L.length cap) fun W R => ?_
  unfold lookK
  refine Br.intro (fun h => fun w G cx => ⟨by rw [if_pos (of_decide_eq_true h)], cx.left⟩) (fun h => ?_)
  rw [if_neg (of_decide_eq_false h)]
  refine fun w G cx => (Last_q hq).toI cx ?_
  clear cx
  refine Br.intro (fun h => fun w G cx => ⟨by rw [if_pos (of_decide_eq_true h)], cx.left⟩) (fun h => ?_)
  rw [if_neg (of_decide_eq_false h)]
  have hsrcR : ∀ {i : Nat} (hi : i < L.length) {r : Option Addr} {rc : Nat}, (cs.drop (i * 7)).take 7 = L[i].cells r rc → Has Φ (fun M w => Sl M w r L[i].row) := fun {i} hi {r rc} he => ⟨fun M w h => src_sl src hi he h⟩
  have hkey : Has Φ (fun M w => Sl M w q.kp st.key) := ⟨fun M w h => (hF.go M w h).2.1⟩
  refine exI_mk (fun iI R' Φ' k => ∃ i : Nat, iI = i ∧ i ≤ L.length ∧ R' = SkO q st ++ R ∧ Φ' = Φ ∧ k = L.length - i ∧ L.any (badK st.key b) = (L.drop i).any (badK st.key b)) ⟨⟨_, _, _, inferInstance, fun w G cx => cx, 0, rfl, Nat.zero_le _, rfl, rfl, rfl, rfl⟩, ?_⟩
  rintro iI R1 Φ1 k _ ⟨i, rfl, hi, rfl, rfl, rfl, hor⟩
  refine Br.intro (fun hlt => ?_) (fun hge => ?_)
  · have hlt : i < L.length := by have := of_decide_eq_true hlt; omega
    obtain ⟨bb, o, hp⟩ := src.ptr (by omega)
    obtain ⟨r, rc, he, h1, h2, h3⟩ := hc i hlt
    have hhi := hsrcR hlt he
    rw [List.drop_eq_getElem_cons hlt, List.any_cons] at hor
    have bad : badK st.key b L[i] = true → L.any (badK st.key b) = true := fun h => by rw [hor, h]; rfl
    have stop : L.any (badK st.key b) = true → ∀ {w : World} {G : List Own} {Ψ : PW}, [Stable Ψ] → [Has Ψ Φ1] → Ctx W w ((SkO q st ++ R) ++ G) Ψ → (Value.int .i64 1) = .int .i64 (if L.any (badK st.key b) = true then 1 else if numK ((st.lines.length : Int) + 1) L = false then 25 else 0) ∧ Ctx W w (SkO q st ++ R) Φ1 := fun h {w G Ψ} _ _ cx => ⟨by rw [if_pos h], (Ctx.has cx).left⟩
    refine ⟨by omega, ptrK_intro bb o hp fun w G cx => ⟨L[i].no, L[i].batch, L[i].time, r, L[i].row.length, rc, L[i].n, L[i].cause, L[i].why, by rw [Int.toNat_natCast]; exact src_at (G := (SkO q st ++ R) ++ G) src hp cx he, fun kb w G cx => ⟨cx.can 0 rfl (by show 0 + 7 ≤ 7; decide), fun w2 hw2 => ?_⟩⟩⟩
    have c2 := cx.puts 0 hw2 rfl
    have c3 : Ctx W w2 (.blk kb (L[i].cells r rc) 46 :: ((SkO q st ++ R) ++ G)) Φ1 := c2
    have c4 := Ctx.rowIn c3
    have hR : Has (fun M w => Φ1 M w ∧ RowIn kb 0 (L[i].cells r rc) M w) (fun M w => RowIn kb 0 (L[i].cells r rc) M w) := ⟨fun M w h => h.2⟩
    have stR : ∀ cs : List Value, Stable (fun M w => Φ1 M w ∧ RowIn kb 0 cs M w) := fun cs => inferInstance
    have stR := stR (L[i].cells r rc)
    have hcell : ∀ {w : World} {S : List Own}, Ctx W w S (fun M w => Φ1 M w ∧ RowIn kb 0 (L[i].cells r rc) M w) → ∀ j (hj : j < 7), w.cell? ⟨kb, j, none⟩ = some ((L[i].cells r rc)[j]'hj) := fun {w S} cx j hj => by
      have := cx.phi.2.2.1 j hj
      rw [Nat.zero_add] at this
      exact this
    refine ⟨SkO q st ++ R, fun M w => Φ1 M w ∧ RowIn kb 0 (L[i].cells r rc) M w, stR, c4, fun w G cx => ⟨_, _, _, sk_cell (i := 1) cx rfl, fun w G cx => ?_⟩⟩
    refine (ContainsZ_in (Φ := fun M w => Φ1 M w ∧ RowIn kb 0 (L[i].cells r rc) M w) (l := st.key) F.sink_Sink_look_1 #[.pointer (some ⟨kb, 0, none⟩)] (fun k => decide ((L[i].row.length : Int) ≤ k)) (by omega) (by kernel_rfl) (fun k => look1_in (x := L[i]) (r := r) (rc := rc) (kb := kb) k)).toB cx ?_
    clear cx c4 c3 c2
    refine fun w G cx => ⟨L[i].batch, hcell cx 1 (by decide), Br.intro (fun g1 => fun w G cx => stop (bad ?_) cx) (fun g1 => fun w G cx => ⟨L[i].n, hcell cx 4 (by decide), Br.intro (fun g2 => fun w G cx => stop (bad ?_) cx) (fun g2 => fun w G cx => ⟨r, L[i].row.length, rc, hcell cx 3 (by decide), fun w G cx => (RightRow_in (r := L[i].row)).toB cx ?_⟩)⟩)⟩
    · unfold badK; rw [g1]; rfl
    · unfold badK; rw [g2, Bool.or_true]; rfl
    clear cx
    refine Br.intro (fun g3 => fun w G cx => stop (bad ?_) cx) (fun g3 => ?_)
    · unfold badK; rw [g3, Bool.or_true]; rfl
    have hsh : (st.key.any fun k => decide ((L[i].row.length : Int) ≤ k)) = shortK st.key L[i].row := rfl
    rw [hsh]
    refine Br.intro (fun g4 => fun w G cx => stop (bad ?_) cx) (fun g4 => ?_)
    · unfold badK; rw [g4, Bool.or_true]
    have hok : badK st.key b L[i] = false := by unfold badK; rw [g1, g2, g3, g4]; rfl
    exact ⟨by unfold I64; omega, SkO q st ++ R, Φ1, L.length - (i + 1), inferInstance, fun w G cx => cx.fst, ⟨i + 1, rfl, hlt, rfl, rfl, rfl, by rw [hor, hok]; rfl⟩, by omega⟩
  have hge : i = L.length := by have := of_decide_eq_false hge; omega
  subst hge
  rw [List.drop_length] at hor
  have hor : L.any (badK st.key b) = false := hor
  rw [if_neg (by rw [hor]; simp)]
  refine exI_mk (fun iI R' Φ' k => ∃ i : Nat, iI = i ∧ i ≤ L.length ∧ R' = SkO q st ++ R ∧ Φ' = Φ1 ∧ k = L.length - i ∧ numK ((st.lines.length : Int) + 1) L = numK ((st.lines.length : Int) + 1 + i) (L.drop i)) ⟨⟨_, _, _, inferInstance, fun w G cx => cx, 0, rfl, Nat.zero_le _, rfl, rfl, rfl, by rw [Int.natCast_zero, Int.add_zero]; rfl⟩, ?_⟩
  rintro iI R1 Φ2 k _ ⟨i, rfl, hi, rfl, rfl, rfl, hnu⟩
  refine Br.intro (fun hlt => ?_) (fun hge => fun w G cx => ⟨?_, cx.left⟩)
  · have hlt : i < L.length := by have := of_decide_eq_true hlt; omega
    obtain ⟨bb, o, hp⟩ := src.ptr (by omega)
    obtain ⟨r, rc, he, h1, h2, h3⟩ := hc i hlt
    rw [List.drop_eq_getElem_cons hlt] at hnu
    have hnu : numK ((st.lines.length : Int) + 1) L = (decide (L[i].no = (st.lines.length : Int) + 1 + i) && numK ((st.lines.length : Int) + 1 + i + 1) (L.drop (i + 1))) := hnu
    refine ⟨by omega, ptrK_intro bb o hp fun w G cx => ⟨L[i].no, L[i].batch, L[i].time, r, L[i].row.length, rc, L[i].n, L[i].cause, L[i].why, by rw [Int.toNat_natCast]; exact src_at (G := (SkO q st ++ R) ++ G) src hp cx he, fun _ w G cx => ⟨_, _, _, sk_cell (i := 3) cx rfl, by unfold I64; omega, by unfold I64; omega, Br.intro (fun h => fun w G cx => ⟨?_, cx.left⟩) (fun h => ⟨by unfold I64; omega, _, Φ2, L.length - (i + 1), inferInstance, fun w G cx => cx, ⟨i + 1, rfl, hlt, rfl, rfl, rfl, ?_⟩, by omega⟩)⟩⟩⟩
    · rw [hnu, decide_eq_false (of_decide_eq_true h), Bool.false_and, if_pos rfl]
    · rw [hnu, decide_eq_true (Decidable.not_not.1 (of_decide_eq_false h)), Bool.true_and, show (st.lines.length : Int) + 1 + i + 1 = (st.lines.length : Int) + 1 + ((i + 1 : Nat) : Int) by omega]
  · have hge : i = L.length := by have := of_decide_eq_false hge; omega
    subst hge
    rw [List.drop_length] at hnu
    rw [show numK ((st.lines.length : Int) + 1) L = true from hnu]; rfl

set_option maxHeartbeats 2000000 in
theorem take_use [Stable Φ] {b : Int} [hF : Has Φ (SkF q st)] [hL : Has Φ (fun M w => Sl M w p L)] (hq : SkQ q st) {n : Nat} (hs : SkS st n) (hn : n ≤ 400000) (hlen : L.length ≤ 400000) (c : Ctx W w ((SkO q st ++ R) ++ G) Φ) {K : List Own → PW → Prop}
    (hk : ∀ q' : KP, q'.sb = q.sb → SkQ q' (takeK st b L) → Stable (fun M w => Φ M w ∧ SkF q' (takeK st b L) M w) → K (SkO q' (takeK st b L) ++ R) (fun M w => Φ M w ∧ SkF q' (takeK st b L) M w)) :
    Calls Tryz.prog F.sink_Sink_take #[snk q, .int .i64 b, .slice p L.length cap] w fun e w' => e = .returned (.tuple #[]) ∧ ∃ R' Φ', Stable Φ' ∧ Ctx W w' (R' ++ G) Φ' ∧ K R' Φ' := by
  have hll := hs.lines
  have hbl := hs.bats
  refine (Bsink_Sink_take_run q.sb 0 b p L.length cap (R := (SkO q st ++ R) ++ G) (J := fun v w' => v = .tuple #[] ∧ ∃ R' Φ', Stable Φ' ∧ Ctx W w' (R' ++ G) Φ' ∧ K R' Φ') c ?_).mono fun e w' ⟨v, he, hv, rest⟩ => ⟨by rw [he, hv], rest⟩
  clear c
  refine fun w G2 cx => ⟨_, _, _, sk_cell (q := q) (st := st) (R := R ++ G) (G := G2) (i := 2) (cx.re (by simp)) rfl, fun kb w G2 cx => ?_⟩
  have cy : Ctx W w (.blk kb [.int .i64 b] 3 :: bufZ q.bp q.bc st.bats :: (.blk q.sb (SkB q st) 69 :: bufL q.lp st.lines.length q.lc q.cs :: (R ++ G)) ++ G2) Φ := cx.perm (by simpa using List.Perm.swap _ _ _)
  obtain ⟨p8, c8, w2, hrun, cz⟩ := pushZ (by omega) cy
  refine ⟨p8, _, c8, w2, hrun, .blk q.sb (SkB q st) 69 :: bufZ p8 c8 (st.bats ++ [b]) :: bufL q.lp st.lines.length q.lc q.cs :: (R ++ G), Φ, inferInstance, Ctx.swap cz, fun w G3 cx => ⟨cx.can 0 rfl (by show 2 + 1 ≤ 6; decide), fun w3 hw3 => ?_⟩⟩
  have c5 := cx.put 0 hw3 rfl
  refine ⟨.blk q.sb [.int .i64 st.kind, .slice q.kp st.key.length q.kc, .slice p8 (st.bats ++ [b]).length c8, .slice q.lp st.lines.length q.lc, .int .i64 st.prep, .slice q.ap st.aside.length q.ac] 69 :: bufZ p8 c8 (st.bats ++ [b]) :: bufL q.lp st.lines.length q.lc q.cs :: (R ++ G), Φ, inferInstance, c5, fun w G4 cx => ⟨_, _, _, cx.get 0 rfl rfl, fun w G4 cx => ?_⟩⟩
  clear c5 cz cy
  have cy : Ctx W w (bufL q.lp st.lines.length q.lc q.cs :: .blk q.sb [.int .i64 st.kind, .slice q.kp st.key.length q.kc, .slice p8 (st.bats ++ [b]).length c8, .slice q.lp st.lines.length q.lc, .int .i64 st.prep, .slice q.ap st.aside.length q.ac] 69 :: bufZ p8 c8 (st.bats ++ [b]) :: ((R ++ G) ++ G4)) Φ := cx.perm (List.perm_middle (l₁ := [_, _]) (a := _))
  obtain ⟨p2, c2, w4, news, hrun2, cx3⟩ := Ctx.appAny (P := Tryz.prog) (ts := 33) (ty := 33) (kb := #[false, false]) (bytes := 72) (c2 := cap) (l := L) (q := p) cy (by kernel_rfl) line_one hL.go (by omega) (by omega)
  have hel : st.lines.length + L.length = (st.lines ++ L).length := by rw [List.length_append]
  rw [hel] at hrun2 cx3
  refine ⟨p2, _, c2, w4, hrun2, .blk q.sb [.int .i64 st.kind, .slice q.kp st.key.length q.kc, .slice p8 (st.bats ++ [b]).length c8, .slice q.lp st.lines.length q.lc, .int .i64 st.prep, .slice q.ap st.aside.length q.ac] 69 :: bufZ p8 c8 (st.bats ++ [b]) :: bufL p2 (st.lines ++ L).length c2 (q.cs ++ news) :: (R ++ G), (fun M w => Φ M w ∧ Elems M w (q.cs ++ news) (st.lines ++ L)), inferInstance, ?_, fun w G5 cx => ⟨cx.can 0 rfl (by show 3 + 1 ≤ 6; decide), fun w5 hw5 => ?_⟩⟩
  · exact (cx3.weak fun M w h => ⟨h.1, (hF.go M w h.1).1.append h.2⟩).perm (List.perm_middle (l₁ := [_, _]) (a := _)).symm
  have c6 := cx.put 0 hw5 rfl
  obtain ⟨q2, hq2⟩ : ∃ q2 : KP, q2 = ⟨q.sb, q.kp, q.kc, p8, c8, p2, c2, q.cs ++ news, q.ap, q.ac⟩ := ⟨_, rfl⟩
  have c7 : Ctx W w5 ((SkO q2 (takeK st b L) ++ R) ++ (G ++ G5)) (fun M w => Φ M w ∧ SkF q2 (takeK st b L) M w) := by
    rw [hq2]
    have c8 := c6.weak (Ψ := fun M w => Φ M w ∧ SkF ⟨q.sb, q.kp, q.kc, p8, c8, p2, c2, q.cs ++ news, q.ap, q.ac⟩ (takeK st b L) M w) fun M w h => ⟨h.1, h.2, (hF.go M w h.1).2⟩
    exact c8.re (by simp [takeK])
  have hq' : SkQ q2 (takeK st b L) := skq_of (S := R ++ (G ++ G5)) (c7.re (by simp)) (by rw [hq2]; exact hq.kcap) (by rw [hq2]; exact hq.acap)
  refine ⟨SkO q2 (takeK st b L) ++ (R ++ G), _, inferInstance, c7.re (by simp), fun w G6 cx => ⟨rfl, SkO q2 (takeK st b L) ++ R, _, inferInstance, (cx.left).re (by simp), hk q2 (by rw [hq2]) hq' inferInstance⟩⟩
end
end Go.Proofs.YtjlfpkgjcffilaaGreatDoor
end

/-
  A sink: Prepare, Commit, Abort, Deliver: walked.
-/
section
set_option linter.unusedVariables false
set_option linter.unusedSimpArgs false
namespace Go.Proofs.YtjlfpkgjcffilaaGreatDoor
open Go.Vc


section
variable {Φ : PW} {q : KP} {st : SkD} {W w : World} {R S G : List Own} {p : Option Addr} {cap : Nat} {L : List LineD} {cs : List Value}

theorem Look_to [Stable Φ] {b : Int} [hF : Has Φ (SkF q st)] [hL : Has Φ (fun M w => Sl M w p L)] (hq : SkQ q st) {n : Nat} (hs : SkS st n) (hn : n ≤ 400000) (hlen : L.length ≤ 400000) :
    GivesQ (SkO q st) Φ Tryz.prog F.sink_Sink_look #[snk q, .int .i64 b, .slice p L.length cap] (.int .i64 (lookK st b L)) :=
  ⟨fun W w S c => by
    have hth := (hL.go _ _ c.phi).there
    obtain ⟨cs, c1⟩ := srcOf c (hL.go _ _ c.phi)
    exact ((Look_q (Φ := fun M w => Φ M w ∧ SrcF p L cs M w) hq hs hn (src_fact (Φ := fun M w => Φ M w ∧ SrcF p L cs M w) hth fun M w h => h.2) (rows7 c1.phi.2.2) (by omega)).go W w S c1).mono fun e w' ⟨he, c2⟩ => ⟨he, c2.fst⟩⟩

theorem sk_put {w' : World} [Stable Φ] (cx : Ctx W w (SkO q st ++ S) Φ) {i : Nat} {v : Value} (e : w' = w.setCell ⟨q.sb, i, none⟩ v) : Ctx W w' (.blk q.sb ((SkB q st).set i v) 69 :: bufZ q.bp q.bc st.bats :: bufL q.lp st.lines.length q.lc q.cs :: S) Φ := cx.put 0 e rfl
theorem sk_can (cx : Ctx W w (SkO q st ++ S) Φ) {i : Nat} (h : i < 6) : CanWrite w q.sb i 1 := cx.can 0 rfl (by show i + 1 ≤ 6; omega)

set_option maxHeartbeats 2000000 in
theorem Prepare_use [Stable Φ] {b : Int} [hF : Has Φ (SkF q st)] [hL : Has Φ (fun M w => Sl M w p L)] (hq : SkQ q st) (hI : SkI st) {n : Nat} (hs : SkS st n) (hn : n ≤ 400000) (hlen : L.length ≤ 400000) (c : Ctx W w ((SkO q st ++ R) ++ G) Φ) {K : Int → List Own → PW → Prop}
    (hk : ∀ q' : KP, q'.sb = q.sb → SkQ q' (prepK st b L).2 → Stable (fun M w => Φ M w ∧ SkF q' (prepK st b L).2 M w) → K (prepK st b L).1 (SkO q' (prepK st b L).2 ++ R) (fun M w => Φ M w ∧ SkF q' (prepK st b L).2 M w)) :
    Calls Tryz.prog F.sink_Sink_Prepare #[snk q, .int .i64 b, .slice p L.length cap] w fun e w' => ∃ n, e = .returned (.int .i64 n) ∧ ∃ R' Φ', Stable Φ' ∧ Ctx W w' (R' ++ G) Φ' ∧ K n R' Φ' := by
  refine (Bsink_Sink_Prepare_run q.sb 0 b p L.length cap (R := (SkO q st ++ R) ++ G) (J := fun v w' => ∃ n, v = .int .i64 n ∧ ∃ R' Φ', Stable Φ' ∧ Ctx W w' (R' ++ G) Φ' ∧ K n R' Φ') c ?_).mono fun e w' ⟨v, he, n, hv, rest⟩ => ⟨n, by rw [he, hv], rest⟩
  clear c
  have same : ∀ (m : Int), prepK st b L = (m, st) → ∀ {w : World} {G2 : List Own}, Ctx W w ((SkO q st ++ (R ++ G)) ++ G2) Φ → ∃ n, Value.int .i64 m = .int .i64 n ∧ ∃ R' Φ', Stable Φ' ∧ Ctx W w (R' ++ G) Φ' ∧ K n R' Φ' := fun m h {w G2} cx => by
    have := hk q rfl
    rw [h] at this
    exact ⟨m, rfl, SkO q st ++ R, _, inferInstance, ((cx.left).re (by simp)).weak fun M w h => ⟨h, hF.go M w h⟩, this hq inferInstance⟩
  refine fun w G2 cx => ⟨st.kind, cx.get 0 rfl rfl, ?_⟩
  clear cx
  have e0 : prepK st b L = if st.kind ≠ 0 then (7, st) else if hasK st b = true then (0, st) else if lookK st b L ≠ 0 then (lookK st b L, st) else (0, { st with prep := b, aside := L }) := rfl
  refine Br.intro (fun h => fun w G2 cx => same 7 (by rw [e0, if_pos (of_decide_eq_true h)]) (G2 := G2) (cx.re (by simp))) (fun h => fun w G2 cx => ?_)
  rw [if_neg (of_decide_eq_false h)] at e0
  refine (Has_q hq hI hs hn).toB (R := R ++ G) (cx.re (by simp)) ?_
  clear cx
  refine Br.intro (fun h => fun w G2 cx => same 0 (by rw [e0, if_pos h]) cx) (fun h => fun w G2 cx => ?_)
  rw [if_neg (by rw [h]; simp)] at e0
  refine (Look_to hq hs hn hlen).toI (R := R ++ G) cx ?_
  clear cx
  refine Br.intro (fun h => fun w G2 cx => same _ (by rw [e0, if_pos (of_decide_eq_true h)]) cx) (fun h => fun w G2 cx => ?_)
  rw [if_neg (of_decide_eq_false h)] at e0
  obtain ⟨_, _, g3, _⟩ := look_ok (of_decide_eq_false h)
  refine (CloneK_sl (l := L) (by omega) fun x hx => by have := right_len (bad_right (g3 x hx)).2.2.1; omega).to cx fun p1 c1 f1 f2 st1 => ?_
  clear cx
  refine fun w G3 cx => ⟨sk_can (q := q) (st := st) (S := (R ++ G) ++ G3) (cx.re (by simp)) (by decide), fun w2 hw2 => ?_⟩
  have c2 := sk_put (q := q) (st := st) (S := (R ++ G) ++ G3) (cx.re (by simp)) hw2
  refine ⟨.blk q.sb [.int .i64 st.kind, .slice q.kp st.key.length q.kc, .slice q.bp st.bats.length q.bc, .slice q.lp st.lines.length q.lc, .int .i64 b, .slice q.ap st.aside.length q.ac] 69 :: bufZ q.bp q.bc st.bats :: bufL q.lp st.lines.length q.lc q.cs :: (R ++ G), _, st1, c2, fun w G4 cx => ⟨cx.can 0 rfl (by show 5 + 1 ≤ 6; decide), fun w3 hw3 => ?_⟩⟩
  have c4 := cx.put 0 hw3 rfl
  obtain ⟨q2, hq2⟩ : ∃ q2 : KP, q2 = ⟨q.sb, q.kp, q.kc, q.bp, q.bc, q.lp, q.lc, q.cs, p1, c1⟩ := ⟨_, rfl⟩
  obtain ⟨st2, hst2⟩ : ∃ st2 : SkD, st2 = { st with prep := b, aside := L } := ⟨_, rfl⟩
  rw [← hst2] at e0
  have c7 : Ctx W w3 ((SkO q2 st2 ++ R) ++ (G ++ G4)) (fun M w => Φ M w ∧ SkF q2 st2 M w) := by
    rw [hq2, hst2]
    have c8 := c4.weak (Ψ := fun M w => Φ M w ∧ SkF ⟨q.sb, q.kp, q.kc, q.bp, q.bc, q.lp, q.lc, q.cs, p1, c1⟩ { st with prep := b, aside := L } M w) fun M w h => ⟨h.1, (hF.go M w h.1).1, (hF.go M w h.1).2.1, h.2⟩
    exact c8.re (by simp)
  have hq' : SkQ q2 st2 := skq_of (S := R ++ (G ++ G4)) (c7.re (by simp)) (by rw [hq2, hst2]; exact hq.kcap) (by rw [hq2, hst2]; exact ⟨f1, f2⟩)
  rw [e0] at hk
  exact ⟨SkO q2 st2 ++ (R ++ G), _, inferInstance, c7.re (by simp), fun w G6 cx => ⟨0, rfl, SkO q2 st2 ++ R, _, inferInstance, (cx.left).re (by simp), hk q2 (by rw [hq2]) hq' inferInstance⟩⟩

set_option maxHeartbeats 2000000 in
theorem Abort_use [Stable Φ] {b : Int} [hF : Has Φ (SkF q st)] (hq : SkQ q st) (hI : SkI st) {n : Nat} (hs : SkS st n) (hn : n ≤ 400000) (c : Ctx W w ((SkO q st ++ R) ++ G) Φ) {K : Int → List Own → PW → Prop}
    (hk : ∀ q' : KP, q'.sb = q.sb → SkQ q' (abortK st b).2 → Stable (fun M w => Φ M w ∧ SkF q' (abortK st b).2 M w) → K (abortK st b).1 (SkO q' (abortK st b).2 ++ R) (fun M w => Φ M w ∧ SkF q' (abortK st b).2 M w)) :
    Calls Tryz.prog F.sink_Sink_Abort #[snk q, .int .i64 b] w fun e w' => ∃ n, e = .returned (.int .i64 n) ∧ ∃ R' Φ', Stable Φ' ∧ Ctx W w' (R' ++ G) Φ' ∧ K n R' Φ' := by
  refine (Bsink_Sink_Abort_run q.sb 0 b (R := (SkO q st ++ R) ++ G) (J := fun v w' => ∃ n, v = .int .i64 n ∧ ∃ R' Φ', Stable Φ' ∧ Ctx W w' (R' ++ G) Φ' ∧ K n R' Φ') c ?_).mono fun e w' ⟨v, he, n, hv, rest⟩ => ⟨n, by rw [he, hv], rest⟩
  clear c
  have same : ∀ (m : Int), abortK st b = (m, st) → ∀ {w : World} {G2 : List Own}, Ctx W w ((SkO q st ++ (R ++ G)) ++ G2) Φ → ∃ n, Value.int .i64 m = .int .i64 n ∧ ∃ R' Φ', Stable Φ' ∧ Ctx W w (R' ++ G) Φ' ∧ K n R' Φ' := fun m h {w G2} cx => by
    have := hk q rfl
    rw [h] at this
    exact ⟨m, rfl, SkO q st ++ R, _, inferInstance, ((cx.left).re (by simp)).weak fun M w h => ⟨h, hF.go M w h⟩, this hq inferInstance⟩
  refine fun w G2 cx => ⟨st.kind, cx.get 0 rfl rfl, ?_⟩
  clear cx
  have e0 : abortK st b = if st.kind ≠ 0 then (7, st) else if hasK st b = true then (7, st) else if (decide (b < 1) || decide (b ≠ st.prep)) = true then (4, st) else (0, { st with prep := 0, aside := [] }) := rfl
  refine Br.intro (fun h => fun w G2 cx => same 7 (by rw [e0, if_pos (of_decide_eq_true h)]) (G2 := G2) (cx.re (by simp))) (fun h => fun w G2 cx => ?_)
  rw [if_neg (of_decide_eq_false h)] at e0
  refine (Has_q hq hI hs hn).toB (R := R ++ G) (cx.re (by simp)) ?_
  clear cx
  refine Br.intro (fun h => fun w G2 cx => same 7 (by rw [e0, if_pos h]) cx) (fun h => fun w G2 cx => ⟨st.prep, fun _ => sk_cell (R := R ++ G) (i := 4) cx rfl, ?_⟩)
  rw [if_neg (by rw [h]; simp)] at e0
  clear cx
  refine Br.intro (fun h => fun w G2 cx => same 4 (by rw [e0, if_pos h]) cx) (fun h => fun w G3 cx => ⟨sk_can (q := q) (st := st) (S := (R ++ G) ++ G3) (cx.re (by simp)) (by decide), fun w2 hw2 => ?_⟩)
  rw [if_neg (by rw [h]; simp)] at e0
  have c2 := sk_put (q := q) (st := st) (S := (R ++ G) ++ G3) (cx.re (by simp)) hw2
  refine ⟨.blk q.sb [.int .i64 st.kind, .slice q.kp st.key.length q.kc, .slice q.bp st.bats.length q.bc, .slice q.lp st.lines.length q.lc, .int .i64 0, .slice q.ap st.aside.length q.ac] 69 :: bufZ q.bp q.bc st.bats :: bufL q.lp st.lines.length q.lc q.cs :: (R ++ G), _, inferInstance, c2, fun w G4 cx => ⟨cx.can 0 rfl (by show 5 + 1 ≤ 6; decide), fun w3 hw3 => ?_⟩⟩
  have c4 := cx.put 0 hw3 rfl
  obtain ⟨q2, hq2⟩ : ∃ q2 : KP, q2 = ⟨q.sb, q.kp, q.kc, q.bp, q.bc, q.lp, q.lc, q.cs, none, 0⟩ := ⟨_, rfl⟩
  obtain ⟨st2, hst2⟩ : ∃ st2 : SkD, st2 = { st with prep := 0, aside := [] } := ⟨_, rfl⟩
  rw [← hst2] at e0
  have c7 : Ctx W w3 ((SkO q2 st2 ++ R) ++ (G ++ G4)) (fun M w => Φ M w ∧ SkF q2 st2 M w) := by
    rw [hq2, hst2]
    have c8 := c4.weak (Ψ := fun M w => Φ M w ∧ SkF ⟨q.sb, q.kp, q.kc, q.bp, q.bc, q.lp, q.lc, q.cs, none, 0⟩ { st with prep := 0, aside := [] } M w) fun M w h => ⟨h, (hF.go M w h).1, (hF.go M w h).2.1, fun i hi => absurd hi (by simp)⟩
    exact c8.re (by simp)
  have hq' : SkQ q2 st2 := skq_of (S := R ++ (G ++ G4)) (c7.re (by simp)) (by rw [hq2, hst2]; exact hq.kcap) (by rw [hq2, hst2]; exact ⟨Nat.le_refl _, Nat.zero_le _⟩)
  rw [e0] at hk
  exact ⟨SkO q2 st2 ++ (R ++ G), _, inferInstance, c7.re (by simp), fun w G6 cx => ⟨0, rfl, SkO q2 st2 ++ R, _, inferInstance, (cx.left).re (by simp), hk q2 (by rw [hq2]) hq' inferInstance⟩⟩

set_option maxHeartbeats 2000000 in
theorem Commit_use [Stable Φ] {b : Int} [hF : Has Φ (SkF q st)] (hq : SkQ q st) (hI : SkI st) {n : Nat} (hs : SkS st n) (hn : n ≤ 400000) (c : Ctx W w ((SkO q st ++ R) ++ G) Φ) {K : Int → List Own → PW → Prop}
    (hk : ∀ q' : KP, q'.sb = q.sb → SkQ q' (commK st b).2 → Stable (fun M w => Φ M w ∧ SkF q' (commK st b).2 M w) → K (commK st b).1 (SkO q' (commK st b).2 ++ R) (fun M w => Φ M w ∧ SkF q' (commK st b).2 M w)) :
    Calls Tryz.prog F.sink_Sink_Commit #[snk q, .int .i64 b] w fun e w' => ∃ n, e = .returned (.int .i64 n) ∧ ∃ R' Φ', Stable Φ' ∧ Ctx W w' (R' ++ G) Φ' ∧ K n R' Φ' := by
  have hal := hs.aside
  refine (Bsink_Sink_Commit_run q.sb 0 b (R := (SkO q st ++ R) ++ G) (J := fun v w' => ∃ n, v = .int .i64 n ∧ ∃ R' Φ', Stable Φ' ∧ Ctx W w' (R' ++ G) Φ' ∧ K n R' Φ') c ?_).mono fun e w' ⟨v, he, n, hv, rest⟩ => ⟨n, by rw [he, hv], rest⟩
  clear c
  have same : ∀ (m : Int), commK st b = (m, st) → ∀ {w : World} {G2 : List Own}, Ctx W w ((SkO q st ++ (R ++ G)) ++ G2) Φ → ∃ n, Value.int .i64 m = .int .i64 n ∧ ∃ R' Φ', Stable Φ' ∧ Ctx W w (R' ++ G) Φ' ∧ K n R' Φ' := fun m h {w G2} cx => by
    have := hk q rfl
    rw [h] at this
    exact ⟨m, rfl, SkO q st ++ R, _, inferInstance, ((cx.left).re (by simp)).weak fun M w h => ⟨h, hF.go M w h⟩, this hq inferInstance⟩
  refine fun w G2 cx => ⟨st.kind, cx.get 0 rfl rfl, ?_⟩
  clear cx
  have e0 : commK st b = if st.kind ≠ 0 then (7, st) else if hasK st b = true then (0, st) else if (decide (b < 1) || decide (b ≠ st.prep)) = true then (4, st) else (0, { takeK st b st.aside with prep := 0, aside := [] }) := rfl
  refine Br.intro (fun h => fun w G2 cx => same 7 (by rw [e0, if_pos (of_decide_eq_true h)]) (G2 := G2) (cx.re (by simp))) (fun h => fun w G2 cx => ?_)
  rw [if_neg (of_decide_eq_false h)] at e0
  refine (Has_q hq hI hs hn).toB (R := R ++ G) (cx.re (by simp)) ?_
  clear cx
  refine Br.intro (fun h => fun w G2 cx => same 0 (by rw [e0, if_pos h]) cx) (fun h => fun w G2 cx => ⟨st.prep, fun _ => sk_cell (R := R ++ G) (i := 4) cx rfl, ?_⟩)
  rw [if_neg (by rw [h]; simp)] at e0
  clear cx
  refine Br.intro (fun h => fun w G2 cx => same 4 (by rw [e0, if_pos h]) cx) (fun h => fun w G3 cx => ⟨_, _, _, sk_cell (R := R ++ G) (i := 5) cx rfl, fun w G3 cx => ?_⟩)
  rw [if_neg (by rw [h]; simp)] at e0
  have hasd : Has Φ (fun M w => Sl M w q.ap st.aside) := ⟨fun M w h => (hF.go M w h).2.2⟩
  refine take_use (R := R ++ G) (L := st.aside) (b := b) hq hs hn (by omega) cx fun q1 hsb hq1 st1 => ?_
  clear cx
  rw [← hsb]
  obtain ⟨s1, hs1⟩ : ∃ s1, takeK st b st.aside = s1 := ⟨_, rfl⟩
  rw [hs1] at hq1 st1 e0 ⊢
  refine fun w G3 cx => ⟨sk_can (q := q1) (st := s1) (S := (R ++ G) ++ G3) (cx.re (by simp)) (by decide), fun w2 hw2 => ?_⟩
  have c2 := sk_put (q := q1) (st := s1) (S := (R ++ G) ++ G3) (cx.re (by simp)) hw2
  refine ⟨.blk q1.sb [.int .i64 s1.kind, .slice q1.kp s1.key.length q1.kc, .slice q1.bp s1.bats.length q1.bc, .slice q1.lp s1.lines.length q1.lc, .int .i64 0, .slice q1.ap s1.aside.length q1.ac] 69 :: bufZ q1.bp q1.bc s1.bats :: bufL q1.lp s1.lines.length q1.lc q1.cs :: (R ++ G), _, st1, c2, fun w G4 cx => ⟨cx.can 0 rfl (by show 5 + 1 ≤ 6; decide), fun w3 hw3 => ?_⟩⟩
  have c4 := cx.put 0 hw3 rfl
  obtain ⟨q2, hq2⟩ : ∃ q2 : KP, q2 = ⟨q1.sb, q1.kp, q1.kc, q1.bp, q1.bc, q1.lp, q1.lc, q1.cs, none, 0⟩ := ⟨_, rfl⟩
  obtain ⟨st2, hst2⟩ : ∃ st2 : SkD, st2 = { s1 with prep := 0, aside := [] } := ⟨_, rfl⟩
  rw [← hst2] at e0
  have c7 : Ctx W w3 ((SkO q2 st2 ++ R) ++ (G ++ G4)) (fun M w => Φ M w ∧ SkF q2 st2 M w) := by
    rw [hq2, hst2]
    have c8 := c4.weak (Ψ := fun M w => Φ M w ∧ SkF ⟨q1.sb, q1.kp, q1.kc, q1.bp, q1.bc, q1.lp, q1.lc, q1.cs, none, 0⟩ { s1 with prep := 0, aside := [] } M w) fun M w h => ⟨h.1, h.2.1, h.2.2.1, fun i hi => absurd hi (by simp)⟩
    exact c8.re (by simp)
  have hq' : SkQ q2 st2 := skq_of (S := R ++ (G ++ G4)) (c7.re (by simp)) (by rw [hq2, hst2]; exact hq1.kcap) (by rw [hq2, hst2]; exact ⟨Nat.le_refl _, Nat.zero_le _⟩)
  rw [e0] at hk
  exact ⟨SkO q2 st2 ++ (R ++ G), _, inferInstance, c7.re (by simp), fun w G6 cx => ⟨0, rfl, SkO q2 st2 ++ R, _, inferInstance, (cx.left).re (by simp), hk q2 (by rw [hq2]; exact hsb) hq' inferInstance⟩⟩

set_option maxHeartbeats 2000000 in
theorem Deliver_use [Stable Φ] {b : Int} [hF : Has Φ (SkF q st)] [hL : Has Φ (fun M w => Sl M w p L)] (hq : SkQ q st) (hI : SkI st) {n : Nat} (hs : SkS st n) (hn : n ≤ 400000) (hlen : L.length ≤ 400000) (c : Ctx W w ((SkO q st ++ R) ++ G) Φ) {K : Int → List Own → PW → Prop}
    (hk : ∀ q' : KP, q'.sb = q.sb → SkQ q' (delivK st b L).2 → Stable (fun M w => Φ M w ∧ SkF q' (delivK st b L).2 M w) → K (delivK st b L).1 (SkO q' (delivK st b L).2 ++ R) (fun M w => Φ M w ∧ SkF q' (delivK st b L).2 M w)) :
    Calls Tryz.prog F.sink_Sink_Deliver #[snk q, .int .i64 b, .slice p L.length cap] w fun e w' => ∃ n, e = .returned (.int .i64 n) ∧ ∃ R' Φ', Stable Φ' ∧ Ctx W w' (R' ++ G) Φ' ∧ K n R' Φ' := by
  refine (Bsink_Sink_Deliver_run q.sb 0 b p L.length cap (R := (SkO q st ++ R) ++ G) (J := fun v w' => ∃ n, v = .int .i64 n ∧ ∃ R' Φ', Stable Φ' ∧ Ctx W w' (R' ++ G) Φ' ∧ K n R' Φ') c ?_).mono fun e w' ⟨v, he, n, hv, rest⟩ => ⟨n, by rw [he, hv], rest⟩
  clear c
  have same : ∀ (m : Int), delivK st b L = (m, st) → ∀ {w : World} {G2 : List Own}, Ctx W w ((SkO q st ++ (R ++ G)) ++ G2) Φ → ∃ n, Value.int .i64 m = .int .i64 n ∧ ∃ R' Φ', Stable Φ' ∧ Ctx W w (R' ++ G) Φ' ∧ K n R' Φ' := fun m h {w G2} cx => by
    have := hk q rfl
    rw [h] at this
    exact ⟨m, rfl, SkO q st ++ R, _, inferInstance, ((cx.left).re (by simp)).weak fun M w h => ⟨h, hF.go M w h⟩, this hq inferInstance⟩
  refine fun w G2 cx => ⟨st.kind, cx.get 0 rfl rfl, ?_⟩
  clear cx
  have e0 : delivK st b L = if st.kind = 0 then (7, st) else if hasK st b = true then (0, st) else if lookK st b L ≠ 0 then (lookK st b L, st) else (0, takeK st b L) := rfl
  refine Br.intro (fun h => fun w G2 cx => same 7 (by rw [e0, if_pos (of_decide_eq_true h)]) (G2 := G2) (cx.re (by simp))) (fun h => fun w G2 cx => ?_)
  rw [if_neg (of_decide_eq_false h)] at e0
  refine (Has_q hq hI hs hn).toB (R := R ++ G) (cx.re (by simp)) ?_
  clear cx
  refine Br.intro (fun h => fun w G2 cx => same 0 (by rw [e0, if_pos h]) cx) (fun h => fun w G2 cx => ?_)
  rw [if_neg (by rw [h]; simp)] at e0
  refine (Look_to hq hs hn hlen).toI (R := R ++ G) cx ?_
  clear cx
  refine Br.intro (fun h => fun w G2 cx => same _ (by rw [e0, if_pos (of_decide_eq_true h)]) cx) (fun h => fun w G2 cx => ?_)
  rw [if_neg (of_decide_eq_false h)] at e0
  obtain ⟨_, _, g3, _⟩ := look_ok (of_decide_eq_false h)
  refine (CloneK_sl (l := L) (by omega) fun x hx => by have := right_len (bad_right (g3 x hx)).2.2.1; omega).to cx fun p1 c1 f1 f2 st1 => ?_
  clear cx
  have hF2 : Has (fun M w => Φ M w ∧ Sl M w p1 L) (SkF q st) := ⟨fun M w h => hF.go M w h.1⟩
  refine fun w G3 cx => take_use (Φ := fun M w => Φ M w ∧ Sl M w p1 L) (R := R ++ G) (L := L) (b := b) hq hs hn hlen cx fun q1 hsb hq1 st2 => ?_
  rw [e0] at hk
  exact fun w G6 cx => ⟨0, rfl, SkO q1 (takeK st b L) ++ R, _, inferInstance, ((cx.left).re (by simp)).weak fun M w h => ⟨h.1.1, h.2⟩, hk q1 hsb hq1 inferInstance⟩

end
end Go.Proofs.YtjlfpkgjcffilaaGreatDoor
end

/-
  Calls of a sink, as data; what the laws of sinks ask of their input; equal lines.
-/
section
set_option linter.unusedVariables false
set_option linter.unusedSimpArgs false
namespace Go.Proofs.YtjlfpkgjcffilaaGreatDoor
open Go.Vc


structure OpD where
  op : Int
  batch : Int
  l : List LineD
instance : Gv OpD := Gv.via (β := Int × Int × List LineD) (fun x => (x.op, x.batch, x.l)) (fun y => ⟨y.1, y.2.1, y.2.2⟩) (fun _ => rfl)
abbrev OpD.cells (x : OpD) (p : Option Addr) (c : Nat) : List Value := [.int .i64 x.op, .int .i64 x.batch, .slice p x.l.length c]
theorem op_cells {M : List Nat} {w : World} {cs : List Value} {x : OpD} (h : Gv.rep M w cs x) : ∃ p c, cs = x.cells p c ∧ x.l.length ≤ c ∧ c ≤ maxLen ∧ I64 x.op ∧ I64 x.batch ∧ Sl M w p x.l := by
  obtain ⟨_, _, rfl, ⟨rfl, h1⟩, _, _, rfl, ⟨rfl, h2⟩, ⟨p, c, rfl, g1, g2, g3⟩⟩ := h
  exact ⟨p, c, rfl, g1, g2, h1, h2, g3⟩
theorem pin_op {M : List Nat} {w : World} {b o : Nat} {cs : List (List Value)} {l : List OpD} (h : Pin b o cs l M w) {j : Nat} (hj : j < l.length) : ∃ p c, cs.getD j [] = l[j].cells p c ∧ l[j].l.length ≤ c ∧ c ≤ maxLen ∧ I64 l[j].op ∧ I64 l[j].batch := by
  obtain ⟨_, h1, h2⟩ := h j hj
  obtain ⟨p, c, e, g1, g2, g3, g4, _⟩ := op_cells h2
  exact ⟨p, c, e, g1, g2, g3, g4⟩
theorem pino_sl {M : List Nat} {w : World} {b o : Nat} {cs : List (List Value)} {l : List OpD} (h : Pin b o cs l M w) {j : Nat} (hj : j < l.length) {p : Option Addr} {c : Nat} (e : cs.getD j [] = l[j].cells p c) : Sl M w p l[j].l := by
  have := (h j hj).2.2
  rw [e] at this
  obtain ⟨p', c', e', _, _, _, _, h1⟩ := op_cells this
  simp only [OpD.cells, List.cons.injEq, Value.slice.injEq] at e'
  rw [e'.2.2.1.1]
  exact h1
theorem pino_rowAt {M : List Nat} {w : World} {b o : Nat} {cs : List (List Value)} {l : List OpD} (h : Pin b o cs l M w) {j : Nat} (hj : j < l.length) {p : Option Addr} {c : Nat} (e : cs.getD j [] = l[j].cells p c) : RowAt w b (o + j * 3) (l[j].cells p c) := by
  have := (h j hj).2.1
  rw [e] at this
  exact this

/-! ### bounds -/
def fewV (r : List ValD) : Bool := decide ((r.length : Int) ≤ 12) && r.all fun v => decide ((v.text.size : Int) ≤ 210)
def fewR (L : List LineD) (n : Int) : Bool := decide ((L.length : Int) ≤ n) && L.all fun x => fewV x.row
def fewO (l : List OpD) (n : Int) : Bool := decide ((l.length : Int) ≤ n) && l.all fun x => fewR x.l 8
theorem fewR_len {L : List LineD} {n : Int} (h : fewR L n = true) : (L.length : Int) ≤ n := of_decide_eq_true (Bool.and_eq_true_iff.1 h).1
section
variable {Φ : PW} {W w : World} {R S G : List Own} {p r : Option Addr} {cap cap2 : Nat}

set_option maxHeartbeats 1000000 in
theorem Few43_src [Stable Φ] {L : List LineD} {cs : List Value} {n : Int} (src : Src [] Φ p L cs) (hc : Rows7 cs L) (hlen : L.length ≤ maxLen) : GivesIn Φ Tryz.prog F.errataref43_Few #[.slice p L.length cap, .int .i64 n] (.bool (fewR L n)) := by
  refine gives_in (Berrataref43_Few_run p L.length cap n) fun W R => ?_
  unfold maxLen at hlen
  refine exI_mk (fun n1 R' Φ' k => ∃ i : Nat, n1 = i ∧ i ≤ L.length ∧ R' = R ∧ Φ' = Φ ∧ k = L.length - i ∧ (L.all fun x => fewV x.row) = (L.drop i).all fun x => fewV x.row) ⟨⟨R, Φ, _, inferInstance, fun w F c => c, 0, rfl, Nat.zero_le _, rfl, rfl, rfl, rfl⟩, ?_⟩
  rintro n1 R1 Φ1 k _ ⟨i, rfl, hi, rfl, rfl, rfl, hs⟩
  refine fun w G cx => Br.intro (fun hlt => ?_) (fun hge => fun w G cx => ⟨?_, cx.left⟩)
  · have hlt2 := Bool.and_eq_true_iff.1 hlt
    have hlt : i < L.length := by have := of_decide_eq_true hlt2.1; omega
    clear cx
    obtain ⟨b, o, hp⟩ := src.ptr (by omega)
    obtain ⟨r, rc, he, h1, h2, h3⟩ := hc i hlt
    unfold maxLen at h2
    have hh : Has Φ1 (fun M w => Sl M w r L[i].row) := ⟨fun M w h => src_sl src hlt he h⟩
    rw [List.drop_eq_getElem_cons hlt, List.all_cons] at hs
    have bad : fewV L[i].row = false → fewR L n = false := fun h => by unfold fewR; rw [hs, h, Bool.false_and, Bool.and_false]
    have hrow : ∀ {w : World} {G : List Own}, Ctx W w (R1 ++ G) Φ1 → w.cell? ⟨b, o + ((i : Nat) : Int).toNat * 7 + 3, none⟩ = some (.slice r L[i].row.length rc) := fun {w G} cx => by
      rw [Int.toNat_natCast]
      exact src_at (S := []) src hp cx he 3 (by show 3 < 7; decide)
    refine ⟨by omega, ptrK_intro b o hp fun w G cx => ⟨r, L[i].row.length, rc, hrow cx, Br.intro (fun h => fun w G cx => ⟨?_, cx.left⟩) (fun h12 => ?_)⟩⟩
    · rw [bad (by unfold fewV; rw [decide_eq_false (by have := of_decide_eq_true h; omega), Bool.false_and])]
    clear cx
    have h12 := of_decide_eq_false h12
    refine exI_mk (fun n2 R' Φ' k => ∃ j : Nat, n2 = j ∧ j ≤ L[i].row.length ∧ R' = R1 ∧ Φ' = Φ1 ∧ k = L[i].row.length - j ∧ (L[i].row.all fun v => decide ((v.text.size : Int) ≤ 210)) = (L[i].row.drop j).all fun v => decide ((v.text.size : Int) ≤ 210)) ⟨⟨R1, Φ1, _, inferInstance, fun w F c => c, 0, rfl, Nat.zero_le _, rfl, rfl, rfl, rfl⟩, ?_⟩
    rintro n2 R2 Φ2 k2 _ ⟨j, rfl, hj, rfl, rfl, rfl, hs2⟩
    refine ⟨by omega, ptrK_intro b o hp fun w G cx => ⟨r, L[i].row.length, rc, hrow cx, ?_⟩⟩
    have hth := (hh.go _ _ cx.phi).there
    clear cx
    refine Br.intro (fun hlt3 => ?_) (fun hge3 => ?_)
    · have hlt3 : j < L[i].row.length := by have := of_decide_eq_true hlt3; omega
      obtain ⟨g1, o1, hr⟩ := hth (by omega)
      rw [List.drop_eq_getElem_cons hlt3, List.all_cons] at hs2
      refine ⟨by omega, ptrK_intro b o hp fun w G cx => ⟨r, L[i].row.length, rc, hrow cx, by omega, ptrK_intro g1 o1 hr fun w G cx => ⟨L[i].row[j].text, ?_, Br.intro (fun h => fun w G cx => ⟨?_, cx.left⟩) (fun h => ⟨by unfold I64; omega, R2, Φ2, L[i].row.length - (j + 1), inferInstance, fun w G cx => cx, ⟨j + 1, rfl, hlt3, rfl, rfl, rfl, ?_⟩, by omega⟩)⟩⟩⟩
      · rw [Int.toNat_natCast]
        have := hh.go _ _ cx.phi
        rw [hr] at this
        exact sl_val this hlt3 2 (by simp)
      · rw [bad (by unfold fewV; rw [hs2, decide_eq_false (p := (L[i].row[j].text.size : Int) ≤ 210) (by have := of_decide_eq_true h; omega), Bool.false_and, Bool.and_false])]
      · rw [hs2, decide_eq_true (p := (L[i].row[j].text.size : Int) ≤ 210) (by have := of_decide_eq_false h; omega), Bool.true_and]
    · have hge3 : j = L[i].row.length := by have := of_decide_eq_false hge3; omega
      rw [hge3, List.drop_length] at hs2
      have hok : fewV L[i].row = true := by unfold fewV; rw [hs2, decide_eq_true (by omega)]; rfl
      exact ⟨by unfold I64; omega, R2, Φ2, L.length - (i + 1), inferInstance, fun w G cx => cx, ⟨i + 1, rfl, hlt, rfl, rfl, rfl, by rw [hs, hok, Bool.true_and]⟩, by omega⟩
  · unfold fewR
    rcases Bool.and_eq_false_iff.1 hge with h | h
    · have hge : i = L.length := by have := of_decide_eq_false h; omega
      rw [hge, List.drop_length] at hs
      rw [hs]
      show _ = Value.bool (_ && true)
      rw [Bool.and_true]
    · have : ¬ ((L.length : Int) ≤ n) := by have := of_decide_eq_false h; omega
      rw [decide_eq_false this, Bool.false_and]
theorem Few43_in [Stable Φ] {L : List LineD} {n : Int} [hΦ : Has Φ (fun M w => Sl M w p L)] (hlen : L.length ≤ maxLen) : GivesIn Φ Tryz.prog F.errataref43_Few #[.slice p L.length cap, .int .i64 n] (.bool (fewR L n)) :=
  ⟨fun W w S c => by
    have hth := (hΦ.go _ _ c.phi).there
    obtain ⟨cs, c1⟩ := srcOf c (hΦ.go _ _ c.phi)
    exact (Few43_src (Φ := fun M w => Φ M w ∧ SrcF p L cs M w) (src_fact (Φ := fun M w => Φ M w ∧ SrcF p L cs M w) hth (fun M w h => h.2)) (rows7 c1.phi.2.2) hlen).use c1 fun w' c => ⟨rfl, c.fst⟩⟩

theorem few43_in [Stable Φ] {l : List OpD} {n : Int} {g o : Nat} {cs : List (List Value)} (hp : 0 < l.length → p = some ⟨g, o, none⟩) (hP : ∀ M w, Φ M w → Pin g o cs l M w) (hlen : l.length ≤ maxLen) : GivesIn Φ Tryz.prog F.erratalaw43_few #[.slice p l.length cap, .int .i64 n] (.bool (fewO l n)) := by
  refine ⟨fun W0 w0 S0 c0 => GivesIn.go (gives_in (Berratalaw43_few_run p l.length cap n) fun W R => ?_) W0 w0 S0 c0⟩
  have hc : ∀ j (hj : j < l.length), ∃ p c, cs.getD j [] = l[j].cells p c ∧ l[j].l.length ≤ c ∧ c ≤ maxLen ∧ I64 l[j].op ∧ I64 l[j].batch := fun j hj => pin_op (hP _ _ c0.phi) hj
  clear c0
  refine exI_mk (fun n R' Φ' k => ∃ i : Nat, n = i ∧ i ≤ l.length ∧ R' = R ∧ Φ' = Φ ∧ k = l.length - i ∧ (l.take i).all (fun x => fewR x.l 8) = true) ⟨⟨R, Φ, _, inferInstance, fun w F c => c, 0, rfl, Nat.zero_le _, rfl, rfl, rfl, rfl⟩, ?_⟩
  rintro n1 R1 Φ1 k _ ⟨i, rfl, hi, rfl, rfl, rfl, hs⟩
  refine Br.intro (fun hlt => ?_) (fun hge => fun w G cx => ⟨?_, cx.left⟩)
  · have hlt : i < l.length := by have := of_decide_eq_true hlt; omega
    obtain ⟨r, rc, he, h1, h2, _⟩ := hc i hlt
    have hh : Has Φ1 (fun M w => Sl M w r l[i].l) := ⟨fun M w h => pino_sl (hP M w h) hlt he⟩
    refine ⟨by omega, ptrK_intro g o (hp (by omega)) fun w G cx => ⟨r, l[i].l.length, rc, ?_, fun w G cx => (Few43_in (L := l[i].l) (n := 8) (by omega)).toB cx ?_⟩⟩
    · have := pino_rowAt (hP _ _ cx.phi) hlt he 2 (by simp)
      rw [Int.toNat_natCast]
      exact this
    clear cx
    refine Br.intro (fun h => fun w G cx => ⟨?_, cx.left⟩) (fun h => ⟨by unfold I64; unfold maxLen at hlen; omega, R1, Φ1, l.length - (i + 1), inferInstance, fun w G cx => cx, ⟨i + 1, rfl, hlt, rfl, rfl, rfl, ?_⟩, by omega⟩)
    · have h : fewR l[i].l 8 = false := by simpa using h
      unfold fewO
      rw [List.all_eq_false.2 ⟨l[i], List.getElem_mem _, by rw [h]; simp⟩, Bool.and_false]
    · have h : fewR l[i].l 8 = true := by simpa using h
      rw [List.take_succ_eq_append_getElem hlt, List.all_append, hs]
      simp [h]
  · have hge : i = l.length := by have := of_decide_eq_false hge; omega
    subst hge
    rw [List.take_length] at hs
    unfold fewO
    rw [hs, Bool.and_true]

/-! ### equal lines -/
end
def sameL (x y : LineD) : Bool := decide (x.no = y.no) && decide (x.batch = y.batch) && decide (x.time = y.time) && decide (x.n = y.n) && decide (x.cause = y.cause) && decide (x.why = y.why) && decide (cmpR x.row y.row = 0)
theorem sameL_refl (x : LineD) : sameL x x = true := by unfold sameL; simp [cmpR_cmp.refl]
theorem sameL_eq {x y : LineD} (h : sameL x y = true) : x = y := by
  unfold sameL at h
  simp only [Bool.and_eq_true, decide_eq_true_eq] at h
  obtain ⟨⟨⟨⟨⟨⟨h1, h2⟩, h3⟩, h4⟩, h5⟩, h6⟩, h7⟩ := h
  have h7 := (cmpR_cmp.eq _ _).1 h7
  cases x; cases y
  simp_all
instance : DecidableEq LineD := fun x y => decidable_of_iff (sameL x y = true) ⟨sameL_eq, fun h => h ▸ sameL_refl x⟩
theorem sameL_dec (x y : LineD) : sameL x y = decide (x = y) := by
  cases h : sameL x y with
  | true => exact (decide_eq_true (sameL_eq h)).symm
  | false => exact (decide_eq_false fun e => by rw [e, sameL_refl] at h; cases h).symm
theorem eq_drop {a b : List LineD} {i : Nat} (ha : i < a.length) (hb : i < b.length) : decide (a.drop i = b.drop i) = (sameL a[i] b[i] && decide (a.drop (i + 1) = b.drop (i + 1))) := by
  rw [List.drop_eq_getElem_cons ha, List.drop_eq_getElem_cons hb, sameL_dec, ← Bool.decide_and]
  exact decide_eq_decide.2 (by rw [List.cons.injEq])

section
variable {Φ : PW} {W w : World} {R S G : List Own} {p r : Option Addr} {cap cap2 : Nat}
theorem rSame03_in [Stable Φ] {a b : List ValD} [hA : Has Φ (fun M w => Sl M w p a)] [hB : Has Φ (fun M w => Sl M w r b)] (hlen : a.length ≤ 1000000) : GivesIn Φ Tryz.prog F.errataref03_Same #[.slice p a.length cap, .slice r b.length cap2] (.bool (decide (cmpR a b = 0))) :=
  gives_in (Berrataref03_Same_run p a.length cap r b.length cap2) fun W R => fun w G cx => (rCompareRows_in p r cap cap2 a b hA.go hB.go (by omega)).toI cx fun w G cx => ⟨rfl, cx.left⟩
set_option maxHeartbeats 1000000 in
theorem SameLines_src [Stable Φ] {a b : List LineD} {cs ds : List Value} (srcA : Src [] Φ p a cs) (srcB : Src [] Φ r b ds) (hca : Rows7 cs a) (hcb : Rows7 ds b) (hlen : a.length ≤ 1000000) (hrow : ∀ x ∈ a, x.row.length ≤ 1000000) :
    GivesIn Φ Tryz.prog F.errataref43_SameLines #[.slice p a.length cap, .slice r b.length cap2] (.bool (decide (a = b))) := by
  refine gives_in (Berrataref43_SameLines_run p a.length cap r b.length cap2) fun W R => Br.intro (fun h => fun w G cx => ⟨?_, cx.left⟩) (fun h => ?_)
  · rw [decide_eq_false fun e => of_decide_eq_true h (by rw [e])]
  have hab : a.length = b.length := by have := Decidable.not_not.1 (of_decide_eq_false h); omega
  refine exI_mk (fun n1 R' Φ' k => ∃ i : Nat, n1 = i ∧ i ≤ a.length ∧ R' = R ∧ Φ' = Φ ∧ k = a.length - i ∧ decide (a = b) = decide (a.drop i = b.drop i)) ⟨⟨R, Φ, _, inferInstance, fun w F c => c, 0, rfl, Nat.zero_le _, rfl, rfl, rfl, rfl⟩, ?_⟩
  rintro n1 R1 Φ1 k _ ⟨i, rfl, hi, rfl, rfl, rfl, hs⟩
  refine Br.intro (fun hlt => ?_) (fun hge => fun w G cx => ⟨?_, cx.left⟩)
  · have hlt : i < a.length := by have := of_decide_eq_true hlt; omega
    have hlb : i < b.length := by omega
    obtain ⟨b1, o1, hp⟩ := srcA.ptr (by omega)
    obtain ⟨b2, o2, hr⟩ := srcB.ptr (by omega)
    obtain ⟨ra, rca, hea, _, _, _⟩ := hca i hlt
    obtain ⟨rb, rcb, heb, _, _, _⟩ := hcb i hlb
    have hA : Has Φ1 (fun M w => Sl M w ra a[i].row) := ⟨fun M w h => src_sl srcA hlt hea h⟩
    have hB : Has Φ1 (fun M w => Sl M w rb b[i].row) := ⟨fun M w h => src_sl srcB hlb heb h⟩
    rw [eq_drop hlt hlb] at hs
    have stop : sameL a[i] b[i] = false → ∀ {w : World} {G : List Own}, Ctx W w (R1 ++ G) Φ1 → Value.bool false = .bool (decide (a = b)) ∧ Ctx W w R1 Φ1 := fun h {w G} cx => ⟨by rw [hs, h, Bool.false_and], cx.left⟩
    refine ⟨by omega, ptrK_intro b1 o1 hp fun w G cx => ⟨a[i].no, a[i].batch, a[i].time, ra, a[i].row.length, rca, a[i].n, a[i].cause, a[i].why, by rw [Int.toNat_natCast]; exact src_at (S := []) srcA hp cx hea, fun _ => ⟨by omega, ptrK_intro b2 o2 hr fun w G cx => ⟨b[i].no, b[i].batch, b[i].time, rb, b[i].row.length, rcb, b[i].n, b[i].cause, b[i].why, by rw [Int.toNat_natCast]; exact src_at (S := []) srcB hr cx heb, fun _ => ?_⟩⟩⟩⟩
    clear cx
    refine Br.intro (fun h => fun w G cx => stop (by unfold sameL; rw [decide_eq_false (of_decide_eq_true h)]; rfl) cx) (fun g1 => ?_)
    refine Br.intro (fun h => fun w G cx => stop (by unfold sameL; rw [decide_eq_false (p := a[i].batch = b[i].batch) (of_decide_eq_true h)]; simp) cx) (fun g2 => ?_)
    refine Br.intro (fun h => fun w G cx => stop (by unfold sameL; rw [decide_eq_false (p := a[i].time = b[i].time) (of_decide_eq_true h)]; simp) cx) (fun g3 => ?_)
    refine Br.intro (fun h => fun w G cx => stop (by unfold sameL; rw [decide_eq_false (p := a[i].n = b[i].n) (of_decide_eq_true h)]; simp) cx) (fun g4 => ?_)
    refine Br.intro (fun h => fun w G cx => stop (by unfold sameL; rw [decide_eq_false (p := a[i].cause = b[i].cause) (of_decide_eq_true h)]; simp) cx) (fun g5 => ?_)
    refine Br.intro (fun h => fun w G cx => stop (by unfold sameL; rw [decide_eq_false (p := a[i].why = b[i].why) (of_decide_eq_true h)]; simp) cx) (fun g6 => fun w G cx => (rSame03_in (a := a[i].row) (b := b[i].row) (hrow _ (List.getElem_mem _))).toB cx ?_)
    clear cx
    have hse : sameL a[i] b[i] = decide (cmpR a[i].row b[i].row = 0) := by
      unfold sameL
      rw [decide_eq_true (Decidable.not_not.1 (of_decide_eq_false g1)), decide_eq_true (Decidable.not_not.1 (of_decide_eq_false g2)), decide_eq_true (Decidable.not_not.1 (of_decide_eq_false g3)), decide_eq_true (Decidable.not_not.1 (of_decide_eq_false g4)), decide_eq_true (Decidable.not_not.1 (of_decide_eq_false g5)), decide_eq_true (Decidable.not_not.1 (of_decide_eq_false g6))]
      rfl
    rw [← hse]
    refine Br.intro (fun h => fun w G cx => stop (by simpa using h) cx) (fun h => ⟨by unfold I64; omega, R1, Φ1, a.length - (i + 1), inferInstance, fun w G cx => cx, ⟨i + 1, rfl, hlt, rfl, rfl, rfl, ?_⟩, by omega⟩)
    have h : sameL a[i] b[i] = true := by simpa using h
    rw [hs, h, Bool.true_and]
  · have hge : i = a.length := by have := of_decide_eq_false hge; omega
    rw [hs, hge, List.drop_length, hab, List.drop_length]
    rfl
theorem SameLines_in [Stable Φ] {a b : List LineD} [hA : Has Φ (fun M w => Sl M w p a)] [hB : Has Φ (fun M w => Sl M w r b)] (hlen : a.length ≤ 1000000) (hrow : ∀ x ∈ a, x.row.length ≤ 1000000) :
    GivesIn Φ Tryz.prog F.errataref43_SameLines #[.slice p a.length cap, .slice r b.length cap2] (.bool (decide (a = b))) :=
  ⟨fun W w S c => by
    have hth := (hA.go _ _ c.phi).there
    have hth2 := (hB.go _ _ c.phi).there
    obtain ⟨cs, c1⟩ := srcOf c (hA.go _ _ c.phi)
    obtain ⟨ds, c2⟩ := srcOf c1 (hB.go _ _ c.phi)
    exact (SameLines_src (Φ := fun M w => (Φ M w ∧ SrcF p a cs M w) ∧ SrcF r b ds M w) (src_fact (Φ := fun M w => (Φ M w ∧ SrcF p a cs M w) ∧ SrcF r b ds M w) hth (fun M w h => h.1.2)) (src_fact (Φ := fun M w => (Φ M w ∧ SrcF p a cs M w) ∧ SrcF r b ds M w) hth2 (fun M w h => h.2)) (rows7 c2.phi.1.2.2) (rows7 c2.phi.2.2) hlen hrow).use c2 fun w' c => ⟨rfl, c.fst.fst⟩⟩
end
end Go.Proofs.YtjlfpkgjcffilaaGreatDoor
end

/-
  Calls of a sink, in plain Lean: what stays.
-/
section
set_option linter.unusedVariables false
set_option linter.unusedSimpArgs false
namespace Go.Proofs.YtjlfpkgjcffilaaGreatDoor
open Go.Vc


/-- a prepared batch comes after the others; only one kind of sink prepares -/
def PrepI (s : SkD) : Prop := s.prep ≠ 0 → s.kind = 0 ∧ lastK s < s.prep
theorem PrepI.ok {s : SkD} (h : PrepI s) : PrepOk s := fun h0 => (h h0).2

theorem prep_cases (s : SkD) (b : Int) (L : List LineD) : (prepK s b L).2 = s ∧ ((prepK s b L).1 = 0 → hasK s b = true) ∨ s.kind = 0 ∧ hasK s b = false ∧ ¬ lookK s b L ≠ 0 ∧ prepK s b L = (0, { s with prep := b, aside := L }) := by
  unfold prepK
  split
  · exact .inl ⟨rfl, fun h => by simp at h⟩
  split
  · rename_i h; exact .inl ⟨rfl, fun _ => h⟩
  split
  · rename_i h; exact .inl ⟨rfl, fun h2 => absurd h2 h⟩
  rename_i h1 h2 h3
  exact .inr ⟨Decidable.not_not.1 h1, by simpa using h2, h3, rfl⟩
theorem comm_cases (s : SkD) (b : Int) : (commK s b).2 = s ∧ ((commK s b).1 = 0 → hasK s b = true) ∨ s.kind = 0 ∧ hasK s b = false ∧ 1 ≤ b ∧ b = s.prep ∧ commK s b = (0, { takeK s b s.aside with prep := 0, aside := [] }) := by
  unfold commK
  split
  · exact .inl ⟨rfl, fun h => by simp at h⟩
  split
  · rename_i h; exact .inl ⟨rfl, fun _ => h⟩
  split
  · rename_i h; exact .inl ⟨rfl, fun h2 => by simp at h2⟩
  rename_i h1 h2 h3
  simp only [Bool.or_eq_true, decide_eq_true_eq, not_or, Int.not_lt, ne_eq, Decidable.not_not] at h3
  exact .inr ⟨Decidable.not_not.1 h1, by simpa using h2, h3.1, h3.2, rfl⟩
theorem abort_cases (s : SkD) (b : Int) : (abortK s b).2 = s ∧ (abortK s b).1 ≠ 0 ∨ s.kind = 0 ∧ 1 ≤ b ∧ b = s.prep ∧ abortK s b = (0, { s with prep := 0, aside := [] }) := by
  unfold abortK
  split
  · exact .inl ⟨rfl, by simp⟩
  split
  · exact .inl ⟨rfl, by simp⟩
  split
  · exact .inl ⟨rfl, by simp⟩
  rename_i h1 h2 h3
  simp only [Bool.or_eq_true, decide_eq_true_eq, not_or, Int.not_lt, ne_eq, Decidable.not_not] at h3
  exact .inr ⟨Decidable.not_not.1 h1, h3.1, h3.2, rfl⟩
theorem deliv_cases (s : SkD) (b : Int) (L : List LineD) : (delivK s b L).2 = s ∧ ((delivK s b L).1 = 0 → s.kind ≠ 0 ∧ hasK s b = true) ∨ s.kind ≠ 0 ∧ hasK s b = false ∧ ¬ lookK s b L ≠ 0 ∧ delivK s b L = (0, takeK s b L) := by
  unfold delivK
  split
  · exact .inl ⟨rfl, fun h => by simp at h⟩
  rename_i h0
  split
  · rename_i h; exact .inl ⟨rfl, fun _ => ⟨h0, h⟩⟩
  split
  · rename_i h; exact .inl ⟨rfl, fun h2 => absurd h2 h⟩
  rename_i h2 h3
  exact .inr ⟨h0, by simpa using h2, h3, rfl⟩
theorem last_take (s : SkD) (b : Int) (L : List LineD) : lastK (takeK s b L) = b := by
  unfold lastK takeK
  simp

theorem prep_p {s : SkD} (hp : PrepI s) (b : Int) (L : List LineD) : PrepI (prepK s b L).2 := by
  rcases prep_cases s b L with ⟨h, _⟩ | ⟨h0, _, h2, h⟩
  · rw [h]; exact hp
  · rw [h]; exact fun _ => ⟨h0, (look_ok h2).2.1⟩
theorem comm_p {s : SkD} (hp : PrepI s) (b : Int) : PrepI (commK s b).2 := by
  rcases comm_cases s b with ⟨h, _⟩ | ⟨_, _, _, _, h⟩
  · rw [h]; exact hp
  · rw [h]; exact fun h => absurd rfl h
theorem abort_p {s : SkD} (hp : PrepI s) (b : Int) : PrepI (abortK s b).2 := by
  rcases abort_cases s b with ⟨h, _⟩ | ⟨_, _, _, h⟩
  · rw [h]; exact hp
  · rw [h]; exact fun h => absurd rfl h
theorem deliv_p {s : SkD} (hp : PrepI s) (b : Int) (L : List LineD) : PrepI (delivK s b L).2 := by
  rcases deliv_cases s b L with ⟨h, _⟩ | ⟨h0, _, _, h⟩
  · rw [h]; exact hp
  · rw [h]; exact fun h2 => absurd (hp h2).1 h0

theorem op_i {s : SkD} (hI : SkI s) (hp : PrepI s) {b : Int} (h : I64 b) (k : Int) (L : List LineD) : SkI (opK k s b L).2 ∧ PrepI (opK k s b L).2 := by
  unfold opK
  split
  · exact ⟨prep_i hI, prep_p hp b L⟩
  split
  · exact ⟨prep_i hI, prep_p hp b L⟩
  split
  · exact ⟨comm_i hI hp.ok h, comm_p hp b⟩
  split
  · exact ⟨abort_i hI, abort_p hp b⟩
  split
  · exact ⟨hI, hp⟩
  split
  · exact ⟨hI, hp⟩
  · exact ⟨deliv_i hI h, deliv_p hp b L⟩
theorem SkS.up {s : SkD} {n m : Nat} (h : SkS s n) (hm : n ≤ m) : SkS s m := ⟨by have := h.bats; omega, by have := h.lines; omega, by have := h.aside; omega, by have := h.key; omega⟩
theorem take_s {s : SkD} {n m : Nat} (h : SkS s n) (b : Int) {L : List LineD} (hL : L.length ≤ m) (hm : 1 ≤ m) : SkS (takeK s b L) (n + m) :=
  ⟨by show (s.bats ++ [b]).length ≤ _; rw [List.length_append, List.length_singleton]; have := h.bats; omega, by show (s.lines ++ L).length ≤ _; rw [List.length_append]; have := h.lines; omega, by show s.aside.length ≤ _; have := h.aside; omega, by show s.key.length ≤ _; have := h.key; omega⟩
theorem op_s {s : SkD} {n : Nat} (h : SkS s n) (ha : s.aside.length ≤ 8) (k b : Int) {L : List LineD} (hL : L.length ≤ 8) : SkS (opK k s b L).2 (n + 8) ∧ (opK k s b L).2.aside.length ≤ 8 := by
  have hs : SkS s (n + 8) := h.up (by omega)
  have hP : SkS (prepK s b L).2 (n + 8) ∧ (prepK s b L).2.aside.length ≤ 8 := by
    rcases prep_cases s b L with ⟨h, _⟩ | ⟨h0, _, h2, h⟩
    · rw [h]; exact ⟨hs, ha⟩
    · rw [h]; exact ⟨⟨hs.bats, hs.lines, by show L.length ≤ _; omega, hs.key⟩, hL⟩
  unfold opK
  split
  · exact hP
  split
  · exact hP
  split
  · rcases comm_cases s b with ⟨h, _⟩ | ⟨_, _, _, _, h1⟩
    · rw [h]; exact ⟨hs, ha⟩
    · rw [h1]
      have := take_s h b ha (by omega)
      exact ⟨⟨this.bats, this.lines, Nat.zero_le _, this.key⟩, Nat.zero_le _⟩
  split
  · rcases abort_cases s b with ⟨h, _⟩ | ⟨_, _, _, h⟩
    · rw [h]; exact ⟨hs, ha⟩
    · rw [h]; exact ⟨⟨hs.bats, hs.lines, Nat.zero_le _, hs.key⟩, Nat.zero_le _⟩
  split
  · exact ⟨hs, ha⟩
  split
  · exact ⟨hs, ha⟩
  · rcases deliv_cases s b L with ⟨h, _⟩ | ⟨_, _, _, h1⟩
    · rw [h]; exact ⟨hs, ha⟩
    · rw [h1]; exact ⟨take_s h b hL (by omega), ha⟩
theorem op_kind (s : SkD) (k b : Int) (L : List LineD) : (opK k s b L).2.kind = s.kind ∧ (opK k s b L).2.key = s.key := by
  have hP : (prepK s b L).2.kind = s.kind ∧ (prepK s b L).2.key = s.key := by
    rcases prep_cases s b L with ⟨h, _⟩ | ⟨_, _, _, h⟩ <;> rw [h] <;> exact ⟨rfl, rfl⟩
  unfold opK
  split
  · exact hP
  split
  · exact hP
  split
  · rcases comm_cases s b with ⟨h, _⟩ | ⟨_, _, _, _, h⟩ <;> rw [h] <;> exact ⟨rfl, rfl⟩
  split
  · rcases abort_cases s b with ⟨h, _⟩ | ⟨_, _, _, h⟩ <;> rw [h] <;> exact ⟨rfl, rfl⟩
  split
  · exact ⟨rfl, rfl⟩
  split
  · exact ⟨rfl, rfl⟩
  · rcases deliv_cases s b L with ⟨h, _⟩ | ⟨_, _, _, h⟩ <;> rw [h] <;> exact ⟨rfl, rfl⟩

/-! ### a sink that hides -/
/-- what a call of such a sink brings: a prepared batch, a committed one, or neither -/
inductive Hid (k : Int) (s : SkD) (b : Int) (L : List LineD) : Prop
  | prep (hk : k < 2) (hh : hasK s b = false) (e : opK k s b L = (0, { s with prep := b, aside := L }))
  | comm (hk : k = 2) (hh : hasK s b = false) (h1 : 1 ≤ b) (hb : b = s.prep) (e : opK k s b L = (0, { takeK s b s.aside with prep := 0, aside := [] }))
  | abort (hk : k = 3) (hb : b = s.prep) (e : opK k s b L = (0, { s with prep := 0, aside := [] }))
  | none (e : (opK k s b L).2 = s) (h : (opK k s b L).1 = 0 → hasK s b = true) (h3 : k = 3 → (opK k s b L).1 ≠ 0)
theorem hid {s : SkD} (h0 : s.kind = 0) {k : Int} (hk : k ≤ 3) (b : Int) (L : List LineD) : Hid k s b L := by
  have e0 : opK k s b L = if k = 0 then prepK s b L else if k = 1 then prepK s b L else if k = 2 then commK s b else if k = 3 then abortK s b else if k = 6 then (0, s) else if k = 7 then (0, s) else delivK s b L := rfl
  have hP : k < 2 → opK k s b L = prepK s b L → Hid k s b L := fun hk e => by
    rcases prep_cases s b L with ⟨h, h2⟩ | ⟨_, h2, _, h⟩
    · exact .none (by rw [e]; exact h) (by rw [e]; exact h2) (fun h => by omega)
    · exact .prep hk h2 (by rw [e]; exact h)
  by_cases k0 : k = 0
  · exact hP (by omega) (by rw [e0, if_pos k0])
  rw [if_neg k0] at e0
  by_cases k1 : k = 1
  · exact hP (by omega) (by rw [e0, if_pos k1])
  rw [if_neg k1] at e0
  by_cases k2 : k = 2
  · rw [if_pos k2] at e0
    rcases comm_cases s b with ⟨h, h2⟩ | ⟨_, h2, h3, h4, h⟩
    · exact .none (by rw [e0]; exact h) (by rw [e0]; exact h2) (fun h => by omega)
    · exact .comm k2 h2 h3 h4 (by rw [e0]; exact h)
  rw [if_neg k2] at e0
  by_cases k3 : k = 3
  · rw [if_pos k3] at e0
    rcases abort_cases s b with ⟨h, h2⟩ | ⟨_, h3, h4, h⟩
    · exact .none (by rw [e0]; exact h) (by rw [e0]; exact fun h => absurd h h2) (fun _ => by rw [e0]; exact h2)
    · exact .abort k3 h4 (by rw [e0]; exact h)
  rw [if_neg k3, if_neg (by omega), if_neg (by omega)] at e0
  rcases deliv_cases s b L with ⟨h, h2⟩ | ⟨h2, _⟩
  · exact .none (by rw [e0]; exact h) (by rw [e0]; exact fun h => absurd h0 (h2 h).1) (fun h => absurd h k3)
  · exact absurd h0 h2
end Go.Proofs.YtjlfpkgjcffilaaGreatDoor
end

/-
  The encoding of a sink: in plain Lean, and walked.
-/
section
set_option linter.unusedVariables false
set_option linter.unusedSimpArgs false
namespace Go.Proofs.YtjlfpkgjcffilaaGreatDoor
open Go.Vc


/-! ### plain -/
def intsL (l : List Int) : List UInt8 := l.flatMap fun x => (intB x).data.toList
def numsL (l : List Int) : List UInt8 := (numB (l.length : Int)).data.toList ++ (91 :: (intsL l ++ [93]))
def lineS (x : LineD) : ByteArray := intB x.batch ++ intB x.time ++ textB (rowB x.row) ++ intB x.n ++ intB x.cause ++ intB x.why
def linesL (l : List LineD) : List UInt8 := l.flatMap fun x => (lineS x).data.toList
def linesS (l : List LineD) : List UInt8 := (natB (l.length : Int)).data.toList ++ linesL l
def skB (s : SkD) : ByteArray := intB s.kind ++ ⟨(numsL s.key).toArray⟩ ++ ⟨(numsL s.bats).toArray⟩ ++ ⟨(linesS s.lines).toArray⟩ ++ intB s.prep ++ ⟨(linesS s.aside).toArray⟩

theorem intsL_app (a b : List Int) : intsL (a ++ b) = intsL a ++ intsL b := by simp [intsL]
theorem intsL_one (x : Int) : intsL [x] = (intB x).data.toList := by simp [intsL]
theorem intsL_len : ∀ {l : List Int}, (∀ x ∈ l, I64 x) → (intsL l).length ≤ l.length * 21
  | [], _ => by simp [intsL]
  | x :: l, h => by
    have ih := intsL_len (l := l) fun y hy => h y (by simp [hy])
    have hx := intB_size (h x (by simp))
    show ((intB x).data.toList ++ intsL l).length ≤ _
    rw [List.length_append, list_size, List.length_cons, Nat.add_mul]; omega
theorem linesL_app (a b : List LineD) : linesL (a ++ b) = linesL a ++ linesL b := by simp [linesL]
theorem linesL_one (x : LineD) : linesL [x] = (lineS x).data.toList := by simp [linesL]
/-- lines that can be written -/
structure LineW (x : LineD) : Prop where
  inn : x.In
  val : ∀ v ∈ x.row, (I64 v.kind ∧ I64 v.num) ∧ v.text.size ≤ 200
  row : x.row.length ≤ 12
theorem rowB_small {r : List ValD} (h1 : r.length ≤ 12) (h2 : ∀ v ∈ r, (I64 v.kind ∧ I64 v.num) ∧ v.text.size ≤ 200) : (rowB r).size ≤ 3189 := by
  have hL := rowL_len h2 (by decide) (by omega)
  have : r.length * (200 + 64) ≤ 12 * 264 := Nat.mul_le_mul h1 (Nat.le_refl _)
  unfold rowB
  rw [size_list]; omega
theorem lineS_size {x : LineD} (h : LineW x) : (lineS x).size ≤ 3330 := by
  have h0 := intB_size h.inn.batch
  have h1 := intB_size h.inn.time
  have h2 := intB_size h.inn.n
  have h3 := intB_size h.inn.cause
  have h4 := intB_size h.inn.why
  have h5 := rowB_small h.row h.val
  have h6 := textB_size (s := rowB x.row) (by omega)
  unfold lineS
  rw [size_app, size_app, size_app, size_app, size_app]; omega
theorem linesL_len : ∀ {l : List LineD}, (∀ x ∈ l, LineW x) → (linesL l).length ≤ l.length * 3330
  | [], _ => by simp [linesL]
  | x :: l, h => by
    have ih := linesL_len (l := l) fun y hy => h y (by simp [hy])
    have hx := lineS_size (h x (by simp))
    show ((lineS x).data.toList ++ linesL l).length ≤ _
    rw [List.length_append, list_size, List.length_cons, Nat.add_mul]; omega
theorem snoc_bytes (l : List UInt8) (c : UInt8) : (⟨l.toArray⟩ : ByteArray) ++ ByteArray.mk #[c] = ⟨(l ++ [c]).toArray⟩ := by
  apply ByteArray.ext
  apply Array.toList_inj.1
  simp [ByteArray.data_append]
theorem slz_i64 {M : List Nat} {w : World} {p : Option Addr} {l : List Int} (h : Sl M w p l) : ∀ x ∈ l, I64 x := fun x hx => by
  obtain ⟨i, hi, rfl⟩ := List.getElem_of_mem hx
  obtain ⟨_, _, _, _, _, _, _, hr⟩ := h i hi
  exact hr
theorem right_small {r : List ValD} (h : rightR r = true) : ∀ v ∈ r, v.text.size ≤ 200 := fun v hv => right_text2 h v hv

/-- what can be written -/
structure SkW (s : SkD) : Prop where
  kind : I64 s.kind
  prep : I64 s.prep
  key : ∀ x ∈ s.key, I64 x
  bats : ∀ x ∈ s.bats, I64 x
  lines : ∀ x ∈ s.lines, LineW x
  aside : ∀ x ∈ s.aside, LineW x
theorem lines_wE {M : List Nat} {w : World} {cs : List Value} {l : List LineD} (h : Elems M w cs l) (hr : ∀ x ∈ l, rightR x.row = true) : ∀ x ∈ l, LineW x := fun x hx => by
  have hrx := hr x hx
  obtain ⟨i, hi, rfl⟩ := List.getElem_of_mem hx
  obtain ⟨r, rc, he, h1, h2, h3, h4⟩ := lrow h hi
  exact ⟨h3, fun v hv => ⟨(sl_i64 h4 v hv).1, right_small hrx v hv⟩, right_len hrx⟩
theorem lines_wS {M : List Nat} {w : World} {p : Option Addr} {l : List LineD} (h : Sl M w p l) (hr : ∀ x ∈ l, rightR x.row = true) : ∀ x ∈ l, LineW x := by
  rcases Nat.eq_zero_or_pos l.length with h0 | h0
  · rw [List.eq_nil_of_length_eq_zero h0]; exact fun x hx => by simp at hx
  · obtain ⟨b, o, news, hp, g1, g2, g3, g4⟩ := h.cells line_one h0
    exact lines_wE g3 hr
theorem sk_w {st : SkD} {q : KP} {M : List Nat} {w : World} (hI : SkI st) (h1 : I64 st.kind) (h2 : I64 st.prep) (h : SkF q st M w) : SkW st :=
  ⟨h1, h2, slz_i64 h.2.1, fun x hx => (hI.pos x hx).2, lines_wE h.1 hI.row, lines_wS h.2.2 hI.arow⟩
theorem skB_size {s : SkD} (h : SkW s) {n : Nat} (hs : SkS s n) (hn : n ≤ 400000) : (skB s).size ≤ 200 + (s.key.length + s.bats.length) * 21 + (s.lines.length + s.aside.length) * 3330 := by
  have b1 := hs.key
  have b2 := hs.bats
  have b3 := hs.lines
  have b4 := hs.aside
  have k1 := intB_size h.kind
  have k2 := intB_size h.prep
  have nums : ∀ {l : List Int}, (∀ x ∈ l, I64 x) → l.length ≤ 8000000 → (ByteArray.mk (numsL l).toArray).size ≤ 23 + l.length * 21 := fun {l} hl hb => by
    have h1 := numB_size (n := (l.length : Int)) (by unfold I64; omega)
    have h2 := intsL_len hl
    rw [size_list]
    unfold numsL
    rw [List.length_append, list_size, List.length_cons, List.length_append, List.length_singleton]
    omega
  have lins : ∀ {l : List LineD}, (∀ x ∈ l, LineW x) → l.length ≤ 400000 → (ByteArray.mk (linesS l).toArray).size ≤ 22 + l.length * 3330 := fun {l} hl hb => by
    have h1 := natB_size (n := (l.length : Int)) (by unfold I64; omega)
    have h2 := linesL_len hl
    rw [size_list]
    unfold linesS
    rw [List.length_append, list_size]
    omega
  have c1 := nums h.key (by omega)
  have c2 := nums h.bats (by omega)
  have c3 := lins h.lines (by omega)
  have c4 := lins h.aside (by omega)
  unfold skB
  rw [size_app, size_app, size_app, size_app, size_app]
  omega

theorem GivesQ.in {Φ : PW} {P : Program} {f : FuncId} {args : Array Value} {v : Value} (h : GivesQ [] Φ P f args v) : GivesIn Φ P f args v := ⟨fun W w S c => h.go W w S c⟩

section
variable {Φ : PW} {q : KP} {st : SkD} {W w : World} {R S G : List Own} {p : Option Addr} {cap : Nat}

theorem list_q [Stable Φ] [hT : Has Φ TabI] {Q : List Own} {l : List Int} (src : SrcZ Q Φ p l) (hl : l.length ≤ 10000000) (hi : ∀ x ∈ l, I64 x) : GivesQ Q Φ Tryz.prog F.wire_list_int #[.slice p l.length cap, .func (.func F.wire_Int) #[] #[]] (.string ⟨(numsL l).toArray⟩) := by
  refine gives_q (Bwire_list_int_run p l.length cap F.wire_Int #[]) fun W R => fun b w G cx => ?_
  have hnum := numB_size (n := (l.length : Int)) (by unfold I64; omega)
  have e91 : (ByteArray.mk #[91]).size = 1 := rfl
  have e93 : (ByteArray.mk #[93]).size = 1 := rfl
  refine (Itoa_in hT.go (l.length : Int) (by unfold I64; omega)).toS cx ⟨by show (numB _).size + 1 ≤ _; omega, fun w G cx => ?_⟩
  refine WriteString_use (numB (l.length : Int) ++ ByteArray.mk #[91]) Bd.nil (Bd.fresh cx) (by rw [size_app, e91]; simp only [List.length_nil]; omega) fun R1 w hB cx => ⟨_, _, rfl, R1 ++ (Q ++ R), Φ, inferInstance, by rw [List.append_assoc]; exact cx, ?_⟩
  rw [List.nil_append] at hB
  clear cx
  obtain ⟨pre, hpre⟩ : ∃ pre, (numB (l.length : Int) ++ ByteArray.mk #[91]).data.toList = pre := ⟨_, rfl⟩
  have hpl : pre.length ≤ 21 := by rw [← hpre, list_size, size_app, e91]; omega
  rw [hpre] at hB
  refine exI_mk (fun iI R' Φ' k => ∃ (i : Nat) (B : List Own), iI = i ∧ i ≤ l.length ∧ BdT b (pre ++ intsL (l.take i)) B ∧ R' = B ++ (Q ++ R) ∧ Φ' = Φ ∧ k = l.length - i) ⟨⟨_, _, _, inferInstance, fun w G cx => cx, 0, R1, rfl, Nat.zero_le _, by rw [List.take_zero, show intsL [] = [] from rfl, List.append_nil]; exact hB, rfl, rfl, rfl⟩, ?_⟩
  clear hB
  rintro iI R2 Φ2 k _ ⟨i, B, rfl, hi', hB, rfl, rfl, rfl⟩
  have hlen := intsL_len (l := l.take i) fun x hx => hi x (List.mem_of_mem_take hx)
  rw [List.length_take] at hlen
  refine Br.intro (fun hlt => ?_) (fun hge => fun w G cx => ?_)
  · have hlt : i < l.length := by have := of_decide_eq_true hlt; omega
    obtain ⟨b', o', hp⟩ := src.ptr (by omega)
    have hx := intB_size (hi l[i] (List.getElem_mem _))
    have hstep : intsL (l.take (i + 1)) = intsL (l.take i) ++ (intB l[i]).data.toList := by rw [List.take_succ_eq_append_getElem hlt, intsL_app, intsL_one]
    refine ⟨by omega, ptrK_intro b' o' hp fun w G cx => ⟨l[i], by rw [Int.toNat_natCast]; exact src.rd hp ((Ctx.dropF cx).re (List.append_assoc _ _ _)) i hlt, fun w G cx => ⟨by kernel_rfl, (Int_in (.inl ⟨hT.go, hi l[i] (List.getElem_mem _)⟩)).toS cx fun w G cx => ?_⟩⟩⟩
    refine WriteString_use (intB l[i]) hB (cx.re (List.append_assoc _ _ _)) (by rw [List.length_append]; omega) fun B2 w hB2 cx => ⟨_, _, rfl, B2 ++ (Q ++ R), Φ2, inferInstance, by rw [List.append_assoc]; exact cx, by unfold I64; omega, _, Φ2, l.length - (i + 1), inferInstance, fun w G cx => cx, ⟨i + 1, B2, by omega, hlt, ?_, rfl, rfl, rfl⟩, by omega⟩
    rw [hstep, ← List.append_assoc]; exact hB2
  · have hge : i = l.length := by have := of_decide_eq_false hge; omega
    subst hge
    rw [List.take_length] at hB
    refine String_use hB (cx.re (List.append_assoc _ _ _)) fun w cx => ⟨_, rfl, Q ++ R, Φ2, inferInstance, cx, by rw [size_list, e93, List.length_append]; rw [List.take_length] at hlen; show pre.length + (intsL l).length + 1 ≤ 9223372036854775807; omega, fun w G cx => ⟨?_, cx.left⟩⟩
    rw [snoc_bytes, ← hpre]
    unfold numsL
    simp [ByteArray.data_append]
theorem Nums_q [Stable Φ] [hT : Has Φ TabI] {Q : List Own} {l : List Int} (src : SrcZ Q Φ p l) (hl : l.length ≤ 10000000) (hi : ∀ x ∈ l, I64 x) : GivesQ Q Φ Tryz.prog F.wire_Nums #[.slice p l.length cap] (.string ⟨(numsL l).toArray⟩) :=
  gives_q (Bwire_Nums_run p l.length cap) fun W R => fun w G cx => (list_q src hl hi).toS cx fun w G cx => ⟨rfl, cx.left⟩
theorem Nums_in [Stable Φ] [hT : Has Φ TabI] {l : List Int} [hΦ : Has Φ (fun M w => Sl M w p l)] (hl : l.length ≤ 10000000) : GivesIn Φ Tryz.prog F.wire_Nums #[.slice p l.length cap] (.string ⟨(numsL l).toArray⟩) :=
  .there (fun M w h => (hΦ.go M w h).there) fun hth => .know (fun M w h => slz_i64 (hΦ.go M w h)) fun hi => GivesQ.in (Nums_q (srcz_fact hth hΦ.go) hl hi)

set_option maxHeartbeats 1000000 in
theorem LinesB_q [Stable Φ] [hT : Has Φ TabI] {Q : List Own} {L : List LineD} {cs : List Value} (src : Src Q Φ p L cs) (hc : Rows7 cs L) (hl : L.length ≤ 1000000) (hw : ∀ x ∈ L, LineW x) : GivesQ Q Φ Tryz.prog F.sink_linesBytes #[.slice p L.length cap] (.string ⟨(linesS L).toArray⟩) := by
  refine gives_q (Bsink_linesBytes_run p L.length cap) fun W R => fun b w G cx => ?_
  have hnat := natB_size (n := (L.length : Int)) (by unfold I64; omega)
  refine (Num_in (.inl ⟨hT.go, by unfold I64; omega⟩)).toS cx fun w G cx => ?_
  refine WriteString_use (natB (L.length : Int)) Bd.nil (Bd.fresh cx) (by simp only [List.length_nil]; omega) fun R1 w hB cx => ⟨_, _, rfl, R1 ++ (Q ++ R), Φ, inferInstance, by rw [List.append_assoc]; exact cx, ?_⟩
  rw [List.nil_append] at hB
  clear cx
  obtain ⟨pre, hpre⟩ : ∃ pre, (natB (L.length : Int)).data.toList = pre := ⟨_, rfl⟩
  have hprel : pre.length ≤ 21 := by rw [← hpre, list_size]; omega
  rw [hpre] at hB
  refine exI_mk (fun iI R' Φ' k => ∃ (i : Nat) (B : List Own), iI = i ∧ i ≤ L.length ∧ BdT b (pre ++ linesL (L.take i)) B ∧ R' = B ++ (Q ++ R) ∧ Φ' = Φ ∧ k = L.length - i) ⟨⟨_, _, _, inferInstance, fun w G cx => cx, 0, R1, rfl, Nat.zero_le _, by rw [List.take_zero, show linesL [] = [] from rfl, List.append_nil]; exact hB, rfl, rfl, rfl⟩, ?_⟩
  clear hB
  rintro iI R2 Φ2 k _ ⟨i, B, rfl, hi', hB, rfl, rfl, rfl⟩
  have hpl := linesL_len (l := L.take i) fun x hx => hw x (List.mem_of_mem_take hx)
  rw [List.length_take] at hpl
  refine Br.intro (fun hlt => ?_) (fun hge => fun w G cx => ?_)
  · have hlt : i < L.length := by have := of_decide_eq_true hlt; omega
    obtain ⟨bb, oo, hp⟩ := src.ptr (by omega)
    obtain ⟨r, rc, he, k1, k2, k3⟩ := hc i hlt
    have hlw := hw L[i] (List.getElem_mem _)
    have hrs := rowB_small hlw.row hlw.val
    have s0 := intB_size hlw.inn.batch
    have s1 := intB_size hlw.inn.time
    have s2 := intB_size hlw.inn.n
    have s3 := intB_size hlw.inn.cause
    have s4 := intB_size hlw.inn.why
    have s5 := textB_size (s := rowB L[i].row) (by omega)
    have hlB := lineS_size hlw
    have hstep : linesL (L.take (i + 1)) = linesL (L.take i) ++ (lineS L[i]).data.toList := by rw [List.take_succ_eq_append_getElem hlt, linesL_app, linesL_one]
    refine ⟨by omega, ptrK_intro bb oo hp fun w G cx => ⟨L[i].no, L[i].batch, L[i].time, r, L[i].row.length, rc, L[i].n, L[i].cause, L[i].why, by rw [Int.toNat_natCast]; exact src_at (S := Q) (G := R ++ G) src hp ((Ctx.dropF cx).re (List.append_assoc _ _ _)) he, fun _ => ⟨B ++ (Q ++ R), Φ2, inferInstance, fun w G cx => cx, fun w G cx => ?_⟩⟩⟩
    refine (Int_in (.inl ⟨hT.go, hlw.inn.batch⟩)).toS cx ⟨fun w G cx => cx, fun w G cx => (Int_in (.inl ⟨hT.go, hlw.inn.time⟩)).toS cx ⟨fun w G cx => cx, by show (intB L[i].batch).size + (intB L[i].time).size ≤ _; omega, fun w G cx => (RowBytes_in r rc L[i].row hT.go (fun M w h => src_sl src hlt he h) (by have := hlw.row; omega) (fun v hv => by have := (hlw.val v hv).2; omega)).toS cx ⟨fun w G cx => cx, fun w G cx => (Text_in (.inl ⟨hT.go, by unfold I64; omega⟩) (by omega)).toS cx ⟨fun w G cx => cx, by show (intB L[i].batch ++ intB L[i].time).size + (textB (rowB L[i].row)).size ≤ _; rw [size_app]; omega, fun w G cx => (Int_in (.inl ⟨hT.go, hlw.inn.n⟩)).toS cx ⟨fun w G cx => cx, by show (intB L[i].batch ++ intB L[i].time ++ textB (rowB L[i].row)).size + (intB L[i].n).size ≤ _; rw [size_app, size_app]; omega, fun w G cx => (Int_in (.inl ⟨hT.go, hlw.inn.cause⟩)).toS cx ⟨fun w G cx => cx, by show (intB L[i].batch ++ intB L[i].time ++ textB (rowB L[i].row) ++ intB L[i].n).size + (intB L[i].cause).size ≤ _; rw [size_app, size_app, size_app]; omega, fun w G cx => (Int_in (.inl ⟨hT.go, hlw.inn.why⟩)).toS cx ⟨fun w G cx => cx, by show (intB L[i].batch ++ intB L[i].time ++ textB (rowB L[i].row) ++ intB L[i].n ++ intB L[i].cause).size + (intB L[i].why).size ≤ _; rw [size_app, size_app, size_app, size_app]; omega, fun w G cx => ?_⟩⟩⟩⟩⟩⟩⟩
    refine WriteString_use (lineS L[i]) hB (cx.re (List.append_assoc _ _ _)) (by rw [List.length_append]; omega) fun B2 w hB2 cx => ⟨_, _, rfl, B2 ++ (Q ++ R), Φ2, inferInstance, by rw [List.append_assoc]; exact cx, by unfold I64; omega, _, Φ2, L.length - (i + 1), inferInstance, fun w G cx => cx, ⟨i + 1, B2, by omega, hlt, ?_, rfl, rfl, rfl⟩, by omega⟩
    rw [hstep, ← List.append_assoc]; exact hB2
  · have hge : i = L.length := by have := of_decide_eq_false hge; omega
    subst hge
    rw [List.take_length] at hB
    refine String_use hB (cx.re (List.append_assoc _ _ _)) fun w cx => ⟨_, rfl, Q ++ R, Φ2, inferInstance, cx, fun w G cx => ⟨?_, cx.left⟩⟩
    rw [← hpre]; rfl
theorem LinesB_in [Stable Φ] [hT : Has Φ TabI] {L : List LineD} [hΦ : Has Φ (fun M w => Sl M w p L)] (hl : L.length ≤ 1000000) (hw : ∀ x ∈ L, LineW x) : GivesIn Φ Tryz.prog F.sink_linesBytes #[.slice p L.length cap] (.string ⟨(linesS L).toArray⟩) :=
  ⟨fun W w S c => by
    have hth := (hΦ.go _ _ c.phi).there
    obtain ⟨cs, c1⟩ := srcOf c (hΦ.go _ _ c.phi)
    exact GivesIn.use (GivesQ.in (LinesB_q (Φ := fun M w => Φ M w ∧ SrcF p L cs M w) (src_fact (Φ := fun M w => Φ M w ∧ SrcF p L cs M w) hth (fun M w h => h.2)) (rows7 c1.phi.2.2) hl hw)) c1 fun w' c => ⟨rfl, c.fst⟩⟩

/-- the encoding -/
theorem Bytes_q [Stable Φ] [hT : Has Φ TabI] [hF : Has Φ (SkF q st)] (hq : SkQ q st) (hW : SkW st) {n : Nat} (hs : SkS st n) (hn : n ≤ 400000) : GivesQ (SkO q st) Φ Tryz.prog F.sink_Sink_Bytes #[snk q] (.string (skB st)) := by
  have hsz := skB_size hW hs hn
  have h1 := hs.lines
  have h2 := hs.aside
  have h3 := hs.bats
  have h4 := hs.key
  have e : skB st = intB st.kind ++ ⟨(numsL st.key).toArray⟩ ++ ⟨(numsL st.bats).toArray⟩ ++ ⟨(linesS st.lines).toArray⟩ ++ intB st.prep ++ ⟨(linesS st.aside).toArray⟩ := rfl
  rw [e, size_app, size_app, size_app, size_app, size_app] at hsz
  have hK : Has Φ (fun M w => Sl M w q.kp st.key) := ⟨fun M w h => (hF.go M w h).2.1⟩
  have hA : Has Φ (fun M w => Sl M w q.ap st.aside) := ⟨fun M w h => (hF.go M w h).2.2⟩
  refine gives_q (Bsink_Sink_Bytes_run q.sb 0) fun W R => ?_
  refine ⟨SkO q st ++ R, Φ, inferInstance, fun w G cx => cx, st.kind, fun w G cx => ⟨_, sk_cell (i := 0) cx rfl, rfl⟩, q.kp, st.key.length, q.kc, fun w G cx => ⟨_, _, _, sk_cell (i := 1) cx rfl, rfl⟩, q.bp, st.bats.length, q.bc, fun w G cx => ⟨_, _, _, sk_cell (i := 2) cx rfl, rfl⟩, q.lp, st.lines.length, q.lc, fun w G cx => ⟨_, _, _, sk_cell (i := 3) cx rfl, rfl⟩, st.prep, fun w G cx => ⟨_, sk_cell (i := 4) cx rfl, rfl⟩, q.ap, st.aside.length, q.ac, fun w G cx => ⟨_, _, _, sk_cell (i := 5) cx rfl, rfl⟩, fun w G cx => ?_⟩
  have hr7 := rows7 (hF.go _ _ cx.phi).1
  refine (Int_in (.inl ⟨hT.go, hW.kind⟩)).toS cx ⟨fun w G cx => cx, fun w G cx => (Nums_in (l := st.key) (by omega)).toS cx ⟨fun w G cx => cx, by show (intB st.kind).size + (ByteArray.mk (numsL st.key).toArray).size ≤ _; omega, fun w G cx => (Nums_q (l := st.bats) (srcz_bats hq) (by omega) hW.bats).toS cx ⟨fun w G cx => cx, by show (intB st.kind ++ ByteArray.mk (numsL st.key).toArray).size + (ByteArray.mk (numsL st.bats).toArray).size ≤ _; rw [size_app]; omega, fun w G cx => (LinesB_q (L := st.lines) (src_sk hq fun M w h => (hF.go M w h).1) hr7 (by omega) hW.lines).toS cx ⟨fun w G cx => cx, by show (intB st.kind ++ ByteArray.mk (numsL st.key).toArray ++ ByteArray.mk (numsL st.bats).toArray).size + (ByteArray.mk (linesS st.lines).toArray).size ≤ _; rw [size_app, size_app]; omega, fun w G cx => (Int_in (.inl ⟨hT.go, hW.prep⟩)).toS cx ⟨fun w G cx => cx, by show (intB st.kind ++ ByteArray.mk (numsL st.key).toArray ++ ByteArray.mk (numsL st.bats).toArray ++ ByteArray.mk (linesS st.lines).toArray).size + (intB st.prep).size ≤ _; rw [size_app, size_app, size_app]; omega, fun w G cx => (LinesB_in (L := st.aside) (by omega) hW.aside).toS cx ⟨fun w G cx => cx, by show (intB st.kind ++ ByteArray.mk (numsL st.key).toArray ++ ByteArray.mk (numsL st.bats).toArray ++ ByteArray.mk (linesS st.lines).toArray ++ intB st.prep).size + (ByteArray.mk (linesS st.aside).toArray).size ≤ _; rw [size_app, size_app, size_app, size_app]; omega, fun w G cx => ⟨rfl, cx.left⟩⟩⟩⟩⟩⟩⟩
end
end Go.Proofs.YtjlfpkgjcffilaaGreatDoor
end

