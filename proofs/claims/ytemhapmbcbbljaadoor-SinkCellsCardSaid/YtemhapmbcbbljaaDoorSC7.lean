/-
  The walks of strings.Builder, of the decimal form of ints, and of the encodings of ints and texts.
-/
import Derived.Test.YtemhapmbcbbljaaDoorSC5
import Derived.Test.YtemhapmbcbbljaaDoorSC6
import Derived.Test.YtemhapmbcbbljaaDoorSC4
import Derived.Lib.ItoaNum
import Derived.Lib.ConvBytes
import Derived.Lib.AtoiErrMem
import Derived.Lib.AppendZeros
import Derived.Lib.SliceRun

set_option linter.unusedVariables false
set_option linter.unusedSimpArgs false
section
namespace Go.Proofs.YtemhapmbcbbljaaDoor
open Go.Vc
abbrev BdT (b : Nat) (l : List UInt8) (R : List Own) : Prop := Bd 83 5 b l R
theorem bd_info : ∃ j, Tryd.prog.info? 83 = some j ∧ j.size = 2 := by
  have h : (Tryd.prog.info? 83).map (·.size) = some 2 := by kernel_rfl
  exact Option.map_eq_some_iff.1 h
set_option maxHeartbeats 1000000 in
set_option maxRecDepth 100000 in
theorem copyCheck_used (b : Nat) (w : World) (h0 : w.cell? ⟨b, 0, none⟩ = some (.pointer (some ⟨b, 0, none⟩))) :
    Calls Tryd.prog 59 #[.pointer (some ⟨b, 0, none⟩)] w fun e w' => e = .returned (.tuple #[]) ∧ w' = w := by
  obtain ⟨j, hj, _⟩ := bd_info
  go_enter Tryd.func59, Tryd.ntmps59
  go_wp2
  rw [Lib.run_neq_ptr_same w _ Tryd.underlying80 hj]
  go_wp2
  go_end0
  exact ⟨rfl, rfl⟩
set_option maxHeartbeats 1000000 in
set_option maxRecDepth 100000 in
theorem copyCheck_fresh (b : Nat) (w : World) (h0 : w.cell? ⟨b, 0, none⟩ = some (.pointer none)) (hsh : w.shape? b = some (83, 2)) (hfz : w.frozen? ⟨b, 0, none⟩ = false) :
    Calls Tryd.prog 59 #[.pointer (some ⟨b, 0, none⟩)] w fun e w' => e = .returned (.tuple #[]) ∧ w' = w.setCell ⟨b, 0, none⟩ (.pointer (some ⟨b, 0, none⟩)) := by
  obtain ⟨j, hj, hjs⟩ := bd_info
  go_enter Tryd.func59, Tryd.ntmps59
  go_wp2
  rw [Lib.run_to_unsafe w ⟨b, 0, none⟩ Tryd.underlying80 Tryd.underlying100 hj (by rw [hjs]; decide) hsh (Nat.zero_lt_succ 1)]
  simp only [Result.andThen]
  rw [Oper.upon_value]
  go_wp2
  rw [run_callFunc_extern Tryd.func68 (by kernel_rfl) (by kernel_rfl) (by kernel_rfl) (e := Extern.AbiNoEscape.same) (by kernel_rfl)]
  rw [Lib.run_noEscape]
  simp only [Result.andThen]
  rw [Oper.upon_value]
  go_wp2
  rw [Lib.run_from_unsafe w ⟨b, 0, none⟩ Tryd.underlying100 Tryd.underlying80 hj hsh (by kernel_rfl)]
  simp only [Result.andThen]
  rw [Oper.upon_value]
  go_wp2
  go_end0
  exact ⟨rfl, rfl⟩
theorem copyCheck_use {W w : World} {S : List Own} {Φ : PW} [Stable Φ] {b : Nat} {pa v : Value} (hp : pa = .pointer none ∨ pa = .pointer (some ⟨b, 0, none⟩)) (c : Ctx W w (.blk b [pa, v] 83 :: S) Φ) {K : Ending → World → Prop}
    (hk : ∀ w', Ctx W w' (.blk b [.pointer (some ⟨b, 0, none⟩), v] 83 :: S) Φ → K (.returned (.tuple #[])) w') : Calls Tryd.prog F.strings_Builder_copyCheck #[.pointer (some ⟨b, 0, none⟩)] w K := by
  have hb : w.heap[b]? = some (.cells #[pa, v] 83 (0, 0)) := c.blk 0 rfl
  rcases hp with rfl | rfl
  · exact (copyCheck_fresh b w (c.get 0 rfl rfl) (by simp [World.shape?, hb]) (by simp [World.frozen?, hb])).mono fun e w' ⟨he, hw⟩ => by
      subst he
      exact hk w' (c.put 0 hw rfl)
  · exact (copyCheck_used b w (c.get 0 rfl rfl)).mono fun e w' ⟨he, hw⟩ => by
      subst he; subst hw
      exact hk w' c
theorem byte_info : ∃ i, Tryd.prog.info? 5 = some i ∧ i.zero = some (.int .u8 0) ∧ i.size = 1 ∧ i.bytes = 1 := by
  have h : (Tryd.prog.info? 5).map (fun i => (i.zero, i.size, i.bytes)) = some (some (.int .u8 0), 1, 1) := by kernel_rfl
  obtain ⟨i, hi, he⟩ := Option.map_eq_some_iff.1 h
  simp only [Prod.mk.injEq] at he
  exact ⟨i, hi, he⟩
theorem strCells_bytes (s : ByteArray) : Lib.strCells s = Lib.byteCells s.data.toList := rfl
theorem WriteString_use {W w : World} {S R : List Own} {Φ : PW} [Stable Φ] {b : Nat} {l : List UInt8} (s : ByteArray) (h : BdT b l R) (c : Ctx W w (R ++ S) Φ) (hlen : l.length + s.size ≤ 100000000000) {K : Ending → World → Prop}
    (hk : ∀ R' w', BdT b (l ++ s.data.toList) R' → Ctx W w' (R' ++ S) Φ → K (.returned (.tuple #[.int .i64 s.size, .nilIface])) w') : Calls Tryd.prog F.strings_Builder_WriteString #[.pointer (some ⟨b, 0, none⟩), .string s] w K := by
  obtain ⟨pa, p, cap, hpa, rfl⟩ := h
  obtain ⟨i, hi, hz, hsz, hby⟩ := byte_info
  refine (Bstrings_Builder_WriteString_run b 0 s (J := fun u w' => K (.returned u) w') c ?_).mono fun e w' ⟨v, he, hj⟩ => by rw [he]; exact hj
  refine fun w G c => copyCheck_use hpa c fun w c => ⟨rfl, [.blk b [.pointer (some ⟨b, 0, none⟩), .slice p l.length cap] 83, .buf p l.length cap (Lib.byteCells l) 5 1] ++ S, Φ, inferInstance, c, fun w G c => ⟨p, l.length, cap, c.get 0 rfl rfl, fun w G c => ?_⟩⟩
  obtain ⟨p', cap', w', hrun, c'⟩ := Ctx.appStr (P := Tryd.prog) (t := 81) (u := 9) (ty := 81) (kb := #[false, false]) (c.swap) Tryd.underlying81 Tryd.underlying9 hi hz hsz hby s (by omega) (by unfold maxLen; omega)
  refine ⟨p', _, cap', w', hrun, [.blk b [.pointer (some ⟨b, 0, none⟩), .slice p l.length cap] 83, .buf p' (l.length + s.size) cap' (Lib.byteCells l ++ Lib.strCells s) 5 1] ++ S, Φ, inferInstance, c'.swap, fun w G c => ⟨c.can 0 rfl (by simp), fun w' hw' => ?_⟩⟩
  refine ⟨[.blk b [.pointer (some ⟨b, 0, none⟩), .slice p' (l.length + s.size) cap'] 83, .buf p' (l.length + s.size) cap' (Lib.byteCells l ++ Lib.strCells s) 5 1] ++ S, Φ, inferInstance, c.put 0 hw' rfl, fun w G c => hk [.blk b [.pointer (some ⟨b, 0, none⟩), .slice p' (l.length + s.size) cap'] 83, .buf p' (l.length + s.size) cap' (Lib.byteCells l ++ Lib.strCells s) 5 1] w ⟨_, p', cap', .inr rfl, ?_⟩ c.left⟩
  have hl : (l ++ s.data.toList).length = l.length + s.size := by rw [List.length_append, Array.length_toList]; rfl
  rw [hl, strCells_bytes, Lib.byteCells_append]
theorem String_use {W w : World} {S R : List Own} {Φ : PW} [Stable Φ] {b : Nat} {l : List UInt8} (h : BdT b l R) (c : Ctx W w (R ++ S) Φ) {K : Ending → World → Prop}
    (hk : ∀ w', Ctx W w' S Φ → K (.returned (.string ⟨l.toArray⟩)) w') : Calls Tryd.prog F.strings_Builder_String #[.pointer (some ⟨b, 0, none⟩)] w K :=
  Bd.string Tryd.lays169 Tryd.Builder_Extra_169 h c hk
end Go.Proofs.YtemhapmbcbbljaaDoor
end

section
namespace Go.Vc
theorem GivesIn.know {Φ : PW} {P : Program} {f : FuncId} {args : Array Value} {v : Value} {p : Prop} (hΦ : ∀ M w, Φ M w → p) (h : p → GivesIn Φ P f args v) : GivesIn Φ P f args v :=
  ⟨fun W w S c => (h (hΦ _ _ c.phi)).go W w S c⟩
end Go.Vc
namespace Go.Proofs.YtemhapmbcbbljaaDoor
open Go.Vc
def numB (n : Int) : ByteArray := ⟨(Lib.itoa n).toArray⟩
def intB (n : Int) : ByteArray := numB n ++ ByteArray.mk #[59]
def natB (n : Int) : ByteArray := if n < 0 then ByteArray.mk #[] else intB n
def textB (s : ByteArray) : ByteArray := numB s.size ++ ByteArray.mk #[58] ++ s ++ ByteArray.mk #[44]
def valB (v : ValD) : ByteArray := intB v.kind ++ intB v.num ++ textB v.text
def valsL (r : List ValD) : List UInt8 := r.flatMap fun v => (valB v).data.toList
def rowL (r : List ValD) : List UInt8 := (natB r.length).data.toList ++ valsL r
def rowB (r : List ValD) : ByteArray := ⟨(rowL r).toArray⟩
theorem size_app (a b : ByteArray) : (a ++ b).size = a.size + b.size := ByteArray.size_append
theorem size_list (l : List UInt8) : (ByteArray.mk l.toArray).size = l.length := by simp [ByteArray.size]
theorem list_size (a : ByteArray) : a.data.toList.length = a.size := by rw [Array.length_toList]; rfl
theorem nDigits_le : ∀ (k u : Nat), u < 10 ^ k → 0 < k → Lib.nDigits u ≤ k
  | 0, u, _, h => by omega
  | k + 1, u, h, _ => by
    by_cases h1 : u < 10
    · rw [Lib.nDigits_small h1]; omega
    · rw [Lib.nDigits_big h1]
      have hk : 0 < k := by
        rcases Nat.eq_zero_or_pos k with rfl | h2
        · simp at h; omega
        · exact h2
      have := nDigits_le k (u / 10) (by rw [Nat.pow_succ] at h; omega) hk
      omega
theorem itoa_len {n : Int} (h : I64 n) : 1 ≤ (Lib.itoa n).length ∧ (Lib.itoa n).length ≤ 20 := by
  unfold I64 at h
  unfold Lib.itoa
  split
  · have h1 := nDigits_le 19 n.natAbs (by omega) (by decide)
    have h2 := Lib.nDigits_pos n.natAbs
    rw [List.length_cons, Lib.decDigits_length]; omega
  · have h1 := nDigits_le 19 n.toNat (by omega) (by decide)
    have h2 := Lib.nDigits_pos n.toNat
    rw [Lib.decDigits_length]; omega
theorem numB_size {n : Int} (h : I64 n) : 1 ≤ (numB n).size ∧ (numB n).size ≤ 20 := by
  unfold numB; rw [size_list]; exact itoa_len h
theorem intB_size {n : Int} (h : I64 n) : 2 ≤ (intB n).size ∧ (intB n).size ≤ 21 := by
  have := numB_size h
  have e : (ByteArray.mk #[59]).size = 1 := rfl
  unfold intB; rw [size_app, e]; omega
theorem natB_size {n : Int} (h : I64 n) : (natB n).size ≤ 21 := by
  unfold natB
  split
  · exact Nat.zero_le _
  · exact (intB_size h).2
theorem textB_size {s : ByteArray} (h : s.size ≤ 9223372036854775807) : (textB s).size ≤ s.size + 22 ∧ s.size + 3 ≤ (textB s).size := by
  have := numB_size (n := s.size) (by unfold I64; omega)
  have e : (ByteArray.mk #[58]).size = 1 := rfl
  have e2 : (ByteArray.mk #[44]).size = 1 := rfl
  unfold textB; rw [size_app, size_app, size_app, e, e2]; omega
theorem valB_size {v : ValD} (h1 : I64 v.kind) (h2 : I64 v.num) (h : v.text.size ≤ 9223372036854775807) : (valB v).size ≤ v.text.size + 64 := by
  have a := intB_size h1
  have b := intB_size h2
  have c := textB_size h
  unfold valB; rw [size_app, size_app]; omega
theorem valsL_app (a b : List ValD) : valsL (a ++ b) = valsL a ++ valsL b := by simp [valsL]
theorem valsL_one (v : ValD) : valsL [v] = (valB v).data.toList := by simp [valsL]
theorem valsL_len {m : Nat} : ∀ {r : List ValD}, (∀ v ∈ r, (I64 v.kind ∧ I64 v.num) ∧ v.text.size ≤ m) → m ≤ 9223372036854775807 → (valsL r).length ≤ r.length * (m + 64)
  | [], _, _ => by simp [valsL]
  | v :: r, h, hm => by
    have h1 := valsL_len (r := r) (fun u hu => h u (List.mem_cons_of_mem _ hu)) hm
    obtain ⟨⟨a, b⟩, c⟩ := h v List.mem_cons_self
    have h2 := valB_size a b (by omega)
    have e : valsL (v :: r) = (valB v).data.toList ++ valsL r := by simp [valsL]
    rw [e, List.length_append, list_size, List.length_cons, Nat.add_mul]
    omega
theorem rowL_len {m : Nat} {r : List ValD} (h : ∀ v ∈ r, (I64 v.kind ∧ I64 v.num) ∧ v.text.size ≤ m) (hm : m ≤ 9223372036854775807) (hr : r.length ≤ 1000000) : (rowL r).length ≤ 21 + r.length * (m + 64) := by
  have h1 := valsL_len h hm
  have h2 := natB_size (n := (r.length : Int)) (by unfold I64; omega)
  unfold rowL; rw [List.length_append, list_size]; omega
theorem rep_val {M : List Nat} {w : World} {cs : List Value} {v : ValD} (h : Gv.rep M w cs v) : cs = [.int .i64 v.kind, .int .i64 v.num, .string v.text] ∧ I64 v.kind ∧ I64 v.num ∧ v.text.size ≤ maxLen := by
  obtain ⟨_, _, rfl, ⟨rfl, h1⟩, _, _, rfl, ⟨rfl, h2⟩, rfl, h3⟩ := h
  exact ⟨rfl, h1, h2, h3⟩
theorem sl_i64 {M : List Nat} {w : World} {p : Option Addr} {l : List ValD} (h : Sl M w p l) : ∀ v ∈ l, (I64 v.kind ∧ I64 v.num) ∧ v.text.size ≤ maxLen := by
  intro v hv
  obtain ⟨i, hi, rfl⟩ := List.getElem_of_mem hv
  obtain ⟨_, _, _, _, _, _, hr⟩ := h i hi
  obtain ⟨_, h1, h2, h3⟩ := rep_val hr
  exact ⟨⟨h1, h2⟩, h3⟩
abbrev tabN : String := ((Rows.sinkCellsRow.laid.map Prod.fst).drop 2).headD default
abbrev TabI : PW := Tab Tryd.prog tabN .u64 Lib.pow10Tab
theorem Itoa_in {Φ : PW} [Stable Φ] (hΦ : ∀ M w, Φ M w → TabI M w) (n : Int) (h : I64 n) : GivesIn Φ Tryd.prog F.strconv_Itoa #[.int .i64 n] (.string (numB n)) :=
  itoa_in (name := tabN) (fun n h0 h1 w ht => Any.strconv_Itoa Tryd.laysM171 n h0 h1 w ht) hΦ n h
theorem Itoa_small (i : Nat) (hi : i < 100) : Gives Tryd.prog F.strconv_Itoa #[.int .i64 i] (.string (numB i)) :=
  Quiet.gives ⟨fun w => by
    have h := Any.strconv_Itoa_small { Tryd.lays171 with } i hi w
    rw [← Lib.itoa_nonneg] at h
    exact h⟩
def Dec (Φ : PW) (n : Int) : Prop := (∀ M w, Φ M w → TabI M w) ∧ I64 n ∨ ∃ i : Nat, i < 100 ∧ n = i
theorem Itoa_dec {Φ : PW} [Stable Φ] {n : Int} (h : Dec Φ n) : GivesIn Φ Tryd.prog F.strconv_Itoa #[.int .i64 n] (.string (numB n)) := by
  rcases h with ⟨h1, h2⟩ | ⟨i, hi, rfl⟩
  · exact Itoa_in h1 n h2
  · exact (Itoa_small i hi).in
theorem Dec.i64 {Φ : PW} {n : Int} (h : Dec Φ n) : I64 n := by
  rcases h with ⟨_, h2⟩ | ⟨i, hi, rfl⟩
  · exact h2
  · unfold I64; omega
theorem Int_in {Φ : PW} [Stable Φ] {n : Int} (h : Dec Φ n) : GivesIn Φ Tryd.prog F.wire_Int #[.int .i64 n] (.string (intB n)) := by
  refine gives_in (Bwire_Int_run n) fun W R => ?_
  have := numB_size h.i64
  exact fun w G cx => (Itoa_dec h).use cx fun w cx => ⟨_, rfl, R, Φ, inferInstance, cx, by show (numB n).size + 1 ≤ _; omega, fun w G cx => ⟨rfl, cx.left⟩⟩
theorem Num_in {Φ : PW} [Stable Φ] {n : Int} (h : Dec Φ n) : GivesIn Φ Tryd.prog F.wire_Num #[.int .i64 n] (.string (natB n)) := by
  refine gives_in (Bwire_Num_run n) fun W R => Br.intro (fun hn => fun w G cx => ⟨?_, cx.left⟩) (fun hn => fun w G cx => (Int_in h).use cx fun w cx => ⟨_, rfl, R, Φ, inferInstance, cx, fun w G cx => ⟨?_, cx.left⟩⟩)
  · unfold natB; rw [if_pos (of_decide_eq_true hn)]
  · unfold natB; rw [if_neg (of_decide_eq_false hn)]
theorem Text_in {Φ : PW} [Stable Φ] {s : ByteArray} (h : Dec Φ s.size) (hs : s.size ≤ 1000000000000) : GivesIn Φ Tryd.prog F.wire_Text #[.string s] (.string (textB s)) := by
  refine gives_in (Bwire_Text_run s) fun W R => ?_
  have h1 := numB_size h.i64
  have e : (ByteArray.mk #[58]).size = 1 := rfl
  have e2 : (ByteArray.mk #[44]).size = 1 := rfl
  exact fun w G cx => (Itoa_dec h).use cx fun w cx => ⟨_, rfl, R, Φ, inferInstance, cx, by show (numB s.size).size + 1 ≤ _; omega, by show (numB s.size ++ ByteArray.mk #[58]).size + s.size ≤ _; rw [size_app, e]; omega, by show (numB s.size ++ ByteArray.mk #[58] ++ s).size + 1 ≤ _; rw [size_app, size_app, e]; omega, fun w G cx => ⟨rfl, cx.left⟩⟩
theorem Bytes_in {Φ : PW} [Stable Φ] (v : ValD) (hΦ : ∀ M w, Φ M w → TabI M w) (h1 : I64 v.kind) (h2 : I64 v.num) (hs : v.text.size ≤ 1000000000000) : GivesIn Φ Tryd.prog F.value_Bytes #[v.v] (.string (valB v)) := by
  refine gives_in (Bvalue_Bytes_run v.kind v.num v.text) fun W R => ?_
  have a := intB_size h1
  have b := intB_size h2
  have c := textB_size (s := v.text) (by omega)
  exact fun _ => ⟨R, Φ, inferInstance, fun w G cx => cx, fun w G cx => (Int_in (.inl ⟨hΦ, h1⟩)).use cx fun w cx => ⟨_, rfl, R, Φ, inferInstance, cx, fun w G cx => cx, fun w G cx => (Int_in (.inl ⟨hΦ, h2⟩)).use cx fun w cx => ⟨_, rfl, R, Φ, inferInstance, cx, fun w G cx => cx, by show (intB v.kind).size + (intB v.num).size ≤ _; omega,
    fun w G cx => (Text_in (.inl ⟨hΦ, by unfold I64; omega⟩) hs).use cx fun w cx => ⟨_, rfl, R, Φ, inferInstance, cx, fun w G cx => cx, by show (intB v.kind ++ intB v.num).size + (textB v.text).size ≤ _; rw [size_app]; omega, fun w G cx => ⟨rfl, cx.left⟩⟩⟩⟩⟩
theorem RowBytes_in {Φ : PW} [Stable Φ] (p : Option Addr) (cap : Nat) (r : List ValD) (hT : ∀ M w, Φ M w → TabI M w) (hΦ : ∀ M w, Φ M w → Sl M w p r) (hr : r.length ≤ 1000000) (ht : ∀ v ∈ r, v.text.size ≤ 10000) :
    GivesIn Φ Tryd.prog F.value_RowBytes #[.slice p r.length cap] (.string (rowB r)) := by
  refine .there (fun M w h => (hΦ M w h).there) fun hth => .know (fun M w h => sl_i64 (hΦ M w h)) fun hi => ?_
  have hv : ∀ v ∈ r, (I64 v.kind ∧ I64 v.num) ∧ v.text.size ≤ 10000 := fun v h => ⟨(hi v h).1, ht v h⟩
  have hL := rowL_len hv (by decide) hr
  have hL : (rowL r).length ≤ 20000000000 := by
    have : r.length * (10000 + 64) ≤ 1000000 * 10064 := Nat.mul_le_mul hr (Nat.le_refl _)
    omega
  have hnat : (natB r.length).data.toList.length ≤ 20000000000 := by unfold rowL at hL; rw [List.length_append] at hL; omega
  refine gives_in (Bvalue_RowBytes_run p r.length cap) fun W R => ?_
  refine fun b w G cx => (Num_in (Φ := Φ) (.inl ⟨hT, by unfold I64; omega⟩)).use cx fun w cx => ⟨_, rfl, .blk b [.pointer none, .slice none 0 0] 83 :: R, Φ, inferInstance, cx, fun w G cx => ?_⟩
  refine WriteString_use (natB r.length) Bd.nil (Bd.fresh cx) (by rw [← list_size]; simp only [List.length_nil]; omega) fun R1 w hB cx => ⟨_, _, rfl, R1 ++ R, Φ, inferInstance, by rw [List.append_assoc]; exact cx, ?_⟩
  rw [List.nil_append] at hB
  clear cx
  refine exI_mk (fun iI R' Φ' k => ∃ (i : Nat) (Q : List Own), iI = i ∧ i ≤ r.length ∧ BdT b ((natB r.length).data.toList ++ valsL (r.take i)) Q ∧ R' = Q ++ R ∧ Φ' = Φ ∧ k = r.length - i) ⟨⟨_, Φ, _, inferInstance, fun w G cx => cx, 0, R1, rfl, Nat.zero_le _, by rw [List.take_zero, show valsL [] = [] from rfl, List.append_nil]; exact hB, rfl, rfl, rfl⟩, ?_⟩
  rintro iI R2 Φ2 k _ ⟨i, Q, rfl, hi, hQ, rfl, rfl, rfl⟩
  refine Br.intro (fun hlt => ?_) (fun hge => fun w G cx => ?_)
  · have hlt : i < r.length := by have := of_decide_eq_true hlt; omega
    obtain ⟨g, o, rfl⟩ := hth (by omega)
    obtain ⟨⟨h1, h2⟩, h3⟩ := hv r[i] (List.getElem_mem hlt)
    have hsz := valB_size h1 h2 (by omega)
    have hlen : ((natB r.length).data.toList ++ valsL (r.take (i + 1))).length ≤ 20000000000 := by
      have e : valsL r = valsL (r.take (i + 1)) ++ valsL (r.drop (i + 1)) := by rw [← valsL_app, List.take_append_drop]
      unfold rowL at hL
      rw [e, List.length_append, List.length_append] at hL
      rw [List.length_append]; omega
    have hstep : valsL (r.take (i + 1)) = valsL (r.take i) ++ (valB r[i]).data.toList := by rw [List.take_succ_eq_append_getElem hlt, valsL_app, valsL_one]
    refine ⟨by omega, ptrK_intro g o rfl fun w G cx => ⟨r[i].kind, r[i].num, r[i].text, by rw [Int.toNat_natCast]; exact sl_val (hΦ _ _ cx.phi) hlt, fun _ w G cx => (Bytes_in (Φ := Φ2) r[i] hT h1 h2 (by omega)).use cx fun w cx => ⟨_, rfl, Q ++ R, Φ2, inferInstance, cx, fun w G cx => ?_⟩⟩⟩
    refine WriteString_use (valB r[i]) hQ (cx.re (List.append_assoc _ _ _)) (by rw [hstep, ← List.append_assoc, List.length_append, list_size] at hlen; omega) fun Q' w hQ' cx => ⟨_, _, rfl, Q' ++ R, Φ2, inferInstance, by rw [List.append_assoc]; exact cx, by unfold I64; omega, _, Φ2, r.length - (i + 1), inferInstance, fun w G cx => cx, ⟨i + 1, Q', by omega, hlt, ?_, rfl, rfl, rfl⟩, by omega⟩
    rw [hstep, ← List.append_assoc]; exact hQ'
  · have hge : i = r.length := by have := of_decide_eq_false hge; omega
    subst hge
    rw [List.take_length] at hQ
    exact String_use hQ (cx.re (List.append_assoc _ _ _)) fun w cx => ⟨_, rfl, R, Φ2, inferInstance, cx, fun w G cx => ⟨rfl, cx.left⟩⟩
end Go.Proofs.YtemhapmbcbbljaaDoor
end

section
namespace Go.Vc
def BytesAt (b : Nat) (l : List UInt8) : PW := fun M w => ∀ j, (hj : j < l.length) → b ∉ M ∧ w.cell? ⟨b, j, none⟩ = some (.int .u8 (l[j].toNat : Int))
instance instStableBytesAt (b : Nat) (l : List UInt8) : Stable (BytesAt b l) := ⟨fun {M M' w w'} hs h j hj => by
  obtain ⟨h1, h2⟩ := h j hj
  have hlt : b < w.heap.size := by
    rcases Nat.lt_or_ge b w.heap.size with h' | h'
    · exact h'
    · simp [World.cell?, Array.getElem?_eq_none h'] at h2
  refine ⟨fun hm => ?_, hs.chg.cell h2 h1⟩
  rcases hs.sub b hm with h | h
  · exact h1 h
  · omega⟩
theorem chg_bytes {w : World} {e : TypeId} {s : ByteArray} : Chg [] w (Lib.bytesWorld w e s) :=
  have h := Lib.bytesWorld_below w e s
  ⟨h.os, h.tape, h.output, h.size, fun k hk _ => h.block k hk⟩
theorem Ctx.bytes {W w : World} {S : List Own} {Φ : PW} [Stable Φ] (c : Ctx W w S Φ) (e : TypeId) (s : ByteArray) : Ctx W (Lib.bytesWorld w e s) S (fun M w' => Φ M w' ∧ BytesAt w.heap.size s.data.toList M w') := by
  refine (c.call chg_bytes).add fun j hj => ⟨fun hm => absurd (c.lt hm) (Nat.lt_irrefl _), ?_⟩
  have hj2 : j < s.size := by
    rw [Array.length_toList] at hj
    exact hj
  rw [Lib.bytesWorld_cell w e s j hj2, show s.data.toList.getD j 0 = s.data.toList[j] by rw [List.getD, List.getElem?_eq_getElem hj]; rfl]
end Go.Vc
namespace Go.Proofs.YtemhapmbcbbljaaDoor
open Go.Vc
section
variable {Φ : PW} {p : Option Addr} {cap : Nat} {r : List ValD} {l : List DeltaD}
end
end Go.Proofs.YtemhapmbcbbljaaDoor
end

section
namespace Go.Proofs.YtemhapmbcbbljaaDoor
open Go.Vc
structure BatD where
  no : Int
  mark : Int
  stop : Nat
abbrev BatD.cells (x : BatD) : List Value := [.int .i64 x.no, .int .i64 x.mark, .int .i64 x.stop]
structure LedD where
  lines : List LineD
  bats : List BatD
abbrev LKey : Type := Int × ByteArray
def LineD.at (x : LineD) : LKey := (x.time, rowB x.row)
def cntL : List LineD → LKey → Int
  | [], _ => 0
  | x :: l, k => (if x.at = k then x.n else 0) + cntL l k
structure LP where
  lb : Nat
  lp : Option Addr
  lc : Nat
  cs : List Value
  bp : Option Addr
  bc : Nat
  mb : Nat
  es : List MEnt
  clk : Nat
structure LedQ (q : LP) (st : LedD) : Prop where
  map : MapOk q.es q.clk
  cnt : ∀ k, getM q.es k = cntL st.lines k
  lpt : 0 < st.lines.length → ∃ g, q.lp = some ⟨g, 0, none⟩
  bpt : 0 < st.bats.length → ∃ g, q.bp = some ⟨g, 0, none⟩
  lcap : st.lines.length ≤ q.lc ∧ q.lc ≤ maxLen
  cells : ∀ i (h : i < st.lines.length), ∃ p c, (q.cs.drop (i * 7)).take 7 = st.lines[i].cells p c ∧ st.lines[i].row.length ≤ c ∧ c ≤ maxLen ∧ st.lines[i].In
  len : q.cs.length = st.lines.length * 7
structure LedS (st : LedD) : Prop where
  lines : st.lines.length ≤ 150000
  bats : st.bats.length ≤ 600000
  row : ∀ x ∈ st.lines, x.row.length ≤ 13
  text : ∀ x ∈ st.lines, ∀ v ∈ x.row, v.text.size ≤ 300
  stop : ∀ b ∈ st.bats, b.stop ≤ st.lines.length
theorem LedS.rows {st : LedD} (h : LedS st) : ∀ x ∈ st.lines, x.row.length ≤ 1000000 := fun x hx => by have := h.row x hx; omega
section
variable {Φ : PW} {q : LP} {st : LedD} {W w : World} {R S G : List Own}
end
end Go.Proofs.YtemhapmbcbbljaaDoor
end

section
namespace Go.Proofs.YtemhapmbcbbljaaDoor
open Go.Vc
theorem elems_len7 {M : List Nat} {w : World} {cs : List Value} {l : List LineD} (h : Elems M w cs l) : cs.length = l.length * 7 := h.1
theorem elems_one7 {M : List Nat} {w : World} {cs : List Value} {l : List LineD} (h : Elems M w cs l) : (cs.all fun u => oneC u) = true := by
  have h1 := elems_len7 h
  refine List.all_eq_true.2 fun u hu => ?_
  obtain ⟨j, hj, rfl⟩ := List.getElem_of_mem hu
  have hi : j / 7 < l.length := by omega
  obtain ⟨p, c, e, _⟩ := lrow h hi
  have ha : (((cs.drop (j / 7 * 7)).take 7).all fun u => oneC u) = true := by rw [e]; rfl
  have hm : cs[j] ∈ (cs.drop (j / 7 * 7)).take 7 := by
    refine List.mem_iff_getElem?.2 ⟨j % 7, ?_⟩
    rw [List.getElem?_take_of_lt (by omega), List.getElem?_drop, show j / 7 * 7 + j % 7 = j by omega, List.getElem?_eq_getElem hj]
  exact List.all_eq_true.1 ha _ hm
structure Src (S : List Own) (Φ : PW) (p : Option Addr) (l : List LineD) (cs : List Value) : Prop where
  ptr : 0 < l.length → ∃ b o, p = some ⟨b, o, none⟩
  rd : ∀ {W w : World} {G : List Own} {b o : Nat}, p = some ⟨b, o, none⟩ → Ctx W w (S ++ G) Φ → ∀ j v, cs[j]? = some v → w.cell? ⟨b, o + j, none⟩ = some v
  el : ∀ M w, Φ M w → Elems M w cs l
section
variable {Φ : PW} {q : LP} {st : LedD} {W w : World} {R S G : List Own} {p : Option Addr} {cap : Nat} {l : List LineD} {cs : List Value}
theorem Src.more {Ψ : PW} (h : Src S Φ p l cs) (hi : ∀ M w, Ψ M w → Φ M w) : Src S Ψ p l cs := ⟨h.ptr, fun e c => h.rd e (c.weak hi), fun M w x => h.el M w (hi M w x)⟩
theorem Src.app (h : Src S Φ p l cs) : Src (S ++ R) Φ p l cs := ⟨h.ptr, fun e c => h.rd e (c.re (List.append_assoc _ _ _)), h.el⟩
def SrcF (p : Option Addr) (l : List LineD) (cs : List Value) : PW := fun M w => (∀ b o, p = some ⟨b, o, none⟩ → 0 < l.length → RowIn b o cs M w) ∧ Elems M w cs l
instance instStableSrcF (p : Option Addr) (l : List LineD) (cs : List Value) : Stable (SrcF p l cs) := ⟨fun hs h => ⟨fun b o e h0 => Stable.step (Φ := fun M w => RowIn b o cs M w) hs (h.1 b o e h0), Stable.step (Φ := fun M w => Elems M w cs l) hs h.2⟩⟩
theorem srcOf (c : Ctx W w S Φ) (h : Sl (dom S) w p l) : ∃ cs, Ctx W w S (fun M w => Φ M w ∧ SrcF p l cs M w) := by
  rcases Nat.eq_zero_or_pos l.length with h0 | h0
  · have hl : l = [] := List.eq_nil_of_length_eq_zero h0
    subst hl
    exact ⟨[], c.add ⟨fun _ _ _ h => by simp at h, Elems.nil⟩⟩
  · obtain ⟨b, o, news, hp, g1, g2, g3, g4⟩ := h.cells line_one h0
    obtain ⟨b', o', _, e', hb, hr, _⟩ := h 0 h0
    rw [hp] at e'
    cases e'
    refine ⟨news, c.add ⟨fun b' o' e _ => ?_, g3⟩⟩
    rw [hp] at e
    cases e
    refine ⟨hb, fun j hj => g2 j _ (List.getElem?_eq_getElem hj), ?_⟩
    have hsz : (Gv.ty LineD).size = 7 := rfl
    rw [hsz] at g1
    have := g2 0 _ (List.getElem?_eq_getElem (by omega))
    rcases Nat.lt_or_ge b w.heap.size with h' | h'
    · exact h'
    · simp [World.cell?, Array.getElem?_eq_none h'] at this
theorem src_fact (hth : There p l.length) (hf : ∀ M w, Φ M w → SrcF p l cs M w) : Src [] Φ p l cs where
  ptr := hth
  rd := fun {W w G b o} e c j v hj => by
    have hl := elems_len7 (hf _ _ c.phi).2
    have hjl : j < cs.length := (List.getElem?_eq_some_iff.1 hj).1
    have := ((hf _ _ c.phi).1 b o e (by omega)).2.1 j hjl
    rw [this, ← hj, List.getElem?_eq_getElem hjl]
  el := fun M w h => (hf M w h).2
theorem CloneL_new [Stable Φ] (src : Src S Φ p l cs) (hlen : l.length ≤ 1000000) (c : Ctx W w S Φ) :
    Calls Tryd.prog F.slices_Clone_api_Line_api_Line #[.slice p l.length cap] w fun e w' => ∃ p' c' cs', e = .returned (.slice p' l.length c') ∧ Ctx W w' (bufL p' l.length c' cs' :: S) (fun M w => Φ M w ∧ Elems M w cs' l) := by
  refine (Bslices_Clone_api_Line_api_Line_run p l.length cap (J := fun v w' => ∃ p' c' cs', v = .slice p' l.length c' ∧ Ctx W w' (bufL p' l.length c' cs' :: S) (fun M w => Φ M w ∧ Elems M w cs' l)) c ?_).mono fun e w' ⟨v, he, p', c', cs', hv, rest⟩ => ⟨p', c', cs', by rw [he, hv], rest⟩
  clear c
  refine Br.intro (fun hn => fun w F c => ?_) (fun hn => fun k w F c => ?_)
  · have hl : l = [] := by
      rcases Nat.eq_zero_or_pos l.length with h0 | h0
      · exact List.eq_nil_of_length_eq_zero h0
      · obtain ⟨b, o, e⟩ := src.ptr h0
        rw [e] at hn; cases hn
    subst hl
    exact ⟨none, 0, [], rfl, (c.left.buf0 37 7).add Elems.nil⟩
  · have c' : Ctx W w (bufL (some ⟨k, 0, none⟩) 0 0 [] :: (S ++ F)) Φ := c.toBuf 0 0 7 rfl (by simp) (by simp [maxLen])
    obtain ⟨i, z, e1, e2, e3, e4, e5, e6⟩ := appB_out (P := Tryd.prog) (ts := 30) (t := 37) (size := 7) (bytes := 72) (by kernel_rfl)
    rcases Nat.eq_zero_or_pos l.length with h0 | h0
    · have hl : l = [] := List.eq_nil_of_length_eq_zero h0
      subst hl
      exact ⟨_, _, _, w, run_app (c'.append0 0 rfl e1 e2 p cap), bufL (some ⟨k, 0, none⟩) 0 0 [] :: S, _, instStableAnd Φ (fun M w => Elems M w [] ([] : List LineD)), c'.add Elems.nil, fun w G c => ⟨some ⟨k, 0, none⟩, 0, [], rfl, c.left⟩⟩
    · obtain ⟨b, o, hp⟩ := src.ptr h0
      have hel := src.el _ _ c'.phi
      have hcl := elems_len7 hel
      obtain ⟨p', cap', w', hrun, cx⟩ := c'.append 0 rfl (ty := 30) e1 e2 e3 e4 e5 (a := ⟨b, o, none⟩) (m := l.length) (c2 := cap) (news := cs) h0 hcl (fun j u hj => by rw [addr_add]; exact src.rd hp c'.drop1 j u hj) (fun u hu => List.all_eq_true.1 (elems_one7 hel) u hu) (by rw [e6]; omega) (by omega)
      rw [← hp, Nat.zero_add] at hrun
      rw [Nat.zero_add] at cx
      exact ⟨_, _, _, w', run_app hrun, bufL p' l.length cap' cs :: S, _, instStableAnd Φ (fun M w => Elems M w cs l), cx.weak fun M w h => ⟨h, src.el M w h⟩, fun w G c => ⟨p', cap', cs, rfl, c.left⟩⟩
theorem CloneV_sl [Stable Φ] {r : List ValD} [hΦ : Has Φ (fun M w => Sl M w p r)] (hlen : r.length ≤ 1000000) : GivesSl Φ Tryd.prog F.slices_Clone_api_Value_api_Value #[.slice p r.length cap] r id :=
  ⟨fun W w S c => (CloneV_in (Φ := Φ) p cap r (fun M w h => hΦ.go M w h) (by omega)).use c fun p1 cap1 ds w cx => by
    obtain ⟨c2, hs, _, h2, h3⟩ := Ctx.freeze (α := ValD) cx cx.phi.2
    exact ⟨p1, cap1, rfl, h2, h3, (c2.add hs).weak fun M w h => ⟨h.1.1, h.2⟩⟩⟩
theorem l_row {W w w' : World} {S : List Own} {Φ : PW} [Stable Φ] {g n cap : Nat} {cs : List Value} {l : List LineD} (cx : Ctx W w (bufL (some ⟨g, 0, none⟩) n cap cs :: S) (fun M w => Φ M w ∧ Elems M w cs l)) {i : Nat} (hi : i < l.length) {p : Option Addr} {c : Nat}
    (h1 : l[i].row.length ≤ c) (h2 : c ≤ maxLen) (hs : ∀ M w, Φ M w → Sl M w p l[i].row) (e : w' = w.setCell ⟨g, i * 7 + 3, none⟩ (.slice p l[i].row.length c)) :
    ∃ cs', Ctx W w' (bufL (some ⟨g, 0, none⟩) n cap cs' :: S) (fun M w => Φ M w ∧ Elems M w cs' l) := by
  have hl := lcells_len cx.phi.2
  obtain ⟨p0, c0, hp, _, _, h3, _⟩ := lrow cx.phi.2 hi
  have h := cx.bufPuts 0 rfl rfl (vs := [.slice p l[i].row.length c]) (o := i * 7 + 3) (by omega) (by simp only [List.length_cons, List.length_nil]; omega) e
  have hrows := rows_of (vs := l[i].cells p0 c0) hp
  rw [setL_cell (l[i].cells p0 c0) 3 cs (i * 7) _ (by show 3 < 7; decide) hrows, show (l[i].cells p0 c0).set 3 (.slice p l[i].row.length c) = l[i].cells p c from rfl] at h
  refine ⟨_, h.weak fun M w h => ⟨h.1, ?_⟩⟩
  have := h.2.setAt i hi (rep_line h1 h2 h3 (hs M w h.1))
  rw [List.set_getElem_self] at this
  exact this
end
end Go.Proofs.YtemhapmbcbbljaaDoor
end

section
namespace Go.Proofs.YtemhapmbcbbljaaDoor
open Go.Vc
theorem seg_sum {seg : List DeltaD} {k0 : Key} (h : ∀ x ∈ seg, x.key = k0) (k : Key) (hk : k ≠ k0) : sumK seg k = 0 := sumK_none fun x hx e => hk (by rw [← e, h x hx])
theorem Norm.snoc {c : List DeltaD} {x : DeltaD} (h : Norm c) (h1 : ∀ y ∈ c, cmpK y.key x.key < 0) (h2 : x.n ≠ 0) (h3 : I64 x.n) : Norm (c ++ [x]) := by
  refine ⟨List.pairwise_append.2 ⟨h.asc, List.pairwise_singleton _ _, fun y hy z hz => ?_⟩, fun y hy => ?_, fun y hy => ?_⟩
  · rw [List.mem_singleton.1 hz, cmpD_key]; exact h1 y hy
  · rcases List.mem_append.1 hy with hy | hy
    · exact h.nz y hy
    · rw [List.mem_singleton.1 hy]; exact h2
  · rcases List.mem_append.1 hy with hy | hy
    · exact h.i64 y hy
    · rw [List.mem_singleton.1 hy]; exact h3
theorem find_group {A seg C : List DeltaD} {k0 : Key} {N : Int} (h : ∀ x ∈ seg, x.key = k0) (hN : N = findP seg k0) (k : Key) :
    (findP (A ++ (⟨k0.1, k0.2, N⟩ :: C)) k = findP (A ++ (seg ++ C)) k) ∧ (N = 0 → findP (A ++ C) k = findP (A ++ (seg ++ C)) k) := by
  have key : (((if k0 = k then N else 0) : Int) - sumK seg k) % 18446744073709551616 = 0 := by
    by_cases hk : k0 = k
    · subst hk
      rw [if_pos rfl, hN]
      exact w64_mod _
    · rw [if_neg hk, seg_sum h k (fun e => hk e.symm)]
      rfl
  have e1 : sumK (A ++ (⟨k0.1, k0.2, N⟩ :: C)) k = sumK A k + ((if k0 = k then N else 0) + sumK C k) := by rw [sumK_app]; rfl
  have e2 : sumK (A ++ (seg ++ C)) k = sumK A k + (sumK seg k + sumK C k) := by rw [sumK_app, sumK_app]
  refine ⟨?_, fun h0 => ?_⟩
  · unfold findP
    rw [e1, e2]
    exact w64_cong (by omega)
  · unfold findP
    rw [sumK_app, e2]
    refine w64_cong ?_
    rw [h0] at key
    have : ((if k0 = k then (0 : Int) else 0)) = 0 := by split <;> rfl
    omega
theorem find_snoc {seg : List DeltaD} {y : DeltaD} {k0 : Key} (hy : y.key = k0) : findP (seg ++ [y]) k0 = w64 (findP seg k0 + y.n) := by
  unfold findP
  rw [w64_l, sumK_app]
  simp only [sumK]
  rw [if_pos hy, Int.add_zero]
theorem sub_at {g i k c : Nat} (h : k < c) : subPtr (some ⟨g, i * 3, none⟩) 3 k c = some ⟨g, (i + k) * 3, none⟩ := by
  unfold subPtr
  rw [if_neg (by omega), Option.map_some]
  congr 1
  unfold Addr.add
  split
  · rw [show k = 0 by omega, Nat.add_zero]
  · show Addr.mk g (i * 3 + k * 3) none = _
    rw [Nat.add_mul]
structure COuter (l : List DeltaD) (es outs : List DE) (i : Nat) : Prop where
  le : i ≤ es.length
  norm : Norm (outs.map DE.d)
  lt : ∀ x ∈ outs, ∀ y ∈ es.drop i, cmpK x.d.key y.d.key < 0
  find : ∀ k, findP (outs.map DE.d ++ (es.drop i).map DE.d) k = findP l k
  few : outs.length ≤ i
theorem COuter.step {l : List DeltaD} {es outs : List DE} {i : Nat} (h : COuter l es outs i) {X : DE} (hX : X ∈ es.drop i) {j : Nat} (hij : i + j ≤ es.length) (hj : 1 ≤ j) (hk : ∀ y ∈ (es.drop i).take j, y.d.key = X.d.key) {N : Int} (hN : N = findP (((es.drop i).take j).map DE.d) X.d.key)
    (hgt : ∀ y ∈ es.drop (i + j), cmpK X.d.key y.d.key < 0) : (N = 0 → COuter l es outs (i + j)) ∧ (N ≠ 0 → ∀ (p : Option Addr) (c : Nat), COuter l es (outs ++ [⟨⟨X.d.time, X.d.row, N⟩, p, c⟩]) (i + j)) := by
  have hdr : es.drop i = (es.drop i).take j ++ es.drop (i + j) := by rw [← List.drop_drop, List.take_append_drop]
  have hkm : ∀ x ∈ ((es.drop i).take j).map DE.d, x.key = X.d.key := fun x hx => by
    obtain ⟨y, hy, rfl⟩ := List.mem_map.1 hx
    exact hk y hy
  have hsub : ∀ y ∈ es.drop (i + j), y ∈ es.drop i := fun y hy => by rw [hdr]; exact List.mem_append_right _ hy
  have hf : ∀ k, findP (outs.map DE.d ++ (((es.drop i).take j).map DE.d ++ (es.drop (i + j)).map DE.d)) k = findP l k := fun k => by
    rw [← List.map_append, ← hdr]; exact h.find k
  refine ⟨fun h0 => ⟨hij, h.norm, fun x hx y hy => h.lt x hx y (hsub y hy), fun k => ?_, by have := h.few; omega⟩, fun h0 p c => ⟨hij, ?_, fun x hx y hy => ?_, fun k => ?_, by rw [List.length_append]; have := h.few; simp; omega⟩⟩
  · rw [← hf k]
    exact (find_group (A := outs.map DE.d) (C := (es.drop (i + j)).map DE.d) hkm hN k).2 h0
  · rw [List.map_append]
    refine Norm.snoc h.norm (fun y hy => ?_) h0 (by rw [hN]; exact w64_in _)
    obtain ⟨z, hz, rfl⟩ := List.mem_map.1 hy
    exact h.lt z hz X hX
  · rcases List.mem_append.1 hx with hx | hx
    · exact h.lt x hx y (hsub y hy)
    · rw [List.mem_singleton.1 hx]; exact hgt y hy
  · rw [← hf k, List.map_append, List.append_assoc]
    exact (find_group (A := outs.map DE.d) (C := (es.drop (i + j)).map DE.d) hkm hN k).1
theorem cmpFn_delta {Φ : PW} [Stable Φ] {es : List DE} (hrow : ∀ x ∈ es, x.d.row.length ≤ 1000000) : CmpFn (fun M w => Φ M w ∧ EPhi es M w) F.delta_compare #[] (fun x => x ∈ es) :=
  ⟨by kernel_rfl, fun x y hx hy => compareD_in x.d y.d x.p y.p x.c y.c (fun M w h => delta_row (h.2 x hx)) (fun M w h => delta_row (h.2 y hy)) (by have := hrow x hx; omega)⟩
theorem cell3 {w : World} {g o : Nat} {X : DE} (h : RowAt w g o X.cells) : w.cell? ⟨g, o + 2, none⟩ = some (.int .i64 X.d.n) := by
  have := h 2 (by simp)
  simpa using this
set_option maxHeartbeats 4000000 in
theorem Consolidate_new {Φ : PW} [Stable Φ] (p : Option Addr) (cap : Nat) (l : List DeltaD) (hΦ : ∀ M w, Φ M w → Sl M w p l) (hlen : l.length ≤ 1000000) (hrow : ∀ x ∈ l, x.row.length ≤ 1000000) : GivesNew Φ Tryd.prog F.delta_Consolidate #[.slice p l.length cap] (consP l) 39 := by
  refine gives_new (Bdelta_Consolidate_run p l.length cap) fun W R => ?_
  refine fun w G cx => (CloneD_in p cap l hΦ (by omega)).use cx fun p1 cap1 cs w cx => ?_
  obtain ⟨es0, rfl, hes⟩ := elems_ex cx.phi.2
  have hl : l.length = es0.length := by rw [← hes, List.length_map]
  have cx1 : Ctx W w (bufE p1 cap1 es0 :: (R ++ G)) (fun M w => Φ M w ∧ EPhi es0 M w) := by
    have h1 := cx.weak (Ψ := fun M w => Φ M w ∧ EPhi es0 M w) fun M w h => ⟨h.1, elems_e (by rw [hes]; exact h.2)⟩
    rw [hl] at h1
    exact h1
  have hrow0 : ∀ x ∈ es0, x.d.row.length ≤ 1000000 := fun x hx => hrow x.d (by rw [← hes]; exact List.mem_map_of_mem hx)
  have hf := cmpFn_delta (Φ := Φ) hrow0
  clear cx
  refine ⟨p1, es0.length, cap1, by rw [hl], bufE p1 cap1 es0 :: R, _, inferInstance, cx1, fun w G cx => ?_⟩
  refine SortStable_use (S := R ++ G) hf es0 (fun e h => h) cx (by omega) fun es w hp ha cx => ?_
  have hn : es0.length = es.length := hp.length_eq.symm
  have hi0 : ∀ x ∈ es, EPhi es0 = EPhi es0 := fun _ _ => rfl
  have cx2 : Ctx W w (bufE p1 cap1 es :: (R ++ G)) (fun M w => Φ M w ∧ EPhi es M w) := cx.weak fun M w h => ⟨h.1, fun x hx => h.2 x (hp.mem_iff.1 hx)⟩
  have hfind : ∀ k, findP (es.map DE.d) k = findP l k := fun k => by rw [← hes]; exact findP_perm (hp.map DE.d) k
  have hrowE : ∀ x ∈ es, x.d.row.length ≤ 1000000 := fun x hx => hrow0 x (hp.mem_iff.1 hx)
  have hcmp := (cmpFn_delta (Φ := Φ) hrowE).2
  have hpg : 0 < es.length → ∃ g, p1 = some ⟨g, 0, none⟩ := fun h => e_ptr cx2 h
  have hcap : es.length ≤ cap1 := (cx2.bufLen 0 rfl).2.1
  rw [hn]
  refine ⟨rfl, bufE p1 cap1 es :: R, _, inferInstance, cx2, ?_⟩
  clear hf hrow0 hi0 cx cx1 cx2 hrow hp hes
  refine exI_mk (fun sp sn sc op on oc R' Φ' k => ∃ (i : Nat) (outs : List DE), COuter l es outs i ∧ sn = es.length - i ∧ sn ≤ sc ∧ (∀ g, p1 = some ⟨g, 0, none⟩ → i < es.length → sp = some ⟨g, i * 3, none⟩) ∧ on = outs.length ∧ R' = bufE op oc outs :: bufE p1 cap1 es :: R ∧ Φ' = (fun M w => (Φ M w ∧ EPhi es M w) ∧ EPhi outs M w) ∧ k = es.length - i)
    ⟨⟨bufE none 0 [] :: bufE p1 cap1 es :: R, fun M w => (Φ M w ∧ EPhi es M w) ∧ EPhi ([] : List DE) M w, _, inferInstance, fun w G cx => ((cx.weak fun M w h => ⟨h, fun x hx => by cases hx⟩).nobuf 39 3), 0, [], ⟨Nat.zero_le _, Norm.nil, by simp, fun k => hfind k, Nat.le_refl _⟩, by omega, by omega, fun g hg _ => by rw [hg, Nat.zero_mul], rfl, rfl, rfl, rfl⟩, ?_⟩
  rintro sp sn sc op on oc R1 Φ1 k _ ⟨i, outs, hco, rfl, hsc, hsp, rfl, rfl, rfl, rfl⟩
  have hile := hco.le
  refine Br.intro (fun hlt => ?_) (fun hge => fun w G cx => ?_)
  · have hlt := of_decide_eq_true hlt
    have hlt : i < es.length := by omega
    obtain ⟨g, rfl⟩ := hpg (by omega)
    have hsp := hsp g rfl hlt
    subst hsp
    have hstP : Stable (fun M w => (Φ M w ∧ EPhi es M w) ∧ EPhi outs M w) := inferInstance
    obtain ⟨X, hX⟩ : ∃ X, es[i]? = some X := ⟨_, List.getElem?_eq_getElem hlt⟩
    have hXm : X ∈ es := List.mem_of_getElem? hX
    have hXd : X ∈ es.drop i := by
      rw [List.drop_eq_getElem_cons hlt]
      rw [List.getElem?_eq_getElem hlt] at hX
      rw [Option.some.inj hX]; simp
    have hdX : es.drop i = X :: es.drop (i + 1) := by
      rw [List.drop_eq_getElem_cons hlt]
      rw [List.getElem?_eq_getElem hlt] at hX
      rw [Option.some.inj hX]
    refine ⟨by omega, ptrK_intro g (i * 3) rfl fun w G cx => ⟨X.d.time, X.p, X.d.row.length, X.c, X.d.n, e_row cx.swap hX, fun _ => ?_⟩⟩
    obtain ⟨hIt, hIn⟩ : I64 X.d.time ∧ I64 X.d.n := by
      obtain ⟨_, _, _, _, _, h1, h2, _⟩ := delta_cells (cx.phi.1.2 X hXm)
      exact ⟨h1, h2⟩
    clear cx
    refine exI_mk (fun kI tm rp rn rc nn R' Φ' k => ∃ j : Nat, kI = j ∧ 1 ≤ j ∧ i + j ≤ es.length ∧ tm = X.d.time ∧ rp = X.p ∧ rn = X.d.row.length ∧ rc = X.c ∧ nn = findP (((es.drop i).take j).map DE.d) X.d.key ∧ (∀ y ∈ (es.drop i).take j, y.d.key = X.d.key) ∧ R' = bufE op oc outs :: bufE (some ⟨g, 0, none⟩) cap1 es :: R ∧ Φ' = (fun M w => (Φ M w ∧ EPhi es M w) ∧ EPhi outs M w) ∧ k = es.length - i - j)
      ⟨⟨_, _, _, hstP, fun w G cx => cx, 1, rfl, Nat.le_refl _, hlt, rfl, rfl, rfl, rfl, ?_, ?_, rfl, rfl, rfl⟩, ?_⟩
    · rw [hdX]
      show X.d.n = w64 ((if X.d.key = X.d.key then X.d.n else 0) + 0)
      rw [if_pos rfl, Int.add_zero, w64_id hIn]
    · rw [hdX]
      intro y hy
      simp at hy
      rw [hy]
    rintro kI _ _ _ _ nn R2 Φ2 k _ ⟨j, rfl, hj1, hj2, rfl, rfl, rfl, rfl, hnn, hkeys, rfl, rfl, rfl⟩
    have hXlen : X.d.row.length ≤ 1000000 := hrowE X hXm
    refine ⟨_, _, hstP, fun w G cx => cx, Br.intro (fun hlt2 => ?_) (fun hge2 => ?_)⟩
    case' refine_2 =>
      have hgt : ∀ y ∈ es.drop (i + j), cmpK X.d.key y.d.key < 0 := by
        have hge2 := of_decide_eq_false hge2
        rw [List.drop_eq_nil_of_le (by omega)]
        intro y hy; cases hy
    case' refine_1 =>
      have hlt2 := of_decide_eq_true hlt2
      have hij : i + j < es.length := by omega
      obtain ⟨Y, hY⟩ : ∃ Y, es[i + j]? = some Y := ⟨_, List.getElem?_eq_getElem hij⟩
      have hYm : Y ∈ es := List.mem_of_getElem? hY
      have hcall : GivesIn (fun M w => (Φ M w ∧ EPhi es M w) ∧ EPhi outs M w) Tryd.prog F.delta_compare #[.agg #[.int .i64 X.d.time, .slice X.p X.d.row.length X.c, .int .i64 nn], Y.v] (.int .i64 (cmpD ⟨X.d.time, X.d.row, nn⟩ Y.d)) :=
        compareD_in ⟨X.d.time, X.d.row, nn⟩ Y.d X.p Y.p X.c Y.c (fun M w h => show Sl M w X.p X.d.row from delta_row (h.1.2 X hXm)) (fun M w h => delta_row (h.1.2 Y hYm)) (by show X.d.row.length ≤ _; omega)
      have hYr : ∀ {w : World} {G : List Own}, Ctx W w (bufE op oc outs :: bufE (some ⟨g, 0, none⟩) cap1 es :: R ++ G) (fun M w => (Φ M w ∧ EPhi es M w) ∧ EPhi outs M w) → RowAt w g (i * 3 + (j : Int).toNat * 3) Y.cells := fun cx => by
        rw [Int.toNat_natCast, ← Nat.add_mul]; exact e_row cx.swap hY
      refine ⟨by omega, ptrK_intro g (i * 3) rfl ⟨Y.d.time, Y.p, Y.d.row.length, Y.c, Y.d.n, fun w G cx => ⟨_, Y.p, _, Y.c, _, hYr cx, rfl⟩, fun w G cx => hcall.use cx fun w cx => ⟨_, rfl, bufE op oc outs :: bufE (some ⟨g, 0, none⟩) cap1 es :: R, _, hstP, cx, Br.intro (fun hc => ?_) (fun hc => ?_)⟩⟩⟩
    case' refine_1.refine_1 =>
      have hc := of_decide_eq_true hc
      rw [cmpD_key] at hc
      have hk := (cmpK_cmp.eq _ _).1 hc
      have hk' : Y.d.key = X.d.key := hk.symm
      have htk : (es.drop i).take (j + 1) = (es.drop i).take j ++ [Y] := by
        have hlt3 : j < (es.drop i).length := by rw [List.length_drop]; omega
        rw [List.take_succ_eq_append_getElem hlt3]
        congr 2
        rw [List.getElem_drop]
        rw [List.getElem?_eq_getElem hij] at hY
        exact Option.some.inj hY
      refine ⟨by omega, ptrK_intro g (i * 3) rfl fun w G cx => ⟨Y.d.n, cell3 (hYr cx), by unfold I64; omega, _, _, es.length - i - (j + 1), hstP, fun w G cx => cx, ⟨j + 1, by omega, by omega, by omega, rfl, rfl, rfl, rfl, ?_, ?_, rfl, rfl, rfl⟩, by omega⟩⟩
      · rw [htk, List.map_append, hnn]
        exact (find_snoc hk').symm
      · rw [htk]
        intro y hy
        rcases List.mem_append.1 hy with hy | hy
        · exact hkeys y hy
        · rw [List.mem_singleton.1 hy]; exact hk'
    case' refine_1.refine_2 =>
      have hgt : ∀ y ∈ es.drop (i + j), cmpK X.d.key y.d.key < 0 := by
        have hc := of_decide_eq_false hc
        rw [cmpD_key] at hc
        have hXi : es[i] = X := by rw [List.getElem?_eq_getElem hlt] at hX; exact Option.some.inj hX
        have hYi : es[i + j] = Y := by rw [List.getElem?_eq_getElem hij] at hY; exact Option.some.inj hY
        have h1 : leE es[i] es[i + j] := asc_le ordE ha (by omega) hij
        rw [hXi, hYi] at h1
        have h1 : cmpK X.d.key Y.d.key < 0 := by
          have h2 : cmpK X.d.key Y.d.key ≤ 0 := by rw [← cmpD_key]; exact h1
          have h3 : cmpK X.d.key Y.d.key ≠ 0 := hc
          omega
        intro y hy
        obtain ⟨q, hq, rfl⟩ := List.getElem_of_mem hy
        rw [List.length_drop] at hq
        rw [List.getElem_drop]
        have h2 : leE es[i + j] es[i + j + q] := asc_le ordE ha (by omega) (by omega)
        rw [hYi] at h2
        have h2 : cmpK Y.d.key es[i + j + q].d.key ≤ 0 := by rw [← cmpD_key]; exact h2
        rcases Int.lt_or_eq_of_le h2 with h3 | h3
        · exact cmpK_cmp.trans _ _ _ h1 h3
        · rw [← (cmpK_cmp.eq _ _).1 h3]; exact h1
      clear hc hcall hYr
    all_goals
      obtain ⟨hz, hnz⟩ := hco.step hXd (by omega) hj1 hkeys hnn hgt
      refine Br.intro (fun h0 => fun w G cx => ?_) (fun h0 => ⟨by omega, _, _, es.length - (i + j), hstP, fun w G cx => cx, ⟨i + j, outs, hz (by have := of_decide_eq_false h0; omega), by rw [Int.toNat_natCast]; omega, by rw [Int.toNat_natCast]; omega, fun g' hg' h => by cases hg'; rw [Int.toNat_natCast]; exact sub_at (by omega), rfl, rfl, rfl, rfl⟩, by omega⟩)
      have h0 : nn ≠ 0 := of_decide_eq_true h0
      have hco2 := hnz h0
      have hfew := hco.few
      refine (CloneV_in (Φ := fun M w => (Φ M w ∧ EPhi es M w) ∧ EPhi outs M w) X.p X.c X.d.row (fun M w h => delta_row (h.1.2 X hXm)) (by omega)).use cx fun q qc vc w cx => ?_
      obtain ⟨_, hq1, hq2⟩ := cx.bufLen 0 rfl
      obtain ⟨cx3, hs, _⟩ := Ctx.freeze (α := ValD) cx.fst cx.phi.2
      have hst2 : Stable (fun M w => (fun M w => (Φ M w ∧ EPhi es M w) ∧ EPhi outs M w) M w ∧ Sl M w q X.d.row) := inferInstance
      refine ⟨q, _, qc, rfl, bufE op oc outs :: bufE (some ⟨g, 0, none⟩) cap1 es :: R, _, hst2, cx3.add hs, fun k w G cx => ?_⟩
      obtain ⟨p', cap', w', hrun, _, cx'⟩ := Ctx.app1 (P := Tryd.prog) (ts := 28) (ty := 28) (kb := #[false, false]) (size := 3) (bytes := 40) cx (by kernel_rfl) (by omega) rfl rfl (by omega) (by omega)
      have hcells : cellsE outs ++ [.int .i64 X.d.time, .slice q X.d.row.length qc, .int .i64 nn] = cellsE (outs ++ [⟨⟨X.d.time, X.d.row, nn⟩, q, qc⟩]) := by rw [cellsE_app]; rfl
      have hlen1 : outs.length + 1 = (outs ++ [(⟨⟨X.d.time, X.d.row, nn⟩, q, qc⟩ : DE)]).length := by simp
      have hnI : I64 nn := by rw [hnn]; exact w64_in _
      have hst3 : Stable (fun M w => (Φ M w ∧ EPhi es M w) ∧ EPhi (outs ++ [(⟨⟨X.d.time, X.d.row, nn⟩, q, qc⟩ : DE)]) M w) := inferInstance
      rw [hcells, hlen1] at cx'
      refine ⟨p', _, cap', w', hrun, bufE p' cap' (outs ++ [(⟨⟨X.d.time, X.d.row, nn⟩, q, qc⟩ : DE)]) :: bufE (some ⟨g, 0, none⟩) cap1 es :: R, _, hst3, cx'.weak fun M w h => ⟨h.1.1, fun x hx => ?_⟩, by omega, _, _, es.length - (i + j), hst3, fun w G cx => cx, ⟨i + j, _, hco2 q qc, by rw [Int.toNat_natCast]; omega, by rw [Int.toNat_natCast]; omega, fun g' hg' h => by cases hg'; rw [Int.toNat_natCast]; exact sub_at (by omega), hlen1, rfl, rfl, rfl⟩, by omega⟩
      rcases List.mem_append.1 hx with hx | hx
      · exact h.1.2 x hx
      · rw [List.mem_singleton.1 hx]
        exact rep_delta hq1 hq2 hIt hnI h.2
  · have hge := of_decide_eq_false hge
    have hi : i = es.length := by omega
    have hnorm := hco.norm
    have hfi := hco.find
    rw [hi, List.drop_length] at hfi
    have hc : consP l = outs.map DE.d := consP_is hnorm fun k => by have := hfi k; rw [List.map_nil, List.append_nil] at this; exact this
    have hol : (consP l).length = outs.length := by rw [hc, List.length_map]
    refine ⟨op, oc, cellsE outs, by rw [hol], ?_⟩
    have hstP : Stable (fun M w => (Φ M w ∧ EPhi es M w) ∧ EPhi outs M w) := inferInstance
    have cx3 : Ctx W w (bufE op oc outs :: R) (fun M w => (Φ M w ∧ EPhi es M w) ∧ EPhi outs M w) := (cx.left.swap).drop1
    rw [hol]
    exact cx3.weak fun M w h => ⟨h.1.1, by rw [hc]; exact e_elems h.2⟩
end Go.Proofs.YtemhapmbcbbljaaDoor
end

section
namespace Go.Proofs.YtemhapmbcbbljaaDoor
open Go.Vc
theorem new_sl {Φ : PW} [Stable Φ] {P : Program} {f : FuncId} {args : Array Value} {l : List DeltaD} (h : GivesNew Φ P f args l 39) : GivesSl Φ P f args l id :=
  ⟨fun W w S c => (h.go W w S c).mono fun e w' ⟨p, cap, cs, he, cx⟩ => by
    obtain ⟨_, h1, h2⟩ := cx.bufLen 0 rfl
    obtain ⟨cx3, hs, _⟩ := Ctx.freeze (α := DeltaD) cx.fst cx.phi.2
    exact ⟨p, cap, he, h1, h2, cx3.add hs⟩⟩
theorem Consolidate_sl {Φ : PW} [Stable Φ] (p : Option Addr) (cap : Nat) (l : List DeltaD) (hΦ : ∀ M w, Φ M w → Sl M w p l) (hlen : l.length ≤ 1000000) (hrow : ∀ x ∈ l, x.row.length ≤ 1000000) : GivesSl Φ Tryd.prog F.delta_Consolidate #[.slice p l.length cap] (consP l) id :=
  new_sl (Consolidate_new p cap l hΦ hlen hrow)
theorem insD_row (x : DeltaD) {P : List ValD → Prop} (hx : P x.row) : ∀ {c : List DeltaD}, (∀ y ∈ c, P y.row) → ∀ z ∈ insD x c, P z.row
  | [], _, z, hz => by
    unfold insD at hz
    split at hz
    · cases hz
    · rw [List.mem_singleton.1 hz]; exact hx
  | y :: t, h, z, hz => by
    have hy := h y (by simp)
    have ht : ∀ q ∈ t, P q.row := fun q hq => h q (by simp [hq])
    unfold insD at hz
    split at hz
    · split at hz
      · exact h z hz
      · rcases List.mem_cons.1 hz with rfl | hz
        · exact hx
        · exact h z hz
    · split at hz
      · split at hz
        · exact ht z hz
        · rcases List.mem_cons.1 hz with rfl | hz
          · exact hy
          · exact ht z hz
      · rcases List.mem_cons.1 hz with rfl | hz
        · exact hy
        · exact insD_row x hx ht z hz
theorem consP_row {P : List ValD → Prop} : ∀ {l : List DeltaD}, (∀ x ∈ l, P x.row) → ∀ z ∈ consP l, P z.row
  | [], _, z, hz => by cases hz
  | x :: l, h, z, hz => insD_row x (h x (by simp)) (consP_row fun y hy => h y (by simp [hy])) z hz
def negD (x : DeltaD) : DeltaD := ⟨x.time, x.row, w64 (0 - x.n)⟩
def subP (a b : List DeltaD) : List DeltaD := consP (a ++ b.map negD)
theorem delta_iff {x y : DeltaD} : x = y ↔ (x.time = y.time ∧ (x.row = y.row ∧ x.n = y.n)) := by cases x; cases y; simp
instance : DecidableEq DeltaD := fun _ _ => decidable_of_iff _ delta_iff.symm
def sameD (x y : DeltaD) : Bool := decide (cmpD x y = 0) && decide (x.n = y.n)
theorem sameD_eq {x y : DeltaD} : sameD x y = true ↔ x = y := by
  unfold sameD
  rw [Bool.and_eq_true, decide_eq_true_eq, decide_eq_true_eq, cmpD_key]
  exact ⟨fun h => delta_ext ((cmpK_cmp.eq _ _).1 h.1) h.2, fun h => by subst h; exact ⟨cmpK_cmp.refl _, rfl⟩⟩
theorem Same1_in {Φ : PW} [Stable Φ] (x y : DeltaD) (p q : Option Addr) (cap cap2 : Nat) (hΦ : ∀ M w, Φ M w → Sl M w p x.row) (hΨ : ∀ M w, Φ M w → Sl M w q y.row) (hlen : x.row.length ≤ 9223372036854775807) :
    GivesIn Φ Tryd.prog F.delta_Same_1 #[x.v p cap, y.v q cap2] (.bool (sameD x y)) := by
  refine gives_in (Bdelta_Same_1_run x.time p x.row.length cap x.n y.time q y.row.length cap2 y.n) fun W R => ?_
  refine fun _ _ w G cx => (compareD_in x y p q cap cap2 hΦ hΨ hlen).use cx fun w cx => ⟨_, rfl, R, Φ, inferInstance, cx, Br.intro (fun h => fun w G cx => ⟨?_, cx.left⟩) (fun h => fun w G cx => ⟨?_, cx.left⟩)⟩
  · unfold sameD; rw [h, Bool.true_and]
  · unfold sameD; rw [h, Bool.false_and]
theorem EqualFunc_pin {Φ : PW} [Stable Φ] (p : Option Addr) (cap : Nat) (a : List DeltaD) (q : Option Addr) (cap2 : Nat) (b : List DeltaD) (g1 o1 : Nat) (cs1 : List (List Value)) (g2 o2 : Nat) (cs2 : List (List Value)) (hp : 0 < a.length → p = some ⟨g1, o1, none⟩) (hq : 0 < b.length → q = some ⟨g2, o2, none⟩)
    (hΦ : ∀ M w, Φ M w → Pin g1 o1 cs1 a M w) (hΨ : ∀ M w, Φ M w → Pin g2 o2 cs2 b M w) (hlen : a.length ≤ 9223372036854775807) :
    GivesIn Φ Tryd.prog F.slices_EqualFunc_api_Delta__api_Delta_api_Delta_api_Delta #[.slice p a.length cap, .slice q b.length cap2, .func (.func F.delta_Same_1) #[] #[]] (.bool (decide (a = b))) := by
  refine in_cells hΦ fun hc1 => in_cells hΨ fun hc2 => ?_
  refine gives_in (Bslices_EqualFunc_api_Delta__api_Delta_api_Delta_api_Delta_run p a.length cap q b.length cap2 F.delta_Same_1 #[]) fun W R => ?_
  refine Br.intro (fun h => fun w G cx => ⟨?_, cx.left⟩) (fun h => ?_)
  · rw [decide_eq_false]
    intro e
    have := of_decide_eq_true h
    rw [e] at this
    exact this rfl
  have hl : a.length = b.length := by have := of_decide_eq_false h; omega
  refine exI_mk (fun iI R' Φ' k => ∃ i : Nat, iI = i ∧ i ≤ a.length ∧ R' = R ∧ Φ' = Φ ∧ k = a.length - i ∧ a.take i = b.take i) ⟨⟨R, Φ, _, inferInstance, fun w F c => c, 0, rfl, Nat.zero_le _, rfl, rfl, rfl, rfl⟩, ?_⟩
  rintro iI R1 Φ1 k _ ⟨i, rfl, hi, rfl, rfl, rfl, hs⟩
  refine Br.intro (fun hlt => ?_) (fun hge => fun w F cx => ⟨?_, cx.left⟩)
  · have hlt : i < a.length := by have := of_decide_eq_true hlt; omega
    have hltb : i < b.length := by omega
    obtain ⟨r1, rc1, he1, f1, f2, _, _⟩ := hc1 i hlt
    obtain ⟨r2, rc2, he2, f3, f4, _, _⟩ := hc2 i hltb
    have hcall := Same1_in (Φ := Φ1) a[i] b[i] r1 r2 rc1 rc2 (fun M w h => pin_row (hΦ M w h) hlt he1) (fun M w h => pin_row (hΨ M w h) hltb he2) (len_max f1 f2)
    refine ⟨by omega, ptrK_intro g1 o1 (hp (by omega)) fun w G cx => ⟨a[i].time, r1, a[i].row.length, rc1, a[i].n, by rw [Int.toNat_natCast]; exact pin_rowAt (hΦ _ _ cx.phi) hlt he1, fun _ => ⟨by omega, ptrK_intro g2 o2 (hq (by omega)) fun w G cx => ⟨b[i].time, r2, b[i].row.length, rc2, b[i].n, by rw [Int.toNat_natCast]; exact pin_rowAt (hΨ _ _ cx.phi) hltb he2, fun _ w G cx => ⟨by kernel_rfl, hcall.use cx fun w cx => ⟨_, rfl, R1, Φ1, inferInstance, cx, Br.intro (fun h => fun w G cx => ⟨?_, cx.left⟩) (fun h => ⟨by unfold I64; omega, R1, Φ1, a.length - (i + 1), inferInstance, fun w F c => c, ⟨i + 1, rfl, hlt, rfl, rfl, rfl, ?_⟩, by omega⟩)⟩⟩⟩⟩⟩⟩
    · rw [decide_eq_false]
      intro e
      subst e
      have : sameD a[i] a[i] = true := sameD_eq.2 rfl
      rw [this] at h; cases h
    · have he : a[i] = b[i] := sameD_eq.1 (by simpa using h)
      rw [List.take_succ_eq_append_getElem hlt, List.take_succ_eq_append_getElem hltb, hs, he]
  · have hge : i = a.length := by have := of_decide_eq_false hge; omega
    rw [decide_eq_true]
    rw [hge, List.take_length, hl, List.take_length] at hs
    exact hs
theorem Same_in {Φ : PW} [Stable Φ] (p : Option Addr) (cap : Nat) (a : List DeltaD) (q : Option Addr) (cap2 : Nat) (b : List DeltaD) (hΦ : ∀ M w, Φ M w → Sl M w p a) (hΨ : ∀ M w, Φ M w → Sl M w q b)
    (ha : a.length ≤ 400000) (hb : b.length ≤ 400000) (hra : ∀ x ∈ a, x.row.length ≤ 1000000) (hrb : ∀ x ∈ b, x.row.length ≤ 1000000) : GivesIn Φ Tryd.prog F.delta_Same #[.slice p a.length cap, .slice q b.length cap2] (.bool (decide (consP a = consP b))) := by
  refine gives_in (Bdelta_Same_run p a.length cap q b.length cap2) fun W R => ?_
  refine fun w G cx => (Consolidate_sl p cap a hΦ (by omega) hra).use cx fun p1 c1 w h1 h2 cx => ⟨p1, _, c1, rfl, R, _, inferInstance, cx, fun w G cx => ?_⟩
  refine (Consolidate_sl (Φ := fun M w => Φ M w ∧ Sl M w p1 (consP a)) q cap2 b (fun M w h => hΨ M w h.1) (by omega) hrb).use cx fun p2 c2 w h3 h4 cx => ⟨p2, _, c2, rfl, R, fun M w => (Φ M w ∧ Sl M w p1 (consP a)) ∧ Sl M w p2 (consP b), inferInstance, cx, fun w G cx => ?_⟩
  have heq : GivesIn (fun M w => (Φ M w ∧ Sl M w p1 (consP a)) ∧ Sl M w p2 (consP b)) Tryd.prog F.slices_EqualFunc_api_Delta__api_Delta_api_Delta_api_Delta #[.slice p1 (consP a).length c1, .slice p2 (consP b).length c2, .func (.func F.delta_Same_1) #[] #[]] (.bool (decide (consP a = consP b))) :=
    .pinned (fun M w h => h.1.2) fun g1 o1 cs1 hp => .pinned (fun M w h => h.1.2) fun g2 o2 cs2 hq => EqualFunc_pin (Φ := fun M w => (((Φ M w ∧ Sl M w p1 (consP a)) ∧ Sl M w p2 (consP b)) ∧ Pin g1 o1 cs1 (consP a) M w) ∧ Pin g2 o2 cs2 (consP b) M w) p1 c1 (consP a) p2 c2 (consP b) g1 o1 cs1 g2 o2 cs2 hp hq (fun M w h => h.1.2) (fun M w h => h.2) (len_max h1 h2)
  exact heq.use cx fun w cx => ⟨_, rfl, R, Φ, inferInstance, cx.weak fun M w h => h.1.1, fun w G cx => ⟨rfl, cx.left⟩⟩
end Go.Proofs.YtemhapmbcbbljaaDoor
end

section
namespace Go.Vc
section
variable {W w : World} {S : List Own} {Φ : PW}
theorem Ctx.appAny [Stable Φ] {P : Program} {α : Type} [Gv α] {q : Option Addr} {l : List α} {c2 : Nat} {p : Option Addr} {n cap : Nat} {cs : List Value} {t : TypeId} {bytes : Nat} (c : Ctx W w (.buf p n cap cs t (Gv.ty α).size :: S) Φ)
    {ts ty : TypeId} {kb : Array Bool} (hb : appB P ts t (Gv.ty α).size bytes = true) (h1 : ∀ M w cs (x : α), Gv.rep M w cs x → (cs.all fun u => oneC u) = true) (hsl : ∀ M w, Φ M w → Sl M w q l) (hlen : n + l.length < 100000000) (hbytes : bytes ≤ 1000) :
    ∃ p' cap' w' news, Sem.run P (builtin Builtin.append #[ts, ts] ty kb #[.slice p n cap, .slice q l.length c2]) w = .ok (.value (.slice p' (n + l.length) cap')) w' ∧
      Ctx W w' (.buf p' (n + l.length) cap' (cs ++ news) t (Gv.ty α).size :: S) (fun M w => Φ M w ∧ Elems M w news l) := by
  rcases Nat.eq_zero_or_pos l.length with h0 | h0
  · obtain ⟨i, z, e1, e2, e3, e4, e5, e6⟩ := appB_out hb
    have hl : l = [] := List.eq_nil_of_length_eq_zero h0
    subst hl
    refine ⟨p, cap, w, [], run_app (c.append0 0 rfl e1 e2 q c2), ?_⟩
    rw [List.append_nil]
    exact c.add Elems.nil
  · obtain ⟨p', cap', w', news, h2, _, c3⟩ := c.appSl (ty := ty) (kb := kb) (c2 := c2) hb h1 hsl h0 hlen hbytes
    exact ⟨p', cap', w', news, h2, c3⟩
end
end Go.Vc
namespace Go.Proofs.YtemhapmbcbbljaaDoor
open Go.Vc
end Go.Proofs.YtemhapmbcbbljaaDoor
end

section
namespace Go.Proofs.YtemhapmbcbbljaaDoor
open Go.Vc
def newOk (kind : Int) (key : List Int) : Bool := !decide (kind < 0) && (!decide (3 ≤ kind) && (!decide ((0 : Int) < key.length) || (decide (kind = 1) && !decide (minZ key < 0))))
abbrev newK (kind : Int) (key : List Int) : SkD := ⟨kind, key, [], [], 0, []⟩
theorem skq_of {q : KP} {st : SkD} {W w : World} {S : List Own} {Φ : PW} (c : Ctx W w (SkO q st ++ S) Φ) (hk : st.key.length ≤ q.kc ∧ q.kc ≤ maxLen) (ha : st.aside.length ≤ q.ac ∧ q.ac ≤ maxLen) : SkQ q st where
  lpt := fun h => by
    obtain ⟨g, hg, _⟩ := c.bufCell 2 rfl (by rw [(c.bufLen 2 rfl).1]; omega)
    exact ⟨g, hg⟩
  bpt := fun h => by
    obtain ⟨g, hg, _⟩ := c.bufCell 1 rfl (by rw [(c.bufLen 1 rfl).1]; omega)
    exact ⟨g, hg⟩
  lcap := (c.bufLen 2 rfl).2
  bcap := (c.bufLen 1 rfl).2
  kcap := hk
  acap := ha
  len := (c.bufLen 2 rfl).1
section
variable {Φ : PW} {q : KP} {st : SkD} {W w : World} {R S G : List Own} {p : Option Addr} {cap : Nat} {l : List LineD} {cs : List Value}
set_option maxHeartbeats 1000000 in
theorem CloneK_new [Stable Φ] (src : Src S Φ p l cs) (hlen : l.length ≤ 1000000) (hrow : ∀ x ∈ l, x.row.length ≤ 1000000) (c : Ctx W w S Φ) :
    Calls Tryd.prog F.sink_clone #[.slice p l.length cap] w fun e w' => ∃ p' c' cs', e = .returned (.slice p' l.length c') ∧ Ctx W w' (bufL p' l.length c' cs' :: S) (fun M w => Φ M w ∧ Elems M w cs' l) := by
  refine (Bsink_clone_run p l.length cap (J := fun v w' => ∃ p' c' cs', v = .slice p' l.length c' ∧ Ctx W w' (bufL p' l.length c' cs' :: S) (fun M w => Φ M w ∧ Elems M w cs' l)) c ?_).mono fun e w' ⟨v, he, p', c', cs', hv, rest⟩ => ⟨p', c', cs', by rw [he, hv], rest⟩
  clear c
  refine fun w G c => (CloneL_new (S := S ++ G) src.app hlen c).mono fun e w' ⟨p1, c1, cs1, he, cx⟩ => ⟨p1, l.length, c1, he, bufL p1 l.length c1 cs1 :: S, (fun M w => Φ M w ∧ Elems M w cs1 l), inferInstance, cx, ?_⟩
  clear c
  have hel := cx.phi.2
  have hpt : 0 < l.length → ∃ g, p1 = some ⟨g, 0, none⟩ := fun h0 => l_ptr cx (by rw [elems_len7 hel]; omega)
  clear cx hel
  refine exI_mk (fun iI R' Φ' m => ∃ i cs2, iI = (i : Nat) ∧ i ≤ l.length ∧ R' = bufL p1 l.length c1 cs2 :: S ∧ Φ' = (fun M w => Φ M w ∧ Elems M w cs2 l) ∧ m = l.length - i) ⟨⟨_, _, _, instStableAnd Φ (fun M w => Elems M w cs1 l), fun w G cx => cx, 0, cs1, rfl, Nat.zero_le _, rfl, rfl, rfl⟩, ?_⟩
  rintro iI R1 Φ1 m _ ⟨i, cs2, rfl, hi, rfl, rfl, rfl⟩
  refine Br.intro (fun hlt => ?_) (fun hge => fun w G cx => ⟨p1, c1, cs2, rfl, cx.left⟩)
  have hlt : i < l.length := by have := of_decide_eq_true hlt; omega
  obtain ⟨g, rfl⟩ := hpt (by omega)
  have hst : Stable (fun M w => Φ M w ∧ Elems M w cs2 l) := instStableAnd Φ (fun M w => Elems M w cs2 l)
  refine ⟨by omega, ptrK_intro g 0 rfl fun w G cx => ?_⟩
  obtain ⟨p0, c0, hp, _, _, _, _⟩ := lrow cx.phi.2 hlt
  refine ⟨l[i].no, l[i].batch, l[i].time, p0, l[i].row.length, c0, l[i].n, l[i].cause, l[i].why, ?_, fun _ w G cx => ?_⟩
  · have := l_at (W := W) (w := w) (Φ := fun M w => Φ M w ∧ Elems M w cs2 l) (S := S ++ G) cx hp
    rw [show 0 + (i : Int).toNat * 7 = i * 7 by omega]
    exact this
  have hrd : ∀ M w, (Φ M w ∧ Elems M w cs2 l) → Sl M w p0 l[i].row := fun M w h => by
    have := h.2.2 i hlt
    rw [show (Gv.ty LineD).size = 7 from rfl, hp] at this
    exact line_row this
  have hh : Has (fun M w => Φ M w ∧ Elems M w cs2 l) (fun M w => Sl M w p0 l[i].row) := ⟨hrd⟩
  refine (CloneV_sl (r := l[i].row) (hrow _ (List.getElem_mem _))).to cx fun p3 c3 f1 f2 st3 => ?_
  clear cx
  refine ⟨by omega, ptrK_intro g 0 rfl fun w G cx => ⟨?_, fun w2 hw2 => ?_⟩⟩
  · have hl := elems_len7 cx.phi.1.2
    exact l_can (S := S ++ G) cx (by omega)
  · have cx2 : Ctx W w (bufL (some ⟨g, 0, none⟩) l.length c1 cs2 :: (S ++ G)) (fun M w => (Φ M w ∧ Sl M w p3 l[i].row) ∧ Elems M w cs2 l) := cx.weak fun M w h => ⟨⟨h.1.1, h.2⟩, h.1.2⟩
    have st5 : Stable (fun M w => Sl M w p3 l[i].row) := instStableSl p3 l[i].row
    have st4 : Stable (fun M w => Φ M w ∧ Sl M w p3 l[i].row) := @instStableAnd Φ (fun M w => Sl M w p3 l[i].row) _ st5
    obtain ⟨cs3, cx3⟩ := l_row (w' := w2) (Φ := fun M w => Φ M w ∧ Sl M w p3 l[i].row) cx2 hlt f1 f2 (fun M w h => h.2) (by rw [hw2]; congr 2; omega)
    exact ⟨bufL (some ⟨g, 0, none⟩) l.length c1 cs3 :: S, _, instStableAnd Φ (fun M w => Elems M w cs3 l), cx3.weak fun M w h => ⟨h.1.1, h.2⟩, by unfold I64; omega, _, _, l.length - (i + 1), instStableAnd Φ (fun M w => Elems M w cs3 l), fun w G cx => cx, ⟨i + 1, cs3, rfl, hlt, rfl, rfl, rfl⟩, by omega⟩
theorem CloneK_sl [Stable Φ] [hΦ : Has Φ (fun M w => Sl M w p l)] (hlen : l.length ≤ 1000000) (hrow : ∀ x ∈ l, x.row.length ≤ 1000000) : GivesSl Φ Tryd.prog F.sink_clone #[.slice p l.length cap] l id :=
  .there (fun M w h => (hΦ.go M w h).there) fun hth => ⟨fun W w S c => by
    obtain ⟨cs, c1⟩ := srcOf c (hΦ.go _ _ c.phi)
    refine (CloneK_new (S := S) (Φ := fun M w => Φ M w ∧ SrcF p l cs M w) (src_fact (Φ := fun M w => Φ M w ∧ SrcF p l cs M w) hth (fun M w h => h.2)).app hlen hrow c1).mono fun e w' ⟨p', c', cs', he, cx⟩ => ?_
    obtain ⟨c2, hs, _, h2, h3⟩ := Ctx.freeze (α := LineD) cx cx.phi.2
    exact ⟨p', c', he, h2, h3, (c2.add hs).weak fun M w h => ⟨h.1.1.1, h.2⟩⟩⟩
theorem CloneZ_sl [Stable Φ] {l : List Int} [hΦ : Has Φ (fun M w => Sl M w p l)] (hlen : l.length ≤ 17592186044416) : GivesSl Φ Tryd.prog F.slices_Clone_int_int #[.slice p l.length cap] l id :=
  ⟨fun W w S c => (CloneZ_in (Φ := Φ) (cap := cap) hΦ.go (by omega)).use c fun p1 cap1 ds w cx => by
    obtain ⟨c2, hs, _, h2, h3⟩ := Ctx.freeze (α := Int) cx cx.phi.2
    exact ⟨p1, cap1, rfl, h2, h3, (c2.add hs).weak fun M w h => ⟨h.1.1, h.2⟩⟩⟩
theorem new_i (kind : Int) (key : List Int) : SkI (newK kind key) := ⟨List.Pairwise.nil, by simp, by simp, by simp⟩
theorem New_to [Stable Φ] {kind : Int} {key : List Int} [hΦ : Has Φ (fun M w => Sl M w p key)] (hlen : key.length ≤ 17592186044416) (c : Ctx W w (R ++ G) Φ) {K : Option Addr → List Own → PW → Prop}
    (h0 : newOk kind key = false → K none R Φ)
    (h1 : ∀ q : KP, newOk kind key = true → SkQ q (newK kind key) → Stable (fun M w => Φ M w ∧ SkF q (newK kind key) M w) → K (some ⟨q.sb, 0, none⟩) (SkO q (newK kind key) ++ R) (fun M w => Φ M w ∧ SkF q (newK kind key) M w)) :
    Calls Tryd.prog F.sink_New #[.int .i64 kind, .slice p key.length cap] w fun e w' => ∃ p, e = .returned (.pointer p) ∧ ∃ R' Φ', Stable Φ' ∧ Ctx W w' (R' ++ G) Φ' ∧ K p R' Φ' := by
  refine (Bsink_New_run kind p key.length cap (R := R ++ G) (J := fun v w' => ∃ p, v = .pointer p ∧ ∃ R' Φ', Stable Φ' ∧ Ctx W w' (R' ++ G) Φ' ∧ K p R' Φ') c ?_).mono fun e w' ⟨v, he, p, hv, rest⟩ => ⟨p, by rw [he, hv], rest⟩
  clear c
  have bad : newOk kind key = false → ∀ {w : World} {G2 : List Own}, Ctx W w ((R ++ G) ++ G2) Φ → ∃ p, Value.pointer none = .pointer p ∧ ∃ R' Φ', Stable Φ' ∧ Ctx W w (R' ++ G) Φ' ∧ K p R' Φ' := fun h {w G2} cx => ⟨none, rfl, R, Φ, inferInstance, cx.left, h0 h⟩
  have good : newOk kind key = true → ∀ {w : World} {G2 : List Own}, Ctx W w ((R ++ G) ++ G2) Φ → Calls Tryd.prog F.slices_Clone_int_int #[.slice p key.length cap] w fun e17 w18 => ∃ (p19 : Option Addr), ∃ (k20 : Nat), ∃ (k21 : Nat), e17 = .returned (.slice p19 k20 k21) ∧ ∃ (R22 : List Own), ∃ (Φ23 : PW), Stable Φ23 ∧ Ctx W w18 (R22 ++ G2) Φ23 ∧ ∀ (k24 : Nat) (w25 : World) (R26 : List Own), Ctx W w25 (Own.blk k24 [.int .i64 kind, .slice p19 k20 k21, .slice none 0 0, .slice none 0 0, .int .i64 0, .slice none 0 0] 53 :: R22 ++ R26) Φ23 → ∃ p, Value.pointer (some (Addr.mk k24 0 none)) = .pointer p ∧ ∃ R' Φ', Stable Φ' ∧ Ctx W w25 (R' ++ G) Φ' ∧ K p R' Φ' := fun h {w G2} cx => by
    refine (CloneZ_sl (l := key) hlen).to cx fun p1 c1 g1 g2 st1 => ?_
    intro k w3 G3 cx
    have cx := Ctx.left (S := .blk k _ 53 :: (R ++ G)) (F := G3) cx
    have c2 := (cx.nobuf 37 7).nobuf 3 1
    obtain ⟨q, hqe⟩ : ∃ q : KP, q = ⟨k, p1, c1, none, 0, none, 0, [], none, 0⟩ := ⟨_, rfl⟩
    have c3 : Ctx W w3 ((SkO q (newK kind key) ++ R) ++ G) (fun M w => Φ M w ∧ SkF q (newK kind key) M w) := by
      rw [hqe]
      refine Ctx.weak (Φ := fun M w => Φ M w ∧ Sl M w p1 key) (c2.perm ?_) fun M w h => ⟨h.1, Elems.nil, h.2, fun i hi => absurd hi (by simp)⟩
      exact (List.Perm.trans (List.perm_middle (l₁ := [_, _]) (a := _)) (List.Perm.refl _))
    have hq : SkQ q (newK kind key) := skq_of (S := R ++ G) (c3.re (by simp)) (by rw [hqe]; exact ⟨g1, g2⟩) (by rw [hqe]; exact ⟨Nat.le_refl _, Nat.zero_le _⟩)
    have := h1 q h hq inferInstance
    refine ⟨some ⟨k, 0, none⟩, rfl, SkO q (newK kind key) ++ R, _, inferInstance, c3, ?_⟩
    rw [show k = q.sb by rw [hqe]]
    exact this
  unfold newOk at bad good
  refine Br.intro (fun h => fun w G2 cx => bad (by rw [h]; rfl) cx) (fun a1 => ?_)
  rw [a1] at bad good
  refine Br.intro (fun h => fun w G2 cx => bad (by rw [h]; rfl) cx) (fun a2 => ?_)
  rw [a2] at bad good
  refine Br.intro (fun h3 => ?_) (fun h3 => fun w G2 cx => good (by rw [h3]; rfl) cx)
  rw [h3] at bad good
  refine Br.intro (fun h => fun w G2 cx => bad (by rw [decide_eq_false (of_decide_eq_true h)]; rfl) cx) (fun a4 => fun w G2 cx => ?_)
  have h3 := of_decide_eq_true h3
  rw [decide_eq_true (Decidable.not_not.1 (of_decide_eq_false a4))] at bad good
  refine (Min_in (l := key) (by omega) hlen).toI cx ?_
  clear cx
  exact Br.intro (fun h => fun w G2 cx => bad (by rw [h]; rfl) cx) (fun a5 => fun w G2 cx => good (by rw [a5]; rfl) cx)
theorem src_sk (hq : SkQ q st) (hF : ∀ M w, Φ M w → Elems M w q.cs st.lines) : Src (SkO q st) Φ q.lp st.lines q.cs where
  ptr := fun h => by obtain ⟨g, hg⟩ := hq.lpt h; exact ⟨g, 0, hg⟩
  rd := fun {W w G b o} e c j v hj => by
    have hjl : j < q.cs.length := (List.getElem?_eq_some_iff.1 hj).1
    have := hq.len
    obtain ⟨g, hg⟩ := hq.lpt (by omega)
    rw [hg] at e
    cases e
    rw [Nat.zero_add]
    exact c.bufGet 2 rfl hg hj
  el := fun M w h => hF M w h
end
end Go.Proofs.YtemhapmbcbbljaaDoor
end

section
namespace Go.Proofs.YtemhapmbcbbljaaDoor
set_option maxRecDepth 100000
open Go.Vc
def Berratalaw43_SinkCells (keyP : Option Addr) (keyN keyC : Nat) (lP : Option Addr) (lN lC : Nat) (W : World) (R : List Own) (Φ : PW) (J : Value → World → Prop) : Prop :=
  ∀ w0 R1, Ctx W w0 (R ++ R1) Φ → Calls Tryd.prog F.erratalaw43_small #[] w0 fun e2 w3 => ∃ c4, e2 = .returned (.bool c4) ∧ ∃ R5 Φ6, Stable Φ6 ∧ Ctx W w3 (R5 ++ R1) Φ6 ∧ ∀ w7 R8, Ctx W w7 (R5 ++ R8) Φ6 → Calls Tryd.prog F.sink_New #[.int .i64 1, .slice keyP keyN keyC] w7 fun e9 w10 => ∃ p11, e9 = .returned (.pointer p11) ∧ ∃ R12 Φ13, Stable Φ13 ∧ Ctx W w10 (R12 ++ R8) Φ13 ∧ ∀ w14 R15, Ctx W w14 (R12 ++ R15) Φ13 → Calls Tryd.prog F.erratalaw43_few #[.slice lP lN lC, .int .i64 30] w14 fun e16 w17 => ∃ c18, e16 = .returned (.bool c18) ∧ ∃ R19 Φ20, Stable Φ20 ∧ Ctx W w17 (R19 ++ R15) Φ20 ∧ Br (!c18) (∀ w21 R22, Ctx W w21 (R19 ++ R22) Φ20 → J (.bool c4) w21) (Br (decide (3 < (↑keyN : Int))) (∀ w23 R24, Ctx W w23 (R19 ++ R24) Φ20 → J (.bool c4) w23) (Br p11.isNone (∀ w25 R26, Ctx W w25 (R19 ++ R26) Φ20 → J (.bool c4) w25) (exI fun (I27 : Option Addr → Nat → Nat → Int → List Own → PW → Nat →
  Prop) => (∃ R28 Φ29 k30, Stable Φ29 ∧ Wk W R19 Φ20 R28 Φ29 ∧ I27 none 0 0 0 R28 Φ29 k30) ∧ ∀ p33 k34 k35 n36 R37 I38 k39, Stable I38 → I27 p33 k34 k35 n36 R37 I38 k39 → Br (decide (n36 < (↑lN : Int))) ((0 ≤ n36 ∧ n36 < (↑lN : Int)) ∧ ptrK none lP fun k40 k41 => ∀ w42 R43, Ctx W w42 (R37 ++ R43) I38 → ∃ n44, w42.cell? (Addr.mk k40 (k41 + n36.toNat * 3 + 1) none) = some (.int .i64 n44) ∧ ∀ w45 R46, Ctx W w45 (R37 ++ R46) I38 → Calls Tryd.prog F.sink_Sink_Has #[.pointer p11, .int .i64 n44] w45 fun e47 w48 => ∃ c49, e47 = .returned (.bool c49) ∧ ∃ R50 Φ51, Stable Φ51 ∧ Ctx W w48 (R50 ++ R46) Φ51 ∧ ∃ R52 Φ53, Stable Φ53 ∧ Wk W R50 Φ51 R52 Φ53 ∧ (0 ≤ n36 ∧ n36 < (↑lN : Int)) ∧ ptrK none lP fun k56 k57 => (0 ≤ n36 ∧ n36 < (↑lN : Int)) ∧ ptrK none lP fun k58 k59 => ∃ (n60 : Int), (∀ w61 R62, Ctx W w61 (R52 ++ R62) Φ53 → ∃ n63, w61.cell? (Addr.mk k56 (k57 + n36.toNat * 3 + 1) none) = some (.int
  .i64 n63) ∧ Value.int IntKind.i64 n63 = Value.int IntKind.i64 n60) ∧ ∃ (p64 : Option Addr) (k65 k66 : Nat), (∀ w67 R68, Ctx W w67 (R52 ++ R68) Φ53 → ∃ p69 k70 k71, w67.cell? (Addr.mk k58 (k59 + n36.toNat * 3 + 2) none) = some (.slice p69 k70 k71) ∧ Value.slice p69 k70 k71 = Value.slice p64 k65 k66) ∧ ∀ w72 R73, Ctx W w72 (R50 ++ R73) Φ51 → Calls Tryd.prog F.sink_Sink_Deliver #[.pointer p11, .int .i64 n60, .slice p64 k65 k66] w72 fun e74 w75 => ∃ n76, e74 = .returned (.int .i64 n76) ∧ ∃ R77 Φ78, Stable Φ78 ∧ Ctx W w75 (R77 ++ R73) Φ78 ∧ exI fun (I79 : Option Addr → Nat → Nat → Int → List Own → PW → Nat → Prop) => (∃ R80 Φ81 k82, Stable Φ81 ∧ Wk W R77 Φ78 R80 Φ81 ∧ I79 p33 k34 k35 0 R80 Φ81 k82) ∧ ∀ p85 k86 k87 n88 R89 I90 k91, Stable I90 → I79 p85 k86 k87 n88 R89 I90 k91 → ∀ w92 R93, Ctx W w92 (R89 ++ R93) I90 → (0 ≤ n36 ∧ n36 < (↑lN : Int)) ∧ ptrK none lP fun k94 k95 => ∃ p96 k97 k98,
  w92.cell? (Addr.mk k94 (k95 + n36.toNat * 3 + 2) none) = some (.slice p96 k97 k98) ∧ Br (decide (n88 < (↑k97 : Int)) && decide (n76 = 0) && !c49) (∃ R99 Φ100, Stable Φ100 ∧ Wk W R89 I90 R99 Φ100 ∧ (0 ≤ n36 ∧ n36 < (↑lN : Int)) ∧ ptrK none lP fun k103 k104 => (0 ≤ n36 ∧ n36 < (↑lN : Int)) ∧ ptrK none lP fun k105 k106 => (0 ≤ n36 ∧ n36 < (↑lN : Int)) ∧ ptrK none lP fun k107 k108 => ∃ (p109 : Option Addr) (k110 k111 : Nat), (∀ w112 R113, Ctx W w112 (R99 ++ R113) Φ100 → ∃ p114 k115 k116, w112.cell? (Addr.mk k103 (k104 + n36.toNat * 3 + 2) none) = some (.slice p114 k115 k116) ∧ Value.slice p114 k115 k116 = Value.slice p109 k110 k111) ∧ ∃ (p117 : Option Addr) (k118 k119 : Nat), (∀ w120 R121, Ctx W w120 (R99 ++ R121) Φ100 → ∃ p122 k123 k124, w120.cell? (Addr.mk k105 (k106 + n36.toNat * 3 + 2) none) = some (.slice p122 k123 k124) ∧ Value.slice p122 k123 k124 = Value.slice p117 k118 k119) ∧ ∃
  (p125 : Option Addr) (k126 k127 : Nat), (∀ w128 R129, Ctx W w128 (R99 ++ R129) Φ100 → ∃ p130 k131 k132, w128.cell? (Addr.mk k107 (k108 + n36.toNat * 3 + 2) none) = some (.slice p130 k131 k132) ∧ Value.slice p130 k131 k132 = Value.slice p125 k126 k127) ∧ (0 ≤ n88 ∧ n88 < (↑k110 : Int)) ∧ ptrK none p109 fun k133 k134 => (0 ≤ n88 ∧ n88 < (↑k118 : Int)) ∧ ptrK none p117 fun k135 k136 => (0 ≤ n88 ∧ n88 < (↑k126 : Int)) ∧ ptrK none p125 fun k137 k138 => ∃ (n139 : Int), (∀ w140 R141, Ctx W w140 (R99 ++ R141) Φ100 → ∃ n142, w140.cell? (Addr.mk k133 (k134 + n88.toNat * 7 + 2) none) = some (.int .i64 n142) ∧ Value.int IntKind.i64 n142 = Value.int IntKind.i64 n139) ∧ ∃ (p143 : Option Addr) (k144 k145 : Nat), (∀ w146 R147, Ctx W w146 (R99 ++ R147) Φ100 → ∃ p148 k149 k150, w146.cell? (Addr.mk k135 (k136 + n88.toNat * 7 + 3) none) = some (.slice p148 k149 k150) ∧ Value.slice p148 k149 k150 =
  Value.slice p143 k144 k145) ∧ ∃ (n151 : Int), (∀ w152 R153, Ctx W w152 (R99 ++ R153) Φ100 → ∃ n154, w152.cell? (Addr.mk k137 (k138 + n88.toNat * 7 + 4) none) = some (.int .i64 n154) ∧ Value.int IntKind.i64 n154 = Value.int IntKind.i64 n151) ∧ ∀ (k155 : Nat), Wk W (Own.blk k155 [.int .i64 n139, .slice p143 k144 k145, .int .i64 n151] 39 :: R89) I90 (R99) Φ100 ∧ ∀ w158 R159, Ctx W w158 (Own.blk k155 [.int .i64 n139, .slice p143 k144 k145, .int .i64 n151] 39 :: R89 ++ R159) I90 → ∃ (p160 : Option Addr) (k161 k162 : Nat) (w163 : World), Sem.run Tryd.prog (builtin Builtin.append #[28, 28] 28 #[false, false] #[.slice p85 k86 k87, .slice (some (Addr.mk k155 0 none)) 1 1]) w158 = .ok (.value (.slice p160 k161 k162)) w163 ∧ ∃ R164 Φ165, Stable Φ165 ∧ Ctx W w163 (R164 ++ R159) Φ165 ∧ I64 (n88 + 1) ∧ ∃ R166 Φ167 k168, Stable Φ167 ∧ Wk W R164 Φ165 R166 Φ167 ∧ I79 p160 k161 k162 (n88 + 1) R166 Φ167
  k168 ∧ k168 < k91) (I64 (n36 + 1) ∧ ∃ R171 Φ172 k173, Stable Φ172 ∧ Wk W R89 I90 R171 Φ172 ∧ I27 p85 k86 k87 (n36 + 1) R171 Φ172 k173 ∧ k173 < k39)) (∀ w176 R177, Ctx W w176 (R37 ++ R177) I38 → Calls Tryd.prog F.sink_Sink_Net #[.pointer p11] w176 fun e178 w179 => ∃ p180 k181 k182, e178 = .returned (.slice p180 k181 k182) ∧ ∃ R183 Φ184, Stable Φ184 ∧ Ctx W w179 (R183 ++ R177) Φ184 ∧ ∀ w185 R186, Ctx W w185 (R183 ++ R186) Φ184 → Calls Tryd.prog F.delta_Same #[.slice p180 k181 k182, .slice p33 k34 k35] w185 fun e187 w188 => ∃ c189, e187 = .returned (.bool c189) ∧ ∃ R190 Φ191, Stable Φ191 ∧ Ctx W w188 (R190 ++ R186) Φ191 ∧ Br (!c189) (∀ w192 R193, Ctx W w192 (R190 ++ R193) Φ191 → J (.bool false) w192) (∀ w194 R195, Ctx W w194 (R190 ++ R195) Φ191 → Calls Tryd.prog F.delta_Consolidated #[.slice p180 k181 k182] w194 fun e196 w197 => ∃ c198, e196 = .returned (.bool c198) ∧ ∃ R199 Φ200, Stable
  Φ200 ∧ Ctx W w197 (R199 ++ R195) Φ200 ∧ Br (!c198) (∀ w201 R202, Ctx W w201 (R199 ++ R202) Φ200 → J (.bool false) w201) (∀ w203 R204, Ctx W w203 (R199 ++ R204) Φ200 → Calls Tryd.prog F.sink_New #[.int .i64 1, .slice keyP keyN keyC] w203 fun e205 w206 => ∃ p207, e205 = .returned (.pointer p207) ∧ ∃ R208 Φ209, Stable Φ209 ∧ Ctx W w206 (R208 ++ R204) Φ209 ∧ Br p207.isNone (∀ w210 R211, Ctx W w210 (R208 ++ R211) Φ209 → J (.bool false) w210) (exI fun (I212 : Option Addr → Nat → Nat → Int → List Own → PW → Nat → Prop) => (∃ R213 Φ214 k215, Stable Φ214 ∧ Wk W R208 Φ209 R213 Φ214 ∧ I212 none 0 0 0 R213 Φ214 k215) ∧ ∀ p218 k219 k220 n221 R222 I223 k224, Stable I223 → I212 p218 k219 k220 n221 R222 I223 k224 → Br (decide (n221 < (↑k181 : Int))) (∃ R225 Φ226, Stable Φ226 ∧ Wk W R222 I223 R225 Φ226 ∧ I64 (n221 + 1) ∧ (0 ≤ n221 ∧ n221 < (↑k181 : Int)) ∧ ptrK none p180 fun k229 k230 => (0 ≤ n221 ∧
  n221 < (↑k181 : Int)) ∧ ptrK none p180 fun k231 k232 => (0 ≤ n221 ∧ n221 < (↑k181 : Int)) ∧ ptrK none p180 fun k233 k234 => ∃ (n235 : Int), (∀ w236 R237, Ctx W w236 (R225 ++ R237) Φ226 → ∃ n238, w236.cell? (Addr.mk k229 (k230 + n221.toNat * 3) none) = some (.int .i64 n238) ∧ Value.int IntKind.i64 n238 = Value.int IntKind.i64 n235) ∧ ∃ (p239 : Option Addr) (k240 k241 : Nat), (∀ w242 R243, Ctx W w242 (R225 ++ R243) Φ226 → ∃ p244 k245 k246, w242.cell? (Addr.mk k231 (k232 + n221.toNat * 3 + 1) none) = some (.slice p244 k245 k246) ∧ Value.slice p244 k245 k246 = Value.slice p239 k240 k241) ∧ ∃ (n247 : Int), (∀ w248 R249, Ctx W w248 (R225 ++ R249) Φ226 → ∃ n250, w248.cell? (Addr.mk k233 (k234 + n221.toNat * 3 + 2) none) = some (.int .i64 n250) ∧ Value.int IntKind.i64 n250 = Value.int IntKind.i64 n247) ∧ ∀ (k251 : Nat), Wk W (Own.blk k251 [.int .i64 (n221 + 1), .int .i64 7, .int .i64 n235,
  .slice p239 k240 k241, .int .i64 n247, .int .i64 0, .int .i64 0] 37 :: R222) I223 (R225) Φ226 ∧ ∀ w254 R255, Ctx W w254 (Own.blk k251 [.int .i64 (n221 + 1), .int .i64 7, .int .i64 n235, .slice p239 k240 k241, .int .i64 n247, .int .i64 0, .int .i64 0] 37 :: R222 ++ R255) I223 → ∃ (p256 : Option Addr) (k257 k258 : Nat) (w259 : World), Sem.run Tryd.prog (builtin Builtin.append #[30, 30] 30 #[false, false] #[.slice p218 k219 k220, .slice (some (Addr.mk k251 0 none)) 1 1]) w254 = .ok (.value (.slice p256 k257 k258)) w259 ∧ ∃ R260 Φ261, Stable Φ261 ∧ Ctx W w259 (R260 ++ R255) Φ261 ∧ I64 (n221 + 1) ∧ ∃ R262 Φ263 k264, Stable Φ263 ∧ Wk W R260 Φ261 R262 Φ263 ∧ I212 p256 k257 k258 (n221 + 1) R262 Φ263 k264 ∧ k264 < k224) (∀ w267 R268, Ctx W w267 (R222 ++ R268) I223 → Calls Tryd.prog F.sink_Sink_Deliver #[.pointer p207, .int .i64 7, .slice p218 k219 k220] w267 fun e269 w270 => ∃ n271, e269 =
  .returned (.int .i64 n271) ∧ ∃ R272 Φ273, Stable Φ273 ∧ Ctx W w270 (R272 ++ R268) Φ273 ∧ Br (decide (n271 ≠ 0)) (∀ w274 R275, Ctx W w274 (R272 ++ R275) Φ273 → J (.bool false) w274) (∀ w276 R277, Ctx W w276 (R272 ++ R277) Φ273 → Calls Tryd.prog F.sink_Sink_Cells #[.pointer p207] w276 fun e278 w279 => ∃ p280 k281 k282, e278 = .returned (.slice p280 k281 k282) ∧ ∃ R283 Φ284, Stable Φ284 ∧ Ctx W w279 (R283 ++ R277) Φ284 ∧ ∀ w285 R286, Ctx W w285 (R283 ++ R286) Φ284 → Calls Tryd.prog F.sink_Sink_Cells #[.pointer p11] w285 fun e287 w288 => ∃ p289 k290 k291, e287 = .returned (.slice p289 k290 k291) ∧ ∃ R292 Φ293, Stable Φ293 ∧ Ctx W w288 (R292 ++ R286) Φ293 ∧ ∀ w294 R295, Ctx W w294 (R292 ++ R295) Φ293 → Calls Tryd.prog F.errataref28_Equal #[.slice p280 k281 k282, .slice p289 k290 k291] w294 fun e296 w297 => ∃ c298, e296 = .returned (.bool c298) ∧ ∃ R299 Φ300, Stable Φ300 ∧ Ctx W w297 (R299 ++
  R295) Φ300 ∧ Br (!c298) (∀ w301 R302, Ctx W w301 (R299 ++ R302) Φ300 → J (.bool false) w301) (∀ w303 R304, Ctx W w303 (R299 ++ R304) Φ300 → Calls Tryd.prog F.sink_Sink_Cells #[.pointer p11] w303 fun e305 w306 => ∃ p307 k308 k309, e305 = .returned (.slice p307 k308 k309) ∧ ∃ R310 Φ311, Stable Φ311 ∧ Ctx W w306 (R310 ++ R304) Φ311 ∧ exI fun (I312 : Int → List Own → PW → Nat → Prop) => (∃ R313 Φ314 k315, Stable Φ314 ∧ Wk W R310 Φ311 R313 Φ314 ∧ I312 0 R313 Φ314 k315) ∧ ∀ n318 R319 I320 k321, Stable I320 → I312 n318 R319 I320 k321 → Br (decide (n318 < (↑k181 : Int))) ((0 ≤ n318 ∧ n318 < (↑k181 : Int)) ∧ ptrK none p180 fun k322 k323 => ∀ w324 R325, Ctx W w324 (R319 ++ R325) I320 → ∃ n326, w324.cell? (Addr.mk k322 (k323 + n318.toNat * 3 + 2) none) = some (.int .i64 n326) ∧ Br (decide (n326 < 1)) (I64 (n318 + 1) ∧ ∃ R327 Φ328 k329, Stable Φ328 ∧ Wk W R319 I320 R327 Φ328 ∧ I312 (n318 + 1) R327
  Φ328 k329 ∧ k329 < k321) (exI fun (I332 : Int → Int → List Own → PW → Nat → Prop) => (∃ R333 Φ334 k335, Stable Φ334 ∧ Wk W R319 I320 R333 Φ334 ∧ I332 0 0 R333 Φ334 k335) ∧ ∀ n338 n339 R340 I341 k342, Stable I341 → I332 n338 n339 R340 I341 k342 → Br (decide (n339 < (↑k308 : Int))) ((0 ≤ n339 ∧ n339 < (↑k308 : Int)) ∧ ptrK none p307 fun k343 k344 => ∀ w345 R346, Ctx W w345 (R340 ++ R346) I341 → ∃ n347 p348 k349 k350 n351, RowAt w345 k343 (k344 + n339.toNat * 3) [.int .i64 n347, .slice p348 k349 k350, .int .i64 n351] ∧ ∀ (b : Nat), exI fun (I352 : Bool → Int → List Own → PW → Nat → Prop) => (∃ R353 Φ354 k355, Stable Φ354 ∧ Wk W R340 I341 R353 Φ354 ∧ I352 true 0 R353 Φ354 k355) ∧ ∀ c358 n359 R360 I361 k362, Stable I361 → I352 c358 n359 R360 I361 k362 → Br (decide (n359 < (↑keyN : Int))) (∀ w363 R364, Ctx W w363 (R360 ++ R364) I361 → (c358 = true → 0 ≤ n359 ∧ n359 < (↑keyN : Int)) ∧ ptrK
  (some c358) keyP fun k365 k366 => ∃ (n367 : Int), (c358 = true → w363.cell? (Addr.mk k365 (k366 + n359.toNat) none) = some (.int .i64 n367)) ∧ (c358 = true → 0 ≤ n367 ∧ n367 < (↑k349 : Int)) ∧ ptrK (some c358) p348 fun k368 k369 => ∃ (n370 n371 : Int) (s372 : ByteArray), (c358 = true → RowAt w363 k368 (k369 + n367.toNat * 3) [.int .i64 n370, .int .i64 n371, .string s372]) ∧ (c358 = true → 0 ≤ n318 ∧ n318 < (↑k181 : Int)) ∧ ptrK (some c358) p180 fun k373 k374 => ∃ (p375 : Option Addr) (k376 k377 : Nat), (c358 = true → w363.cell? (Addr.mk k373 (k374 + n318.toNat * 3 + 1) none) = some (.slice p375 k376 k377)) ∧ (c358 = true → 0 ≤ n359 ∧ n359 < (↑keyN : Int)) ∧ ptrK (some c358) keyP fun k378 k379 => ∃ (n380 : Int), (c358 = true → w363.cell? (Addr.mk k378 (k379 + n359.toNat) none) = some (.int .i64 n380)) ∧ (c358 = true → 0 ≤ n380 ∧ n380 < (↑k376 : Int)) ∧ ptrK (some c358) p375 fun k381 k382
  => ∃ (n383 n384 : Int) (s385 : ByteArray), (c358 = true → RowAt w363 k381 (k382 + n380.toNat * 3) [.int .i64 n383, .int .i64 n384, .string s385]) ∧ okAgg Tryd.prog 44 = true ∧ I64 (n359 + 1) ∧ ∃ R386 Φ387 k388, Stable Φ387 ∧ Wk W R360 I361 R386 Φ387 ∧ I352 (c358 && (decide (n370 = n383) && (decide (n371 = n384) && (decide (s372 = s385) && true)))) (n359 + 1) R386 Φ387 k388 ∧ k388 < k362) (Br (!c358) (I64 (n339 + 1) ∧ ∃ R391 Φ392 k393, Stable Φ392 ∧ Wk W R360 I361 R391 Φ392 ∧ I332 n338 (n339 + 1) R391 Φ392 k393 ∧ k393 < k342) (I64 (n338 + 1) ∧ ∃ R396 Φ397, Stable Φ397 ∧ Wk W R360 I361 R396 Φ397 ∧ (0 ≤ n318 ∧ n318 < (↑k181 : Int)) ∧ ptrK none p180 fun k400 k401 => ∃ (n402 : Int), (∀ w403 R404, Ctx W w403 (R396 ++ R404) Φ397 → ∃ n405, w403.cell? (Addr.mk k400 (k401 + n318.toNat * 3) none) = some (.int .i64 n405) ∧ Value.int IntKind.i64 n405 = Value.int IntKind.i64 n402) ∧ Br (decide (n347
  < n402)) (∃ R406 Φ407, Stable Φ407 ∧ Wk W R360 I361 R406 Φ407 ∧ ∀ w410 R411, Ctx W w410 (R360 ++ R411) I361 → J (.bool false) w410) ((0 ≤ n318 ∧ n318 < (↑k181 : Int)) ∧ ptrK none p180 fun k412 k413 => ∃ (n414 : Int), (∀ w415 R416, Ctx W w415 (R396 ++ R416) Φ397 → ∃ n417, w415.cell? (Addr.mk k412 (k413 + n318.toNat * 3) none) = some (.int .i64 n417) ∧ Value.int IntKind.i64 n417 = Value.int IntKind.i64 n414) ∧ Br (decide (n347 = n414)) ((0 ≤ n318 ∧ n318 < (↑k181 : Int)) ∧ ptrK none p180 fun k418 k419 => ∃ (p420 : Option Addr) (k421 k422 : Nat), (∀ w423 R424, Ctx W w423 (R396 ++ R424) Φ397 → ∃ p425 k426 k427, w423.cell? (Addr.mk k418 (k419 + n318.toNat * 3 + 1) none) = some (.slice p425 k426 k427) ∧ Value.slice p425 k426 k427 = Value.slice p420 k421 k422) ∧ ∀ w428 R429, Ctx W w428 (R360 ++ R429) I361 → Calls Tryd.prog F.value_CompareRows #[.slice p348 k349 k350, .slice p420 k421 k422] w428
  fun e430 w431 => ∃ n432, e430 = .returned (.int .i64 n432) ∧ ∃ R433 Φ434, Stable Φ434 ∧ Ctx W w431 (R433 ++ R429) Φ434 ∧ ∃ R435 Φ436, Stable Φ436 ∧ Wk W R433 Φ434 R435 Φ436 ∧ Br (decide (n432 < 0)) (∀ w439 R440, Ctx W w439 (R433 ++ R440) Φ434 → J (.bool false) w439) (∀ w441 R442, Ctx W w441 (R433 ++ R442) Φ434 → Calls Tryd.prog F.delta_Find #[.slice p180 k181 k182, .int .i64 n347, .slice p348 k349 k350] w441 fun e443 w444 => ∃ n445, e443 = .returned (.int .i64 n445) ∧ ∃ R446 Φ447, Stable Φ447 ∧ Ctx W w444 (R446 ++ R442) Φ447 ∧ Wk W R446 Φ447 R435 Φ436 ∧ Br (decide (n445 ≠ n351)) (∀ w450 R451, Ctx W w450 (R446 ++ R451) Φ447 → J (.bool false) w450) (Br (decide (n351 < 1)) (∀ w452 R453, Ctx W w452 (R446 ++ R453) Φ447 → J (.bool false) w452) (I64 (n339 + 1) ∧ ∃ R454 Φ455 k456, Stable Φ455 ∧ Wk W R446 Φ447 R454 Φ455 ∧ I332 (n338 + 1) (n339 + 1) R454 Φ455 k456 ∧ k456 < k342)))) (∃ R459 Φ460,
  Stable Φ460 ∧ Wk W R360 I361 R459 Φ460 ∧ ∀ w463 R464, Ctx W w463 (R360 ++ R464) I361 → Calls Tryd.prog F.delta_Find #[.slice p180 k181 k182, .int .i64 n347, .slice p348 k349 k350] w463 fun e465 w466 => ∃ n467, e465 = .returned (.int .i64 n467) ∧ ∃ R468 Φ469, Stable Φ469 ∧ Ctx W w466 (R468 ++ R464) Φ469 ∧ Wk W R468 Φ469 R459 Φ460 ∧ Br (decide (n467 ≠ n351)) (∀ w472 R473, Ctx W w472 (R468 ++ R473) Φ469 → J (.bool false) w472) (Br (decide (n351 < 1)) (∀ w474 R475, Ctx W w474 (R468 ++ R475) Φ469 → J (.bool false) w474) (I64 (n339 + 1) ∧ ∃ R476 Φ477 k478, Stable Φ477 ∧ Wk W R468 Φ469 R476 Φ477 ∧ I332 (n338 + 1) (n339 + 1) R476 Φ477 k478 ∧ k478 < k342))))))) (Br (decide (n338 ≠ 1)) (∀ w481 R482, Ctx W w481 (R340 ++ R482) I341 → J (.bool false) w481) (I64 (n318 + 1) ∧ ∃ R483 Φ484 k485, Stable Φ484 ∧ Wk W R340 I341 R483 Φ484 ∧ I312 (n318 + 1) R483 Φ484 k485 ∧ k485 < k321)))) (∀ w488 R489, Ctx W
  w488 (R319 ++ R489) I320 → J (.bool c4) w488)))))))))))
theorem Berratalaw43_SinkCells_run (keyP : Option Addr) (keyN keyC : Nat) (lP : Option Addr) (lN lC : Nat) {W w : World} {R : List Own} {Φ : PW} [Stable Φ] {J : Value → World → Prop} (c : Ctx W w R Φ) (h : Berratalaw43_SinkCells keyP keyN keyC lP lN lC W R Φ J) : Calls Tryd.prog F.erratalaw43_SinkCells #[.slice keyP keyN keyC, .slice lP lN lC] w fun e w' => ∃ v, e = .returned v ∧ J v w' :=
  vcFS_sound (H := { keep := some [0, 1, 4, 5, 6, 7, 8, 9, 10, 11, 12, 13, 14, 15, 16, 17, 18, 19, 20, 21, 22, 37, 42, 79, 123, 127, 131, 166, 172, 180, 184, 194, 221, 268, 270], track := [20], stages := [(10, [.held [(0, true), (1, true), (2, true), (6, true), (7, true), (3, true), (8, true), (4, true), (9, true), (5, true), (10, true)], .stage [] (some 11), .stage [12] none]), (14, [.held [(0, true), (1, true), (2, true), (6, true), (10, true), (11, true), (15, true), (19, true), (20, true), (24, true), (3, true), (12, true), (21, true), (4, true), (13, true), (22, true), (5, true), (14, true), (23, true), (7, true), (16, true), (25, true), (8, true), (17, true), (26, true), (9, true), (18, true), (27, true), (28, true), (29, false)], .stage [] (some 30), .stage [31] none]), (25, [.held [(0, true), (1, true), (3, true), (4, true), (8, true), (9, true), (13, true), (14, true), (2, true), (5, true), (10, true), (15, true), (6, true), (11, true), (16, true), (7, true), (12, true), (17, true), (18, true), (19, false)], .stage [] (some 20), .stage [21] none]), (45, [.held [(0, true), (2, true), (3, true), (1, true), (4, true), (5, true), (6, true), (7, true), (8, true), (9, true), (11, true), (12, true), (10, true), (13, true), (14, true), (15, true), (16, true), (17, true), (18, true), (20, true), (21, true), (19, true), (22, true), (23, true), (24, true)], .stage [] (some 25), .held [(26, true), (27, true), (28, true), (29, true), (30, true), (31, true), (33, true), (36, true), (32, true), (34, true), (37, true), (35, false)], .stage [38, 39, 40, 41, 42, 43, 44] none])], split := [3, 16, 26], loops := [(40, [(21, .one (.bool)), (22, .one (.int .i64))], []), (35, [(18, .one (.int .i64)), (19, .one (.int .i64))], []), (30, [(17, .one (.int .i64))], []), (23, [(14, .one (.slice)), (15, .one (.int .i64))], []), (12, [(7, .one (.slice)), (11, .one (.int .i64))], []), (7, [(7, .one (.slice)), (8, .one (.int .i64))], [])] }) (by rw [show vcFS Tryd.prog W { keep := some [0, 1, 4, 5, 6, 7, 8, 9, 10, 11, 12, 13, 14, 15, 16, 17, 18, 19, 20, 21, 22, 37, 42, 79, 123, 127, 131, 166, 172, 180, 184, 194, 221, 268, 270], track := [20], stages := [(10, [.held [(0, true), (1, true), (2, true), (6, true), (7, true), (3, true), (8, true), (4, true), (9, true), (5, true), (10, true)], .stage [] (some 11), .stage [12] none]), (14, [.held [(0, true), (1, true), (2, true), (6, true), (10, true), (11, true), (15, true), (19, true), (20, true), (24, true), (3, true), (12, true), (21, true), (4, true), (13, true), (22, true), (5, true), (14, true), (23, true), (7, true), (16, true), (25, true), (8, true), (17, true), (26, true), (9, true), (18, true), (27, true), (28, true), (29, false)], .stage [] (some 30), .stage [31] none]), (25, [.held [(0, true), (1, true), (3, true), (4, true), (8, true), (9, true), (13, true), (14, true), (2, true), (5, true), (10, true), (15, true), (6, true), (11, true), (16, true), (7, true), (12, true), (17, true), (18, true), (19, false)], .stage [] (some 20), .stage [21] none]), (45, [.held [(0, true), (2, true), (3, true), (1, true), (4, true), (5, true), (6, true), (7, true), (8, true), (9, true), (11, true), (12, true), (10, true), (13, true), (14, true), (15, true), (16, true), (17, true), (18, true), (20, true), (21, true), (19, true), (22, true), (23, true), (24, true)], .stage [] (some 25), .held [(26, true), (27, true), (28, true), (29, true), (30, true), (31, true), (33, true), (36, true), (32, true), (34, true), (37, true), (35, false)], .stage [38, 39, 40, 41, 42, 43, 44] none])], split := [3, 16, 26], loops := [(40, [(21, .one (.bool)), (22, .one (.int .i64))], []), (35, [(18, .one (.int .i64)), (19, .one (.int .i64))], []), (30, [(17, .one (.int .i64))], []), (23, [(14, .one (.slice)), (15, .one (.int .i64))], []), (12, [(7, .one (.slice)), (11, .one (.int .i64))], []), (7, [(7, .one (.slice)), (8, .one (.int .i64))], [])] } F.erratalaw43_SinkCells #[.slice keyP keyN keyC, .slice lP lN lC] R Φ J = Berratalaw43_SinkCells keyP keyN keyC lP lN lC W R Φ J by kernel_rfl]; exact h) c
def Bsink_Sink_Net (sB sO : Nat) (W : World) (R : List Own) (Φ : PW) (J : Value → World → Prop) : Prop :=
  ∀ w0 R1, Ctx W w0 (R ++ R1) Φ → ∃ p2 k3 k4, w0.cell? (Addr.mk sB (sO + 3) none) = some (.slice p2 k3 k4) ∧ exI fun (I5 : Option Addr → Nat → Nat → Int → List Own → PW → Nat → Prop) => (∃ R6 Φ7 k8, Stable Φ7 ∧ Wk W R Φ R6 Φ7 ∧ I5 none 0 0 0 R6 Φ7 k8) ∧ ∀ p11 k12 k13 n14 R15 I16 k17, Stable I16 → I5 p11 k12 k13 n14 R15 I16 k17 → Br (decide (n14 < (↑k3 : Int))) ((0 ≤ n14 ∧ n14 < (↑k3 : Int)) ∧ ptrK none p2 fun k18 k19 => ∀ w20 R21, Ctx W w20 (R15 ++ R21) I16 → ∃ n22 n23 n24 p25 k26 k27 n28 n29 n30, RowAt w20 k18 (k19 + n14.toNat * 7) [.int .i64 n22, .int .i64 n23, .int .i64 n24, .slice p25 k26 k27, .int .i64 n28, .int .i64 n29, .int .i64 n30] ∧ ∀ (b k31 : Nat) (w32 : World) (R33 : List Own), Ctx W w32 (Own.blk k31 [.int .i64 n24, .slice p25 k26 k27, .int .i64 n28] 39 :: R15 ++ R33) I16 → ∃ (p34 : Option Addr) (k35 k36 : Nat) (w37 : World), Sem.run Tryd.prog (builtin Builtin.append #[28,
  28] 28 #[false, false] #[.slice p11 k12 k13, .slice (some (Addr.mk k31 0 none)) 1 1]) w32 = .ok (.value (.slice p34 k35 k36)) w37 ∧ ∃ R38 Φ39, Stable Φ39 ∧ Ctx W w37 (R38 ++ R33) Φ39 ∧ I64 (n14 + 1) ∧ ∃ R40 Φ41 k42, Stable Φ41 ∧ Wk W R38 Φ39 R40 Φ41 ∧ I5 p34 k35 k36 (n14 + 1) R40 Φ41 k42 ∧ k42 < k17) (∀ w45 R46, Ctx W w45 (R15 ++ R46) I16 → Calls Tryd.prog F.delta_Consolidate #[.slice p11 k12 k13] w45 fun e47 w48 => ∃ p49 k50 k51, e47 = .returned (.slice p49 k50 k51) ∧ ∃ R52 Φ53, Stable Φ53 ∧ Ctx W w48 (R52 ++ R46) Φ53 ∧ ∀ w54 R55, Ctx W w54 (R52 ++ R55) Φ53 → J (.slice p49 k50 k51) w54)
theorem Bsink_Sink_Net_run (sB sO : Nat) {W w : World} {R : List Own} {Φ : PW} [Stable Φ] {J : Value → World → Prop} (c : Ctx W w R Φ) (h : Bsink_Sink_Net sB sO W R Φ J) : Calls Tryd.prog F.sink_Sink_Net #[.pointer (some ⟨sB, sO, none⟩)] w fun e w' => ∃ v, e = .returned v ∧ J v w' :=
  vcFS_sound (H := { keep := some [0, 2, 3, 5, 9, 10, 11, 12], track := [5], loops := [(3, [(3, .one (.slice)), (11, .one (.int .i64))], [])] }) (by rw [show vcFS Tryd.prog W { keep := some [0, 2, 3, 5, 9, 10, 11, 12], track := [5], loops := [(3, [(3, .one (.slice)), (11, .one (.int .i64))], [])] } F.sink_Sink_Net #[.pointer (some ⟨sB, sO, none⟩)] R Φ J = Bsink_Sink_Net sB sO W R Φ J by kernel_rfl]; exact h) c
def Berrataref28_Equal (aP : Option Addr) (aN aC : Nat) (bP : Option Addr) (bN bC : Nat) (W : World) (R : List Own) (Φ : PW) (J : Value → World → Prop) : Prop :=
  Br (decide ((↑aN : Int) ≠ (↑bN : Int))) (∀ w0 R1, Ctx W w0 (R ++ R1) Φ → J (.bool false) w0) (exI fun (I2 : Int → List Own → PW → Nat → Prop) => (∃ R3 Φ4 k5, Stable Φ4 ∧ Wk W R Φ R3 Φ4 ∧ I2 0 R3 Φ4 k5) ∧ ∀ n8 R9 I10 k11, Stable I10 → I2 n8 R9 I10 k11 → Br (decide (n8 < (↑aN : Int))) (∃ R12 Φ13, Stable Φ13 ∧ Wk W R9 I10 R12 Φ13 ∧ (0 ≤ n8 ∧ n8 < (↑aN : Int)) ∧ ptrK none aP fun k16 k17 => (0 ≤ n8 ∧ n8 < (↑bN : Int)) ∧ ptrK none bP fun k18 k19 => ∃ (n20 : Int) (p21 : Option Addr) (k22 k23 : Nat) (n24 : Int), (∀ w25 R26, Ctx W w25 (R12 ++ R26) Φ13 → ∃ n27 p28 k29 k30 n31, RowAt w25 k16 (k17 + n8.toNat * 3) [.int .i64 n27, .slice p28 k29 k30, .int .i64 n31] ∧ Value.agg #[.int .i64 n27, .slice p28 k29 k30, .int .i64 n31] = Value.agg #[.int .i64 n20, .slice p21 k22 k23, .int .i64 n24]) ∧ ∃ (n32 : Int) (p33 : Option Addr) (k34 k35 : Nat) (n36 : Int), (∀ w37 R38, Ctx W w37 (R12 ++ R38) Φ13 → ∃
  n39 p40 k41 k42 n43, RowAt w37 k18 (k19 + n8.toNat * 3) [.int .i64 n39, .slice p40 k41 k42, .int .i64 n43] ∧ Value.agg #[.int .i64 n39, .slice p40 k41 k42, .int .i64 n43] = Value.agg #[.int .i64 n32, .slice p33 k34 k35, .int .i64 n36]) ∧ ∀ w44 R45, Ctx W w44 (R9 ++ R45) I10 → Calls Tryd.prog F.errataref28_Compare #[Value.agg #[.int .i64 n20, .slice p21 k22 k23, .int .i64 n24], Value.agg #[.int .i64 n32, .slice p33 k34 k35, .int .i64 n36]] w44 fun e46 w47 => ∃ n48, e46 = .returned (.int .i64 n48) ∧ ∃ R49 Φ50, Stable Φ50 ∧ Ctx W w47 (R49 ++ R45) Φ50 ∧ Br (decide (n48 ≠ 0)) (∀ w51 R52, Ctx W w51 (R49 ++ R52) Φ50 → J (.bool false) w51) ((0 ≤ n8 ∧ n8 < (↑aN : Int)) ∧ ptrK none aP fun k53 k54 => (0 ≤ n8 ∧ n8 < (↑bN : Int)) ∧ ptrK none bP fun k55 k56 => ∀ w57 R58, Ctx W w57 (R49 ++ R58) Φ50 → ∃ n59, w57.cell? (Addr.mk k53 (k54 + n8.toNat * 3 + 2) none) = some (.int .i64 n59) ∧ ∀ w60 R61, Ctx W
  w60 (R49 ++ R61) Φ50 → ∃ n62, w60.cell? (Addr.mk k55 (k56 + n8.toNat * 3 + 2) none) = some (.int .i64 n62) ∧ Br (decide (n59 ≠ n62)) (∀ w63 R64, Ctx W w63 (R49 ++ R64) Φ50 → J (.bool false) w63) (I64 (n8 + 1) ∧ ∃ R65 Φ66 k67, Stable Φ66 ∧ Wk W R49 Φ50 R65 Φ66 ∧ I2 (n8 + 1) R65 Φ66 k67 ∧ k67 < k11))) (∀ w70 R71, Ctx W w70 (R9 ++ R71) I10 → J (.bool true) w70))
theorem Berrataref28_Equal_run (aP : Option Addr) (aN aC : Nat) (bP : Option Addr) (bN bC : Nat) {W w : World} {R : List Own} {Φ : PW} [Stable Φ] {J : Value → World → Prop} (c : Ctx W w R Φ) (h : Berrataref28_Equal aP aN aC bP bN bC W R Φ J) : Calls Tryd.prog F.errataref28_Equal #[.slice aP aN aC, .slice bP bN bC] w fun e w' => ∃ v, e = .returned v ∧ J v w' :=
  vcFS_sound (H := { keep := some [0, 1, 4, 5, 10, 14, 39], stages := [(6, [.held [(0, true), (1, true), (4, true), (5, true), (2, true), (6, true), (3, true), (7, true)], .stage [] (some 8), .stage [9, 10, 11, 12, 16, 17, 13, 18, 14, 19, 15, 20, 21, 22] none])], loops := [(4, [(5, .one (.int .i64))], [])] }) (by rw [show vcFS Tryd.prog W { keep := some [0, 1, 4, 5, 10, 14, 39], stages := [(6, [.held [(0, true), (1, true), (4, true), (5, true), (2, true), (6, true), (3, true), (7, true)], .stage [] (some 8), .stage [9, 10, 11, 12, 16, 17, 13, 18, 14, 19, 15, 20, 21, 22] none])], loops := [(4, [(5, .one (.int .i64))], [])] } F.errataref28_Equal #[.slice aP aN aC, .slice bP bN bC] R Φ J = Berrataref28_Equal aP aN aC bP bN bC W R Φ J by kernel_rfl]; exact h) c
def Bsink_Sink_Cells (sB sO : Nat) (W : World) (R : List Own) (Φ : PW) (J : Value → World → Prop) : Prop :=
  ∀ (b : Nat) (w0 : World) (R1 : List Own), Ctx W w0 (R ++ R1) Φ → ∃ n2, w0.cell? (Addr.mk sB sO none) = some (.int .i64 n2) ∧ Br (decide (n2 ≠ 1)) (∀ w3 R4, Ctx W w3 (R ++ R4) Φ → J (.slice none 0 0) w3) (∀ (b k5 b : Nat) (w6 : World) (R7 : List Own), Ctx W w6 (Own.obj k5 (Obj.map #[] 0) :: R ++ R7) Φ → Calls Tryd.prog F.sink_Sink_Net #[.pointer (some (Addr.mk sB sO none))] w6 fun e8 w9 => ∃ p10 k11 k12, e8 = .returned (.slice p10 k11 k12) ∧ ∃ R13 Φ14, Stable Φ14 ∧ Ctx W w9 (R13 ++ R7) Φ14 ∧ ∀ w15 R16, Ctx W w15 (R13 ++ R16) Φ14 → Calls Tryd.prog F.slices_Backward_api_Delta_api_Delta #[.slice p10 k11 k12] w15 fun e17 w18 => ∃ (u19 : FuncId) (u20 u21 : Array Value), e17 = .returned (Value.func (Fn.func u19) u20 u21) ∧ ∃ R22 Φ23, Stable Φ23 ∧ Ctx W w18 (R22 ++ R16) Φ23 ∧ u20 = #[] ∧ okFun Tryd.prog u19 = true ∧ ∃ (k24 : Nat), exI fun (I25 : Nat → List Value) => exI fun (I26 : World → Prop)
  => exI fun (I27 : Int → Int → Option Addr → Nat → Nat → Int → Nat → Prop) => exI fun (I28 : Option Addr → Nat → Nat → List Own → PW → Nat → Prop) => Iter Tryd.prog u19 u21 k24 (fun (k29 : Nat) => (I25 k29).toArray) I26 ∧ FitsR [(20, Sh.one (Sc.int IntKind.i64)), (21, Sh.agg [Sc.int IntKind.i64, Sc.slice, Sc.int IntKind.i64])] I27 I25 k24 ∧ (∃ R30 Φ31, Stable Φ31 ∧ Wk W R22 Φ23 R30 Φ31 ∧ I28 none 0 0 R30 Φ31 0) ∧ ∀ p34 k35 k36 R37 I38 k39, Stable I38 → I28 p34 k35 k36 R37 I38 k39 → (∀ w40 R41, Ctx W w40 (R37 ++ R41) I38 → I26 w40) ∧ (k39 < k24 → ∀ (n42 n43 : Int) (p44 : Option Addr) (k45 k46 : Nat) (n47 : Int), I27 n42 n43 p44 k45 k46 n47 k39 → ∀ (b : Nat) (w48 : World) (R49 : List Own), Ctx W w48 (R37 ++ R49) I38 → ∃ p50 k51 k52, w48.cell? (Addr.mk sB (sO + 1) none) = some (.slice p50 k51 k52) ∧ exI fun (I53 : Option Addr → Nat → Nat → Int → List Own → PW → Nat → Prop) => (∃ R54 Φ55
  k56, Stable Φ55 ∧ Wk W R37 I38 R54 Φ55 ∧ I53 none 0 0 0 R54 Φ55 k56) ∧ ∀ p59 k60 k61 n62 R63 I64 k65, Stable I64 → I53 p59 k60 k61 n62 R63 I64 k65 → Br (decide (n62 < (↑k51 : Int))) ((0 ≤ n62 ∧ n62 < (↑k51 : Int)) ∧ ptrK none p50 fun k66 k67 => ∀ w68 R69, Ctx W w68 (R63 ++ R69) I64 → ∃ n70, w68.cell? (Addr.mk k66 (k67 + n62.toNat) none) = some (.int .i64 n70) ∧ (0 ≤ n70 ∧ n70 < (↑k45 : Int)) ∧ ptrK none p44 fun k71 k72 => ∀ w73 R74, Ctx W w73 (R63 ++ R74) I64 → ∃ n75 n76 s77, RowAt w73 k71 (k72 + n70.toNat * 3) [.int .i64 n75, .int .i64 n76, .string s77] ∧ ∀ (k78 : Nat) (w79 : World) (R80 : List Own), Ctx W w79 (Own.blk k78 [.int .i64 n75, .int .i64 n76, .string s77] 44 :: R63 ++ R80) I64 → ∃ (p81 : Option Addr) (k82 k83 : Nat) (w84 : World), Sem.run Tryd.prog (builtin Builtin.append #[35, 35] 35 #[false, false] #[.slice p59 k60 k61, .slice (some (Addr.mk k78 0 none)) 1 1]) w79 = .ok
  (.value (.slice p81 k82 k83)) w84 ∧ ∃ R85 Φ86, Stable Φ86 ∧ Ctx W w84 (R85 ++ R80) Φ86 ∧ Vc.I64 (n62 + 1) ∧ ∃ R87 Φ88 k89, Stable Φ88 ∧ Wk W R85 Φ86 R87 Φ88 ∧ I53 p81 k82 k83 (n62 + 1) R87 Φ88 k89 ∧ k89 < k65) (∀ w92 R93, Ctx W w92 (R63 ++ R93) I64 → Calls Tryd.prog F.value_RowBytes #[.slice p59 k60 k61] w92 fun e94 w95 => ∃ s96, e94 = .returned (.string s96) ∧ ∃ R97 Φ98, Stable Φ98 ∧ Ctx W w95 (R97 ++ R93) Φ98 ∧ ∀ w99 R100, Ctx W w99 (R97 ++ R100) Φ98 → ∃ (c101 : Bool), (decide (0 < n47) = true → ∀ (w102 : World), w102.heap = w99.heap → Sem.run Tryd.prog (Instr.lookup 63 (Value.map (some k5)) (Value.string s96) false) w102 = Result.ok (Value.bool c101) w102) ∧ Br (decide (0 < n47) && !c101) (∀ w103 R104, Ctx W w103 (R97 ++ R104) Φ98 → ∃ (w105 : World), Sem.run Tryd.prog (Instr.mapUpdate 63 (Value.map (some k5)) (Value.string s96) (Value.bool true)) w103 = Result.ok () w105 ∧ ∃ R106
  Φ107, Stable Φ107 ∧ Ctx W w105 (R106 ++ R104) Φ107 ∧ ∀ (k108 : Nat) (w109 : World) (R110 : List Own), Ctx W w109 (Own.blk k108 [.int .i64 n43, .slice p44 k45 k46, .int .i64 n47] 39 :: R106 ++ R110) Φ107 → ∃ (p111 : Option Addr) (k112 k113 : Nat) (w114 : World), Sem.run Tryd.prog (builtin Builtin.append #[28, 28] 28 #[false, false] #[.slice p34 k35 k36, .slice (some (Addr.mk k108 0 none)) 1 1]) w109 = .ok (.value (.slice p111 k112 k113)) w114 ∧ ∃ R115 Φ116, Stable Φ116 ∧ Ctx W w114 (R115 ++ R110) Φ116 ∧ ∃ R117 Φ118, Stable Φ118 ∧ Wk W R115 Φ116 R117 Φ118 ∧ I28 p111 k112 k113 R117 Φ118 (k39 + 1)) (∃ R121 Φ122, Stable Φ122 ∧ Wk W R97 Φ98 R121 Φ122 ∧ I28 p34 k35 k36 R121 Φ122 (k39 + 1)))) ∧ (k39 = k24 → ∀ w125 R126, Ctx W w125 (R37 ++ R126) I38 → Calls Tryd.prog F.slices_Reverse_api_Delta_api_Delta #[.slice p34 k35 k36] w125 fun e127 w128 => e127 = .returned (Value.tuple #[]) ∧ ∃ R129 Φ130,
  Stable Φ130 ∧ Ctx W w128 (R129 ++ R126) Φ130 ∧ ∀ w131 R132, Ctx W w131 (R129 ++ R132) Φ130 → J (.slice p34 k35 k36) w131))
theorem Bsink_Sink_Cells_run (sB sO : Nat) {W w : World} {R : List Own} {Φ : PW} [Stable Φ] {J : Value → World → Prop} (c : Ctx W w R Φ) (h : Bsink_Sink_Cells sB sO W R Φ J) : Calls Tryd.prog F.sink_Sink_Cells #[.pointer (some ⟨sB, sO, none⟩)] w fun e w' => ∃ v, e = .returned v ∧ J v w' :=
  vcFS_sound (H := { keep := some [1, 2, 3, 4, 6, 7, 9, 10, 15, 19, 21, 25, 26, 27, 28, 50], track := [1, 3, 4, 6], loops := [(9, [(7, .one (.slice)), (27, .one (.int .i64))], []), (7, [(20, .one (.int .i64)), (21, .agg [.int .i64, .slice, .int .i64])], [(3, .agg [.slice])])] }) (by rw [show vcFS Tryd.prog W { keep := some [1, 2, 3, 4, 6, 7, 9, 10, 15, 19, 21, 25, 26, 27, 28, 50], track := [1, 3, 4, 6], loops := [(9, [(7, .one (.slice)), (27, .one (.int .i64))], []), (7, [(20, .one (.int .i64)), (21, .agg [.int .i64, .slice, .int .i64])], [(3, .agg [.slice])])] } F.sink_Sink_Cells #[.pointer (some ⟨sB, sO, none⟩)] R Φ J = Bsink_Sink_Cells sB sO W R Φ J by kernel_rfl]; exact h) c
def Berrataref28_Compare (a0 : Int) (a1P : Option Addr) (a1N a1C : Nat) (a2 : Int) (b0 : Int) (b1P : Option Addr) (b1N b1C : Nat) (b2 : Int) (W : World) (R : List Own) (Φ : PW) (J : Value → World → Prop) : Prop :=
  ∀ (b b : Nat), Br (decide (a0 < b0)) (∀ w0 R1, Ctx W w0 (R ++ R1) Φ → J (.int .i64 (-1)) w0) (Br (decide (b0 < a0)) (∀ w2 R3, Ctx W w2 (R ++ R3) Φ → J (.int .i64 1) w2) (∀ w4 R5, Ctx W w4 (R ++ R5) Φ → Calls Tryd.prog F.errataref03_CompareRows #[.slice a1P a1N a1C, .slice b1P b1N b1C] w4 fun e6 w7 => ∃ n8, e6 = .returned (.int .i64 n8) ∧ ∃ R9 Φ10, Stable Φ10 ∧ Ctx W w7 (R9 ++ R5) Φ10 ∧ ∀ w11 R12, Ctx W w11 (R9 ++ R12) Φ10 → J (.int .i64 n8) w11))
theorem Berrataref28_Compare_run (a0 : Int) (a1P : Option Addr) (a1N a1C : Nat) (a2 : Int) (b0 : Int) (b1P : Option Addr) (b1N b1C : Nat) (b2 : Int) {W w : World} {R : List Own} {Φ : PW} [Stable Φ] {J : Value → World → Prop} (c : Ctx W w R Φ) (h : Berrataref28_Compare a0 a1P a1N a1C a2 b0 b1P b1N b1C b2 W R Φ J) : Calls Tryd.prog F.errataref28_Compare #[.agg #[.int .i64 a0, .slice a1P a1N a1C, .int .i64 a2], .agg #[.int .i64 b0, .slice b1P b1N b1C, .int .i64 b2]] w fun e w' => ∃ v, e = .returned v ∧ J v w' :=
  vcFS_sound (H := { keep := some [2, 3, 4, 9, 14], track := [2, 3] }) (by rw [show vcFS Tryd.prog W { keep := some [2, 3, 4, 9, 14], track := [2, 3] } F.errataref28_Compare #[.agg #[.int .i64 a0, .slice a1P a1N a1C, .int .i64 a2], .agg #[.int .i64 b0, .slice b1P b1N b1C, .int .i64 b2]] R Φ J = Berrataref28_Compare a0 a1P a1N a1C a2 b0 b1P b1N b1C b2 W R Φ J by kernel_rfl]; exact h) c
def Bslices_Backward_api_Delta_api_Delta (sP : Option Addr) (sN sC : Nat) (W : World) (R : List Own) (Φ : PW) (J : Value → World → Prop) : Prop :=
  ∀ (k0 : Nat) (w1 : World) (R2 : List Own), Ctx W w1 (Own.blk k0 [.slice sP sN sC] 28 :: R ++ R2) Φ → J (Value.func (Fn.func 48) #[] #[.pointer (some (Addr.mk k0 0 none))]) w1
theorem Bslices_Backward_api_Delta_api_Delta_run (sP : Option Addr) (sN sC : Nat) {W w : World} {R : List Own} {Φ : PW} [Stable Φ] {J : Value → World → Prop} (c : Ctx W w R Φ) (h : Bslices_Backward_api_Delta_api_Delta sP sN sC W R Φ J) : Calls Tryd.prog F.slices_Backward_api_Delta_api_Delta #[.slice sP sN sC] w fun e w' => ∃ v, e = .returned v ∧ J v w' :=
  vcFS_sound (H := { keep := some [1, 2] }) (by rw [show vcFS Tryd.prog W { keep := some [1, 2] } F.slices_Backward_api_Delta_api_Delta #[.slice sP sN sC] R Φ J = Bslices_Backward_api_Delta_api_Delta sP sN sC W R Φ J by kernel_rfl]; exact h) c
def Bslices_Reverse_api_Delta_api_Delta (sP : Option Addr) (sN sC : Nat) (W : World) (R : List Own) (Φ : PW) (J : Value → World → Prop) : Prop :=
  I64 ((↑sN : Int) - 1) ∧ exI fun (I0 : Int → Int → List Own → PW → Nat → Prop) => (∃ R1 Φ2 k3, Stable Φ2 ∧ Wk W R Φ R1 Φ2 ∧ I0 0 ((↑sN : Int) - 1) R1 Φ2 k3) ∧ ∀ n6 n7 R8 I9 k10, Stable I9 → I0 n6 n7 R8 I9 k10 → Br (decide (n6 < n7)) (∃ R11 Φ12, Stable Φ12 ∧ Wk W R8 I9 R11 Φ12 ∧ (0 ≤ n7 ∧ n7 < (↑sN : Int)) ∧ ptrK none sP fun k15 k16 => (0 ≤ n6 ∧ n6 < (↑sN : Int)) ∧ ptrK none sP fun k17 k18 => ∀ w19 R20, Ctx W w19 (R8 ++ R20) I9 → ∃ n21 p22 k23 k24 n25, RowAt w19 k15 (k16 + n7.toNat * 3) [.int .i64 n21, .slice p22 k23 k24, .int .i64 n25] ∧ ∀ w26 R27, Ctx W w26 (R8 ++ R27) I9 → ∃ n28 p29 k30 k31 n32, RowAt w26 k17 (k18 + n6.toNat * 3) [.int .i64 n28, .slice p29 k30 k31, .int .i64 n32] ∧ (0 ≤ n6 ∧ n6 < (↑sN : Int)) ∧ ptrK none sP fun k33 k34 => ∀ w35 R36, Ctx W w35 (R8 ++ R36) I9 → CanWrite w35 k33 (k34 + n6.toNat * 3) 3 ∧ ∀ (w37 : World), w37 = w35.setCells k33 (k34 + n6.toNat * 3) [.int
  .i64 n21, .slice p22 k23 k24, .int .i64 n25] → ∃ R38 Φ39, Stable Φ39 ∧ Ctx W w37 (R38 ++ R36) Φ39 ∧ Wk W R38 Φ39 R11 Φ12 ∧ (0 ≤ n7 ∧ n7 < (↑sN : Int)) ∧ ptrK none sP fun k42 k43 => ∀ w44 R45, Ctx W w44 (R38 ++ R45) Φ39 → CanWrite w44 k42 (k43 + n7.toNat * 3) 3 ∧ ∀ (w46 : World), w46 = w44.setCells k42 (k43 + n7.toNat * 3) [.int .i64 n28, .slice p29 k30 k31, .int .i64 n32] → ∃ R47 Φ48, Stable Φ48 ∧ Ctx W w46 (R47 ++ R45) Φ48 ∧ Wk W R47 Φ48 R11 Φ12 ∧ I64 (n6 + 1) ∧ I64 (n7 - 1) ∧ ∃ R51 Φ52 k53, Stable Φ52 ∧ Wk W R47 Φ48 R51 Φ52 ∧ I0 (n6 + 1) (n7 - 1) R51 Φ52 k53 ∧ k53 < k10) (∀ w56 R57, Ctx W w56 (R8 ++ R57) I9 → J (Value.tuple #[]) w56)
theorem Bslices_Reverse_api_Delta_api_Delta_run (sP : Option Addr) (sN sC : Nat) {W w : World} {R : List Own} {Φ : PW} [Stable Φ] {J : Value → World → Prop} (c : Ctx W w R Φ) (h : Bslices_Reverse_api_Delta_api_Delta sP sN sC W R Φ J) : Calls Tryd.prog F.slices_Reverse_api_Delta_api_Delta #[.slice sP sN sC] w fun e w' => ∃ v, e = .returned v ∧ J v w' :=
  vcFS_sound (H := { keep := some [0, 2, 3, 9], stages := [(3, [.late [0, 1, 4, 5, 6, 7, 11, 12] [0, 1, 2, 3, 4, 5, 8, 9, 6, 10, 7, 11, 12] [(13, [14]), (15, [])]])], loops := [(1, [(2, .one (.int .i64)), (3, .one (.int .i64))], [])] }) (by rw [show vcFS Tryd.prog W { keep := some [0, 2, 3, 9], stages := [(3, [.late [0, 1, 4, 5, 6, 7, 11, 12] [0, 1, 2, 3, 4, 5, 8, 9, 6, 10, 7, 11, 12] [(13, [14]), (15, [])]])], loops := [(1, [(2, .one (.int .i64)), (3, .one (.int .i64))], [])] } F.slices_Reverse_api_Delta_api_Delta #[.slice sP sN sC] R Φ J = Bslices_Reverse_api_Delta_api_Delta sP sN sC W R Φ J by kernel_rfl]; exact h) c
end Go.Proofs.YtemhapmbcbbljaaDoor
end

section
namespace Go.Proofs.YtemhapmbcbbljaaDoor
open Go.Vc
theorem bytesLess_cmp : ∀ a b : List UInt8, Op.bytesLess a b = decide (Lib.compareBytes a b < 0)
  | [], [] => by simp [Op.bytesLess, Lib.compareBytes]
  | [], _ :: _ => by simp [Op.bytesLess, Lib.compareBytes]
  | _ :: _, [] => by simp [Op.bytesLess, Lib.compareBytes]
  | a :: ar, b :: br => by
    unfold Op.bytesLess Lib.compareBytes
    rw [bytesLess_cmp ar br]
    by_cases h1 : a < b
    · simp [h1]
    · by_cases h2 : b < a
      · rw [if_neg h1, if_pos h2]
        have : a ≠ b := fun e => by subst e; exact h1 h2
        simp [h1, this]
      · have : a = b := by
          have h1' : ¬ a.toNat < b.toNat := h1
          have h2' : ¬ b.toNat < a.toNat := h2
          exact UInt8.toNat_inj.1 (by omega)
        rw [if_neg h1, if_neg h2]
        simp [this]
theorem compareBytes_zero (a b : List UInt8) : Lib.compareBytes a b = 0 ↔ a = b := bytes_cmp.eq a b
theorem compareBytes_bd (a b : List UInt8) : -1 ≤ Lib.compareBytes a b ∧ Lib.compareBytes a b ≤ 1 := bytes_cmp.bd a b
theorem cmpT_less (a b : ByteArray) : Op.bytesLess a.toList b.toList = decide (cmpT a b < 0) := by rw [bytesLess_cmp, Lib.toList_data, Lib.toList_data]; rfl
theorem cmpT_gtr (a b : ByteArray) : (!(Op.bytesLess a.toList b.toList || a.toList == b.toList)) = decide (0 < cmpT a b) := by
  rw [cmpT_less]
  have h2 : (a.toList == b.toList) = decide (cmpT a b = 0) := by
    rw [Bool.eq_iff_iff, beq_iff_eq, decide_eq_true_eq]
    unfold cmpT
    rw [compareBytes_zero, Lib.toList_data, Lib.toList_data]
  rw [h2]
  by_cases h : cmpT a b < 0
  · simp [h]; omega
  · by_cases h' : cmpT a b = 0
    · simp [h']
    · rw [decide_eq_false h, decide_eq_false h', decide_eq_true (show 0 < cmpT a b by omega)]; rfl
theorem orI_cons (x : Int) (r : List Int) : orI (x :: r) = if x ≠ 0 then x else orI r := rfl
theorem rcmpV_g (x y : ValD) : Gives Tryd.prog F.errataref03_Compare #[x.v, y.v] (.int .i64 (cmpV x y)) := by
  refine gives_of (Berrataref03_Compare_run x.kind x.num x.text y.kind y.num y.text) fun W R Φ _ => ?_
  have h3 := compareBytes_bd x.text.data.toList y.text.data.toList
  unfold cmpV cmpL
  rw [orI_cons, orI_cons, orI_cons]
  refine fun _ _ => Br.intro (fun h => fun w G c => ⟨?_, c.left⟩) (fun h => Br.intro (fun h2 => fun w G c => ⟨?_, c.left⟩) (fun h2 => Br.intro (fun h3 => fun w G c => ⟨?_, c.left⟩) (fun h3 => Br.intro (fun h4 => fun w G c => ⟨?_, c.left⟩) (fun h4 => Br.intro (fun h5 => fun w G c => ⟨?_, c.left⟩) (fun h5 => ⟨_, fun w => by rw [binOp_string_gtr]; rfl, Br.intro (fun h6 => fun w G c => ⟨?_, c.left⟩) (fun h6 => fun w G c => ⟨?_, c.left⟩)⟩)))))
  · have h := of_decide_eq_true h
    have : cmpI x.kind y.kind = -1 := by unfold cmpI; rw [if_pos h]
    rw [this]; rfl
  all_goals have h := of_decide_eq_false h
  · have h2 := of_decide_eq_true h2
    have : cmpI x.kind y.kind = 1 := by unfold cmpI; rw [if_neg h, if_pos h2]
    rw [this]; rfl
  all_goals have h2 := of_decide_eq_false h2
  all_goals have e1 : cmpI x.kind y.kind = 0 := by unfold cmpI; rw [if_neg h, if_neg h2]
  all_goals rw [e1]
  · have h3 := of_decide_eq_true h3
    have : cmpI x.num y.num = -1 := by unfold cmpI; rw [if_pos h3]
    rw [this]; rfl
  all_goals have h3 := of_decide_eq_false h3
  · have h4 := of_decide_eq_true h4
    have : cmpI x.num y.num = 1 := by unfold cmpI; rw [if_neg h3, if_pos h4]
    rw [this]; rfl
  all_goals have h4 := of_decide_eq_false h4
  all_goals have e2 : cmpI x.num y.num = 0 := by unfold cmpI; rw [if_neg h3, if_neg h4]
  all_goals rw [e2]
  · have h5 : Op.bytesLess x.text.toList y.text.toList = true := h5
    rw [cmpT_less] at h5
    have h5 := of_decide_eq_true h5
    have : cmpT x.text y.text = -1 := by have : -1 ≤ cmpT x.text y.text := (compareBytes_bd _ _).1; omega
    rw [this]; rfl
  all_goals have h5 : Op.bytesLess x.text.toList y.text.toList = false := h5
  all_goals rw [cmpT_less] at h5
  all_goals have h5 := of_decide_eq_false h5
  · rw [cmpT_gtr] at h6
    have h6 := of_decide_eq_true h6
    have : cmpT x.text y.text = 1 := by have : cmpT x.text y.text ≤ 1 := (compareBytes_bd _ _).2; omega
    rw [this]; rfl
  · rw [cmpT_gtr] at h6
    have h6 := of_decide_eq_false h6
    have : cmpT x.text y.text = 0 := by omega
    rw [this]; rfl
theorem cmpR_nil {l r : List ValD} {i : Nat} (h : l.length ≤ i) (hr : r.length ≤ i) : cmpR (l.drop i) (r.drop i) = 0 := by
  rw [List.drop_of_length_le h, List.drop_of_length_le hr]; rfl
theorem cmpR_right {l r : List ValD} {i : Nat} (hi : l.length ≤ i) (hr : i < r.length) : cmpR (l.drop i) (r.drop i) = -1 := by
  rw [List.drop_eq_getElem_cons hr, List.drop_of_length_le hi]; rfl
theorem rCompareRows_in {Φ : PW} [Stable Φ] (p q : Option Addr) (cap cap2 : Nat) (l r : List ValD) (hΦ : ∀ M w, Φ M w → Sl M w p l) (hΨ : ∀ M w, Φ M w → Sl M w q r) (hlen : l.length ≤ 9223372036854775807) :
    GivesIn Φ Tryd.prog F.errataref03_CompareRows #[.slice p l.length cap, .slice q r.length cap2] (.int .i64 (cmpR l r)) := by
  refine .there (fun M w h => (hΦ M w h).there) fun hth => .there (fun M w h => (hΨ M w h).there) fun hth2 => ?_
  refine gives_in (Berrataref03_CompareRows_run p l.length cap q r.length cap2) fun W R => ?_
  refine exI_mk (fun n R' Φ' k => ∃ i : Nat, n = i ∧ i ≤ l.length ∧ i ≤ r.length ∧ R' = R ∧ Φ' = Φ ∧ k = l.length - i ∧ cmpR l r = cmpR (l.drop i) (r.drop i)) ⟨⟨R, Φ, _, inferInstance, fun w F c => c, 0, rfl, Nat.zero_le _, Nat.zero_le _, rfl, rfl, rfl, rfl⟩, ?_⟩
  rintro n R1 Φ1 k _ ⟨i, rfl, hi, hr, rfl, rfl, rfl, hcm⟩
  refine fun w G cx => Br.intro (fun hlt => ?_) (fun hge => ?_)
  · rw [Bool.and_eq_true] at hlt
    have hl : i < l.length := by have := of_decide_eq_true hlt.1; omega
    have hr2 : i < r.length := by have := of_decide_eq_true hlt.2; omega
    obtain ⟨b, o, rfl⟩ := hth (by omega)
    obtain ⟨b2, o2, rfl⟩ := hth2 (by omega)
    rw [cmpR_both hl hr2] at hcm
    refine ⟨R1, Φ1, inferInstance, fun _ _ c => c, by omega, ptrK_intro b o rfl ⟨by omega, ptrK_intro b2 o2 rfl ⟨l[i].kind, l[i].num, l[i].text, fun w G cx => ⟨_, _, _, sl_val (hΦ _ _ cx.phi) hl, rfl⟩, r[i].kind, r[i].num, r[i].text, fun w G cx => ⟨_, _, _, sl_val (hΨ _ _ cx.phi) hr2, rfl⟩, fun w G cx => (rcmpV_g l[i] r[i]).use cx fun w cx => ⟨_, rfl, R1, Φ1, inferInstance, cx,
      Br.intro (fun hn => fun w F cx => ⟨?_, cx.left⟩) (fun hn => ⟨by unfold I64; omega, R1, Φ1, l.length - (i + 1), inferInstance, fun w F c => c, ⟨i + 1, rfl, hl, hr2, rfl, rfl, rfl, ?_⟩, by omega⟩)⟩⟩⟩⟩
    · have hn : cmpV l[i] r[i] ≠ 0 := by simpa using hn
      rw [hcm, if_pos hn]
    · have hn : ¬ cmpV l[i] r[i] ≠ 0 := by simpa using hn
      rw [hcm, if_neg hn]
  · have hge : l.length ≤ i ∨ r.length ≤ i := by
      rw [Bool.and_eq_false_iff] at hge
      rcases hge with h | h
      · left; have := of_decide_eq_false h; omega
      · right; have := of_decide_eq_false h; omega
    refine Br.intro (fun h => fun w G cx => ⟨?_, cx.left⟩) (fun h => Br.intro (fun h2 => fun w G cx => ⟨?_, cx.left⟩) (fun h2 => fun w G cx => ⟨?_, cx.left⟩))
    · have h := of_decide_eq_true h
      rw [hcm, cmpR_right (by omega) (by omega)]
    · have h2 := of_decide_eq_true h2
      rw [hcm, cmpR_left (by omega) (by omega)]
    · have h := of_decide_eq_false h
      have h2 := of_decide_eq_false h2
      rw [hcm, cmpR_nil (by omega) (by omega)]
theorem rCompareD_in {Φ : PW} [Stable Φ] (x y : DeltaD) (p q : Option Addr) (cap cap2 : Nat) (hΦ : ∀ M w, Φ M w → Sl M w p x.row) (hΨ : ∀ M w, Φ M w → Sl M w q y.row) (hlen : x.row.length ≤ 9223372036854775807) :
    GivesIn Φ Tryd.prog F.errataref28_Compare #[x.v p cap, y.v q cap2] (.int .i64 (cmpD x y)) := by
  refine gives_in (Berrataref28_Compare_run x.time p x.row.length cap x.n y.time q y.row.length cap2 y.n) fun W R => ?_
  unfold cmpD cmpDL
  rw [orI_cons, orI_cons]
  refine fun _ _ => Br.intro (fun h => fun w G c => ⟨?_, c.left⟩) (fun h => Br.intro (fun h2 => fun w G c => ⟨?_, c.left⟩) (fun h2 => ?_))
  · have h := of_decide_eq_true h
    have : cmpI x.time y.time = -1 := by unfold cmpI; rw [if_pos h]
    rw [this]; rfl
  all_goals have h := of_decide_eq_false h
  · have h2 := of_decide_eq_true h2
    have : cmpI x.time y.time = 1 := by unfold cmpI; rw [if_neg h, if_pos h2]
    rw [this]; rfl
  have h2 := of_decide_eq_false h2
  have e1 : cmpI x.time y.time = 0 := by unfold cmpI; rw [if_neg h, if_neg h2]
  rw [e1]
  refine fun w G cx => (rCompareRows_in p q cap cap2 x.row y.row hΦ hΨ hlen).use cx fun w cx => ⟨_, rfl, R, Φ, inferInstance, cx, fun w G cx => ⟨?_, cx.left⟩⟩
  by_cases h0 : cmpR x.row y.row = 0
  · rw [h0]; rfl
  · rw [if_neg (by omega), if_pos h0]
theorem Equal_pin {Φ : PW} [Stable Φ] (p : Option Addr) (cap : Nat) (a : List DeltaD) (q : Option Addr) (cap2 : Nat) (b : List DeltaD) (g1 o1 : Nat) (cs1 : List (List Value)) (g2 o2 : Nat) (cs2 : List (List Value)) (hp : 0 < a.length → p = some ⟨g1, o1, none⟩) (hq : 0 < b.length → q = some ⟨g2, o2, none⟩)
    (hΦ : ∀ M w, Φ M w → Pin g1 o1 cs1 a M w) (hΨ : ∀ M w, Φ M w → Pin g2 o2 cs2 b M w) (hlen : a.length ≤ 9223372036854775807) :
    GivesIn Φ Tryd.prog F.errataref28_Equal #[.slice p a.length cap, .slice q b.length cap2] (.bool (decide (a = b))) := by
  refine in_cells hΦ fun hc1 => in_cells hΨ fun hc2 => ?_
  refine gives_in (Berrataref28_Equal_run p a.length cap q b.length cap2) fun W R => ?_
  refine Br.intro (fun h => fun w G cx => ⟨?_, cx.left⟩) (fun h => ?_)
  · rw [decide_eq_false]
    intro e
    have := of_decide_eq_true h
    rw [e] at this
    exact this rfl
  have hl : a.length = b.length := by have := of_decide_eq_false h; omega
  refine exI_mk (fun iI R' Φ' k => ∃ i : Nat, iI = i ∧ i ≤ a.length ∧ R' = R ∧ Φ' = Φ ∧ k = a.length - i ∧ a.take i = b.take i) ⟨⟨R, Φ, _, inferInstance, fun w F c => c, 0, rfl, Nat.zero_le _, rfl, rfl, rfl, rfl⟩, ?_⟩
  rintro iI R1 Φ1 k _ ⟨i, rfl, hi, rfl, rfl, rfl, hs⟩
  refine Br.intro (fun hlt => ?_) (fun hge => fun w F cx => ⟨?_, cx.left⟩)
  · have hlt : i < a.length := by have := of_decide_eq_true hlt; omega
    have hltb : i < b.length := by omega
    obtain ⟨r1, rc1, he1, f1, f2, _, _⟩ := hc1 i hlt
    obtain ⟨r2, rc2, he2, f3, f4, _, _⟩ := hc2 i hltb
    have hcall := rCompareD_in (Φ := Φ1) a[i] b[i] r1 r2 rc1 rc2 (fun M w h => pin_row (hΦ M w h) hlt he1) (fun M w h => pin_row (hΨ M w h) hltb he2) (len_max f1 f2)
    have hn1 : ∀ {w : World} {G : List Own}, Ctx W w (R1 ++ G) Φ1 → w.cell? ⟨g1, o1 + (i : Int).toNat * 3 + 2, none⟩ = some (.int .i64 a[i].n) := fun cx => by
      have := pin_rowAt (hΦ _ _ cx.phi) hlt he1 2 (by simp)
      rw [Int.toNat_natCast]; simpa using this
    have hn2 : ∀ {w : World} {G : List Own}, Ctx W w (R1 ++ G) Φ1 → w.cell? ⟨g2, o2 + (i : Int).toNat * 3 + 2, none⟩ = some (.int .i64 b[i].n) := fun cx => by
      have := pin_rowAt (hΨ _ _ cx.phi) hltb he2 2 (by simp)
      rw [Int.toNat_natCast]; simpa using this
    refine ⟨R1, Φ1, inferInstance, fun _ _ c => c, by omega, ptrK_intro g1 o1 (hp (by omega)) ⟨by omega, ptrK_intro g2 o2 (hq (by omega)) ⟨a[i].time, r1, a[i].row.length, rc1, a[i].n, fun w G cx => ⟨_, _, _, _, _, by rw [Int.toNat_natCast]; exact pin_rowAt (hΦ _ _ cx.phi) hlt he1, rfl⟩, b[i].time, r2, b[i].row.length, rc2, b[i].n, fun w G cx => ⟨_, _, _, _, _, by rw [Int.toNat_natCast]; exact pin_rowAt (hΨ _ _ cx.phi) hltb he2, rfl⟩,
      fun w G cx => hcall.use cx fun w cx => ⟨_, rfl, R1, Φ1, inferInstance, cx, Br.intro (fun hn => fun w F cx => ⟨?_, cx.left⟩) (fun hn => ⟨by omega, ptrK_intro g1 o1 (hp (by omega)) ⟨by omega, ptrK_intro g2 o2 (hq (by omega)) fun w G cx => ⟨_, hn1 cx, fun w G cx => ⟨_, hn2 cx, Br.intro (fun h3 => fun w G cx => ⟨?_, cx.left⟩) (fun h3 => ⟨by unfold I64; omega, R1, Φ1, a.length - (i + 1), inferInstance, fun w F c => c, ⟨i + 1, rfl, hlt, rfl, rfl, rfl, ?_⟩, by omega⟩)⟩⟩⟩⟩)⟩⟩⟩⟩
    · rw [decide_eq_false]
      intro e
      subst e
      have := of_decide_eq_true hn
      rw [cmpD_key] at this
      exact this (cmpK_cmp.refl _)
    · rw [decide_eq_false]
      intro e
      subst e
      have := of_decide_eq_true h3
      exact this rfl
    · have h1 := of_decide_eq_false hn
      have h2 := of_decide_eq_false h3
      have h1 : cmpD a[i] b[i] = 0 := Decidable.not_not.1 h1
      have h2 : a[i].n = b[i].n := Decidable.not_not.1 h2
      rw [cmpD_key] at h1
      have he : a[i] = b[i] := delta_ext ((cmpK_cmp.eq _ _).1 h1) h2
      rw [List.take_succ_eq_append_getElem hlt, List.take_succ_eq_append_getElem hltb, hs, he]
  · have hge : i = a.length := by have := of_decide_eq_false hge; omega
    rw [decide_eq_true]
    rw [hge, List.take_length, hl, List.take_length] at hs
    exact hs
theorem Equal_in {Φ : PW} [Stable Φ] (p : Option Addr) (cap : Nat) (a : List DeltaD) (q : Option Addr) (cap2 : Nat) (b : List DeltaD) (hΦ : ∀ M w, Φ M w → Sl M w p a) (hΨ : ∀ M w, Φ M w → Sl M w q b) (hlen : a.length ≤ 9223372036854775807) :
    GivesIn Φ Tryd.prog F.errataref28_Equal #[.slice p a.length cap, .slice q b.length cap2] (.bool (decide (a = b))) :=
  .pinned hΦ fun g1 o1 cs1 hp => .pinned (fun M w h => hΨ M w h.1) fun g2 o2 cs2 hq => Equal_pin (Φ := fun M w => (Φ M w ∧ Pin g1 o1 cs1 a M w) ∧ Pin g2 o2 cs2 b M w) p cap a q cap2 b g1 o1 cs1 g2 o2 cs2 hp hq (fun M w h => h.1.2) (fun M w h => h.2) hlen
end Go.Proofs.YtemhapmbcbbljaaDoor
end

section
namespace Go.Proofs.YtemhapmbcbbljaaDoor
open Go.Vc
theorem sumK_step {l : List DeltaD} {i : Nat} (h : i < l.length) (k : Key) : sumK (l.take (i + 1)) k = sumK (l.take i) k + (if l[i].key = k then l[i].n else 0) := by
  rw [List.take_succ_eq_append_getElem h, sumK_app]
  simp only [sumK, Int.add_zero]
theorem Find_pin {Φ : PW} [Stable Φ] (p : Option Addr) (cap : Nat) (l : List DeltaD) (time : Int) (q : Option Addr) (cap2 : Nat) (row : List ValD) (g o : Nat) (cs : List (List Value)) (hp : 0 < l.length → p = some ⟨g, o, none⟩) (hΦ : ∀ M w, Φ M w → Pin g o cs l M w) (hΨ : ∀ M w, Φ M w → Sl M w q row)
    (hlen : l.length ≤ 9223372036854775807) : GivesIn Φ Tryd.prog F.delta_Find #[.slice p l.length cap, .int .i64 time, .slice q row.length cap2] (.int .i64 (findP l (time, row))) := by
  refine in_cells hΦ fun hcs => ?_
  refine gives_in (Bdelta_Find_run p l.length cap time q row.length cap2) fun W R => ?_
  refine exI_mk (fun n iI R' Φ' k => ∃ i : Nat, iI = i ∧ i ≤ l.length ∧ n = findP (l.take i) (time, row) ∧ R' = R ∧ Φ' = Φ ∧ k = l.length - i) ⟨⟨R, Φ, _, inferInstance, fun w F c => c, 0, rfl, Nat.zero_le _, rfl, rfl, rfl, rfl⟩, ?_⟩
  rintro n iI R1 Φ1 k _ ⟨i, rfl, hi, rfl, rfl, rfl, rfl⟩
  refine Br.intro (fun hlt => ?_) (fun hge => fun w F cx => ⟨?_, cx.left⟩)
  · have hlt : i < l.length := by have := of_decide_eq_true hlt; omega
    obtain ⟨r, rc, he, f1, f2, _, _⟩ := hcs i hlt
    have hcall := compareD_in (Φ := Φ1) l[i] ⟨time, row, 0⟩ r q rc cap2 (fun M w h => pin_row (hΦ M w h) hlt he) (fun M w h => hΨ M w h) (len_max f1 f2)
    refine ⟨by omega, ptrK_intro g o (hp (by omega)) fun w G cx => ⟨l[i].time, r, l[i].row.length, rc, l[i].n, by rw [Int.toNat_natCast]; exact pin_rowAt (hΦ _ _ cx.phi) hlt he, fun _ w G cx => hcall.use cx fun w cx => ⟨_, rfl, R1, Φ1, inferInstance, cx,
      Br.intro (fun h => ⟨by unfold I64; omega, R1, Φ1, l.length - (i + 1), inferInstance, fun w F c => c, ⟨i + 1, rfl, hlt, ?_, rfl, rfl, rfl⟩, by omega⟩) (fun h => ⟨by unfold I64; omega, R1, Φ1, l.length - (i + 1), inferInstance, fun w F c => c, ⟨i + 1, rfl, hlt, ?_, rfl, rfl, rfl⟩, by omega⟩)⟩⟩⟩
    · have h := of_decide_eq_true h
      rw [cmpD_key] at h
      have hk : l[i].key = (time, row) := (cmpK_cmp.eq _ _).1 h
      unfold findP
      rw [sumK_step hlt, if_pos hk]
      exact w64_l _ _
    · have h := of_decide_eq_false h
      rw [cmpD_key] at h
      have hk : ¬ l[i].key = (time, row) := fun e => h ((cmpK_cmp.eq _ _).2 e)
      unfold findP
      rw [sumK_step hlt, if_neg hk, Int.add_zero]
  · have hge : i = l.length := by have := of_decide_eq_false hge; omega
    rw [hge, List.take_length]
theorem Find_in {Φ : PW} [Stable Φ] (p : Option Addr) (cap : Nat) (l : List DeltaD) (time : Int) (q : Option Addr) (cap2 : Nat) (row : List ValD) (hΦ : ∀ M w, Φ M w → Sl M w p l) (hΨ : ∀ M w, Φ M w → Sl M w q row)
    (hlen : l.length ≤ 9223372036854775807) : GivesIn Φ Tryd.prog F.delta_Find #[.slice p l.length cap, .int .i64 time, .slice q row.length cap2] (.int .i64 (findP l (time, row))) :=
  .pinned hΦ fun g o cs hp => Find_pin (Φ := fun M w => Φ M w ∧ Pin g o cs l M w) p cap l time q cap2 row g o cs hp (fun M w h => h.2) (fun M w h => hΨ M w h.1) hlen
def findI {α : Type} (p : α → Bool) : Nat → List α → Int
  | _, [] => -1
  | i, x :: r => if p x = true then (i : Int) else findI p (i + 1) r
theorem findI_drop {α : Type} (p : α → Bool) (l : List α) (i : Nat) (hi : i < l.length) : findI p i (l.drop i) = if p l[i] = true then (i : Int) else findI p (i + 1) (l.drop (i + 1)) := by
  rw [List.drop_eq_getElem_cons hi]; rfl
theorem findI_any {α : Type} (p : α → Bool) : ∀ (l : List α) (i : Nat), decide (0 ≤ findI p i l) = l.any p
  | [], _ => rfl
  | x :: r, i => by
    unfold findI
    rw [List.any_cons]
    cases h : p x with
    | true => simp
    | false => simp only [Bool.false_or]; rw [if_neg (by simp)]; exact findI_any p r (i + 1)
end Go.Proofs.YtemhapmbcbbljaaDoor
end

section
namespace Go.Vc
section
variable {P : Program} {W w w' : World} {S F : List Own} {Φ Ψ : PW}
end
end Go.Vc
namespace Go.Proofs.YtemhapmbcbbljaaDoor
open Go.Vc
end Go.Proofs.YtemhapmbcbbljaaDoor
end

section
namespace Go.Proofs.YtemhapmbcbbljaaDoor
open Go.Vc
def consAt (l : List DeltaD) (j : Nat) : Bool := match l[j]? with
  | none => false
  | some y => decide (y.n ≠ 0) && match j with
    | 0 => true
    | i + 1 => match l[i]? with
      | none => false
      | some x => decide (cmpD x y < 0)
def consolidated (l : List DeltaD) : Bool := (List.range l.length).all fun j => consAt l j
theorem consolidated_false {l : List DeltaD} {j : Nat} (hj : j < l.length) (h : consAt l j = false) : consolidated l = false := by
  unfold consolidated
  rw [List.all_eq_false]
  exact ⟨j, List.mem_range.2 hj, by rw [h]; simp⟩
theorem consolidated_true {l : List DeltaD} (h : ∀ j, j < l.length → consAt l j = true) : consolidated l = true := by
  unfold consolidated
  rw [List.all_eq_true]
  exact fun j hj => h j (List.mem_range.1 hj)
theorem Consolidated_pin {Φ : PW} [Stable Φ] (p : Option Addr) (cap : Nat) (l : List DeltaD) (b o : Nat) (cs : List (List Value)) (hp : 0 < l.length → p = some ⟨b, o, none⟩) (hΦ : ∀ M w, Φ M w → Pin b o cs l M w) (hlen : l.length ≤ 9223372036854775807) :
    GivesIn Φ Tryd.prog F.delta_Consolidated #[.slice p l.length cap] (.bool (consolidated l)) := by
  refine in_cells hΦ fun hcs => ?_
  refine gives_in (Bdelta_Consolidated_run p l.length cap) fun W R => ?_
  refine exI_mk (fun n R' Φ' k => ∃ i : Nat, n = i ∧ i ≤ l.length ∧ R' = R ∧ Φ' = Φ ∧ k = l.length - i ∧ ∀ j, j < i → consAt l j = true) ⟨⟨R, Φ, _, inferInstance, fun w F c => c, 0, rfl, Nat.zero_le _, rfl, rfl, rfl, fun j hj => by omega⟩, ?_⟩
  rintro n R1 Φ1 k _ ⟨i, rfl, hi, rfl, rfl, rfl, hok⟩
  refine Br.intro (fun hlt => ?_) (fun hge => fun w F cx => ⟨?_, cx.left⟩)
  · have hlt : i < l.length := by simpa using hlt
    have hp := hp (by omega)
    obtain ⟨q, qc, he, hq1, hq2, _, _⟩ := hcs i hlt
    refine ⟨by omega, ptrK_intro b o hp fun w G cx => ⟨_, q, _, qc, _, pin_rowAt (hΦ _ _ cx.phi) hlt he, fun _ => ⟨R1, Φ1, inferInstance, fun _ _ c => c, Br.intro (fun h0 => fun w F cx => ⟨?_, cx.left⟩) (fun h0 => Br.intro (fun h1 => ?_) (fun h1 => ?_))⟩⟩⟩
    · have h0 : l[i].n = 0 := by simpa using h0
      rw [consolidated_false hlt]
      unfold consAt
      rw [List.getElem?_eq_getElem hlt]
      simp [h0]
    · have h0 : ¬ l[i].n = 0 := by simpa using h0
      have h1 : 0 < i := by simpa using h1
      obtain ⟨j, rfl⟩ : ∃ j, i = j + 1 := ⟨i - 1, by omega⟩
      obtain ⟨q', qc', he', hq1', hq2', _, _⟩ := hcs j (by omega)
      have hc : consAt l (j + 1) = decide (cmpD l[j] l[j + 1] < 0) := by
        unfold consAt
        simp only
        rw [List.getElem?_eq_getElem hlt, List.getElem?_eq_getElem (show j < l.length by omega)]
        simp [h0]
      have hcmp : GivesIn Φ1 Tryd.prog F.delta_compare #[l[j].v q' qc', l[j + 1].v q qc] (.int .i64 (cmpD l[j] l[j + 1])) := compareD_in l[j] l[j + 1] q' q qc' qc (fun M w h => pin_row (hΦ M w h) _ he') (fun M w h => pin_row (hΦ M w h) _ he) (len_max hq1' hq2')
      refine ⟨by unfold I64; omega, by omega, ptrK_intro b o hp ⟨l[j].time, q', l[j].row.length, qc', l[j].n, ?_, ?_⟩⟩
      · intro w F cx
        refine ⟨l[j].time, q', l[j].row.length, qc', l[j].n, ?_, rfl⟩
        have := pin_rowAt (hΦ _ _ cx.phi) (show j < l.length by omega) he'
        rw [show (((j + 1 : Nat) : Int) - 1).toNat = j by omega]
        exact this
      intro w F cx
      refine hcmp.use cx fun w cx => ⟨cmpD l[j] l[j + 1], rfl, R1, Φ1, inferInstance, cx, ?_⟩
      refine Br.intro (fun h2 => fun w F cx => ⟨?_, cx.left⟩) (fun h2 => ⟨by unfold I64; omega, R1, Φ1, l.length - (j + 1 + 1), inferInstance, fun w F c => c, ⟨j + 1 + 1, rfl, hlt, rfl, rfl, rfl, fun i hi => ?_⟩, by omega⟩)
      · have h2 : 0 ≤ cmpD l[j] l[j + 1] := by simpa using h2
        rw [consolidated_false hlt]
        rw [hc, decide_eq_false (by omega)]
      · have h2 : ¬ 0 ≤ cmpD l[j] l[j + 1] := by simpa using h2
        rcases Nat.lt_or_ge i (j + 1) with h | h
        · exact hok i h
        · rw [show i = j + 1 by omega, hc, decide_eq_true (by omega)]
    · have h0 : ¬ l[i].n = 0 := by simpa using h0
      have h1 : i = 0 := by simpa using h1
      subst h1
      refine ⟨by unfold I64; omega, R1, Φ1, l.length - 1, inferInstance, fun w F c => c, ⟨1, rfl, hlt, rfl, rfl, rfl, fun i hi => ?_⟩, by omega⟩
      rw [show i = 0 by omega]
      unfold consAt
      simp only
      rw [List.getElem?_eq_getElem hlt]
      simp [h0]
  · have hge : i = l.length := Nat.le_antisymm hi (by simpa using hge)
    rw [consolidated_true (hge ▸ hok)]
theorem Consolidated_in {Φ : PW} [Stable Φ] (p : Option Addr) (cap : Nat) (l : List DeltaD) (hΦ : ∀ M w, Φ M w → Sl M w p l) (hlen : l.length ≤ 9223372036854775807) :
    GivesIn Φ Tryd.prog F.delta_Consolidated #[.slice p l.length cap] (.bool (consolidated l)) :=
  .pinned hΦ fun b o cs hp => Consolidated_pin (Φ := fun M w => Φ M w ∧ Pin b o cs l M w) p cap l b o cs hp (fun _ _ h => h.2) hlen
theorem norm_cons {l : List DeltaD} (h : Norm l) : consolidated l = true := consolidated_true fun j hj => by
  unfold consAt
  rw [List.getElem?_eq_getElem hj]
  have h0 : decide (l[j].n ≠ 0) = true := decide_eq_true (h.nz _ (List.getElem_mem _))
  cases j with
  | zero => simp only [h0, Bool.true_and]
  | succ i =>
    simp only [h0, Bool.true_and, List.getElem?_eq_getElem (show i < l.length by omega)]
    exact decide_eq_true (List.pairwise_iff_getElem.1 h.asc i (i + 1) (by omega) hj (by omega))
end Go.Proofs.YtemhapmbcbbljaaDoor
end

section
namespace Go.Proofs.YtemhapmbcbbljaaDoor
open Go.Vc
theorem Ctx.cells {W w : World} {S : List Own} {Φ : PW} {g o : Nat} {cs : List (List Value)} {l : List DeltaD} (c : Ctx W w S Φ) (h : ∀ M w, Φ M w → Pin g o cs l M w) :
    ∀ j, (hj : j < l.length) → ∃ p c, cs.getD j [] = l[j].cells p c ∧ l[j].row.length ≤ c ∧ c ≤ maxLen ∧ I64 l[j].time ∧ I64 l[j].n := fun j hj => by
  obtain ⟨p, q, h1, h2, h3, h4, h5, _⟩ := pin_delta (h _ _ c.phi) hj
  exact ⟨p, q, h1, h2, h3, h4, h5⟩
theorem push1 {W w : World} {R G : List Own} {PS : PW} [Stable PS] {op : Option Addr} {oc : Nat} {ds : List Value} {o : List DeltaD} {x : DeltaD} {q : Option Addr} {qc kb : Nat} (hx : ∀ M w, PS M w → Gv.rep M w (x.cells q qc) x) (ho : o.length < 10000000)
    (cx : Ctx W w (.blk kb (x.cells q qc) 39 :: .buf op o.length oc ds 39 3 :: R ++ G) (fun M w => PS M w ∧ Elems M w ds o)) :
    ∃ p c w', Sem.run Tryd.prog (builtin Builtin.append #[28, 28] 28 #[false, false] #[.slice op o.length oc, .slice (some ⟨kb, 0, none⟩) 1 1]) w = .ok (.value (.slice p (o ++ [x]).length c)) w' ∧ Ctx W w' (.buf p (o ++ [x]).length c (ds ++ x.cells q qc) 39 3 :: R ++ G) (fun M w => PS M w ∧ Elems M w (ds ++ x.cells q qc) (o ++ [x])) := by
  obtain ⟨p', cap', w', hrun, _, cx'⟩ := Ctx.app1 (P := Tryd.prog) (ts := 28) (ty := 28) (kb := #[false, false]) (size := 3) (bytes := 40) cx (by kernel_rfl) (by omega) rfl rfl (by omega) (by omega)
  have e : o.length + 1 = (o ++ [x]).length := by simp
  rw [e] at hrun cx'
  exact ⟨p', cap', w', hrun, cx'.weak fun M w h => ⟨h.1, h.2.snoc (hx M w h.1)⟩⟩
end Go.Proofs.YtemhapmbcbbljaaDoor
end

section
namespace Go.Proofs.YtemhapmbcbbljaaDoor
open Go.Vc
def dz (x : DeltaD) : DE := ⟨x, none, 0⟩
theorem dz_d (s : List DeltaD) : (s.map dz).map DE.d = s := by
  rw [List.map_map]
  exact List.map_id s
abbrev CO (l s outs : List DeltaD) (i : Nat) : Prop := COuter l (s.map dz) (outs.map dz) i
theorem CO.start {l s : List DeltaD} (h : s.Perm l) : CO l s [] 0 :=
  ⟨Nat.zero_le _, Norm.nil, by simp, fun k => by rw [List.drop_zero, dz_d, dz_d]; exact findP_perm h k, Nat.le_refl _⟩
theorem CO.step {l s outs : List DeltaD} {i : Nat} (h : CO l s outs i) {X : DeltaD} (hX : X ∈ s.drop i) {j : Nat} (hij : i + j ≤ s.length) (hj : 1 ≤ j) (hk : ∀ y ∈ (s.drop i).take j, y.key = X.key) {N : Int} (hN : N = findP ((s.drop i).take j) X.key)
    (hgt : ∀ y ∈ s.drop (i + j), cmpK X.key y.key < 0) : (N = 0 → CO l s outs (i + j)) ∧ (N ≠ 0 → CO l s (outs ++ [⟨X.time, X.row, N⟩]) (i + j)) := by
  have h1 := COuter.step h (X := dz X) (by rw [← List.map_drop]; exact List.mem_map_of_mem hX) (j := j) (by rw [List.length_map]; exact hij) hj
    (fun y hy => by rw [← List.map_drop, ← List.map_take] at hy; obtain ⟨z, hz, rfl⟩ := List.mem_map.1 hy; exact hk z hz) (N := N) (by rw [← List.map_drop, ← List.map_take, dz_d]; exact hN)
    (fun y hy => by rw [← List.map_drop] at hy; obtain ⟨z, hz, rfl⟩ := List.mem_map.1 hy; exact hgt z hz)
  refine ⟨h1.1, fun h0 => ?_⟩
  have := h1.2 h0 none 0
  unfold CO
  rw [List.map_append]
  exact this
theorem CO.end {l s outs : List DeltaD} (h : CO l s outs s.length) : consP l = outs := by
  have h1 := h.norm
  have h2 := h.find
  rw [dz_d] at h1 h2
  refine consP_is h1 fun k => ?_
  have := h2 k
  rwa [← List.map_drop, List.drop_length, List.map_nil, List.map_nil, List.append_nil] at this
theorem CO.few {l s outs : List DeltaD} {i : Nat} (h : CO l s outs i) : outs.length ≤ i := by
  have := COuter.few h
  rwa [List.length_map] at this
end Go.Proofs.YtemhapmbcbbljaaDoor
end

section
namespace Go.Proofs.YtemhapmbcbbljaaDoor
open Go.Vc
section
variable {Φ : PW} {q : LP} {st : LedD} {W w : World} {R S G : List Own} {p : Option Addr} {cap : Nat} {l : List LineD} {cs : List Value}
theorem src_row (src : Src S Φ p l cs) {b o i : Nat} (hp : p = some ⟨b, o, none⟩) (c : Ctx W w (S ++ G) Φ) (hi : i < l.length) : ∃ r rc, RowAt w b (o + i * 7) (l[i].cells r rc) ∧ (cs.drop (i * 7)).take 7 = l[i].cells r rc ∧ l[i].row.length ≤ rc ∧ rc ≤ maxLen ∧ l[i].In := by
  obtain ⟨r, rc, he, h1, h2, h3, _⟩ := lrow (src.el _ _ c.phi) hi
  refine ⟨r, rc, fun j hj => ?_, he, h1, h2, h3⟩
  have := src.rd hp c (i * 7 + j) _ (rows_of (vs := l[i].cells r rc) he j hj)
  rw [← Nat.add_assoc] at this
  exact this
theorem src_sl (src : Src S Φ p l cs) {i : Nat} (hi : i < l.length) {r : Option Addr} {rc : Nat} (he : (cs.drop (i * 7)).take 7 = l[i].cells r rc) {M : List Nat} (h : Φ M w) : Sl M w r l[i].row := by
  have := (src.el M w h).2 i hi
  rw [show (Gv.ty LineD).size = 7 from rfl, he] at this
  exact line_row this
theorem pushLD {PS : PW} [Stable PS] {op : Option Addr} {oc : Nat} {ds : List Value} {o : List DeltaD} {x : LineD} {r : Option Addr} {rc kb : Nat} (hx : ∀ M w, PS M w → Sl M w r x.row) (h1 : x.row.length ≤ rc) (h2 : rc ≤ maxLen) (h3 : x.In) (ho : o.length < 10000000)
    (cx : Ctx W w (.blk kb (x.d.cells r rc) 39 :: .buf op o.length oc ds 39 3 :: R ++ G) (fun M w => PS M w ∧ Elems M w ds o)) :
    ∃ p c w', Sem.run Tryd.prog (builtin Builtin.append #[28, 28] 28 #[false, false] #[.slice op o.length oc, .slice (some ⟨kb, 0, none⟩) 1 1]) w = .ok (.value (.slice p (o ++ [x.d]).length c)) w' ∧ Ctx W w' (.buf p (o ++ [x.d]).length c (ds ++ x.d.cells r rc) 39 3 :: R ++ G) (fun M w => PS M w ∧ Elems M w (ds ++ x.d.cells r rc) (o ++ [x.d])) :=
  push1 (x := x.d) (fun M w h => rep_delta (x := x.d) h1 h2 h3.time h3.n (hx M w h)) ho cx
theorem net_len (l : List LineD) : (netP l).length ≤ l.length := Nat.le_trans (consP_len _) (by simp)
end
end Go.Proofs.YtemhapmbcbbljaaDoor
end

section
namespace Go.Proofs.YtemhapmbcbbljaaDoor
open Go.Vc
theorem vInt_g (n : Int) : Gives Tryd.prog F.value_Int #[.int .i64 n] (.agg #[.int .i64 0, .int .i64 n, .string (ByteArray.mk #[])]) :=
  gives_of (Bvalue_Int_run n) fun W R Φ _ => fun _ w G c => ⟨rfl, c.left⟩
theorem vText_g (s : ByteArray) : Gives Tryd.prog F.value_Text #[.string s] (.agg #[.int .i64 1, .int .i64 0, .string s]) :=
  gives_of (Bvalue_Text_run s) fun W R Φ _ => fun _ w G c => ⟨rfl, c.left⟩
theorem vBool_g (b : Bool) : Gives Tryd.prog F.value_Bool #[.bool b] (.agg #[.int .i64 2, .int .i64 (if b = true then 1 else 0), .string (ByteArray.mk #[])]) :=
  gives_of (Bvalue_Bool_run b) fun W R Φ _ => fun _ => Br.intro (fun h => fun w G c => ⟨by rw [if_pos h], c.left⟩) (fun h => fun w G c => ⟨by rw [if_neg (by rw [h]; simp)], c.left⟩)
theorem vRight_g (x : ValD) : Gives Tryd.prog F.value_Right #[x.v] (.bool (rightV3 x)) := by
  refine gives_of (Bvalue_Right_run x.kind x.num x.text) fun W R Φ _ => fun _ => Br.intro (fun h => ?_) (fun h => Br.intro (fun h2 => ?_) (fun h2 => ?_))
  · refine ⟨R, Φ, inferInstance, fun w G c => c, fun w G cx => (vInt_g x.num).use cx fun w c => ⟨0, x.num, ByteArray.mk #[], rfl, R, Φ, inferInstance, c, fun w G c => c, by kernel_rfl, fun w G c => ⟨?_, c.left⟩⟩⟩
    have h := of_decide_eq_true h
    unfold rightV3
    rw [if_pos h, decide_eq_true h, decide_eq_true rfl, Bool.true_and, Bool.true_and, Bool.and_true]
  · refine ⟨R, Φ, inferInstance, fun w G c => c, fun w G cx => (vText_g x.text).use cx fun w c => ⟨1, 0, x.text, rfl, R, Φ, inferInstance, c, fun w G c => c, by kernel_rfl, ?_⟩⟩
    have h := of_decide_eq_false h
    have h2 := of_decide_eq_true h2
    refine Br.intro (fun h3 => fun w G c => ⟨?_, c.left⟩) (fun h3 => fun w G c => ⟨?_, c.left⟩)
    · unfold rightV3
      rw [if_neg h, if_pos h2]
      have : x.num = 0 := by simp at h3; exact h3.2
      rw [decide_eq_true this, Bool.true_and]
    · unfold rightV3
      rw [if_neg h, if_pos h2]
      have : x.num ≠ 0 := by
        intro e
        rw [decide_eq_true h2, decide_eq_true e, decide_eq_true rfl] at h3
        cases h3
      rw [decide_eq_false this, Bool.false_and]
  · have h := of_decide_eq_false h
    have h2 := of_decide_eq_false h2
    have hr : rightV3 x = (decide (x.kind = 2) && (decide (x.num = 0) || decide (x.num = 1)) && decide (x.text = ByteArray.mk #[])) := by unfold rightV3; rw [if_neg h, if_neg h2]
    refine ⟨R, Φ, inferInstance, fun w G c => c, fun w G cx => (vBool_g false).use cx fun w c => ⟨2, 0, ByteArray.mk #[], rfl, R, Φ, inferInstance, c, fun w G c => c, R, Φ, inferInstance, fun w G c => c, by kernel_rfl, ?_⟩⟩
    refine Br.intro (fun h3 => fun w G c => ⟨?_, c.left⟩) (fun h3 => fun w G cx => (vBool_g true).use cx fun w c => ⟨2, 1, ByteArray.mk #[], rfl, R, Φ, inferInstance, c, fun w G c => c, by kernel_rfl, fun w G c => ⟨?_, c.left⟩⟩)
    · rw [hr]
      simp at h3
      simp [h3]
    · rw [hr]
      congr 1
      by_cases k1 : x.kind = 2
      · by_cases k2 : x.text = ByteArray.mk #[]
        · by_cases k3 : x.num = 0
          · rw [k1, k2, k3] at h3
            simp at h3
          · simp [k1, k2, k3]
        · simp [k2]
      · simp [k1]
section
variable {Φ : PW} {q : LP} {st : LedD} {W w : World} {R S G : List Own} {p : Option Addr} {cap : Nat} {r : List ValD}
theorem all1_g (x : ValD) : Gives Tryd.prog F.value_all_1 #[x.v] (.bool (!rightV3 x)) :=
  gives_of (Bvalue_all_1_run x.kind x.num x.text) fun W R Φ _ => fun _ w G cx => (vRight_g x).use cx fun w c => ⟨_, rfl, R, Φ, inferInstance, c, fun w G c => ⟨rfl, c.left⟩⟩
theorem IndexV_in [Stable Φ] (f : FuncId) (g : ValD → Bool) [hΦ : Has Φ (fun M w => Sl M w p r)] (hlen : r.length ≤ maxLen) (hf : okFun Tryd.prog f = true) (cp : Array Value) (hg : ∀ x : ValD, Gives Tryd.prog f (Array.mk (x.v :: cp.toList)) (.bool (g x))) :
    GivesIn Φ Tryd.prog F.slices_IndexFunc_api_Value_api_Value #[.slice p r.length cap, .func (.func f) #[] cp] (.int .i64 (findI g 0 r)) := by
  refine .there (fun M w h => (hΦ.go M w h).there) fun hth => ?_
  refine gives_in (Bslices_IndexFunc_api_Value_api_Value_run p r.length cap f cp) fun W R => ?_
  refine exI_mk (fun n R' Φ' k => ∃ i : Nat, n = i ∧ i ≤ r.length ∧ R' = R ∧ Φ' = Φ ∧ k = r.length - i ∧ findI g 0 r = findI g i (r.drop i)) ⟨⟨R, Φ, _, inferInstance, fun w F c => c, 0, rfl, Nat.zero_le _, rfl, rfl, rfl, rfl⟩, ?_⟩
  rintro n R1 Φ1 k _ ⟨i, rfl, hi, rfl, rfl, rfl, hor⟩
  refine Br.intro (fun hlt => ?_) (fun hge => fun w F cx => ⟨?_, cx.left⟩)
  · have hlt : i < r.length := by simpa using hlt
    rw [findI_drop g r i hlt] at hor
    obtain ⟨b, o, rfl⟩ := hth (by omega)
    refine ⟨by omega, ptrK_intro b o rfl fun w F cx => ⟨r[i].kind, r[i].num, r[i].text, by rw [Int.toNat_natCast]; exact sl_val (hΦ.go _ _ cx.phi) hlt, fun w F cx => ⟨hf, (hg r[i]).use cx fun w cx => ⟨g r[i], rfl, R1, Φ1, inferInstance, cx, Br.intro (fun h => fun w F cx => ⟨?_, cx.left⟩) (fun h => ⟨by unfold I64; unfold maxLen at hlen; omega, R1, Φ1, r.length - (i + 1), inferInstance, fun w F c => c, ⟨i + 1, rfl, hlt, rfl, rfl, rfl, ?_⟩, by omega⟩)⟩⟩⟩⟩
    · rw [hor, if_pos h]
    · rw [hor, if_neg (by rw [h]; simp)]
  · have hge : i = r.length := Nat.le_antisymm hi (by simpa using hge)
    rw [hor, hge, List.drop_length]
    rfl
theorem RightRow_in [Stable Φ] [hΦ : Has Φ (fun M w => Sl M w p r)] : GivesIn Φ Tryd.prog F.value_RightRow #[.slice p r.length cap] (.bool (rightR r)) := by
  refine gives_in (Bvalue_RightRow_run p r.length cap) fun W R => Br.intro (fun h => ?_) (fun h => fun w G cx => ⟨?_, cx.left⟩)
  · have h1 := of_decide_eq_true h
    have hml : r.length ≤ maxLen := by have h2 : (12 : Nat) ≤ maxLen := (by decide); omega
    have hcon : GivesIn Φ Tryd.prog F.slices_ContainsFunc_api_Value_api_Value #[.slice p r.length cap, .func (.func F.value_all_1) #[] #[]] (.bool (r.any fun x => !rightV3 x)) := by
      refine gives_in (Bslices_ContainsFunc_api_Value_api_Value_run p r.length cap F.value_all_1 #[]) fun W R => ?_
      exact fun w G cx => (IndexV_in (r := r) F.value_all_1 (fun x => !rightV3 x) hml (by kernel_rfl) #[] all1_g).toI cx fun w G cx => ⟨by rw [findI_any], cx.left⟩
    have hall : GivesIn Φ Tryd.prog F.value_all #[.slice p r.length cap] (.bool (r.all rightV3)) := by
      refine gives_in (Bvalue_all_run p r.length cap) fun W R => ?_
      refine fun w G cx => hcon.toB cx fun w G cx => ⟨?_, cx.left⟩
      rw [List.all_eq_not_any_not]
    refine fun w G cx => hall.toB cx fun w G cx => ⟨?_, cx.left⟩
    unfold rightR
    rw [decide_eq_true h1, Bool.true_and]
  · unfold rightR
    rw [decide_eq_false (of_decide_eq_false h), Bool.false_and]
end
end Go.Proofs.YtemhapmbcbbljaaDoor
end

section
namespace Go.Proofs.YtemhapmbcbbljaaDoor
open Go.Vc
theorem right_text2 {r : List ValD} (h : rightR r = true) : ∀ v ∈ r, v.text.size ≤ 200 := fun v hv => by
  unfold rightR at h
  rw [Bool.and_eq_true] at h
  have h := List.all_eq_true.1 h.2 v hv
  unfold rightV3 at h
  split at h
  · have h := of_decide_eq_true h
    rw [h]; decide
  · split at h
    · rw [Bool.and_eq_true] at h
      have := of_decide_eq_true h.2
      omega
    · rw [Bool.and_eq_true] at h
      have h := of_decide_eq_true h.2
      rw [h]; decide
section
variable {Φ : PW} {q : LP} {st : LedD} {W w : World} {R S G : List Own} {p : Option Addr} {cap : Nat} {L : List LineD} {cs : List Value}
abbrev Rows7 (cs : List Value) (l : List LineD) : Prop := ∀ i (h : i < l.length), ∃ r rc, (cs.drop (i * 7)).take 7 = l[i].cells r rc ∧ l[i].row.length ≤ rc ∧ rc ≤ maxLen ∧ l[i].In
theorem rows7 {M : List Nat} (h : Elems M w cs L) : Rows7 cs L := fun i hi => by
  obtain ⟨r, rc, he, h1, h2, h3, _⟩ := lrow h hi
  exact ⟨r, rc, he, h1, h2, h3⟩
theorem src_at (src : Src S Φ p L cs) {b o i : Nat} (hp : p = some ⟨b, o, none⟩) (c : Ctx W w (S ++ G) Φ) {x : LineD} {r : Option Addr} {rc : Nat} (he : (cs.drop (i * 7)).take 7 = x.cells r rc) : RowAt w b (o + i * 7) (x.cells r rc) := fun j hj => by
  have := src.rd hp c (i * 7 + j) _ (rows_of (vs := x.cells r rc) he j hj)
  rw [← Nat.add_assoc] at this
  exact this
end
end Go.Proofs.YtemhapmbcbbljaaDoor
end

