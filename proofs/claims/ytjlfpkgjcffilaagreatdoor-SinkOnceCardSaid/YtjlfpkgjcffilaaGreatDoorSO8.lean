/-
  The reader of encodings: in plain Lean, and walked.
-/
import Derived.Test.YtjlfpkgjcffilaaGreatDoorSO7
import Derived.Test.YtjlfpkgjcffilaaGreatDoorSO6
import Derived.Shelf.Strconv.AtoiAll
import Derived.Shelf.Small.Wraps
import Derived.Stop.IfaceNil
import Derived.Lib.AtoiErrMem
import Derived.Lib.AtoiAllCases

section
set_option linter.unusedVariables false
set_option linter.unusedSimpArgs false
namespace Go.Vc
/-- a variable that holds an error, or none, in a block that nobody writes -/
def ErrAt (g : Nat) : PW := fun M w => g ∉ M ∧ ∃ ev, w.cell? ⟨g, 0, none⟩ = some ev ∧ (ev = .nilIface ∨ ∃ te pe, ev = .iface te pe)
instance instStableErrAt (g : Nat) : Stable (ErrAt g) := ⟨fun {M M' w w'} hs ⟨h1, ev, h2, h3⟩ => by
  have hlt : g < w.heap.size := by
    rcases Nat.lt_or_ge g w.heap.size with h' | h'
    · exact h'
    · simp [World.cell?, Array.getElem?_eq_none h'] at h2
  refine ⟨fun hm => ?_, ev, hs.chg.cell h2 h1, h3⟩
  rcases hs.sub g hm with h | h
  · exact h1 h
  · omega⟩
theorem chg_below {w w' : World} (h : Go.RowKit.Below w.heap.size w w') : Chg [] w w' := ⟨h.os, h.tape, h.output, h.size, fun k hk _ => h.block k hk⟩
theorem eqGuard_iface {P : Program} {op : BinOp} {t : TypeId} {ox oy : Operand} {u : TypeId} {v : Value} (w : World) : (eqGuard op t ox oy (.iface u v) .nilIface).run P w = .ok () w := by
  unfold eqGuard
  cases op <;> rfl
theorem eqGuard_nil {P : Program} {op : BinOp} {t : TypeId} {k : Nat} {v : Value} (w : World) : (eqGuard op t (.tmp k) (.const v) .nilIface .nilIface).run P w = .ok () w := by
  unfold eqGuard
  cases op <;> rfl
theorem neq_nil {P : Program} {op : BinOp} {t t' : TypeId} {k : Nat} {v : Value} (ht : P.isIface t' = true) (w : World) : ((eqGuard op t (.tmp k) (.const v) .nilIface .nilIface) >>= fun _ => binOp .neq t' .nilIface .nilIface).run P w = .ok (.bool false) w := by
  rw [Sem.run_bind, eqGuard_nil]
  exact Go.run_neq_nil_nil_at w t' ht
theorem neq_err {P : Program} {op : BinOp} {t t' : TypeId} {ox oy : Operand} {u : TypeId} {v : Value} (ht : P.isIface t' = true) (w : World) : ((eqGuard op t ox oy (.iface u v) .nilIface) >>= fun _ => binOp .neq t' (.iface u v) .nilIface).run P w = .ok (.bool true) w := by
  rw [Sem.run_bind, eqGuard_iface]
  exact Go.run_neq_iface_nil w t' ht u v
end Go.Vc
namespace Go.Proofs.YtjlfpkgjcffilaaGreatDoor
open Go.Vc


/-- what the reading of numbers looks at -/
def NumI : PW := fun M w => TabI M w ∧ ErrAt 1 M w ∧ ErrAt 2 M w
instance instStableNumI : Stable NumI := instStableAnd TabI (fun M w => ErrAt 1 M w ∧ ErrAt 2 M w)

/-! ### in plain Lean -/
def bs (l : List UInt8) : ByteArray := ⟨l.toArray⟩
theorem bs_list (l : List UInt8) : (bs l).data.toList = l := rfl
theorem bs_size (l : List UInt8) : (bs l).size = l.length := size_list l
theorem bs_ext (l : List UInt8) (a b : Nat) : (bs l).extract a b = bs ((l.drop a).take (b - a)) := by
  apply ByteArray.ext
  apply Array.toList_inj.1
  rw [ByteArray.data_extract, Array.toList_extract]
  rfl
theorem bs_inj {a b : List UInt8} : bs a = bs b ↔ a = b := ⟨fun h => by have := congrArg (fun x => x.data.toList) h; exact this, fun h => by rw [h]⟩
/-- what is left, and whether it has failed -/
abbrev RdS := List UInt8 × Bool
def numP (e : UInt8) (least : Int) (l : List UInt8) : Option (Int × List UInt8) :=
  let i := Lib.indexByte (l.take 21) e
  if i < 0 then none else match Lib.atoiAll (l.take i.toNat) with
    | .ok n => if Lib.itoa n = l.take i.toNat ∧ least ≤ n then some (n, l.drop (i.toNat + 1)) else none
    | _ => none
def stepN (e : UInt8) (least : Int) (st : RdS) : Int × RdS := match numP e least st.1 with
  | some (n, r) => (n, (r, st.2))
  | none => (0, ([], true))
def stepC (c : UInt8) (st : RdS) : RdS := match st.1 with
  | [] => ([], true)
  | x :: r => if x = c then (r, st.2) else ([], true)
def stepT (st : RdS) : ByteArray × RdS :=
  let a := stepN 58 0 st
  if (a.2.1.length : Int) < a.1 then (ByteArray.mk #[], ([], true)) else
    let c := stepC 44 (a.2.1.drop a.1.toNat, a.2.2)
    (if c.2 then ByteArray.mk #[] else bs (a.2.1.take a.1.toNat), c)

theorem at_of_split {l r : List UInt8} {i : Nat} {e : UInt8} (h : l.take i ++ e :: r = l) (hi : i < l.length) : l[i]? = some e := by
  have hl : (l.take i).length = i := by rw [List.length_take]; omega
  rw [← h, List.getElem?_append_right (by omega), hl, Nat.sub_self]
  rfl
theorem index_neg : ∀ (l : List UInt8) (c : UInt8), -1 ≤ Lib.indexByte l c ∧ (Lib.indexByte l c = -1 ∨ (0 ≤ Lib.indexByte l c ∧ Lib.indexByte l c < l.length ∧ l.take (Lib.indexByte l c).toNat ++ c :: l.drop ((Lib.indexByte l c).toNat + 1) = l ∧ c ∉ l.take (Lib.indexByte l c).toNat))
  | [], c => by simp [Lib.indexByte]
  | b :: l, c => by
    have ih := index_neg l c
    unfold Lib.indexByte
    by_cases hb : (b == c) = true
    · rw [if_pos hb]
      have : b = c := by simpa using hb
      subst this
      refine ⟨by omega, .inr ⟨by omega, by simp, by simp, by simp⟩⟩
    · rw [if_neg hb]
      by_cases h1 : (Lib.indexByte l c == -1) = true
      · rw [if_pos h1]; exact ⟨by omega, .inl rfl⟩
      · rw [if_neg h1]
        have h1 : Lib.indexByte l c ≠ -1 := by simpa using h1
        obtain ⟨h2, h3⟩ := ih
        rcases h3 with h3 | ⟨h3, h4, h5, h6⟩
        · exact absurd h3 h1
        · have e : (Lib.indexByte l c + 1).toNat = (Lib.indexByte l c).toNat + 1 := by omega
          refine ⟨by omega, .inr ⟨by omega, by simp; omega, ?_, ?_⟩⟩
          · rw [e, List.take_succ_cons, List.drop_succ_cons, List.cons_append, h5]
          · rw [e, List.take_succ_cons, List.mem_cons, not_or]
            exact ⟨fun e => hb (by simp [e]), h6⟩

theorem index_least {l : List UInt8} {c : UInt8} {a r : List UInt8} (hl : l = a ++ c :: r) (hc : c ∉ a) : Lib.indexByte l c = a.length := by
  subst hl
  induction a with
  | nil => simp [Lib.indexByte]
  | cons b a ih =>
    have hb : b ≠ c := fun e => hc (by simp [e])
    have ih := ih fun h => hc (by simp [h])
    rw [List.cons_append]
    unfold Lib.indexByte
    rw [if_neg (by simpa using hb), if_neg (by rw [ih]; simp), ih]
    simp

/-- digits and the sign -/
theorem digits_chars : ∀ (u : Nat), ∀ c ∈ Lib.decDigits u, 48 ≤ c.toNat ∧ c.toNat ≤ 57 := by
  intro u
  induction u using Nat.strongRecOn with
  | _ u ih =>
    intro c hc
    rw [Lib.decDigits] at hc
    split at hc
    · rename_i h
      rw [List.mem_singleton] at hc
      subst hc
      have : (UInt8.ofNat (48 + u)).toNat = 48 + u := by simp; omega
      omega
    · rename_i h
      rcases List.mem_append.1 hc with hc | hc
      · exact ih (u / 10) (by omega) c hc
      · rw [List.mem_singleton] at hc
        subst hc
        have : (UInt8.ofNat (48 + u % 10)).toNat = 48 + u % 10 := by simp; omega
        omega
theorem itoa_chars {n : Int} {c : UInt8} (h : c ∈ Lib.itoa n) : c.toNat = 45 ∨ 48 ≤ c.toNat ∧ c.toNat ≤ 57 := by
  unfold Lib.itoa at h
  split at h
  · rcases List.mem_cons.1 h with rfl | h
    · left; rfl
    · right; exact digits_chars _ c h
  · right; exact digits_chars _ c h

/-! ### the decimal form, read back -/
def digV (acc : Nat) (l : List UInt8) : Nat := l.foldl (fun a c => a * 10 + (c.toNat - 48)) acc
theorem digV_snoc (acc : Nat) (l : List UInt8) (c : UInt8) : digV acc (l ++ [c]) = digV acc l * 10 + (c.toNat - 48) := by simp [digV]
theorem digV_dec : ∀ u : Nat, digV 0 (Lib.decDigits u) = u := by
  intro u
  induction u using Nat.strongRecOn with
  | _ u ih =>
    rw [Lib.decDigits]
    split
    · rename_i h
      show 0 * 10 + ((UInt8.ofNat (48 + u)).toNat - 48) = u
      have : (UInt8.ofNat (48 + u)).toNat = 48 + u := by simp; omega
      omega
    · rename_i h
      rw [digV_snoc, ih (u / 10) (by omega)]
      have : (UInt8.ofNat (48 + u % 10)).toNat = 48 + u % 10 := by simp; omega
      omega
theorem digV_mono : ∀ (l : List UInt8) (acc : Nat), acc ≤ digV acc l
  | [], acc => Nat.le_refl _
  | c :: l, acc => by
    have := digV_mono l (acc * 10 + (c.toNat - 48))
    show acc ≤ digV (acc * 10 + (c.toNat - 48)) l
    omega
theorem parse_dig : ∀ (l : List UInt8) (acc : Nat), (∀ c ∈ l, 48 ≤ c.toNat ∧ c.toNat ≤ 57) → digV acc l < 18446744073709551616 → Lib.parseUint10 acc l = .ok (digV acc l)
  | [], acc, _, _ => rfl
  | c :: l, acc, hc, h => by
    have h0 := hc c (by simp)
    have hm := digV_mono l (acc * 10 + (c.toNat - 48))
    have e : digV acc (c :: l) = digV (acc * 10 + (c.toNat - 48)) l := rfl
    rw [e] at h ⊢
    unfold Lib.parseUint10
    rw [if_pos h0, if_neg (by omega), if_neg (by omega)]
    exact parse_dig l _ (fun d hd => hc d (by simp [hd])) h

theorem dec_ne (u : Nat) : Lib.decDigits u ≠ [] := by
  intro e
  have h1 := Lib.decDigits_length u
  have h2 := Lib.nDigits_pos u
  rw [e] at h1
  simp at h1
  omega
theorem mag_dec {u : Nat} (h : u < 18446744073709551616) : Lib.parseMag (Lib.decDigits u) = .ok u := by
  unfold Lib.parseMag
  rw [if_neg (dec_ne u), parse_dig _ 0 (digits_chars u) (by rw [digV_dec]; exact h), digV_dec]

theorem atoi_itoa {n : Int} (h : I64 n) : Lib.atoiAll (Lib.itoa n) = .ok n := by
  unfold I64 at h
  unfold Lib.itoa
  split
  · rename_i hn
    have hm := mag_dec (u := n.natAbs) (by omega)
    unfold Lib.atoiAll
    simp only
    rw [if_pos (.inr rfl), hm]
    simp only
    have e45 : (45 : UInt8).toNat = 45 := rfl
    rw [if_neg (by intro h; exact h.1 e45), if_neg (by intro h; omega), if_pos e45]
    congr 1
    omega
  · rename_i hn
    have hm := mag_dec (u := n.toNat) (by omega)
    obtain ⟨c, r, hcr⟩ : ∃ c r, Lib.decDigits n.toNat = c :: r := by
      cases hd : Lib.decDigits n.toNat with
      | nil => exact absurd hd (dec_ne _)
      | cons c r => exact ⟨c, r, rfl⟩
    have h0 := digits_chars n.toNat c (by rw [hcr]; simp)
    rw [hcr] at hm ⊢
    unfold Lib.atoiAll
    simp only
    rw [if_neg (by omega), hm]
    simp only
    rw [if_neg (by omega), if_neg (by omega), if_neg (by omega)]
    congr 1
    omega

/-- what a number's reading says -/
theorem numP_iff {e : UInt8} (he : e.toNat = 58 ∨ e.toNat = 59 ∨ e.toNat = 91) {least : Int} {l : List UInt8} {n : Int} {r : List UInt8} : numP e least l = some (n, r) ↔ (I64 n ∧ least ≤ n) ∧ l = Lib.itoa n ++ e :: r := by
  have hne : ∀ n : Int, e ∉ Lib.itoa n := fun n h => by have := itoa_chars h; omega
  constructor
  · intro h
    unfold numP at h
    simp only at h
    split at h
    · cases h
    · rename_i hi
      split at h
      · rename_i m hm
        split at h
        · rename_i hc
          cases h
          have hb := Lib.atoiAll_bounds hm
          obtain ⟨_, h3⟩ := index_neg (l.take 21) e
          rcases h3 with h3 | ⟨h3, h4, h5, h6⟩
          · omega
          · refine ⟨⟨by unfold I64; omega, hc.2⟩, ?_⟩
            rw [hc.1]
            have hlt : (Lib.indexByte (l.take 21) e).toNat < (l.take 21).length := by omega
            have hlt2 : (Lib.indexByte (l.take 21) e).toNat < l.length := by rw [List.length_take] at hlt; omega
            have hg : l[(Lib.indexByte (l.take 21) e).toNat] = e := by
              have h7 : (l.take 21)[(Lib.indexByte (l.take 21) e).toNat]? = some e := at_of_split h5 (by omega)
              rw [List.getElem?_take_of_lt (by rw [List.length_take] at hlt; omega), List.getElem?_eq_getElem hlt2] at h7
              exact Option.some.inj h7
            conv => lhs; rw [← List.take_append_drop (Lib.indexByte (l.take 21) e).toNat l, List.drop_eq_getElem_cons hlt2, hg]
        · cases h
      · cases h
  · rintro ⟨⟨h1, h2⟩, rfl⟩
    have hlen := itoa_len h1
    have ht : (Lib.itoa n ++ e :: r).take 21 = Lib.itoa n ++ e :: r.take (20 - (Lib.itoa n).length) := by
      rw [List.take_append, List.take_of_length_le (by omega)]
      congr 1
      rw [show 21 - (Lib.itoa n).length = (20 - (Lib.itoa n).length) + 1 by omega, List.take_succ_cons]
    have hi := index_least ht (hne n)
    unfold numP
    simp only
    rw [hi, if_neg (by omega), Int.toNat_natCast, List.take_left', atoi_itoa h1]
    · simp only
      rw [if_pos ⟨by simp, h2⟩]
      congr 2
      rw [List.drop_append, List.drop_of_length_le (by omega), List.nil_append, show (Lib.itoa n).length + 1 - (Lib.itoa n).length = 1 by omega]
      rfl
    · rfl

/-! ### walked -/
abbrev rd (b : Nat) (st : RdS) : Own := .blk b [.string (bs st.1), .bool st.2] 98

section
variable {W w : World} {R G S : List Own} {Φ : PW} {b : Nat} {st : RdS}

theorem Open_use [Stable Φ] (l : List UInt8) (c : Ctx W w S Φ) {K : Ending → World → Prop} (hk : ∀ b w', Ctx W w' (rd b (l, false) :: S) Φ → K (.returned (.pointer (some ⟨b, 0, none⟩))) w') :
    Calls Tryz.prog F.wire_Open #[.string (bs l)] w K := by
  refine (Bwire_Open_run (bs l) (J := fun u w' => K (.returned u) w') c ?_).mono fun e w' ⟨v, he, hj⟩ => by rw [he]; exact hj
  exact fun b w G cx => hk b w (Ctx.left (S := rd b (l, false) :: S) cx)

theorem fail_use [Stable Φ] (c : Ctx W w (rd b st :: S) Φ) {K : Ending → World → Prop} (hk : ∀ w', Ctx W w' (rd b ([], true) :: S) Φ → K (.returned (.tuple #[])) w') :
    Calls Tryz.prog F.wire_Reader_fail #[.pointer (some ⟨b, 0, none⟩)] w K := by
  refine (Bwire_Reader_fail_run b 0 (J := fun u w' => K (.returned u) w') c ?_).mono fun e w' ⟨v, he, hj⟩ => by rw [he]; exact hj
  refine fun w G cx => ⟨cx.can 0 rfl (by simp), fun w' hw' => ⟨.blk b [.string (bs []), .bool st.2] 98 :: S, Φ, inferInstance, cx.put 0 hw' rfl, fun w G cx => ⟨cx.can 0 rfl (by simp), fun w' hw' => ⟨rd b ([], true) :: S, Φ, inferInstance, cx.put 0 hw' rfl, fun w G cx => hk w cx.left⟩⟩⟩⟩

theorem fail_to [Stable Φ] (c : Ctx W w (rd b st :: S ++ G) Φ) {K : List Own → PW → Prop} (hk : K (rd b ([], true) :: S) Φ) :
    Calls Tryz.prog F.wire_Reader_fail #[.pointer (some ⟨b, 0, none⟩)] w fun e w' => e = .returned (.tuple #[]) ∧ ∃ R' Φ', Stable Φ' ∧ Ctx W w' (R' ++ G) Φ' ∧ K R' Φ' :=
  fail_use (S := S ++ G) c fun w' c => ⟨rfl, rd b ([], true) :: S, Φ, inferInstance, c, hk⟩

theorem index_g (s : ByteArray) (c : Int) : Gives Tryz.prog F.strings_IndexByte #[.string s, .int .u8 c] (.int .i64 (Lib.indexByte s.data.toList c.toNat.toUInt8)) :=
  Quiet.gives ⟨fun w => Any.strings_IndexByte Tryz.lays137 s c w⟩

theorem atoi_to [Stable Φ] (h1 : ∀ M w, Φ M w → ErrAt 1 M w) (h2 : ∀ M w, Φ M w → ErrAt 2 M w) (s : ByteArray) (hs : s.size ≤ 1000000) (c : Ctx W w (R ++ G) Φ) {K1 : Int → List Own → PW → Prop} {K2 : Int → TypeId → Value → List Own → PW → Prop}
    (k1 : ∀ n, Lib.atoiAll s.data.toList = .ok n → K1 n R Φ) (k2 : ∀ n t v, (∀ m, Lib.atoiAll s.data.toList ≠ .ok m) → K2 n t v R Φ) :
    Calls Tryz.prog F.strconv_Atoi #[.string s] w fun e w' => (∃ n : Int, e = .returned (.tuple #[.int .i64 n, .nilIface]) ∧ ∃ R' Φ', Stable Φ' ∧ Ctx W w' (R' ++ G) Φ' ∧ K1 n R' Φ') ∨
      ∃ (n : Int) (t : TypeId) (v : Value), e = .returned (.tuple #[.int .i64 n, .iface t v]) ∧ ∃ R' Φ', Stable Φ' ∧ Ctx W w' (R' ++ G) Φ' ∧ K2 n t v R' Φ' := by
  obtain ⟨_, ev, hv, hev⟩ := h1 _ _ c.phi
  obtain ⟨_, er, hr, her⟩ := h2 _ _ c.phi
  cases h : Lib.atoiAll s.data.toList
  · rename_i n
    refine (Any.strconv_Atoi_ok Tryz.laysC172 s (by omega) n h w).mono fun e w' ⟨he, hw⟩ => .inl ⟨n, he, R, Φ, inferInstance, ?_, k1 n h⟩
    rcases hw with rfl | ⟨t, rfl⟩
    · exact c
    · exact c.call (chg_below (Lib.bytesWorld_below _ _ _))
  · exact (Any.strconv_Atoi_syntax Tryz.laysC172 s (by omega) h ev w hv hev).mono fun e w' ⟨N, he, _, _, hb⟩ => .inr ⟨_, _, _, he, R, Φ, inferInstance, c.call (chg_below hb), k2 _ _ _ fun m hm => by rw [h] at hm; cases hm⟩
  · exact (Any.strconv_Atoi_range Tryz.laysC172 s (by omega) h er w hr her).mono fun e w' ⟨N, he, _, _, hb⟩ => .inr ⟨_, _, _, he, R, Φ, inferInstance, c.call (chg_below hb), k2 _ _ _ fun m hm => by rw [h] at hm; cases hm⟩

theorem stepN_none {e : UInt8} {least : Int} (h : numP e least st.1 = none) : stepN e least st = (0, ([], true)) := by unfold stepN; rw [h]
theorem stepN_some {e : UInt8} {least n : Int} {r : List UInt8} (h : numP e least st.1 = some (n, r)) : stepN e least st = (n, (r, st.2)) := by unfold stepN; rw [h]

set_option maxHeartbeats 2000000 in
theorem number_use [Stable Φ] (hΦ : ∀ M w, Φ M w → NumI M w) (e : Int) (least : Int) (hl : st.1.length ≤ 1000000000) (c : Ctx W w (rd b st :: S) Φ) {K : Ending → World → Prop}
    (hk : ∀ w', Ctx W w' (rd b (stepN e.toNat.toUInt8 least st).2 :: S) Φ → K (.returned (.int .i64 (stepN e.toNat.toUInt8 least st).1)) w') :
    Calls Tryz.prog F.wire_Reader_number #[.pointer (some ⟨b, 0, none⟩), .int .u8 e, .int .i64 least] w K := by
  refine (Bwire_Reader_number_run b 0 e least (J := fun u w' => K (.returned u) w') c ?_).mono fun e w' ⟨v, he, hj⟩ => by rw [he]; exact hj
  clear c
  obtain ⟨l, bad⟩ := st
  simp only at hl
  have hsz : (bs l).size = l.length := bs_size l
  have hmin : (min ((bs l).size : Int) 21).toNat = min l.length 21 := by rw [hsz]; omega
  have hhead : (bs l).extract 0 (min ((bs l).size : Int) 21).toNat = bs (l.take 21) := by
    rw [hmin, bs_ext, List.drop_zero, Nat.sub_zero]
    congr 1
    rcases Nat.le_total l.length 21 with h | h
    · rw [Nat.min_eq_left h, List.take_of_length_le (Nat.le_refl _), List.take_of_length_le h]
    · rw [Nat.min_eq_right h]
  refine fun w G cx => ⟨bs l, cx.get 0 rfl rfl, bs l, cx.get 0 rfl rfl, by omega, fun w G cx => ?_⟩
  rw [hhead]
  refine (index_g (bs (l.take 21)) e).in.toI (R := rd b (l, bad) :: S) cx ?_
  rw [bs_list]
  obtain ⟨i, hi⟩ : ∃ i, Lib.indexByte (l.take 21) e.toNat.toUInt8 = i := ⟨_, rfl⟩
  obtain ⟨hge, hidx⟩ := index_neg (l.take 21) e.toNat.toUInt8
  rw [hi] at hge hidx ⊢
  have failK : numP e.toNat.toUInt8 least l = none → ∀ (w : World) (G : List Own), Ctx W w (rd b (l, bad) :: S ++ G) Φ → Calls Tryz.prog F.wire_Reader_fail #[.pointer (some ⟨b, 0, none⟩)] w fun e w' => e = .returned (.tuple #[]) ∧ ∃ R' Φ', Stable Φ' ∧ Ctx W w' (R' ++ G) Φ' ∧ ∀ w F1, Ctx W w (R' ++ F1) Φ' → K (.returned (.int .i64 0)) w := fun hn w G cx => by
    rw [stepN_none (st := (l, bad)) hn] at hk
    exact fail_to (S := S) cx fun w F1 cx => hk w cx.left
  refine Br.intro (fun hneg => fun w G cx => failK ?_ w G cx) (fun hpos => ?_)
  · unfold numP
    simp only [hi]
    rw [if_pos (of_decide_eq_true hneg)]
  have hpos := of_decide_eq_false hpos
  rcases hidx with hidx | ⟨_, hlt, _, _⟩
  · omega
  have hlt2 : i.toNat < (l.take 21).length := by omega
  have hll : (l.take 21).length ≤ l.length := by rw [List.length_take]; omega
  have h21 : (l.take 21).length ≤ 21 := by rw [List.length_take]; omega
  have hhd : (bs (l.take 21)).extract 0 i.toNat = bs (l.take i.toNat) := by
    rw [bs_ext, List.drop_zero, Nat.sub_zero, List.take_take, Nat.min_eq_left (by omega)]
  refine ⟨⟨by omega, by rw [bs_size]; omega⟩, fun w G cx => ?_⟩
  rw [hhd]
  refine atoi_to (R := rd b (l, bad) :: S) (fun M w h => (hΦ M w h).2.1) (fun M w h => (hΦ M w h).2.2) (bs (l.take i.toNat)) (by rw [bs_size, List.length_take]; omega) cx (fun n hn => ?_) (fun n t v hn => ?_)
  · rw [bs_list] at hn
    have hb := Lib.atoiAll_bounds hn
    refine ⟨rd b (l, bad) :: S, Φ, inferInstance, fun w G cx => cx, false, fun w => neq_nil (by decide +kernel) w, Br.intro (fun h => by cases h) (fun _ => ⟨⟨by omega, by rw [bs_size]; omega⟩, fun w G cx => ?_⟩)⟩
    refine (Itoa_in (fun M w h => (hΦ M w h).1) n (by unfold I64; omega)).toS cx ⟨fun w G cx => cx, Br.intro (fun hne => fun w G cx => failK ?_ w G cx) (fun heq => Br.intro (fun hls => fun w G cx => failK ?_ w G cx) (fun hls => fun w G cx => ?_))⟩
    · have hne := of_decide_eq_true hne
      unfold numP
      simp only [hi]
      rw [if_neg (by omega), hn]
      simp only
      rw [if_neg (fun h => hne (by show bs (Lib.itoa n) = _; rw [h.1]))]
    · unfold numP
      simp only [hi]
      rw [if_neg (by omega), hn]
      simp only
      rw [if_neg (fun h => by have := of_decide_eq_true hls; omega)]
    · have heq : Lib.itoa n = l.take i.toNat := bs_inj.1 (Decidable.not_not.1 (of_decide_eq_false heq))
      have hls := of_decide_eq_false hls
      have hnum : numP e.toNat.toUInt8 least l = some (n, l.drop (i.toNat + 1)) := by
        unfold numP
        simp only [hi]
        rw [if_neg (by omega), hn]
        simp only
        rw [if_pos ⟨heq, by omega⟩]
      rw [stepN_some (st := (l, bad)) hnum] at hk
      have hex : (bs l).extract (i + 1).toNat (bs l).size = bs (l.drop (i.toNat + 1)) := by
        rw [bs_ext, hsz, show (i + 1).toNat = i.toNat + 1 by omega]
        congr 1
        exact List.take_of_length_le (by rw [List.length_drop]; omega)
      refine ⟨bs l, cx.get 0 rfl rfl, ?_, ⟨by omega, by omega, Nat.le_refl _⟩, fun w G cx => ⟨cx.can 0 rfl (by simp), fun w' hw' => ?_⟩⟩
      · unfold I64
        omega
      rw [hex] at hw'
      exact ⟨rd b (l.drop (i.toNat + 1), bad) :: S, Φ, inferInstance, cx.put 0 hw' rfl, fun w G cx => hk w cx.left⟩
  · rw [bs_list] at hn
    refine ⟨[], fun _ _ => True, inferInstance, fun w G cx => (cx.weak fun _ _ _ => trivial).right, true, fun w => ?_, Br.intro (fun _ => fun w G cx => failK ?_ w G cx) (fun h => by cases h)⟩
    · exact neq_err (by decide +kernel) w
    · unfold numP
      simp only [hi]
      rw [if_neg (by omega)]

theorem number_to [Stable Φ] (hΦ : ∀ M w, Φ M w → NumI M w) (e : Int) (least : Int) (hl : st.1.length ≤ 1000000000) (c : Ctx W w (rd b st :: S ++ G) Φ) {K : Int → List Own → PW → Prop}
    (hk : K (stepN e.toNat.toUInt8 least st).1 (rd b (stepN e.toNat.toUInt8 least st).2 :: S) Φ) :
    Calls Tryz.prog F.wire_Reader_number #[.pointer (some ⟨b, 0, none⟩), .int .u8 e, .int .i64 least] w fun e w' => ∃ n, e = .returned (.int .i64 n) ∧ ∃ R' Φ', Stable Φ' ∧ Ctx W w' (R' ++ G) Φ' ∧ K n R' Φ' :=
  number_use (S := S ++ G) hΦ e least hl c fun w' c => ⟨_, rfl, _, Φ, inferInstance, c, hk⟩

def rdInt (st : RdS) : Int × RdS := stepN 59 (-9223372036854775808) st
def rdNat (st : RdS) : Int × RdS := stepN 59 0 st

theorem RInt_to [Stable Φ] (hΦ : ∀ M w, Φ M w → NumI M w) (hl : st.1.length ≤ 1000000000) (c : Ctx W w (rd b st :: S ++ G) Φ) {K : Int → List Own → PW → Prop}
    (hk : K (rdInt st).1 (rd b (rdInt st).2 :: S) Φ) :
    Calls Tryz.prog F.wire_Reader_Int #[.pointer (some ⟨b, 0, none⟩)] w fun e w' => ∃ n, e = .returned (.int .i64 n) ∧ ∃ R' Φ', Stable Φ' ∧ Ctx W w' (R' ++ G) Φ' ∧ K n R' Φ' := by
  refine (Bwire_Reader_Int_run b 0 (J := fun u w' => ∃ n, (Ending.returned u) = .returned (.int .i64 n) ∧ ∃ R' Φ', Stable Φ' ∧ Ctx W w' (R' ++ G) Φ' ∧ K n R' Φ') (R := rd b st :: (S ++ G)) c ?_).mono fun e w' ⟨v, he, hj⟩ => by rw [he]; exact hj
  exact fun w F1 cx => number_to (S := S ++ G) hΦ 59 _ hl cx fun w F1 cx => ⟨_, rfl, _, Φ, inferInstance, cx.left, hk⟩
theorem RNum_to [Stable Φ] (hΦ : ∀ M w, Φ M w → NumI M w) (hl : st.1.length ≤ 1000000000) (c : Ctx W w (rd b st :: S ++ G) Φ) {K : Int → List Own → PW → Prop}
    (hk : K (rdNat st).1 (rd b (rdNat st).2 :: S) Φ) :
    Calls Tryz.prog F.wire_Reader_Num #[.pointer (some ⟨b, 0, none⟩)] w fun e w' => ∃ n, e = .returned (.int .i64 n) ∧ ∃ R' Φ', Stable Φ' ∧ Ctx W w' (R' ++ G) Φ' ∧ K n R' Φ' := by
  refine (Bwire_Reader_Num_run b 0 (J := fun u w' => ∃ n, (Ending.returned u) = .returned (.int .i64 n) ∧ ∃ R' Φ', Stable Φ' ∧ Ctx W w' (R' ++ G) Φ' ∧ K n R' Φ') (R := rd b st :: (S ++ G)) c ?_).mono fun e w' ⟨v, he, hj⟩ => by rw [he]; exact hj
  exact fun w F1 cx => number_to (S := S ++ G) hΦ 59 _ hl cx fun w F1 cx => ⟨_, rfl, _, Φ, inferInstance, cx.left, hk⟩

theorem Left_to [Stable Φ] (c : Ctx W w (rd b st :: S ++ G) Φ) {K : Int → List Own → PW → Prop} (hk : K st.1.length (rd b st :: S) Φ) :
    Calls Tryz.prog F.wire_Reader_Left #[.pointer (some ⟨b, 0, none⟩)] w fun e w' => ∃ n, e = .returned (.int .i64 n) ∧ ∃ R' Φ', Stable Φ' ∧ Ctx W w' (R' ++ G) Φ' ∧ K n R' Φ' := by
  refine (Bwire_Reader_Left_run b 0 (J := fun u w' => ∃ n, (Ending.returned u) = .returned (.int .i64 n) ∧ ∃ R' Φ', Stable Φ' ∧ Ctx W w' (R' ++ G) Φ' ∧ K n R' Φ') (R := rd b st :: (S ++ G)) c ?_).mono fun e w' ⟨v, he, hj⟩ => by rw [he]; exact hj
  exact fun w F1 cx => ⟨bs st.1, cx.get 0 rfl rfl, fun w F1 cx => ⟨st.1.length, by rw [bs_size], _, Φ, inferInstance, cx.left, hk⟩⟩

def rdDone (st : RdS) : Bool := !st.2 && decide (st.1 = [])
theorem Done_to [Stable Φ] (c : Ctx W w (rd b st :: S ++ G) Φ) {K : Bool → List Own → PW → Prop} (hk : K (rdDone st) (rd b st :: S) Φ) :
    Calls Tryz.prog F.wire_Reader_Done #[.pointer (some ⟨b, 0, none⟩)] w fun e w' => ∃ n, e = .returned (.bool n) ∧ ∃ R' Φ', Stable Φ' ∧ Ctx W w' (R' ++ G) Φ' ∧ K n R' Φ' := by
  refine (Bwire_Reader_Done_run b 0 (J := fun u w' => ∃ n, (Ending.returned u) = .returned (.bool n) ∧ ∃ R' Φ', Stable Φ' ∧ Ctx W w' (R' ++ G) Φ' ∧ K n R' Φ') (R := rd b st :: (S ++ G)) c ?_).mono fun e w' ⟨v, he, hj⟩ => by rw [he]; exact hj
  refine fun w F1 cx => ⟨st.2, cx.get 0 rfl rfl, bs st.1, fun _ => cx.get 0 rfl rfl, fun w F1 cx => ⟨rdDone st, ?_, _, Φ, inferInstance, cx.left, hk⟩⟩
  have e : decide (bs st.1 = ByteArray.mk #[]) = decide (st.1 = []) := by
    rw [show ByteArray.mk #[] = bs [] from rfl]
    exact decide_eq_decide.2 bs_inj
  rw [e]
  rfl

theorem prefix_one (c : UInt8) (l : List UInt8) : Lib.hasPrefix l [c] = (match l with | [] => false | x :: _ => x == c) := by
  cases l with
  | nil => rfl
  | cons x r =>
    unfold Lib.hasPrefix
    rw [List.isPrefixOf_cons_cons]
    simp [Bool.beq_comm]

theorem close_to [Stable Φ] (e : UInt8) (c : Ctx W w (rd b st :: S ++ G) Φ) {K : List Own → PW → Prop} (hk : K (rd b (stepC e st) :: S) Φ) :
    Calls Tryz.prog F.wire_Reader_close #[.pointer (some ⟨b, 0, none⟩), .string (ByteArray.mk #[e])] w fun e w' => e = .returned (.tuple #[]) ∧ ∃ R' Φ', Stable Φ' ∧ Ctx W w' (R' ++ G) Φ' ∧ K R' Φ' := by
  refine (Bwire_Reader_close_run b 0 (ByteArray.mk #[e]) (J := fun u w' => (Ending.returned u) = .returned (.tuple #[]) ∧ ∃ R' Φ', Stable Φ' ∧ Ctx W w' (R' ++ G) Φ' ∧ K R' Φ') (R := rd b st :: (S ++ G)) c ?_).mono fun e w' ⟨v, he, hj⟩ => by rw [he]; exact hj
  clear c
  obtain ⟨l, bad⟩ := st
  refine fun w F1 cx => ⟨bs l, cx.get 0 rfl rfl, fun w F1 cx => ?_⟩
  refine (Any.strings_CutPrefix Tryz.lays103 (bs l) (ByteArray.mk #[e]) w).mono fun e2 w' ⟨he, hw⟩ => ?_
  subst hw
  refine ⟨_, _, he, rd b (l, bad) :: (S ++ G), Φ, inferInstance, cx, ?_⟩
  clear cx
  rw [bs_list, show (ByteArray.mk #[e]).data.toList = [e] from rfl]
  unfold Lib.trimPrefix
  rw [prefix_one]
  unfold stepC at hk
  cases l with
  | nil =>
    refine fun w F1 cx => ⟨cx.can 0 rfl (by simp), fun w' hw' => ⟨rd b ([], bad) :: (S ++ G), Φ, inferInstance, cx.put 0 hw' rfl, Br.intro (fun _ => fun w F1 cx => fail_to (S := S ++ G) cx fun w F1 cx => ⟨by first | trivial | rfl, _, Φ, inferInstance, cx.left, hk⟩) (fun h => by cases h)⟩⟩
  | cons x r =>
    simp only at hk ⊢
    by_cases hx : x = e
    · subst hx
      rw [if_pos rfl] at hk
      rw [if_pos (by simp)]
      refine fun w F1 cx => ⟨cx.can 0 rfl (by simp), fun w' hw' => ⟨rd b (r, bad) :: (S ++ G), Φ, inferInstance, cx.put 0 hw' rfl, Br.intro (fun h => by simp at h) (fun _ => fun w F1 cx => ⟨by first | trivial | rfl, _, Φ, inferInstance, cx.left, hk⟩)⟩⟩
    · rw [if_neg hx] at hk
      rw [if_neg (by simpa using hx)]
      refine fun w F1 cx => ⟨cx.can 0 rfl (by simp), fun w' hw' => ⟨rd b (x :: r, bad) :: (S ++ G), Φ, inferInstance, cx.put 0 hw' rfl, Br.intro (fun _ => fun w F1 cx => fail_to (S := S ++ G) cx fun w F1 cx => ⟨by first | trivial | rfl, _, Φ, inferInstance, cx.left, hk⟩) (fun h => by simp at h; exact absurd h hx)⟩⟩

theorem stepN_nonneg {e : UInt8} (he : e.toNat = 58 ∨ e.toNat = 59 ∨ e.toNat = 91) (st : RdS) : 0 ≤ (stepN e 0 st).1 ∧ (stepN e 0 st).1 ≤ 9223372036854775807 := by
  unfold stepN
  split
  · rename_i n r h
    obtain ⟨⟨h1, h2⟩, _⟩ := (numP_iff he).1 h
    unfold I64 at h1
    simp only; omega
  · simp only; omega
theorem stepN_len (e : UInt8) (least : Int) (st : RdS) : (stepN e least st).2.1.length ≤ st.1.length := by
  unfold stepN
  split
  · rename_i n r h
    unfold numP at h
    simp only at h
    split at h
    · cases h
    · split at h
      · split at h
        · cases h
          simp only [List.length_drop]; omega
        · cases h
      · cases h
  · simp

theorem Text_to [Stable Φ] (hΦ : ∀ M w, Φ M w → NumI M w) (hl : st.1.length ≤ 1000000000) (c : Ctx W w (rd b st :: S ++ G) Φ) {K : ByteArray → List Own → PW → Prop}
    (hk : K (stepT st).1 (rd b (stepT st).2 :: S) Φ) :
    Calls Tryz.prog F.wire_Reader_Text #[.pointer (some ⟨b, 0, none⟩)] w fun e w' => ∃ n, e = .returned (.string n) ∧ ∃ R' Φ', Stable Φ' ∧ Ctx W w' (R' ++ G) Φ' ∧ K n R' Φ' := by
  refine (Bwire_Reader_Text_run b 0 (J := fun u w' => ∃ n, (Ending.returned u) = .returned (.string n) ∧ ∃ R' Φ', Stable Φ' ∧ Ctx W w' (R' ++ G) Φ' ∧ K n R' Φ') (R := rd b st :: (S ++ G)) c ?_).mono fun e w' ⟨v, he, hj⟩ => by rw [he]; exact hj
  clear c
  refine fun w F1 cx => number_to (S := S ++ G) hΦ 58 0 hl cx ?_
  rw [show ((58 : Int).toNat.toUInt8) = (58 : UInt8) from rfl]
  unfold stepT at hk
  simp only at hk
  have hn := stepN_nonneg (e := 58) (.inl rfl) st
  obtain ⟨⟨n, l, bad⟩, ha⟩ : ∃ a, stepN 58 0 st = a := ⟨_, rfl⟩
  rw [ha] at hk hn ⊢
  simp only at hk hn ⊢
  refine fun w F1 cx => ⟨bs l, cx.get 0 rfl rfl, Br.intro (fun h => ?_) (fun h => ?_)⟩
  · have h := of_decide_eq_true h
    rw [bs_size] at h
    rw [if_pos h] at hk
    exact fun w F1 cx => fail_to (S := S ++ G) cx fun w F1 cx => ⟨_, rfl, _, Φ, inferInstance, cx.left, hk⟩
  · have h := of_decide_eq_false h
    rw [bs_size] at h
    rw [if_neg h] at hk
    have e1 : (bs l).extract n.toNat (bs l).size = bs (l.drop n.toNat) := by
      rw [bs_ext, bs_size]
      congr 1
      exact List.take_of_length_le (by rw [List.length_drop]; omega)
    have e2 : (bs l).extract 0 n.toNat = bs (l.take n.toNat) := by rw [bs_ext, List.drop_zero, Nat.sub_zero]
    refine fun w F1 cx => ⟨bs l, cx.get 0 rfl rfl, ⟨by omega, by rw [bs_size]; omega⟩, fun w F1 cx => ⟨bs l, cx.get 0 rfl rfl, ⟨by omega, by rw [bs_size]; omega, Nat.le_refl _⟩, fun w F1 cx => ⟨cx.can 0 rfl (by simp), fun w' hw' => ?_⟩⟩⟩
    rw [e1] at hw'
    refine ⟨rd b (l.drop n.toNat, bad) :: (S ++ G), Φ, inferInstance, cx.put 0 hw' rfl, fun w F1 cx => close_to (S := S ++ G) 44 cx fun w F1 cx => ⟨(stepC 44 (l.drop n.toNat, bad)).2, cx.get 0 rfl rfl, Br.intro (fun hb => ?_) (fun hb => ?_)⟩⟩
    · rw [hb] at hk
      exact fun w F1 cx => ⟨_, rfl, _, Φ, inferInstance, cx.left, hk⟩
    · rw [hb] at hk
      rw [e2]
      exact fun w F1 cx => ⟨_, rfl, _, Φ, inferInstance, cx.left, hk⟩

end
end Go.Proofs.YtjlfpkgjcffilaaGreatDoor
end

/-
  Rows, read: in plain Lean, and walked.
-/
section
set_option linter.unusedVariables false
set_option linter.unusedSimpArgs false
namespace Go.Proofs.YtjlfpkgjcffilaaGreatDoor
open Go.Vc


/-! ### in plain Lean -/
def stepV (st : RdS) : ValD × RdS := (⟨(rdInt st).1, (rdInt (rdInt st).2).1, (stepT (rdInt (rdInt st).2).2).1⟩, (stepT (rdInt (rdInt st).2).2).2)
def rowLoop : Nat → RdS → List ValD → Option (List ValD × RdS)
  | 0, st, acc => some (acc, st)
  | n + 1, st, acc => if st.1 = [] then none else rowLoop n (stepV st).2 (acc ++ [(stepV st).1])
def readRowP (l : List UInt8) : Option (List ValD) := match rowLoop (rdNat (l, false)).1.toNat (rdNat (l, false)).2 [] with
  | some (acc, st) => if rdDone st then some acc else none
  | none => none

theorem num_read {e : UInt8} (he : e.toNat = 58 ∨ e.toNat = 59 ∨ e.toNat = 91) {least n : Int} {r : List UInt8} {bad : Bool} (h : I64 n) (h2 : least ≤ n) : stepN e least (Lib.itoa n ++ e :: r, bad) = (n, (r, bad)) :=
  stepN_some (st := (Lib.itoa n ++ e :: r, bad)) ((numP_iff he).2 ⟨⟨h, h2⟩, rfl⟩)
theorem intB_list (n : Int) : (intB n).data.toList = Lib.itoa n ++ [59] := by
  unfold intB numB
  rw [ByteArray.data_append, Array.toList_append]
theorem int_read {n : Int} {r : List UInt8} {bad : Bool} (h : I64 n) : rdInt ((intB n).data.toList ++ r, bad) = (n, (r, bad)) := by
  rw [intB_list, List.append_assoc]
  exact num_read (.inr (.inl rfl)) h h.1
theorem nat_read {n : Nat} {r : List UInt8} {bad : Bool} (h : (n : Int) ≤ 9223372036854775807) : rdNat ((natB n).data.toList ++ r, bad) = ((n : Int), (r, bad)) := by
  unfold natB
  rw [if_neg (by omega), intB_list, List.append_assoc]
  exact num_read (.inr (.inl rfl)) (by unfold I64; omega) (by omega)
theorem textB_list (s : ByteArray) : (textB s).data.toList = Lib.itoa s.size ++ 58 :: (s.data.toList ++ [44]) := by
  unfold textB numB
  simp [ByteArray.data_append]
theorem text_read {s : ByteArray} {r : List UInt8} (h : s.size ≤ 9223372036854775807) : stepT ((textB s).data.toList ++ r, false) = (s, (r, false)) := by
  have e1 : stepN 58 0 ((textB s).data.toList ++ r, false) = ((s.size : Int), (s.data.toList ++ 44 :: r, false)) := by
    rw [textB_list, List.append_assoc, List.cons_append, List.append_assoc]
    exact num_read (.inl rfl) (by unfold I64; omega) (by omega)
  unfold stepT
  simp only [e1]
  have hl : s.data.toList.length = s.size := list_size s
  rw [if_neg (by rw [List.length_append, List.length_cons, hl]; omega), Int.toNat_natCast, List.drop_left' hl, List.take_left' hl]
  rfl
theorem val_read {v : ValD} {r : List UInt8} (h1 : I64 v.kind) (h2 : I64 v.num) (h3 : v.text.size ≤ 9223372036854775807) : stepV ((valB v).data.toList ++ r, false) = (v, (r, false)) := by
  have e : (valB v).data.toList ++ r = (intB v.kind).data.toList ++ ((intB v.num).data.toList ++ ((textB v.text).data.toList ++ r)) := by
    unfold valB
    simp [ByteArray.data_append]
  unfold stepV
  rw [e, int_read h1]
  simp only
  rw [int_read h2]
  simp only
  rw [text_read h3]
theorem valB_pos (v : ValD) (h : I64 v.kind) : (valB v).data.toList ≠ [] := fun e => by
  have h1 := intB_size h
  have h2 := congrArg List.length e
  rw [list_size] at h2
  unfold valB at h2
  rw [size_app, size_app, List.length_nil] at h2
  omega
def FitV (v : ValD) : Prop := (I64 v.kind ∧ I64 v.num) ∧ v.text.size ≤ 9223372036854775807
theorem vals_read : ∀ (r : List ValD) (acc : List ValD) (t : List UInt8), (∀ v ∈ r, FitV v) → rowLoop r.length (valsL r ++ t, false) acc = some (acc ++ r, (t, false))
  | [], acc, t, _ => by simp [rowLoop, valsL]
  | v :: r, acc, t, h => by
    obtain ⟨⟨h1, h2⟩, h3⟩ := h v (by simp)
    have e : valsL (v :: r) ++ t = (valB v).data.toList ++ (valsL r ++ t) := by simp [valsL]
    have hp := valB_pos v h1
    rw [e, List.length_cons, rowLoop, if_neg (by intro e; exact hp (List.append_eq_nil_iff.1 e).1), val_read h1 h2 h3]
    simp only
    rw [vals_read r _ t fun u hu => h u (by simp [hu]), List.append_assoc]
    rfl
theorem row_read {r : List ValD} (h : ∀ v ∈ r, FitV v) (hl : r.length ≤ 9223372036854775807) : readRowP (rowL r) = some r := by
  have h1 := vals_read r [] [] h
  rw [List.append_nil, List.nil_append] at h1
  unfold readRowP rowL
  rw [nat_read (by omega)]
  simp only [Int.toNat_natCast]
  rw [h1]
  rfl

/-! lengths -/
theorem stepC_len (c : UInt8) (st : RdS) : (stepC c st).1.length ≤ st.1.length := by
  unfold stepC
  split
  · simp
  · rename_i h
    split
    · rw [h]; simp
    · simp
theorem stepT_len (st : RdS) : (stepT st).2.1.length ≤ st.1.length ∧ (stepT st).1.size ≤ st.1.length := by
  have h1 := stepN_len 58 0 st
  have h2 := stepC_len 44 (((stepN 58 0 st).2.1.drop (stepN 58 0 st).1.toNat, (stepN 58 0 st).2.2))
  rw [List.length_drop] at h2
  unfold stepT
  simp only
  split
  · exact ⟨Nat.zero_le _, Nat.zero_le _⟩
  · refine ⟨by simp only; omega, ?_⟩
    simp only
    split
    · exact Nat.zero_le _
    · rw [bs_size, List.length_take]; omega
/-- a number's reading eats something, or all -/
theorem stepN_eats (e : UInt8) (least : Int) (st : RdS) (h : st.1 ≠ []) : (stepN e least st).2.1.length < st.1.length := by
  have hp := List.length_pos_iff.2 h
  unfold stepN
  split
  · rename_i n r h
    unfold numP at h
    simp only at h
    split at h
    · cases h
    · split at h
      · split at h
        · cases h
          simp only [List.length_drop]; omega
        · cases h
      · cases h
  · simpa using hp
theorem stepV_len (st : RdS) : (stepV st).2.1.length ≤ st.1.length ∧ (st.1 ≠ [] → (stepV st).2.1.length < st.1.length) ∧ (stepV st).1.text.size ≤ st.1.length := by
  have a := stepN_len 59 (-9223372036854775808) st
  have b := stepN_len 59 (-9223372036854775808) (rdInt st).2
  have c := stepT_len (rdInt (rdInt st).2).2
  have a' : (rdInt st).2.1.length ≤ st.1.length := a
  have b' : (rdInt (rdInt st).2).2.1.length ≤ (rdInt st).2.1.length := b
  unfold stepV
  refine ⟨by simp only; omega, fun h => ?_, by simp only; omega⟩
  have d : (rdInt st).2.1.length < st.1.length := stepN_eats 59 (-9223372036854775808) st h
  simp only; omega
theorem rdInt_i64 (st : RdS) : I64 (rdInt st).1 := by
  unfold rdInt stepN
  split
  · rename_i n r h
    exact ((numP_iff (.inr (.inl rfl))).1 h).1.1
  · unfold I64; simp
theorem rowLoop_fit {L : Nat} : ∀ (n : Nat) (st : RdS) (acc : List ValD) (out : List ValD) (st' : RdS), rowLoop n st acc = some (out, st') → acc.length + st.1.length ≤ L → (∀ v ∈ acc, v.text.size ≤ L) → out.length + st'.1.length ≤ L ∧ ∀ v ∈ out, v.text.size ≤ L
  | 0, st, acc, out, st', h, h1, h2 => by
    unfold rowLoop at h
    cases h
    exact ⟨h1, h2⟩
  | n + 1, st, acc, out, st', h, h1, h2 => by
    unfold rowLoop at h
    split at h
    · cases h
    · rename_i hne
      obtain ⟨a, b, c⟩ := stepV_len st
      have b := b hne
      refine rowLoop_fit n _ _ out st' h (by rw [List.length_append, List.length_singleton]; omega) fun v hv => ?_
      rcases List.mem_append.1 hv with hv | hv
      · exact h2 v hv
      · rw [List.mem_singleton.1 hv]; omega
theorem readRow_fit {l : List UInt8} {r : List ValD} (h : readRowP l = some r) : r.length ≤ l.length ∧ ∀ v ∈ r, v.text.size ≤ l.length := by
  unfold readRowP at h
  split at h
  · rename_i acc st hl
    split at h
    · cases h
      have hn : (rdNat (l, false)).2.1.length ≤ l.length := stepN_len 59 0 (l, false)
      have := rowLoop_fit (L := l.length) _ _ _ _ _ hl (by simp only [List.length_nil]; omega) (by simp)
      exact ⟨by omega, this.2⟩
    · cases h
  · cases h

/-! ### walked -/
section
variable {W w : World} {R G S : List Own} {Φ : PW} {b : Nat} {st : RdS}

theorem take_to [Stable Φ] (hΦ : ∀ M w, Φ M w → NumI M w) (hl : st.1.length ≤ 1000000000) (c : Ctx W w (rd b st :: S ++ G) Φ) {K : Int → Int → ByteArray → List Own → PW → Prop}
    (hk : K (stepV st).1.kind (stepV st).1.num (stepV st).1.text (rd b (stepV st).2 :: S) Φ) :
    Calls Tryz.prog F.value_take #[.pointer (some ⟨b, 0, none⟩)] w fun e w' => ∃ n m s, e = .returned (.agg #[.int .i64 n, .int .i64 m, .string s]) ∧ ∃ R' Φ', Stable Φ' ∧ Ctx W w' (R' ++ G) Φ' ∧ K n m s R' Φ' := by
  refine (Bvalue_take_run b 0 (J := fun u w' => ∃ n m s, (Ending.returned u) = .returned (.agg #[.int .i64 n, .int .i64 m, .string s]) ∧ ∃ R' Φ', Stable Φ' ∧ Ctx W w' (R' ++ G) Φ' ∧ K n m s R' Φ') (R := rd b st :: (S ++ G)) c ?_).mono fun e w' ⟨v, he, hj⟩ => by rw [he]; exact hj
  have a : (rdInt st).2.1.length ≤ st.1.length := stepN_len 59 (-9223372036854775808) st
  have b : (rdInt (rdInt st).2).2.1.length ≤ (rdInt st).2.1.length := stepN_len 59 (-9223372036854775808) (rdInt st).2
  exact fun _ w F1 cx => RInt_to (S := S ++ G) hΦ hl cx fun w F1 cx => RInt_to (S := S ++ G) hΦ (by omega) cx fun _ w F1 cx => Text_to (S := S ++ G) hΦ (by omega) cx fun w F1 cx => ⟨_, _, _, rfl, _, Φ, inferInstance, cx.left, hk⟩

theorem rep_of {M : List Nat} {w : World} {v : ValD} (h1 : I64 v.kind) (h2 : I64 v.num) (h3 : v.text.size ≤ maxLen) : Gv.rep M w [.int .i64 v.kind, .int .i64 v.num, .string v.text] v :=
  ⟨[.int .i64 v.kind], [.int .i64 v.num, .string v.text], rfl, ⟨rfl, h1⟩, [.int .i64 v.num], [.string v.text], rfl, ⟨rfl, h2⟩, rfl, h3⟩

set_option maxHeartbeats 1000000 in
theorem ReadRow_use [Stable Φ] (hΦ : ∀ M w, Φ M w → NumI M w) (l : List UInt8) (hl : l.length ≤ 10000000) (c : Ctx W w S Φ) {K : Ending → World → Prop}
    (h0 : readRowP l = none → ∀ w', Ctx W w' S Φ → K (.returned (.tuple #[.slice none 0 0, .bool false])) w')
    (h1 : ∀ r p cap w', readRowP l = some r → r.length ≤ cap → cap ≤ maxLen → Ctx W w' S (fun M w => Φ M w ∧ Sl M w p r) → K (.returned (.tuple #[.slice p r.length cap, .bool true])) w') :
    Calls Tryz.prog F.value_ReadRow #[.string (bs l)] w K := by
  refine (Bvalue_ReadRow_run (bs l) (J := fun u w' => K (.returned u) w') (R := S) c ?_).mono fun e w' ⟨v, he, hj⟩ => by rw [he]; exact hj
  clear c
  refine fun w G cx => Open_use l cx fun b w cx => ⟨_, rfl, rd b (l, false) :: S, Φ, inferInstance, cx, ?_⟩
  clear cx
  refine fun w G cx => RNum_to (S := S) hΦ (by simp only; omega) cx ?_
  clear cx
  have hlen : (rdNat (l, false)).2.1.length ≤ l.length := stepN_len 59 0 (l, false)
  have hnn := stepN_nonneg (e := 59) (.inr (.inl rfl)) (l, false)
  have hrow : readRowP l = match rowLoop (rdNat (l, false)).1.toNat (rdNat (l, false)).2 [] with
    | some (acc, st) => if rdDone st then some acc else none
    | none => none := rfl
  have hnn : 0 ≤ (rdNat (l, false)).1 ∧ (rdNat (l, false)).1 ≤ 9223372036854775807 := hnn
  obtain ⟨⟨n0, st0⟩, hst⟩ : ∃ x, rdNat (l, false) = x := ⟨_, rfl⟩
  rw [hst] at hlen hnn hrow ⊢
  simp only at hlen hnn hrow ⊢
  refine exI_mk (fun p n c m R' Φ' k => ∃ (st : RdS) (acc : List ValD) (ds : List Value), n = acc.length ∧ R' = .buf p n c ds 94 3 :: rd b st :: S ∧ Φ' = (fun M w => Φ M w ∧ Elems M w ds acc) ∧ k = m.toNat ∧ 0 ≤ m ∧ m ≤ 9223372036854775807 ∧ acc.length + st.1.length ≤ l.length ∧ rowLoop n0.toNat st0 [] = rowLoop m.toNat st acc)
    ⟨⟨.buf none 0 0 [] 94 3 :: rd b st0 :: S, fun M w => Φ M w ∧ Elems M w [] ([] : List ValD), _, inferInstance, fun w G cx => (cx.nobuf 94 3).weak fun M w h => ⟨h, Elems.nil⟩, st0, [], [], rfl, rfl, rfl, rfl, hnn.1, hnn.2, by simp only [List.length_nil]; omega, rfl⟩, ?_⟩
  rintro p n c m R1 Φ1 k _ ⟨st, acc, ds, rfl, rfl, rfl, rfl, hm0, hm1, hal, hrl⟩
  have hst1 : Stable (fun M w => Φ M w ∧ Elems M w ds acc) := inferInstance
  refine Br.intro (fun hpos => ?_) (fun hz => ?_)
  · have hpos := of_decide_eq_true hpos
    refine fun w G cx => Left_to (S := .buf p acc.length c ds 94 3 :: S) cx.swap ?_
    refine Br.intro (fun hz => fun w G cx => ?_) (fun hnz => ?_)
    · have hz := of_decide_eq_true hz
      refine h0 ?_ w (cx.left.drop1.drop1.weak fun M w h => h.1)
      rw [hrow, hrl, show m.toNat = (m.toNat - 1) + 1 by omega, rowLoop, if_pos (List.length_eq_zero_iff.1 (by omega))]
    · have hnz := of_decide_eq_false hnz
      have hne : st.1 ≠ [] := fun e => hnz (by rw [e]; rfl)
      obtain ⟨q1, q2, q3⟩ := stepV_len st
      have q2 := q2 hne
      have hi1 := rdInt_i64 st
      have hi2 := rdInt_i64 (rdInt st).2
      refine fun w G cx => take_to (S := .buf p acc.length c ds 94 3 :: S) (fun M w h => hΦ M w h.1) (by omega) cx ?_
      refine fun bk w G cx => ?_
      have cx1 : Ctx W w (.blk bk [.int .i64 (stepV st).1.kind, .int .i64 (stepV st).1.num, .string (stepV st).1.text] 94 :: .buf p acc.length c ds 94 3 :: (rd b (stepV st).2 :: S ++ G)) (fun M w => Φ M w ∧ Elems M w ds acc) := cx.perm ((List.Perm.swap _ _ _).cons _)
      obtain ⟨p', cap', w', hrun, _, cx'⟩ := Ctx.app1 (P := Tryz.prog) (ts := 44) (ty := 44) (kb := #[false, false]) (size := 3) (bytes := 32) cx1 (by kernel_rfl) (by omega) rfl rfl (by omega) (by omega)
      have hst2 : Stable (fun M w => Φ M w ∧ Elems M w (ds ++ [.int .i64 (stepV st).1.kind, .int .i64 (stepV st).1.num, .string (stepV st).1.text]) (acc ++ [(stepV st).1])) := inferInstance
      have hcx2 : Ctx W w' (.buf p' (acc ++ [(stepV st).1]).length cap' (ds ++ [.int .i64 (stepV st).1.kind, .int .i64 (stepV st).1.num, .string (stepV st).1.text]) 94 3 :: rd b (stepV st).2 :: S ++ G) (fun M w => Φ M w ∧ Elems M w (ds ++ [.int .i64 (stepV st).1.kind, .int .i64 (stepV st).1.num, .string (stepV st).1.text]) (acc ++ [(stepV st).1])) := by
        rw [List.length_append, List.length_singleton]
        exact cx'.weak fun M w h => ⟨h.1, h.2.snoc (rep_of hi1 hi2 (Nat.le_trans q3 (Nat.le_trans (by omega : st.1.length ≤ 10000000) (by decide))))⟩
      refine ⟨p', acc.length + 1, cap', w', hrun, _, _, hst2, hcx2, by unfold I64; omega, _, _, (m - 1).toNat, hst2, fun w G cx => cx, ⟨(stepV st).2, acc ++ [(stepV st).1], _, by simp, by simp, rfl, rfl, by omega, by omega, by rw [List.length_append, List.length_singleton]; omega, ?_⟩, by omega⟩
      rw [hrl, show m.toNat = (m - 1).toNat + 1 by omega, rowLoop, if_neg hne]
  · have hz := of_decide_eq_false hz
    have hm : m.toNat = 0 := by omega
    rw [hm, rowLoop] at hrl
    rw [hrl] at hrow
    simp only at hrow
    refine fun w G cx => Done_to (S := .buf p acc.length c ds 94 3 :: S) cx.swap ?_
    refine Br.intro (fun hd => fun w G cx => ?_) (fun hd => fun w G cx => ?_)
    · refine h0 ?_ w (cx.left.drop1.drop1.weak fun M w h => h.1)
      rw [hrow, if_neg (by simpa using hd)]
    · have cx := cx.left.drop1
      obtain ⟨cx3, hs, _, g1, g2⟩ := Ctx.freeze (α := ValD) cx.fst cx.phi.2
      exact h1 acc p c w (by rw [hrow, if_pos (by simpa using hd)]) g1 g2 (cx3.add hs)

theorem ReadRow_to [Stable Φ] (hΦ : ∀ M w, Φ M w → NumI M w) (l : List UInt8) (hl : l.length ≤ 10000000) (c : Ctx W w (R ++ G) Φ) {K : Option Addr → Nat → Nat → Bool → List Own → PW → Prop}
    (h0 : readRowP l = none → K none 0 0 false R Φ)
    (h1 : ∀ r p cap, readRowP l = some r → r.length ≤ cap → cap ≤ maxLen → Stable (fun M w => Φ M w ∧ Sl M w p r) → K p r.length cap true R (fun M w => Φ M w ∧ Sl M w p r)) :
    Calls Tryz.prog F.value_ReadRow #[.string (bs l)] w fun e w' => ∃ p n c ok, e = .returned (.tuple #[.slice p n c, .bool ok]) ∧ ∃ R' Φ', Stable Φ' ∧ Ctx W w' (R' ++ G) Φ' ∧ K p n c ok R' Φ' :=
  ReadRow_use hΦ l hl c (fun h w' c => ⟨none, 0, 0, false, rfl, R, Φ, inferInstance, c, h0 h⟩) fun r p cap w' h g1 g2 c => ⟨p, r.length, cap, true, rfl, R, _, inferInstance, c, h1 r p cap h g1 g2 inferInstance⟩
theorem ReadRowS_to [Stable Φ] (hΦ : ∀ M w, Φ M w → NumI M w) (s : ByteArray) (hl : s.size ≤ 10000000) (c : Ctx W w (R ++ G) Φ) {K : Option Addr → Nat → Nat → Bool → List Own → PW → Prop}
    (h0 : readRowP s.data.toList = none → K none 0 0 false R Φ)
    (h1 : ∀ r p cap, readRowP s.data.toList = some r → r.length ≤ cap → cap ≤ maxLen → Stable (fun M w => Φ M w ∧ Sl M w p r) → K p r.length cap true R (fun M w => Φ M w ∧ Sl M w p r)) :
    Calls Tryz.prog F.value_ReadRow #[.string s] w fun e w' => ∃ p n c ok, e = .returned (.tuple #[.slice p n c, .bool ok]) ∧ ∃ R' Φ', Stable Φ' ∧ Ctx W w' (R' ++ G) Φ' ∧ K p n c ok R' Φ' :=
  ReadRow_to hΦ s.data.toList (by rw [list_size]; exact hl) c h0 h1
end
end Go.Proofs.YtjlfpkgjcffilaaGreatDoor
end

/-
  The reading of sinks, in plain Lean.
-/
section
set_option linter.unusedVariables false
set_option linter.unusedSimpArgs false
namespace Go.Proofs.YtjlfpkgjcffilaaGreatDoor
open Go.Vc


/-! ### ints -/
def itemsK : Nat → RdS → List Int → List Int × RdS
  | 0, st, acc => (acc, st)
  | k + 1, st, acc => if st.2 = true then (acc, st) else itemsK k (rdInt st).2 (acc ++ [(rdInt st).1])
theorem itemsK_e {k : Nat} {st : RdS} {acc : List Int} (h : st.2 = true) : itemsK k st acc = (acc, st) := by
  cases k with
  | zero => rfl
  | succ k => unfold itemsK; rw [if_pos h]
theorem itemsK_s {k : Nat} {st : RdS} {acc : List Int} (h : st.2 = false) : itemsK (k + 1) st acc = itemsK k (rdInt st).2 (acc ++ [(rdInt st).1]) := by
  rw [itemsK.eq_2, if_neg (by rw [h]; simp)]
def numsK (st : RdS) : List Int × RdS :=
  let a := stepN 91 0 st
  let b := itemsK a.1.toNat a.2 []
  let c := stepC 93 b.2
  (if c.2 then [] else b.1, c)
theorem items_read : ∀ (l acc : List Int) (t : List UInt8), (∀ x ∈ l, I64 x) → itemsK l.length (intsL l ++ t, false) acc = (acc ++ l, (t, false))
  | [], acc, t, _ => by rw [List.append_nil]; rfl
  | x :: l, acc, t, h => by
    have e : intsL (x :: l) ++ t = (intB x).data.toList ++ (intsL l ++ t) := by simp [intsL]
    rw [e, List.length_cons, itemsK_s rfl, int_read (h x (by simp))]
    simp only
    rw [items_read l _ t fun y hy => h y (by simp [hy]), List.append_assoc]
    rfl
theorem nums_read {l : List Int} {t : List UInt8} (h : ∀ x ∈ l, I64 x) (hl : (l.length : Int) ≤ 9223372036854775807) : numsK (numsL l ++ t, false) = (l, (t, false)) := by
  have e : numsL l ++ t = Lib.itoa (l.length : Int) ++ 91 :: (intsL l ++ (93 :: t)) := by
    unfold numsL numB
    simp
  unfold numsK
  rw [e, num_read (.inr (.inr rfl)) (by unfold I64; omega) (by omega)]
  simp only [Int.toNat_natCast]
  rw [items_read l [] _ h, List.nil_append]
  simp only [stepC]
  rfl

/-! ### a line -/
def rdL (st : RdS) (nx no : Int) (r : List ValD) : LineD × RdS :=
  (⟨nx, no, (rdInt st).1, r, (rdInt (stepT (rdInt st).2).2).1, (rdInt (rdInt (stepT (rdInt st).2).2).2).1, (rdInt (rdInt (rdInt (stepT (rdInt st).2).2).2).2).1⟩, (rdInt (rdInt (rdInt (stepT (rdInt st).2).2).2).2).2)
def lineR (nx no : Int) (st : RdS) : Option (LineD × RdS) := (readRowP (stepT (rdInt st).2).1.data.toList).map (rdL st nx no)
theorem lineR_none {nx no : Int} {st : RdS} (h : readRowP (stepT (rdInt st).2).1.data.toList = none) : lineR nx no st = none := by unfold lineR; rw [h]; rfl
theorem lineR_some {nx no : Int} {st : RdS} {r : List ValD} (h : readRowP (stepT (rdInt st).2).1.data.toList = some r) : lineR nx no st = some (rdL st nx no r) := by unfold lineR; rw [h]; rfl
theorem lineR_inv {nx no : Int} {st st' : RdS} {x : LineD} (h : lineR nx no st = some (x, st')) : ∃ r, readRowP (stepT (rdInt st).2).1.data.toList = some r ∧ rdL st nx no r = (x, st') := by
  unfold lineR at h
  exact Option.map_eq_some_iff.1 h
attribute [irreducible] lineR
theorem lineS_list (x : LineD) (t : List UInt8) : (lineS x).data.toList ++ t = (intB x.batch).data.toList ++ ((intB x.time).data.toList ++ ((textB (rowB x.row)).data.toList ++ ((intB x.n).data.toList ++ ((intB x.cause).data.toList ++ ((intB x.why).data.toList ++ t))))) := by
  unfold lineS
  simp [ByteArray.data_append]
theorem line_fit {x : LineD} (h : LineW x) : (∀ v ∈ x.row, FitV v) ∧ x.row.length ≤ 9223372036854775807 ∧ (rowB x.row).size ≤ 9223372036854775807 := by
  have h1 := rowB_small h.row h.val
  have h2 := h.row
  exact ⟨fun v hv => ⟨(h.val v hv).1, by have := (h.val v hv).2; omega⟩, by omega, by omega⟩
def lineK (nx : Int) (st : RdS) : Option (LineD × RdS) := lineR nx (rdInt st).1 (rdInt st).2
theorem line_read {x : LineD} {n : Int} {t : List UInt8} (h : LineW x) : lineK n ((lineS x).data.toList ++ t, false) = some ({ x with no := n }, (t, false)) := by
  obtain ⟨h3, h4, h5⟩ := line_fit h
  unfold lineK
  rw [lineS_list, int_read h.inn.batch]
  simp only
  have e1 : rdInt ((intB x.time).data.toList ++ ((textB (rowB x.row)).data.toList ++ ((intB x.n).data.toList ++ ((intB x.cause).data.toList ++ ((intB x.why).data.toList ++ t)))), false) = (x.time, ((textB (rowB x.row)).data.toList ++ ((intB x.n).data.toList ++ ((intB x.cause).data.toList ++ ((intB x.why).data.toList ++ t))), false)) := int_read h.inn.time
  have e2 := text_read (r := (intB x.n).data.toList ++ ((intB x.cause).data.toList ++ ((intB x.why).data.toList ++ t))) h5
  have e3 : readRowP (stepT (rdInt ((intB x.time).data.toList ++ ((textB (rowB x.row)).data.toList ++ ((intB x.n).data.toList ++ ((intB x.cause).data.toList ++ ((intB x.why).data.toList ++ t)))), false)).2).1.data.toList = some x.row := by
    rw [e1]
    show readRowP (stepT ((textB (rowB x.row)).data.toList ++ _, false)).1.data.toList = some x.row
    rw [e2]
    exact row_read h3 h4
  rw [lineR_some e3]
  unfold rdL
  rw [e1]
  simp only
  rw [e2]
  simp only
  rw [int_read h.inn.n]
  simp only
  rw [int_read h.inn.cause]
  simp only
  rw [int_read h.inn.why]

/-! ### lines -/
def linesK : Nat → RdS → List LineD → Option (List LineD × RdS)
  | 0, st, acc => some (acc, st)
  | k + 1, st, acc => (lineK ((acc.length : Int) + 1) st).bind fun y => linesK k y.2 (acc ++ [y.1])
theorem linesK_z (st : RdS) (acc : List LineD) : linesK 0 st acc = some (acc, st) := rfl
theorem linesK_n {k : Nat} {st : RdS} {acc : List LineD} (h : lineK ((acc.length : Int) + 1) st = none) : linesK (k + 1) st acc = none := by
  unfold linesK
  rw [h]; rfl
theorem linesK_s {k : Nat} {st st' : RdS} {acc : List LineD} {x : LineD} (h : lineK ((acc.length : Int) + 1) st = some (x, st')) : linesK (k + 1) st acc = linesK k st' (acc ++ [x]) := by
  rw [linesK.eq_2, h]; rfl
/-- lines numbered from a number on -/
def renK : Int → List LineD → List LineD
  | _, [] => []
  | n, x :: l => { x with no := n } :: renK (n + 1) l
theorem ren_num : ∀ {n : Int} {l : List LineD}, numK n l = true → renK n l = l
  | _, [], _ => rfl
  | n, x :: l, h => by
    have h : (decide (x.no = n) && numK (n + 1) l) = true := h
    rw [Bool.and_eq_true] at h
    show { x with no := n } :: renK (n + 1) l = x :: l
    rw [ren_num h.2, ← of_decide_eq_true h.1]
theorem lines_readK : ∀ (c acc : List LineD) (t : List UInt8), (∀ x ∈ c, LineW x) → linesK c.length (linesL c ++ t, false) acc = some (acc ++ renK ((acc.length : Int) + 1) c, (t, false))
  | [], acc, t, h => by
    show some (acc, _) = some (acc ++ [], _)
    rw [List.append_nil]; rfl
  | x :: c, acc, t, h => by
    have e : linesL (x :: c) ++ t = (lineS x).data.toList ++ (linesL c ++ t) := by simp [linesL]
    rw [e, List.length_cons, linesK_s (line_read (h x (by simp))), lines_readK c _ t (fun y hy => h y (by simp [hy])), List.append_assoc, List.length_append, List.length_singleton]
    rfl
def readLinesK (st : RdS) : Option (List LineD × RdS) := linesK (rdNat st).1.toNat (rdNat st).2 []
theorem readLines_read {c : List LineD} {t : List UInt8} (h : ∀ x ∈ c, LineW x) (hl : (c.length : Int) ≤ 9223372036854775807) : readLinesK (linesS c ++ t, false) = some (renK 1 c, (t, false)) := by
  unfold readLinesK linesS
  rw [List.append_assoc, nat_read hl]
  simp only [Int.toNat_natCast]
  rw [lines_readK c [] t h]
  rfl
def shiftL (m : Int) (l : List LineD) : List LineD := l.map fun x => { x with no := x.no + m }
theorem shift_ren : ∀ (l : List LineD) (n m : Int), shiftL m (renK n l) = renK (n + m) l
  | [], _, _ => rfl
  | x :: l, n, m => by
    show { x with no := n + m } :: shiftL m (renK (n + 1) l) = { x with no := n + m } :: renK (n + m + 1) l
    rw [shift_ren l, show n + 1 + m = n + m + 1 by omega]

/-! ### batches -/
def headK (b : Int) (l : List LineD) : List LineD := l.takeWhile fun x => decide (x.batch = b)
def restK (b : Int) (l : List LineD) : List LineD := l.dropWhile fun x => decide (x.batch = b)
def batsK : List Int → List LineD → SkD → Option (SkD × List LineD)
  | [], l, s => some (s, l)
  | b :: bs, l, s => if lookK s b (headK b l) = 0 then batsK bs (restK b l) (takeK s b (headK b l)) else none
def finK (l : List UInt8) (s : SkD) (prep : Int) (aside : List LineD) : Option SkD :=
  let y := if prep = 0 then (0, s) else prepK s prep aside
  if y.1 = 0 ∧ y.2.prep = prep ∧ (skB y.2).data.toList = l then some y.2 else none
def readSk (l : List UInt8) : Option SkD :=
  if newOk (rdInt (l, false)).1 (numsK (rdInt (l, false)).2).1 = false then none else
    (readLinesK (numsK (numsK (rdInt (l, false)).2).2).2).bind fun d => (readLinesK (rdInt d.2).2).bind fun f => if rdDone f.2 = false then none else
      (batsK (numsK (numsK (rdInt (l, false)).2).2).1 d.1 (newK (rdInt (l, false)).1 (numsK (rdInt (l, false)).2).1)).bind fun g => finK l g.1 (rdInt d.2).1 (shiftL (g.1.lines.length : Int) f.1)
/-! ### sinks made of batches that they took -/
inductive MadeK (kind : Int) (key : List Int) : List Int → List LineD → Prop
  | nil : MadeK kind key [] []
  | take {bats : List Int} {lines L : List LineD} {b : Int} : MadeK kind key bats lines → lookK ⟨kind, key, bats, lines, 0, []⟩ b L = 0 → MadeK kind key (bats ++ [b]) (lines ++ L)
theorem look_same (s : SkD) (b : Int) (L : List LineD) : lookK ⟨s.kind, s.key, s.bats, s.lines, 0, []⟩ b L = lookK s b L := rfl
structure SkR (s : SkD) : Prop where
  ok : newOk s.kind s.key = true
  made : MadeK s.kind s.key s.bats s.lines
  prep : s.prep ≠ 0 → s.kind = 0 ∧ hasK s s.prep = false ∧ lookK s s.prep s.aside = 0
  none : s.prep = 0 → s.aside = []
theorem new_r {kind : Int} {key : List Int} (h : newOk kind key = true) : SkR (newK kind key) := ⟨h, .nil, fun h => absurd rfl h, fun _ => rfl⟩
theorem op_r {s : SkD} (h : SkR s) (k b : Int) (L : List LineD) : SkR (opK k s b L).2 := by
  have hP : SkR (prepK s b L).2 := by
    rcases prep_cases s b L with ⟨e, _⟩ | ⟨h0, h1, h2, e⟩
    · rw [e]; exact h
    · rw [e]
      have h3 := (look_ok h2).1
      exact ⟨h.ok, h.made, fun _ => ⟨h0, h1, Decidable.not_not.1 h2⟩, fun e => by have : b = 0 := e; omega⟩
  unfold opK
  split
  · exact hP
  split
  · exact hP
  split
  · rcases comm_cases s b with ⟨e, _⟩ | ⟨h0, h1, h2, h3, e⟩
    · rw [e]; exact h
    · rw [e]
      have hp := (h.prep (by omega)).2.2
      rw [← h3] at hp
      exact ⟨h.ok, .take h.made ((look_same s b s.aside).trans hp), fun e => absurd rfl e, fun _ => rfl⟩
  split
  · rcases abort_cases s b with ⟨e, _⟩ | ⟨h0, _, _, e⟩
    · rw [e]; exact h
    · rw [e]; exact ⟨h.ok, h.made, fun e => absurd rfl e, fun _ => rfl⟩
  split
  · exact h
  split
  · exact h
  · rcases deliv_cases s b L with ⟨e, _⟩ | ⟨h0, h1, h2, e⟩
    · rw [e]; exact h
    · rw [e]
      exact ⟨h.ok, .take h.made ((look_same s b L).trans (Decidable.not_not.1 h2)), fun e => absurd (h.prep e).1 h0, h.none⟩
theorem num_app : ∀ {n : Int} {a b : List LineD}, numK n a = true → numK (n + a.length) b = true → numK n (a ++ b) = true
  | n, [], b, _, h => by rw [List.length_nil] at h; simpa using h
  | n, x :: a, b, h1, h2 => by
    have h1 : (decide (x.no = n) && numK (n + 1) a) = true := h1
    rw [Bool.and_eq_true] at h1
    show (decide (x.no = n) && numK (n + 1) (a ++ b)) = true
    rw [h1.1, Bool.true_and]
    refine num_app h1.2 ?_
    rw [List.length_cons] at h2
    rw [show n + 1 + (a.length : Int) = n + ((a.length + 1 : Nat) : Int) by omega]
    exact h2
theorem made_num {kind : Int} {key : List Int} {bats : List Int} {lines : List LineD} (h : MadeK kind key bats lines) : numK 1 lines = true := by
  induction h with
  | nil => rfl
  | take h hz ih =>
    have := (look_ok (by rw [hz]; simp)).2.2.2
    refine num_app ih ?_
    rw [Int.add_comm]
    exact this
/-- the batches, read back -/
theorem made_bats {kind : Int} {key : List Int} {bats : List Int} {lines : List LineD} (h : MadeK kind key bats lines) : ∀ (bs : List Int) (l : List LineD), (∀ x ∈ l.head?, lastK ⟨kind, key, bats, lines, 0, []⟩ < x.batch) → batsK (bats ++ bs) (lines ++ l) (newK kind key) = batsK bs l ⟨kind, key, bats, lines, 0, []⟩ := by
  induction h with
  | nil => intro bs l _; rfl
  | @take bats lines L b h hz ih =>
    intro bs l hl
    obtain ⟨h1, h2, h3, h4⟩ := look_ok (s := ⟨kind, key, bats, lines, 0, []⟩) (by rw [hz]; simp)
    have hlast : lastK ⟨kind, key, bats ++ [b], lines ++ L, 0, []⟩ = b := last_take ⟨kind, key, bats, lines, 0, []⟩ b L
    rw [hlast] at hl
    have hb : ∀ x ∈ L, x.batch = b := fun x hx => (bad_right (h3 x hx)).1
    rw [List.append_assoc, List.append_assoc, ih ([b] ++ bs) (L ++ l) ?_]
    · show (if lookK _ b (headK b (L ++ l)) = 0 then _ else none) = _
      have e1 : headK b (L ++ l) = L := by
        unfold headK
        rw [List.takeWhile_append_of_pos fun x hx => decide_eq_true (hb x hx)]
        cases l with
        | nil => simp
        | cons y l =>
          have := hl y (by simp)
          rw [List.takeWhile_cons_of_neg (by simp; omega), List.append_nil]
      have e2 : restK b (L ++ l) = l := by
        unfold restK
        rw [List.dropWhile_append_of_pos fun x hx => decide_eq_true (hb x hx)]
        cases l with
        | nil => simp
        | cons y l =>
          have := hl y (by simp)
          rw [List.dropWhile_cons_of_neg (by simp; omega)]
      rw [e1, e2, if_pos hz]
      rfl
    · intro x hx
      cases L with
      | nil =>
        have := hl x (by simpa using hx)
        omega
      | cons y L =>
        have hx : y = x := by simpa using hx
        subst hx
        rw [hb y (by simp)]
        exact h2
theorem read_bytes {s : SkD} (h : SkR s) (hW : SkW s) (h1 : (s.key.length : Int) ≤ 9223372036854775807) (h2 : (s.bats.length : Int) ≤ 9223372036854775807) (h3 : (s.lines.length : Int) ≤ 9223372036854775807) (h4 : (s.aside.length : Int) ≤ 9223372036854775807) : readSk (skB s).data.toList = some s := by
  have e : (skB s).data.toList = (intB s.kind).data.toList ++ (numsL s.key ++ (numsL s.bats ++ (linesS s.lines ++ ((intB s.prep).data.toList ++ (linesS s.aside ++ []))))) := by
    unfold skB
    simp [ByteArray.data_append]
  have hfin : finK (skB s).data.toList ⟨s.kind, s.key, s.bats, s.lines, 0, []⟩ s.prep (shiftL (s.lines.length : Int) (renK 1 s.aside)) = some s := by
    have hy : (if s.prep = 0 then ((0 : Int), (⟨s.kind, s.key, s.bats, s.lines, 0, []⟩ : SkD)) else prepK ⟨s.kind, s.key, s.bats, s.lines, 0, []⟩ s.prep (shiftL (s.lines.length : Int) (renK 1 s.aside))) = (0, s) := by
      split
      · rename_i hp
        have ha := h.none hp
        cases s
        simp only at hp ha
        rw [hp, ha]
      · rename_i hp
        obtain ⟨g1, g2, g3⟩ := h.prep hp
        have ha : shiftL (s.lines.length : Int) (renK 1 s.aside) = s.aside := by
          rw [shift_ren, Int.add_comm]
          exact ren_num (look_ok (by rw [g3]; simp)).2.2.2
        rw [ha]
        unfold prepK
        rw [if_neg (by simp only; omega), if_neg (by rw [show hasK ⟨s.kind, s.key, s.bats, s.lines, 0, []⟩ s.prep = hasK s s.prep from rfl, g2]; simp), if_neg (by rw [look_same, g3]; simp)]
    unfold finK
    simp only
    rw [hy, if_pos ⟨rfl, rfl, rfl⟩]
  generalize (skB s).data.toList = bytes at e hfin ⊢
  unfold readSk
  rw [e, int_read hW.kind]
  simp only
  rw [nums_read hW.key h1]
  simp only
  rw [nums_read hW.bats h2]
  simp only
  rw [readLines_read hW.lines h3]
  simp only [Option.bind_some]
  rw [int_read hW.prep]
  simp only
  rw [readLines_read hW.aside h4]
  simp only [Option.bind_some]
  rw [if_neg (by rw [h.ok]; simp), if_neg (by decide), ren_num (made_num h.made)]
  have hb := made_bats h.made [] [] (by simp)
  rw [List.append_nil, List.append_nil] at hb
  rw [hb]
  show finK _ _ _ _ = _
  rw [← e]
  exact hfin

/-! ### lengths -/
theorem rdInt_len (st : RdS) : (rdInt st).2.1.length ≤ st.1.length := stepN_len 59 (-9223372036854775808) st
theorem rdInt_eats (st : RdS) : (rdInt st).2 = ([], true) ∧ (rdInt st).1 = 0 ∨ (rdInt st).2.1.length + 2 ≤ st.1.length ∧ (rdInt st).2.2 = st.2 := by
  unfold rdInt stepN
  split
  · rename_i n r h
    obtain ⟨⟨h1, _⟩, h2⟩ := (numP_iff (.inr (.inl rfl))).1 h
    have := itoa_len h1
    right
    rw [h2, List.length_append, List.length_cons]
    simp only
    exact ⟨by omega, trivial⟩
  · exact .inl ⟨rfl, rfl⟩
theorem stepT_eats (st : RdS) : (stepT st).1.data.toList = [] ∨ (stepT st).2.1.length + 3 + (stepT st).1.size ≤ st.1.length := by
  unfold stepT
  simp only
  split
  · exact .inl rfl
  · rename_i h
    by_cases hc : (stepC 44 ((stepN 58 0 st).2.1.drop (stepN 58 0 st).1.toNat, (stepN 58 0 st).2.2)).2 = true
    · left
      rw [if_pos hc]
    · right
      simp only
      rw [if_neg hc, bs_size, List.length_take]
      unfold stepN at hc ⊢
      split at hc
      · rename_i n r hn
        obtain ⟨⟨h1, _⟩, h2⟩ := (numP_iff (.inl rfl)).1 hn
        have := itoa_len h1
        simp only at hc ⊢
        unfold stepC at hc ⊢
        simp only at hc ⊢
        split at hc
        · exact absurd rfl hc
        · rename_i x r2 hx
          have hlen := congrArg List.length hx
          rw [List.length_drop, List.length_cons] at hlen
          split at hc
          · rename_i hxe
            rw [if_pos hxe, h2, List.length_append, List.length_cons]
            simp only; omega
          · exact absurd rfl hc
      · exfalso
        apply hc
        rfl
theorem readRow_pos {l : List UInt8} {r : List ValD} (h : readRowP l = some r) : 2 ≤ l.length := by
  unfold readRowP at h
  rcases Nat.lt_or_ge l.length 2 with h1 | h1
  · exfalso
    have e : rdNat (l, false) = (0, ([], true)) := by
      refine stepN_none ?_
      rcases hn : numP 59 0 l with _ | ⟨n, r2⟩
      · rfl
      · obtain ⟨⟨g1, _⟩, g2⟩ := (numP_iff (.inr (.inl rfl))).1 hn
        have := itoa_len g1
        rw [g2, List.length_append, List.length_cons] at h1
        omega
    rw [e] at h
    cases h
  · exact h1
theorem line_eats {nx no : Int} {st st' : RdS} {x : LineD} (h : lineR nx no st = some (x, st')) : st'.1.length + 7 ≤ st.1.length ∧ x.row.length ≤ st.1.length ∧ (∀ v ∈ x.row, v.text.size ≤ st.1.length) ∧ I64 x.time ∧ I64 x.n ∧ I64 x.cause ∧ I64 x.why ∧ x.no = nx ∧ x.batch = no := by
  obtain ⟨r, hr, he⟩ := lineR_inv h
  obtain ⟨f1, f2⟩ := readRow_fit hr
  have hp := readRow_pos hr
  unfold rdL at he
  injection he with e1 e2
  subst e1 e2
  rcases stepT_eats (rdInt st).2 with e | e
  · rw [e] at hp
    simp at hp
  · rw [list_size] at hp f1 f2
    rcases rdInt_eats st with ⟨e2, _⟩ | ⟨e2, _⟩
    · rw [e2, List.length_nil] at e
      omega
    · have a := rdInt_len (stepT (rdInt st).2).2
      have b := rdInt_len (rdInt (stepT (rdInt st).2).2).2
      have c := rdInt_len (rdInt (rdInt (stepT (rdInt st).2).2).2).2
      refine ⟨by omega, ?_, fun v hv => ?_, rdInt_i64 _, rdInt_i64 _, rdInt_i64 _, rdInt_i64 _, rfl, rfl⟩
      · show r.length ≤ _
        omega
      · have := f2 v hv
        omega
end Go.Proofs.YtjlfpkgjcffilaaGreatDoor
end

/-
  The conditions of the walks of some functions, one formula each; 'B<f>_run' says that they suffice. The formulas are printed by a program; the kernel compares them with the functions' code.
-/
section
namespace Go.Proofs.YtjlfpkgjcffilaaGreatDoor
set_option linter.unusedVariables false
set_option linter.unusedSimpArgs false
set_option maxRecDepth 100000
open Go.Vc

/-- wire.items[int] -/
-- loop at region 3: 5 out, 6 n; blocks 
def Mwire_items_int (rB rO : Nat) (oneF : FuncId) (oneB : Array Value) (W : World) (R : List Own) (Φ : PW) (J : Value → World → Prop) : Prop :=
  ∀ (w0 : World) (R1 : List Own), Ctx W w0 (R ++ R1) Φ → Calls Tryz.prog F.wire_Reader_number #[Value.pointer (some (Addr.mk rB rO none)), Value.int IntKind.u8 91, Value.int IntKind.i64 0] w0
  fun (e2 : Ending) (w3 : World) => ∃ (n4 : Int), e2 = Ending.returned (Value.int IntKind.i64 n4) ∧ ∃ (R5 : List Own), ∃ (Φ6 : PW), Stable Φ6 ∧ Ctx W w3 (R5 ++ R1) Φ6 ∧ exI fun (I7 : Option
  Addr → Nat → Nat → Int → List Own → PW → Nat → Prop) => (∃ (R8 : List Own), ∃ (Φ9 : PW), ∃ (k10 : Nat), Stable Φ9 ∧ (∀ (w11 : World) (R12 : List Own), Ctx W w11 (R5 ++ R12) Φ6 → Ctx W w11
  (R8 ++ R12) Φ9) ∧ I7 none 0 0 n4 R8 Φ9 k10) ∧ ∀ (p13 : Option Addr) (k14 k15 : Nat) (n16 : Int) (R17 : List Own) (I18 : List Nat → World → Prop) (k19 : Nat), Stable I18 → I7 p13 k14 k15 n16
  R17 I18 k19 → ∀ (w20 : World) (R21 : List Own), Ctx W w20 (R17 ++ R21) I18 → ∃ (c22 : Bool), (decide (0 < n16) = true → w20.cell? (Addr.mk rB (rO + 1) none) = some (Value.bool c22)) ∧ Br
  (decide (0 < n16) && !c22) (∀ (w23 : World) (R24 : List Own), Ctx W w23 (R17 ++ R24) I18 → okFun Tryz.prog oneF = true ∧ Calls Tryz.prog oneF (Array.mk ((oneB.toList.append []).append []))
  w23 fun (e25 : Ending) (w26 : World) => ∃ (n27 : Int), e25 = Ending.returned (Value.int IntKind.i64 n27) ∧ ∃ (R28 : List Own), ∃ (Φ29 : PW), Stable Φ29 ∧ Ctx W w26 (R28 ++ R24) Φ29 ∧ ∀ (k30
  : Nat) (w31 : World) (R32 : List Own), Ctx W w31 (Own.blk k30 [Value.int IntKind.i64 n27] 3 :: R28 ++ R32) Φ29 → ∃ (p33 : Option Addr), ∃ (k34 : Nat), ∃ (k35 : Nat), ∃ (w36 : World),
  Sem.run Tryz.prog (builtin Builtin.append #[50, 50] 50 #[false, false] #[Value.slice p13 k14 k15, Value.slice (some (Addr.mk k30 0 none)) 1 1]) w31 = Result.ok (Next.value (Value.slice p33
  k34 k35)) w36 ∧ ∃ (R37 : List Own), ∃ (Φ38 : PW), Stable Φ38 ∧ Ctx W w36 (R37 ++ R32) Φ38 ∧ I64 (n16 - 1) ∧ ∃ (R39 : List Own), ∃ (Φ40 : PW), ∃ (k41 : Nat), Stable Φ40 ∧ (∀ (w42 : World)
  (R43 : List Own), Ctx W w42 (R37 ++ R43) Φ38 → Ctx W w42 (R39 ++ R43) Φ40) ∧ I7 p33 k34 k35 (n16 - 1) R39 Φ40 k41 ∧ k41 < k19) (∀ (w44 : World) (R45 : List Own), Ctx W w44 (R17 ++ R45) I18
  → Calls Tryz.prog F.wire_Reader_close #[Value.pointer (some (Addr.mk rB rO none)), Value.string (ByteArray.mk #[OfNat.ofNat 93])] w44 fun (e46 : Ending) (w47 : World) => e46 =
  Ending.returned (Value.tuple #[]) ∧ ∃ (R48 : List Own), ∃ (Φ49 : PW), Stable Φ49 ∧ Ctx W w47 (R48 ++ R45) Φ49 ∧ ∀ (w50 : World) (R51 : List Own), Ctx W w50 (R48 ++ R51) Φ49 → ∃ (c52 :
  Bool), w50.cell? (Addr.mk rB (rO + 1) none) = some (Value.bool c52) ∧ Br c52 (∀ (w53 : World) (R54 : List Own), Ctx W w53 (R48 ++ R54) Φ49 → J (Value.slice none 0 0) w53) (∀ (w55 : World)
  (R56 : List Own), Ctx W w55 (R48 ++ R56) Φ49 → J (Value.slice p13 k14 k15) w55))

theorem Mwire_items_int_run (rB rO : Nat) (oneF : FuncId) (oneB : Array Value) {W w : World} {R : List Own} {Φ : PW} [Stable Φ] {J : Value → World → Prop} (c : Ctx W w R Φ) (h : Mwire_items_int rB rO oneF oneB W R Φ J) : Calls Tryz.prog F.wire_items_int #[.pointer (some ⟨rB, rO, none⟩), .func (.func oneF) oneB #[]] w fun e w' => ∃ v, e = .returned v ∧ J v w' :=
  vcFS_sound (H := { keep := some [0, 1, 4, 5, 6, 17, 30], wrap := [22], loops := [(3, [(5, .one (.slice)), (6, .one (.int .i64))], [])] }) (by rw [show vcFS Tryz.prog W { keep := some [0, 1, 4, 5, 6, 17, 30], wrap := [22], loops := [(3, [(5, .one (.slice)), (6, .one (.int .i64))], [])] } F.wire_items_int #[.pointer (some ⟨rB, rO, none⟩), .func (.func oneF) oneB #[]] R Φ J = Mwire_items_int rB rO oneF oneB W R Φ J by kernel_rfl]; exact h) c

end Go.Proofs.YtjlfpkgjcffilaaGreatDoor
end

/-
  The reading of sinks, walked: lists of ints, lines.
-/
section
set_option linter.unusedVariables false
set_option linter.unusedSimpArgs false
namespace Go.Proofs.YtjlfpkgjcffilaaGreatDoor
open Go.Vc


/-! ### what is known of what was read -/
theorem num_from : ∀ (k : Nat) (st st' : RdS) (acc out : List LineD), linesK k st acc = some (out, st') → numK 1 acc = true → numK 1 out = true
  | 0, st, st', acc, out, h, ha => by
    have h : some (acc, st) = some (out, st') := h
    cases h
    exact ha
  | k + 1, st, st', acc, out, h, ha => by
    unfold linesK at h
    obtain ⟨⟨x, s2⟩, h1, h2⟩ := Option.bind_eq_some_iff.1 h
    refine num_from k s2 st' _ out h2 (num_app ha ?_)
    have := (line_eats h1).2.2.2.2.2.2.2.1
    show (decide (x.no = 1 + (acc.length : Int)) && true) = true
    rw [this, decide_eq_true (by omega)]
    rfl
theorem itemsK_len : ∀ (k : Nat) (st : RdS) (acc : List Int), (itemsK k st acc).2.1.length ≤ st.1.length ∧ (itemsK k st acc).1.length * 2 ≤ acc.length * 2 + st.1.length + 2
  | 0, st, acc => ⟨Nat.le_refl _, by show acc.length * 2 ≤ _; omega⟩
  | k + 1, st, acc => by
    cases hb : st.2 with
    | true => rw [itemsK_e hb]; exact ⟨Nat.le_refl _, by show acc.length * 2 ≤ _; omega⟩
    | false =>
      rw [itemsK_s hb]
      rcases rdInt_eats st with ⟨e, _⟩ | ⟨e, _⟩
      · rw [e, itemsK_e rfl]
        refine ⟨Nat.zero_le _, ?_⟩
        show (acc ++ [_]).length * 2 ≤ _
        rw [List.length_append, List.length_singleton]; omega
      · obtain ⟨h1, h2⟩ := itemsK_len k (rdInt st).2 (acc ++ [(rdInt st).1])
        rw [List.length_append, List.length_singleton] at h2
        omega
theorem numsK_len {st s1 : RdS} {out : List Int} (e : numsK st = (out, s1)) : s1.1.length ≤ st.1.length ∧ out.length * 2 ≤ st.1.length + 2 := by
  have h1 := stepN_len 91 0 st
  obtain ⟨h2, h3⟩ := itemsK_len (stepN 91 0 st).1.toNat (stepN 91 0 st).2 []
  have h4 := stepC_len 93 (itemsK (stepN 91 0 st).1.toNat (stepN 91 0 st).2 []).2
  have e1 : (if (stepC 93 (itemsK (stepN 91 0 st).1.toNat (stepN 91 0 st).2 []).2).2 then [] else (itemsK (stepN 91 0 st).1.toNat (stepN 91 0 st).2 []).1, stepC 93 (itemsK (stepN 91 0 st).1.toNat (stepN 91 0 st).2 []).2) = (out, s1) := e
  injection e1 with e1 e2
  rw [← e2, ← e1]
  rw [List.length_nil] at h3
  refine ⟨by omega, ?_⟩
  split
  · rw [List.length_nil]; omega
  · omega
theorem lineK_eats {nx : Int} {st st' : RdS} {x : LineD} (h : lineK nx st = some (x, st')) : st'.1.length + 7 ≤ st.1.length ∧ x.row.length ≤ st.1.length ∧ I64 x.batch ∧ I64 x.time ∧ I64 x.n ∧ I64 x.cause ∧ I64 x.why ∧ x.no = nx := by
  obtain ⟨h1, h2, _, h4, h5, h6, h7, h8, h9⟩ := line_eats h
  have := rdInt_len st
  exact ⟨by omega, by omega, by rw [h9]; exact rdInt_i64 st, h4, h5, h6, h7, h8⟩

section
variable {W w : World} {R G S : List Own} {Φ : PW} {b : Nat} {st : RdS}

set_option maxHeartbeats 1000000 in
theorem Items_use [Stable Φ] (hΦ : ∀ M w, Φ M w → NumI M w) (hl : st.1.length ≤ 10000000) (c : Ctx W w (rd b st :: S) Φ) {K : Ending → World → Prop}
    (hk : ∀ p c w', (numsK st).1.length ≤ c → c ≤ maxLen → Ctx W w' (rd b (numsK st).2 :: S) (fun M w => Φ M w ∧ Sl M w p (numsK st).1) → K (.returned (.slice p (numsK st).1.length c)) w') :
    Calls Tryz.prog F.wire_items_int #[.pointer (some ⟨b, 0, none⟩), .func (.func F.wire_Reader_Int) #[.pointer (some ⟨b, 0, none⟩)] #[]] w K := by
  refine (Mwire_items_int_run b 0 F.wire_Reader_Int #[.pointer (some ⟨b, 0, none⟩)] (J := fun u w' => K (.returned u) w') (R := rd b st :: S) c ?_).mono fun e w' ⟨v, he, hj⟩ => by rw [he]; exact hj
  clear c
  refine fun w G cx => number_to (S := S) hΦ 91 0 (by omega) cx ?_
  clear cx
  have hlen := stepN_len 91 0 st
  have hnn := stepN_nonneg (e := 91) (.inr (.inr rfl)) st
  rw [show (91 : Int).toNat.toUInt8 = 91 from rfl]
  have hall : numsK st = (if (stepC 93 (itemsK (stepN 91 0 st).1.toNat (stepN 91 0 st).2 []).2).2 then [] else (itemsK (stepN 91 0 st).1.toNat (stepN 91 0 st).2 []).1, stepC 93 (itemsK (stepN 91 0 st).1.toNat (stepN 91 0 st).2 []).2) := rfl
  obtain ⟨⟨n0, st0⟩, hst⟩ : ∃ x, stepN 91 0 st = x := ⟨_, rfl⟩
  rw [hst] at hlen hnn hall ⊢
  simp only at hlen hnn hall ⊢
  refine exI_mk (fun p n c m R' Φ' k => ∃ (s1 : RdS) (acc : List Int), n = acc.length ∧ R' = bufZ p c acc :: rd b s1 :: S ∧ Φ' = Φ ∧ k = m.toNat ∧ 0 ≤ m ∧ m ≤ 9223372036854775807 ∧ s1.1.length ≤ st.1.length ∧ (s1.2 = false → acc.length * 2 + s1.1.length ≤ st.1.length) ∧ acc.length * 2 ≤ st.1.length + 2 ∧ (∀ x ∈ acc, I64 x) ∧ itemsK n0.toNat st0 [] = itemsK m.toNat s1 acc)
    ⟨⟨bufZ none 0 [] :: rd b st0 :: S, Φ, _, inferInstance, fun w G cx => cx.nobuf 3 1, st0, [], rfl, rfl, rfl, rfl, hnn.1, hnn.2, hlen, fun _ => by simp only [List.length_nil]; omega, by simp, by simp, rfl⟩, ?_⟩
  rintro p n c m R1 Φ1 k _ ⟨s1, acc, rfl, rfl, rfl, rfl, hm0, hm1, hsl, hal, hal2, hai, hit⟩
  refine fun w G cx => ⟨s1.2, fun _ => cx.get 1 rfl rfl, ?_⟩
  clear cx
  refine Br.intro (fun hgo => fun w G cx => ⟨by kernel_rfl, ?_⟩) (fun hstop => ?_)
  · rw [Bool.and_eq_true] at hgo
    have hpos := of_decide_eq_true hgo.1
    have hgood : s1.2 = false := by simpa using hgo.2
    have hal := hal hgood
    refine RInt_to (S := bufZ p c acc :: S) hΦ (by omega) cx.swap ?_
    clear cx
    refine fun kb w G cx => ?_
    have cx1 : Ctx W w (.blk kb [.int .i64 (rdInt s1).1] 3 :: bufZ p c acc :: (rd b (rdInt s1).2 :: S) ++ G) Φ1 := cx.perm ((List.Perm.swap _ _ _).cons _)
    obtain ⟨p', c', w', hrun, cx'⟩ := pushZ (by omega) cx1
    refine ⟨p', _, c', w', hrun, _, Φ1, inferInstance, cx', by unfold I64; omega, _, Φ1, (m - 1).toNat, inferInstance, fun w G cx => cx, ⟨(rdInt s1).2, acc ++ [(rdInt s1).1], rfl, rfl, rfl, rfl, by omega, by omega, ?_, ?_, ?_, ?_, ?_⟩, by omega⟩
    · have := rdInt_len s1
      omega
    · intro hg2
      rw [List.length_append, List.length_singleton]
      rcases rdInt_eats s1 with ⟨e, _⟩ | ⟨e, _⟩
      · rw [e] at hg2; cases hg2
      · omega
    · rw [List.length_append, List.length_singleton]
      omega
    · intro x hx
      rcases List.mem_append.1 hx with hx | hx
      · exact hai x hx
      · rw [List.mem_singleton.1 hx]; exact rdInt_i64 _
    · rw [hit, show m.toNat = (m - 1).toNat + 1 by omega, itemsK_s hgood]
  · have hend : itemsK n0.toNat st0 [] = (acc, s1) := by
      rw [hit]
      rcases Bool.and_eq_false_iff.1 hstop with h | h
      · have := of_decide_eq_false h
        rw [show m.toNat = 0 by omega]; rfl
      · exact itemsK_e (by simpa using h)
    rw [hend] at hall
    simp only at hall
    refine fun w G cx => close_to (S := bufZ p c acc :: S) 93 cx.swap ?_
    clear cx
    refine fun w G cx => ⟨(stepC 93 s1).2, cx.get 0 rfl rfl, Br.intro (fun hb => fun w G cx => ?_) (fun hb => fun w G cx => ?_)⟩
    · have e : numsK st = ([], stepC 93 s1) := by rw [hall, if_pos hb]
      rw [e] at hk
      have cy : Ctx W w (bufZ p c acc :: rd b (stepC 93 s1) :: S) Φ1 := cx.swap.left
      exact hk none 0 w (Nat.le_refl _) (Nat.zero_le _) (cy.drop1.weak fun M w h => ⟨h, Sl.nil⟩)
    · have e : numsK st = (acc, stepC 93 s1) := by rw [hall, if_neg (by rw [hb]; simp)]
      rw [e] at hk
      have cy : Ctx W w (bufZ p c acc :: rd b (stepC 93 s1) :: S) Φ1 := cx.swap.left
      obtain ⟨cx3, hs, _, g1, g2⟩ := Ctx.freeze (α := Int) cy (ints_elems acc hai)
      exact hk p c w g1 g2 (cx3.add hs)
theorem Nums_to [Stable Φ] (hΦ : ∀ M w, Φ M w → NumI M w) (hl : st.1.length ≤ 10000000) {out : List Int} {s1 : RdS} (e : numsK st = (out, s1)) (c : Ctx W w (rd b st :: S ++ G) Φ) {K : Option Addr → Nat → Nat → List Own → PW → Prop}
    (hk : ∀ p c, out.length ≤ c → c ≤ maxLen → Stable (fun M w => Φ M w ∧ Sl M w p out) → K p out.length c (rd b s1 :: S) (fun M w => Φ M w ∧ Sl M w p out)) :
    Calls Tryz.prog F.wire_Reader_Nums #[.pointer (some ⟨b, 0, none⟩)] w fun e w' => ∃ p n c, e = .returned (.slice p n c) ∧ ∃ R' Φ', Stable Φ' ∧ Ctx W w' (R' ++ G) Φ' ∧ K p n c R' Φ' := by
  refine (Bwire_Reader_Nums_run b 0 (J := fun u w' => ∃ p n c, (Ending.returned u) = .returned (.slice p n c) ∧ ∃ R' Φ', Stable Φ' ∧ Ctx W w' (R' ++ G) Φ' ∧ K p n c R' Φ') (R := rd b st :: (S ++ G)) c ?_).mono fun e w' ⟨v, he, hj⟩ => by rw [he]; exact hj
  clear c
  refine fun w G2 cx => Items_use (S := (S ++ G) ++ G2) hΦ hl cx fun p c w g1 g2 cx => ?_
  rw [e] at g1 cx ⊢
  exact ⟨p, _, c, rfl, rd b s1 :: (S ++ G), _, inferInstance, cx, fun w G3 cx => ⟨p, _, c, rfl, rd b s1 :: S, _, inferInstance, Ctx.left (S := rd b s1 :: (S ++ G)) cx, hk p c g1 g2 inferInstance⟩⟩
theorem RInt_toE [Stable Φ] (hΦ : ∀ M w, Φ M w → NumI M w) (hl : st.1.length ≤ 1000000000) {n : Int} {s1 : RdS} (e : rdInt st = (n, s1)) (c : Ctx W w (rd b st :: S ++ G) Φ) {K : Int → List Own → PW → Prop}
    (hk : K n (rd b s1 :: S) Φ) :
    Calls Tryz.prog F.wire_Reader_Int #[.pointer (some ⟨b, 0, none⟩)] w fun e w' => ∃ n, e = .returned (.int .i64 n) ∧ ∃ R' Φ', Stable Φ' ∧ Ctx W w' (R' ++ G) Φ' ∧ K n R' Φ' :=
  RInt_to hΦ hl c (by rw [e]; exact hk)

/-! ### lines -/
theorem pushK {PS : PW} [Stable PS] {op : Option Addr} {oc : Nat} {ds : List Value} {o : List LineD} {x : LineD} {a : Option Addr} {ac kb : Nat} (hx : ∀ M w, PS M w → Gv.rep M w (x.cells a ac) x) (ho : o.length < 10000000)
    (cx : Ctx W w (.blk kb (x.cells a ac) 46 :: .buf op o.length oc ds 46 7 :: R ++ G) (fun M w => PS M w ∧ Elems M w ds o)) :
    ∃ p c w', Sem.run Tryz.prog (builtin Builtin.append #[33, 33] 33 #[false, false] #[.slice op o.length oc, .slice (some ⟨kb, 0, none⟩) 1 1]) w = .ok (.value (.slice p (o ++ [x]).length c)) w' ∧ Ctx W w' (.buf p (o ++ [x]).length c (ds ++ x.cells a ac) 46 7 :: R ++ G) (fun M w => PS M w ∧ Elems M w (ds ++ x.cells a ac) (o ++ [x])) := by
  obtain ⟨p', cap', w', hrun, _, cx'⟩ := Ctx.app1 (P := Tryz.prog) (ts := 33) (ty := 33) (kb := #[false, false]) (size := 7) (bytes := 72) cx (by kernel_rfl) (by omega) rfl rfl (by omega) (by omega)
  have e : o.length + 1 = (o ++ [x]).length := by simp
  rw [e] at hrun cx'
  exact ⟨p', cap', w', hrun, cx'.weak fun M w h => ⟨h.1, h.2.snoc (hx M w h.1)⟩⟩

set_option maxHeartbeats 2000000 in
theorem readLines_to [Stable Φ] (hΦ : ∀ M w, Φ M w → NumI M w) (hl : st.1.length ≤ 3000000) (c : Ctx W w (rd b st :: S ++ G) Φ) {K : Option Addr → Nat → Nat → Bool → List Own → PW → Prop}
    (h0 : readLinesK st = none → ∀ s1, s1.1.length ≤ st.1.length → K none 0 0 false (rd b s1 :: S) Φ)
    (h1 : ∀ l s1 p c cs, readLinesK st = some (l, s1) → l.length * 7 + s1.1.length ≤ st.1.length → (∀ x ∈ l, x.row.length ≤ 3000000) → (0 < l.length → ∃ g, p = some ⟨g, 0, none⟩) → Stable (fun M w => Φ M w ∧ Elems M w cs l) → K p l.length c true (bufL p l.length c cs :: rd b s1 :: S) (fun M w => Φ M w ∧ Elems M w cs l)) :
    Calls Tryz.prog F.sink_readLines #[.pointer (some ⟨b, 0, none⟩)] w fun e w' => ∃ p n c ok, e = .returned (.tuple #[.slice p n c, .bool ok]) ∧ ∃ R' Φ', Stable Φ' ∧ Ctx W w' (R' ++ G) Φ' ∧ K p n c ok R' Φ' := by
  refine (Bsink_readLines_run b 0 (J := fun u w' => ∃ p n c ok, (Ending.returned u) = .returned (.tuple #[.slice p n c, .bool ok]) ∧ ∃ R' Φ', Stable Φ' ∧ Ctx W w' (R' ++ G) Φ' ∧ K p n c ok R' Φ') (R := rd b st :: (S ++ G)) c ?_).mono fun e w' ⟨v, he, hj⟩ => by rw [he]; exact hj
  clear c
  refine fun w G2 cx => RNum_to (S := S ++ G) hΦ (by omega) cx ?_
  clear cx
  have hlen : (rdNat st).2.1.length ≤ st.1.length := stepN_len 59 0 st
  have hnn : 0 ≤ (rdNat st).1 ∧ (rdNat st).1 ≤ 9223372036854775807 := stepN_nonneg (e := 59) (.inr (.inl rfl)) st
  have hall : readLinesK st = linesK (rdNat st).1.toNat (rdNat st).2 [] := rfl
  obtain ⟨⟨n0, st0⟩, hst⟩ : ∃ x, rdNat st = x := ⟨_, rfl⟩
  rw [hst] at hlen hnn hall ⊢
  simp only at hlen hnn hall ⊢
  refine exI_mk (fun p n c R' Φ' k => ∃ (sl : RdS) (acc : List LineD) (ds : List Value), n = acc.length ∧ R' = bufL p n c ds :: rd b sl :: (S ++ G) ∧ Φ' = (fun M w => Φ M w ∧ Elems M w ds acc) ∧ k = (n0 - acc.length).toNat ∧ acc.length * 7 + sl.1.length ≤ st.1.length ∧ (∀ x ∈ acc, x.row.length ≤ 3000000) ∧ (acc.length : Int) ≤ n0 ∧ linesK n0.toNat st0 [] = linesK (n0 - acc.length).toNat sl acc)
    ⟨⟨bufL none 0 0 [] :: rd b st0 :: (S ++ G), fun M w => Φ M w ∧ Elems M w [] ([] : List LineD), _, inferInstance, fun w G cx => (cx.nobuf 46 7).weak fun M w h => ⟨h, Elems.nil⟩, st0, [], [], rfl, rfl, rfl, rfl, by simp only [List.length_nil]; omega, by simp, by simp only [List.length_nil]; omega, by simp⟩, ?_⟩
  rintro p n c R1 Φ1 k _ ⟨sl, acc, ds, rfl, rfl, rfl, rfl, hal, har, han, hlr⟩
  have hst1 : Stable (fun M w => Φ M w ∧ Elems M w ds acc) := inferInstance
  have hT1 : ∀ M w, (Φ M w ∧ Elems M w ds acc) → NumI M w := fun M w h => hΦ M w h.1
  refine Br.intro (fun hlt => ⟨by unfold I64; omega, ?_⟩) (fun hge => fun w G2 cx => ?_)
  · have hlt := of_decide_eq_true hlt
    have hkk : (n0 - (acc.length : Int)).toNat = (n0 - ((acc.length + 1 : Nat) : Int)).toNat + 1 := by omega
    rw [hkk] at hlr
    have hls : lineK ((acc.length : Int) + 1) sl = lineR ((acc.length : Int) + 1) (rdInt sl).1 (rdInt sl).2 := rfl
    obtain ⟨bt, hbt⟩ : ∃ bt, (rdInt sl).1 = bt := ⟨_, rfl⟩
    obtain ⟨s2, hs2⟩ : ∃ s2, (rdInt sl).2 = s2 := ⟨_, rfl⟩
    have q0 := rdInt_len sl
    rw [hs2] at q0
    rw [hbt, hs2] at hls
    have q1 := rdInt_len s2
    obtain ⟨q2, q3⟩ := stepT_len (rdInt s2).2
    have q4 := rdInt_len (stepT (rdInt s2).2).2
    have q5 := rdInt_len (rdInt (stepT (rdInt s2).2).2).2
    refine fun w G2 cx => RInt_to (S := bufL p acc.length c ds :: (S ++ G)) hT1 (by omega) cx.swap ?_
    clear cx
    rw [hbt, hs2]
    refine fun w G2 cx => RInt_to (S := bufL p acc.length c ds :: (S ++ G)) hT1 (by omega) cx ?_
    clear cx
    refine fun _ w G2 cx => Text_to (S := bufL p acc.length c ds :: (S ++ G)) hT1 (by omega) cx ?_
    clear cx
    refine fun w G2 cx => ReadRowS_to (R := rd b (stepT (rdInt s2).2).2 :: bufL p acc.length c ds :: (S ++ G)) hT1 (stepT (rdInt s2).2).1 (by omega) cx (fun hn => ?_) (fun r rp rc hr g1 g2 hst6 => ?_)
    · clear cx
      rw [linesK_n (hls.trans (lineR_none hn))] at hlr
      refine Br.intro (fun _ => fun w G2 cx => ⟨_, _, _, _, rfl, rd b (stepT (rdInt s2).2).2 :: S, Φ, inferInstance, ?_, h0 (by rw [hall, hlr]) _ (by omega)⟩) (fun h => by cases h)
      exact (Ctx.drop1 (Ctx.swap cx.left)).weak fun M w h => h.1
    · clear cx
      obtain ⟨x, hx⟩ : ∃ x, rdL s2 ((acc.length : Int) + 1) bt r = x := ⟨_, rfl⟩
      have hls2 : lineK ((acc.length : Int) + 1) sl = some (x.1, x.2) := by rw [hls, lineR_some hr, hx]
      obtain ⟨z1, z2, z3, z4, z5, z6, z7, z8⟩ := lineK_eats hls2
      rw [linesK_s hls2] at hlr
      have hT6 : ∀ M w, ((Φ M w ∧ Elems M w ds acc) ∧ Sl M w rp r) → NumI M w := fun M w h => hΦ M w h.1.1
      refine Br.intro (fun h => by cases h) (fun _ => ?_)
      refine fun w G2 cx => RInt_to (S := bufL p acc.length c ds :: (S ++ G)) hT6 (by omega) cx ?_
      clear cx
      refine fun w G2 cx => RInt_to (S := bufL p acc.length c ds :: (S ++ G)) hT6 (by omega) cx ?_
      clear cx
      refine fun w G2 cx => RInt_to (S := bufL p acc.length c ds :: (S ++ G)) hT6 (by omega) cx ?_
      clear cx
      refine fun kb w G2 cx => ?_
      have hxr : x.1.row = r := by rw [← hx]; rfl
      have hxe : x.2 = (rdInt (rdInt (rdInt (stepT (rdInt s2).2).2).2).2).2 := by rw [← hx]; rfl
      have hxc : x.1.cells rp rc = [.int .i64 ((acc.length : Int) + 1), .int .i64 bt, .int .i64 (rdInt s2).1, .slice rp r.length rc, .int .i64 (rdInt (stepT (rdInt s2).2).2).1, .int .i64 (rdInt (rdInt (stepT (rdInt s2).2).2).2).1, .int .i64 (rdInt (rdInt (rdInt (stepT (rdInt s2).2).2).2).2).1] := by rw [← hx]; rfl
      have hin : x.1.In := ⟨by rw [z8]; unfold I64; omega, z3, z4, z5, z6, z7⟩
      rw [← hxe, ← hxc] at cx
      have cx1 : Ctx W w (.blk kb (x.1.cells rp rc) 46 :: .buf p acc.length c ds 46 7 :: (rd b x.2 :: (S ++ G)) ++ G2) (fun M w => (Φ M w ∧ Sl M w rp r) ∧ Elems M w ds acc) := (cx.perm ((List.Perm.swap _ _ _).cons _)).weak fun M w h => ⟨⟨h.1.1, h.2⟩, h.1.2⟩
      obtain ⟨p', c', w', hrun, cx'⟩ := pushK (PS := fun M w => Φ M w ∧ Sl M w rp r) (fun M w h => rep_line (by rw [hxr]; exact g1) g2 hin (by rw [hxr]; exact h.2)) (by omega) cx1
      refine ⟨p', _, c', w', hrun, _, _, inferInstance, cx'.weak fun M w h => (⟨h.1.1, h.2⟩ : Φ M w ∧ Elems M w _ (acc ++ [x.1])), _, _, (n0 - ((acc.length + 1 : Nat) : Int)).toNat, inferInstance, fun w G cx => cx, ⟨x.2, acc ++ [x.1], _, rfl, rfl, rfl, by rw [List.length_append, List.length_singleton], by rw [List.length_append, List.length_singleton]; omega, fun y hy => ?_, by rw [List.length_append, List.length_singleton]; omega, by rw [List.length_append, List.length_singleton]; exact hlr⟩, by omega⟩
      rcases List.mem_append.1 hy with hy | hy
      · exact har y hy
      · rw [List.mem_singleton.1 hy]; omega
  · have hge := of_decide_eq_false hge
    rw [show (n0 - (acc.length : Int)).toNat = 0 by omega, linesK_z] at hlr
    have hpt : 0 < acc.length → ∃ g, p = some ⟨g, 0, none⟩ := fun h0 => l_ptr (S := (rd b sl :: (S ++ G)) ++ G2) cx (by rw [elems_len7 cx.phi.2]; omega)
    exact ⟨p, _, c, true, rfl, bufL p acc.length c ds :: rd b sl :: S, _, hst1, Ctx.left (S := bufL p acc.length c ds :: rd b sl :: (S ++ G)) cx, h1 acc sl p c ds (by rw [hall, hlr]) hal har hpt hst1⟩
end
end Go.Proofs.YtjlfpkgjcffilaaGreatDoor
end

/-
  A sink: Copy and Read, walked.
-/
section
set_option linter.unusedVariables false
set_option linter.unusedSimpArgs false
namespace Go.Proofs.YtjlfpkgjcffilaaGreatDoor
open Go.Vc


theorem Ctx.mid {W w : World} {A B G : List Own} {x : Own} {Φ : PW} [Stable Φ] (c : Ctx W w ((x :: (A ++ B)) ++ G) Φ) : Ctx W w ((A ++ (x :: B)) ++ G) Φ := c.perm (by simpa using (List.perm_middle (l₁ := A) (a := x) (l₂ := B ++ G)).symm)
theorem Ctx.front {W w : World} {A B G : List Own} {x : Own} {Φ : PW} [Stable Φ] (c : Ctx W w ((A ++ (x :: B)) ++ G) Φ) : Ctx W w ((x :: (A ++ B)) ++ G) Φ := c.perm (by simp)
theorem perm_rev3 {A T : List Own} {a b c : Own} : (A ++ (a :: b :: c :: T)).Perm (c :: b :: a :: (A ++ T)) := by
  have h : (A ++ ([a, b, c] ++ T)).Perm ([a, b, c] ++ (A ++ T)) := by
    rw [← List.append_assoc, ← List.append_assoc]
    exact List.Perm.append_right _ List.perm_append_comm
  exact h.trans ((List.reverse_perm [c, b, a]).append_right (A ++ T))
theorem Ctx.swapU {W w : World} {A B R G : List Own} {Φ : PW} [Stable Φ] (c : Ctx W w ((A ++ (B ++ R)) ++ G) Φ) : Ctx W w ((B ++ (A ++ R)) ++ G) Φ := c.perm (by
  rw [← List.append_assoc, ← List.append_assoc B A]
  exact List.Perm.append_right _ (List.Perm.append_right _ List.perm_append_comm))

/-! ### slices -/
theorem subPtr_z (p : Option Addr) (s m : Nat) : subPtr p s 0 m = p := by
  unfold subPtr
  split
  · rfl
  · cases p with
    | none => rfl
    | some a => simp [Addr.add]
theorem sl_take {M : List Nat} {w : World} {p : Option Addr} {l : List LineD} (h : Sl M w p l) (j : Nat) : Sl M w p (l.take j) := fun i hi => by
  rw [List.length_take] at hi
  rw [List.getElem_take]
  exact h i (by omega)
theorem there_sub {p : Option Addr} {l : List LineD} {j c : Nat} (h : There p l.length) : There (subPtr p 7 j c) (l.drop j).length := fun h0 => by
  rw [List.length_drop] at h0
  obtain ⟨b, o, rfl⟩ := h (by omega)
  unfold subPtr
  split
  · exact ⟨b, o, rfl⟩
  · exact ⟨b, o + j * 7, by simp [Addr.add]⟩
theorem sl_batch {M : List Nat} {w : World} {b o : Nat} {l : List LineD} (h : Sl M w (some ⟨b, o, none⟩) l) {i : Nat} (hi : i < l.length) : w.cell? ⟨b, o + i * 7 + 1, none⟩ = some (.int .i64 l[i].batch) := by
  obtain ⟨b', o', cs, e, _, h3, h4⟩ := h i hi
  cases e
  obtain ⟨p', c', e', _, _, _, _⟩ := line_cells h4
  rw [e'] at h3
  have := h3 1 (by show 1 < 7; decide)
  exact this
theorem head_take {b : Int} : ∀ {l : List LineD} {j : Nat}, j ≤ l.length → (∀ x ∈ l.take j, x.batch = b) → (∀ h : j < l.length, l[j].batch ≠ b) → headK b l = l.take j ∧ restK b l = l.drop j
  | [], j, h, _, _ => by simp [headK, restK]
  | x :: l, 0, _, _, h => by
    have h : x.batch ≠ b := h (by simp)
    unfold headK restK
    rw [List.takeWhile_cons_of_neg (by simpa using h), List.dropWhile_cons_of_neg (by simpa using h)]
    exact ⟨rfl, rfl⟩
  | x :: l, j + 1, h1, h2, h3 => by
    have hx : x.batch = b := h2 x (by simp)
    obtain ⟨g1, g2⟩ := head_take (b := b) (l := l) (j := j) (by simpa using h1) (fun y hy => h2 y (by simp [hy])) (fun h => by have := h3 (by simpa using h); simpa using this)
    unfold headK restK at *
    rw [List.takeWhile_cons_of_pos (by simpa using hx), List.dropWhile_cons_of_pos (by simpa using hx), g1, g2]
    exact ⟨rfl, rfl⟩
theorem shift_len (m : Int) (l : List LineD) : (shiftL m l).length = l.length := by simp [shiftL]
theorem shift_at {m : Int} {a : List LineD} {i : Nat} (hi : i < a.length) : (shiftL m (a.take i) ++ a.drop i)[i]? = some a[i] := by
  have hl : (shiftL m (a.take i)).length = i := by rw [shift_len, List.length_take]; omega
  rw [List.getElem?_append_right (by omega), hl, Nat.sub_self, List.getElem?_drop, Nat.add_zero, List.getElem?_eq_getElem hi]
theorem shift_step {m : Int} {a : List LineD} {i : Nat} (hi : i < a.length) : (shiftL m (a.take i) ++ a.drop i).set i { a[i] with no := a[i].no + m } = shiftL m (a.take (i + 1)) ++ a.drop (i + 1) := by
  have hl : (shiftL m (a.take i)).length = i := by rw [shift_len, List.length_take]; omega
  rw [List.set_append_right _ _ (by omega), hl, Nat.sub_self, List.drop_eq_getElem_cons hi, List.set_cons_zero, List.take_succ_eq_append_getElem hi]
  unfold shiftL
  rw [List.map_append, List.append_assoc]
  rfl
theorem num_at : ∀ {n : Int} {l : List LineD} {i : Nat} (h : i < l.length), numK n l = true → l[i].no = n + i
  | n, x :: l, 0, _, h => by
    have h : (decide (x.no = n) && numK (n + 1) l) = true := h
    rw [Bool.and_eq_true] at h
    have := of_decide_eq_true h.1
    show x.no = n + ((0 : Nat) : Int)
    omega
  | n, x :: l, i + 1, hi, h => by
    have h : (decide (x.no = n) && numK (n + 1) l) = true := h
    rw [Bool.and_eq_true] at h
    have := num_at (i := i) (by simpa using hi) h.2
    rw [List.getElem_cons_succ]
    omega

section
variable {Φ : PW} {q : KP} {st : SkD} {W w : World} {R S G : List Own} {p : Option Addr} {cap : Nat} {L : List LineD} {cs : List Value}

theorem CloneZ_new [Stable Φ] {l : List Int} (src : SrcZ S Φ p l) (hlen : l.length ≤ 10000000) (c : Ctx W w S Φ) :
    Calls Tryz.prog F.slices_Clone_int_int #[.slice p l.length cap] w fun e w' => ∃ p' c', e = .returned (.slice p' l.length c') ∧ Ctx W w' (bufZ p' c' l :: S) Φ := by
  refine (Bslices_Clone_int_int_run p l.length cap (J := fun v w' => ∃ p' c', v = .slice p' l.length c' ∧ Ctx W w' (bufZ p' c' l :: S) Φ) c ?_).mono fun e w' ⟨v, he, p', c', hv, rest⟩ => ⟨p', c', by rw [he, hv], rest⟩
  clear c
  refine Br.intro (fun hn => fun w F c => ?_) (fun hn => fun k w F c => ?_)
  · have hl : l = [] := by
      rcases Nat.eq_zero_or_pos l.length with h0 | h0
      · exact List.eq_nil_of_length_eq_zero h0
      · obtain ⟨b, o, e⟩ := src.ptr h0
        rw [e] at hn; cases hn
    subst hl
    exact ⟨none, 0, rfl, c.left.buf0 3 1⟩
  · have c' : Ctx W w (bufZ (some ⟨k, 0, none⟩) 0 [] :: (S ++ F)) Φ := c.toBuf 0 0 1 rfl (by simp) (by simp [maxLen])
    obtain ⟨i, z, e1, e2, e3, e4, e5, e6⟩ := appB_out (P := Tryz.prog) (ts := 50) (t := 3) (size := 1) (bytes := 8) (by kernel_rfl)
    rcases Nat.eq_zero_or_pos l.length with h0 | h0
    · have hl : l = [] := List.eq_nil_of_length_eq_zero h0
      subst hl
      exact ⟨_, _, _, w, run_app (c'.append0 0 rfl e1 e2 p cap), bufZ (some ⟨k, 0, none⟩) 0 [] :: S, Φ, inferInstance, c', fun w G c => ⟨some ⟨k, 0, none⟩, 0, rfl, c.left⟩⟩
    · obtain ⟨b, o, hp⟩ := src.ptr h0
      obtain ⟨p', cap', w', hrun, cx⟩ := c'.append 0 rfl (ty := 50) e1 e2 e3 e4 e5 (a := ⟨b, o, none⟩) (m := l.length) (c2 := cap) (news := l.map intv) h0 (by simp) (fun j u hj => by
        rw [addr_add]
        rw [List.getElem?_map] at hj
        obtain ⟨y, hy, rfl⟩ := Option.map_eq_some_iff.1 hj
        obtain ⟨hjl, rfl⟩ := List.getElem?_eq_some_iff.1 hy
        exact src.rd hp c'.drop1 j hjl) (fun u hu => by obtain ⟨y, _, rfl⟩ := List.mem_map.1 hu; rfl) (by rw [e6, List.length_nil]; omega) (by rw [List.length_nil]; omega)
      rw [← hp] at hrun
      have hz : ([] : List Int).length + l.length = l.length := Nat.zero_add _
      rw [hz] at hrun cx
      exact ⟨_, _, _, w', run_app hrun, bufZ p' cap' l :: S, Φ, inferInstance, cx, fun w G c => ⟨p', cap', rfl, c.left⟩⟩
theorem CloneL_sl [Stable Φ] {l : List LineD} [hΦ : Has Φ (fun M w => Sl M w p l)] (hlen : l.length ≤ 1000000) : GivesSl Φ Tryz.prog F.slices_Clone_api_Line_api_Line #[.slice p l.length cap] l id :=
  .there (fun M w h => (hΦ.go M w h).there) fun hth => ⟨fun W w S c => by
    obtain ⟨cs, c1⟩ := srcOf c (hΦ.go _ _ c.phi)
    refine (CloneL_new (S := S) (Φ := fun M w => Φ M w ∧ SrcF p l cs M w) (src_fact (Φ := fun M w => Φ M w ∧ SrcF p l cs M w) hth (fun M w h => h.2)).app hlen c1).mono fun e w' ⟨p', c', cs', he, cx⟩ => ?_
    obtain ⟨c2, hs, _, h2, h3⟩ := Ctx.freeze (α := LineD) cx cx.phi.2
    exact ⟨p', c', he, h2, h3, (c2.add hs).weak fun M w h => ⟨h.1.1.1, h.2⟩⟩⟩

set_option maxHeartbeats 2000000 in
theorem Copy_to [Stable Φ] [hF : Has Φ (SkF q st)] (hq : SkQ q st) {n : Nat} (hs : SkS st n) (hn : n ≤ 400000) (c : Ctx W w ((SkO q st ++ R) ++ G) Φ) {K : Option Addr → List Own → PW → Prop}
    (hk : ∀ q' : KP, SkQ q' st → Stable (fun M w => Φ M w ∧ SkF q' st M w) → K (some ⟨q'.sb, 0, none⟩) (SkO q' st ++ (SkO q st ++ R)) (fun M w => Φ M w ∧ SkF q' st M w)) :
    Calls Tryz.prog F.sink_Sink_Copy #[snk q] w fun e w' => ∃ p, e = .returned (.pointer p) ∧ ∃ R' Φ', Stable Φ' ∧ Ctx W w' (R' ++ G) Φ' ∧ K p R' Φ' := by
  have h1 := hs.lines
  have h2 := hs.aside
  have h3 := hs.bats
  have h4 := hs.key
  have hK : Has Φ (fun M w => Sl M w q.kp st.key) := ⟨fun M w h => (hF.go M w h).2.1⟩
  refine (Bsink_Sink_Copy_run q.sb 0 (R := (SkO q st ++ R) ++ G) (J := fun v w' => ∃ p, v = .pointer p ∧ ∃ R' Φ', Stable Φ' ∧ Ctx W w' (R' ++ G) Φ' ∧ K p R' Φ') c ?_).mono fun e w' ⟨v, he, p, hv, rest⟩ => ⟨p, by rw [he, hv], rest⟩
  clear c
  refine fun w G2 cx => ⟨st.kind, q.kp, st.key.length, q.kc, q.bp, st.bats.length, q.bc, q.lp, st.lines.length, q.lc, st.prep, q.ap, st.aside.length, q.ac, cx.row0 0 rfl, fun k w G2 cx => ⟨cx.can 0 rfl (by show 0 + 6 ≤ 6; decide), fun w2 hw2 => ?_⟩⟩
  have c2 : Ctx W w2 (.blk k (SkB q st) 69 :: (SkO q st ++ (R ++ G)) ++ G2) Φ := Ctx.re (cx.puts 0 hw2 rfl) (by show Own.blk k (SkB q st) 69 :: (((SkO q st ++ R) ++ G) ++ G2) = _; simp)
  refine ⟨.blk k (SkB q st) 69 :: (SkO q st ++ (R ++ G)), Φ, inferInstance, c2, .blk k (SkB q st) 69 :: (SkO q st ++ (R ++ G)), Φ, inferInstance, fun w G cx => cx, q.kp, st.key.length, q.kc, fun w G cx => ⟨_, _, _, cx.get 1 rfl rfl, rfl⟩, q.bp, st.bats.length, q.bc, fun w G cx => ⟨_, _, _, cx.get 1 rfl rfl, rfl⟩, q.lp, st.lines.length, q.lc, fun w G cx => ⟨_, _, _, cx.get 1 rfl rfl, rfl⟩, q.ap, st.aside.length, q.ac, fun w G cx => ⟨_, _, _, cx.get 1 rfl rfl, rfl⟩, ?_⟩
  clear c2 cx
  refine fun w G2 cx => (CloneZ_sl (l := st.key) (by omega)).to cx fun p1 c1 f1 f2 st1 => ⟨fun w G cx => cx.fst, ?_⟩
  clear cx
  refine fun w G2 cx => (CloneZ_new (S := (SkO q st ++ (.blk k (SkB q st) 69 :: (R ++ G))) ++ G2) (srcz_bats hq).app.app (by omega) (Ctx.mid cx)).mono fun e w' ⟨p2, c2, he, cx⟩ => ⟨p2, _, c2, he, bufZ p2 c2 st.bats :: (SkO q st ++ (.blk k (SkB q st) 69 :: (R ++ G))), _, st1, cx, fun w G cx => (Ctx.front cx.drop1).fst, ?_⟩
  clear cx
  refine fun w G2 cx => (CloneL_new (S := (SkO q st ++ (bufZ p2 c2 st.bats :: .blk k (SkB q st) 69 :: (R ++ G))) ++ G2) (src_sk hq fun M w h => (hF.go M w h.1).1).app.app (by omega) (Ctx.mid cx)).mono fun e w' ⟨p3, c3, cs3, he, cx⟩ => ⟨p3, _, c3, he, bufL p3 st.lines.length c3 cs3 :: (SkO q st ++ (bufZ p2 c2 st.bats :: .blk k (SkB q st) 69 :: (R ++ G))), (fun M w => (Φ M w ∧ Sl M w p1 st.key) ∧ Elems M w cs3 st.lines), instStableAnd (fun M w => Φ M w ∧ Sl M w p1 st.key) (fun M w => Elems M w cs3 st.lines), cx, fun w G cx => ?_, ?_⟩
  · exact (Ctx.front (Ctx.drop1 (Ctx.front cx.drop1))).weak fun M w h => h.1.1
  clear cx
  have st3 : Stable (fun M w => (Φ M w ∧ Sl M w p1 st.key) ∧ Elems M w cs3 st.lines) := instStableAnd (fun M w => Φ M w ∧ Sl M w p1 st.key) (fun M w => Elems M w cs3 st.lines)
  have hA : Has (fun M w => (Φ M w ∧ Sl M w p1 st.key) ∧ Elems M w cs3 st.lines) (fun M w => Sl M w q.ap st.aside) := ⟨fun M w h => (hF.go M w h.1.1).2.2⟩
  refine fun w G2 cx => (CloneL_sl (l := st.aside) (by omega)).to cx fun p4 c4 e1 e2 st4 => ?_
  clear cx
  intro w G2 cx
  have c5 : Ctx W w (.blk k (SkB q st) 69 :: bufZ p2 c2 st.bats :: bufL p3 st.lines.length c3 cs3 :: (SkO q st ++ (R ++ G)) ++ G2) (fun M w => ((Φ M w ∧ Sl M w p1 st.key) ∧ Elems M w cs3 st.lines) ∧ Sl M w p4 st.aside) := (Ctx.mid cx).perm (List.Perm.append_right G2 perm_rev3)
  clear cx
  refine ⟨c5.can 0 rfl (by show 1 + 1 ≤ 6; decide), fun w2 hw2 => ?_⟩
  have c6 := c5.put 0 hw2 rfl
  refine ⟨.blk k [.int .i64 st.kind, .slice p1 st.key.length c1, .slice q.bp st.bats.length q.bc, .slice q.lp st.lines.length q.lc, .int .i64 st.prep, .slice q.ap st.aside.length q.ac] 69 :: bufZ p2 c2 st.bats :: bufL p3 st.lines.length c3 cs3 :: (SkO q st ++ (R ++ G)), _, st4, c6, fun w G2 cx => ⟨cx.can 0 rfl (by show 2 + 1 ≤ 6; decide), fun w2 hw2 => ?_⟩⟩
  have c7 := cx.put 0 hw2 rfl
  refine ⟨.blk k [.int .i64 st.kind, .slice p1 st.key.length c1, .slice p2 st.bats.length c2, .slice q.lp st.lines.length q.lc, .int .i64 st.prep, .slice q.ap st.aside.length q.ac] 69 :: bufZ p2 c2 st.bats :: bufL p3 st.lines.length c3 cs3 :: (SkO q st ++ (R ++ G)), _, st4, c7, fun w G2 cx => ⟨cx.can 0 rfl (by show 3 + 1 ≤ 6; decide), fun w2 hw2 => ?_⟩⟩
  have c8 := cx.put 0 hw2 rfl
  refine ⟨.blk k [.int .i64 st.kind, .slice p1 st.key.length c1, .slice p2 st.bats.length c2, .slice p3 st.lines.length c3, .int .i64 st.prep, .slice q.ap st.aside.length q.ac] 69 :: bufZ p2 c2 st.bats :: bufL p3 st.lines.length c3 cs3 :: (SkO q st ++ (R ++ G)), _, st4, c8, fun w G2 cx => ⟨cx.can 0 rfl (by show 5 + 1 ≤ 6; decide), fun w2 hw2 => ?_⟩⟩
  have c9 := cx.put 0 hw2 rfl
  obtain ⟨q', hqe⟩ : ∃ q' : KP, q' = ⟨k, p1, c1, p2, c2, p3, c3, cs3, p4, c4⟩ := ⟨_, rfl⟩
  have c10 : Ctx W w2 ((SkO q' st ++ (SkO q st ++ R)) ++ (G ++ G2)) (fun M w => Φ M w ∧ SkF q' st M w) := by
    rw [hqe]
    have c11 := c9.weak (Ψ := fun M w => Φ M w ∧ SkF ⟨k, p1, c1, p2, c2, p3, c3, cs3, p4, c4⟩ st M w) fun M w h => ⟨h.1.1.1, h.1.2, h.1.1.2, h.2⟩
    exact c11.re (by simp)
  have hq' : SkQ q' st := skq_of (S := (SkO q st ++ R) ++ (G ++ G2)) (c10.re (by simp)) (by rw [hqe]; exact ⟨f1, f2⟩) (by rw [hqe]; exact ⟨e1, e2⟩)
  have hkk := hk q' hq' inferInstance
  rw [show q'.sb = k by rw [hqe]] at hkk
  exact ⟨SkO q' st ++ (SkO q st ++ (R ++ G)), _, inferInstance, c10.re (by simp), fun w G3 cx => ⟨_, rfl, SkO q' st ++ (SkO q st ++ R), _, inferInstance, cx.left.re (by simp), hkk⟩⟩

theorem sk_cellI [Stable Φ] {w' : World} {g n : Nat} {l : List LineD} (cx : Ctx W w (bufL (some ⟨g, 0, none⟩) n cap cs :: S) (fun M w => Φ M w ∧ Elems M w cs l)) {i : Nat} (x : LineD) {y : LineD} (hy : l[i]? = some y) {k : Nat} {v : Value}
    (hk : k < 7) (hr : x.row = y.row) (hx : ∀ p c, (y.cells p c).set k v = x.cells p c) (hin : y.In → x.In) (e : w' = w.setCell ⟨g, i * 7 + k, none⟩ v) :
    ∃ cs', Ctx W w' (bufL (some ⟨g, 0, none⟩) n cap cs' :: S) (fun M w => Φ M w ∧ Elems M w cs' (l.set i x)) := by
  obtain ⟨hi, rfl⟩ := List.getElem?_eq_some_iff.1 hy
  obtain ⟨cs', _, h⟩ := l_cell cx hi x hk hr hx hin e
  exact ⟨cs', h⟩

/-- what is known of a sink while it is read -/
structure RdK (kind : Int) (key : List Int) (i n m : Nat) (st : SkD) : Prop where
  kind : st.kind = kind
  key : st.key = key
  prep : st.prep = 0
  aside : st.aside = []
  bats : st.bats.length = i
  lines : st.lines.length + n = m

set_option maxHeartbeats 8000000 in
theorem Read_to [Stable Φ] (hΦ : ∀ M w, Φ M w → NumI M w) (l : List UInt8) (hl : l.length ≤ 2500000) (c : Ctx W w (R ++ G) Φ) {K : Option Addr → Bool → List Own → PW → Prop}
    (h0 : readSk l = none → K none false R Φ)
    (h1 : ∀ q st, readSk l = some st → SkQ q st → SkI st → SkS st 400000 → Stable (fun M w => Φ M w ∧ SkF q st M w) → K (some ⟨q.sb, 0, none⟩) true (SkO q st ++ R) (fun M w => Φ M w ∧ SkF q st M w)) :
    Calls Tryz.prog F.sink_Read #[.string (bs l)] w fun e w' => ∃ p ok, e = .returned (.tuple #[.pointer p, .bool ok]) ∧ ∃ R' Φ', Stable Φ' ∧ Ctx W w' (R' ++ G) Φ' ∧ K p ok R' Φ' := by
  refine (Bsink_Read_run (bs l) (R := R ++ G) (J := fun v w' => ∃ p ok, v = .tuple #[.pointer p, .bool ok] ∧ ∃ R' Φ', Stable Φ' ∧ Ctx W w' (R' ++ G) Φ' ∧ K p ok R' Φ') c ?_).mono fun e w' ⟨v, he, p, ok, hv, rest⟩ => ⟨p, ok, by rw [he, hv], rest⟩
  clear c
  have bad : readSk l = none → ∀ {w : World} {G2 : List Own}, Ctx W w ((R ++ G) ++ G2) Φ → ∃ p ok, Value.tuple #[.pointer none, .bool false] = .tuple #[.pointer p, .bool ok] ∧ ∃ R' Φ', Stable Φ' ∧ Ctx W w (R' ++ G) Φ' ∧ K p ok R' Φ' := fun h {w G2} cx => ⟨none, false, rfl, R, Φ, inferInstance, cx.left, h0 h⟩
  obtain ⟨T, hT⟩ : ∃ T, T = R ++ G := ⟨_, rfl⟩
  rw [← hT] at bad ⊢
  have hall : readSk l = if newOk (rdInt (l, false)).1 (numsK (rdInt (l, false)).2).1 = false then none else
    (readLinesK (numsK (numsK (rdInt (l, false)).2).2).2).bind fun d => (readLinesK (rdInt d.2).2).bind fun f => if rdDone f.2 = false then none else
      (batsK (numsK (numsK (rdInt (l, false)).2).2).1 d.1 (newK (rdInt (l, false)).1 (numsK (rdInt (l, false)).2).1)).bind fun g => finK l g.1 (rdInt d.2).1 (shiftL (g.1.lines.length : Int) f.1) := rfl
  obtain ⟨⟨kind, s1⟩, e1⟩ : ∃ x, rdInt (l, false) = x := ⟨_, rfl⟩
  have b1 : s1.1.length ≤ l.length := by have := rdInt_len (l, false); rw [e1] at this; exact this
  have hkind : I64 kind := by have := rdInt_i64 (l, false); rw [e1] at this; exact this
  rw [e1] at hall
  simp only at hall
  obtain ⟨⟨key, s2⟩, e2⟩ : ∃ x, numsK s1 = x := ⟨_, rfl⟩
  obtain ⟨b2, b2k⟩ := numsK_len e2
  rw [e2] at hall
  simp only at hall
  obtain ⟨⟨bats, s3⟩, e3⟩ : ∃ x, numsK s2 = x := ⟨_, rfl⟩
  obtain ⟨b3, b3k⟩ := numsK_len e3
  rw [e3] at hall
  simp only at hall
  refine fun w G2 cx => Open_use l cx fun b w cx => ⟨_, rfl, rd b (l, false) :: T, Φ, inferInstance, cx, ?_⟩
  clear cx
  refine fun w G2 cx => RInt_toE (S := T) hΦ (by show l.length ≤ _; omega) e1 cx ?_
  clear cx
  refine fun w G2 cx => Nums_to (S := T) hΦ (by omega) e2 cx fun kp kc g1 g2 st1 => ?_
  clear cx
  refine fun w G2 cx => New_to (R := rd b s2 :: T) (Φ := fun M w => Φ M w ∧ Sl M w kp key) (hΦ := ⟨fun M w h => h.2⟩) (kind := kind) (key := key) (by omega) cx (fun hno => ?_) (fun q0 hok hq0 st2 => ?_)
  · clear cx
    refine Br.intro (fun _ => fun w G2 cx => bad (by rw [hall, if_pos hno]) (G2 := G2) cx.drop1.fst) (fun h => by cases h)
  clear cx
  rw [if_neg (by rw [hok]; simp)] at hall
  obtain ⟨sb0, hsb0⟩ : ∃ x, q0.sb = x := ⟨_, rfl⟩
  rw [hsb0]
  refine Br.intro (fun h => by cases h) (fun _ => ?_)
  have hΦ2 : ∀ M w, ((Φ M w ∧ Sl M w kp key) ∧ SkF q0 (newK kind key) M w) → NumI M w := fun M w h => hΦ M w h.1.1
  refine fun w G2 cx => Nums_to (S := SkO q0 (newK kind key) ++ T) hΦ2 (by omega) e3 (Ctx.front cx) fun bp bc g3 g4 st3 => ?_
  clear cx
  obtain ⟨Φ3, hΦ3e⟩ : ∃ Ψ : PW, Ψ = fun M w => ((Φ M w ∧ Sl M w kp key) ∧ SkF q0 (newK kind key) M w) ∧ Sl M w bp bats := ⟨_, rfl⟩
  rw [← hΦ3e] at st3 ⊢
  have un3 : ∀ M w, Φ3 M w → (Φ M w ∧ SkF q0 (newK kind key) M w) ∧ Sl M w bp bats := fun M w h => by rw [hΦ3e] at h; exact ⟨⟨h.1.1.1, h.1.2⟩, h.2⟩
  have hΦ3 : ∀ M w, Φ3 M w → NumI M w := fun M w h => hΦ M w (un3 M w h).1.1
  intro w G2 cx
  have hthb : There bp bats.length := (un3 _ _ cx.phi).2.there
  refine readLines_to (S := SkO q0 (newK kind key) ++ T) hΦ3 (by omega) cx (fun hno s4 b4 => ?_) (fun l1 s4 lp lc lcs hl1 b4 hr1 hpt1 st4 => ?_)
  · clear cx
    obtain ⟨⟨pr, s5⟩, e5⟩ : ∃ x, rdInt s4 = x := ⟨_, rfl⟩
    have b5 : s5.1.length ≤ s4.1.length := by have := rdInt_len s4; rw [e5] at this; exact this
    have hnone : readSk l = none := by rw [hall, hno]; rfl
    refine fun w G2 cx => RInt_toE (S := SkO q0 (newK kind key) ++ T) hΦ3 (by omega) e5 cx ?_
    clear cx
    refine fun w G2 cx => readLines_to (S := SkO q0 (newK kind key) ++ T) hΦ3 (by omega) cx (fun _ s6 _ => ?_) (fun _ s6 _ _ _ _ _ _ _ st5 => ?_)
    · refine Br.intro (fun _ => fun w G2 cx => bad hnone (G2 := G2) ?_) (fun h => by cases h)
      exact (Ctx.dropF (Q := SkO q0 (newK kind key)) (T := T) cx.drop1).weak fun M w h => (un3 M w h).1.1
    · refine Br.intro (fun _ => fun w G2 cx => bad hnone (G2 := G2) ?_) (fun h => by cases h)
      exact (Ctx.dropF (Q := SkO q0 (newK kind key)) (T := T) cx.drop1.drop1).weak fun M w h => (un3 M w h.1).1.1
  clear cx
  rw [hl1] at hall
  simp only [Option.bind_some] at hall
  obtain ⟨⟨prep, s5⟩, e5⟩ : ∃ x, rdInt s4 = x := ⟨_, rfl⟩
  have b5 : s5.1.length ≤ s4.1.length := by have := rdInt_len s4; rw [e5] at this; exact this
  have hprep : I64 prep := by have := rdInt_i64 s4; rw [e5] at this; exact this
  rw [e5] at hall
  simp only at hall
  intro w G2 cx
  obtain ⟨cx1, hsl1, _, gl1, gl2⟩ := Ctx.freeze (α := LineD) cx cx.phi.2
  have hthl : There lp l1.length := hsl1.there
  have cx2 : Ctx W w ((rd b s4 :: (SkO q0 (newK kind key) ++ T)) ++ G2) (fun M w => Φ3 M w ∧ Sl M w lp l1) := (cx1.add hsl1).weak fun M w h => ⟨h.1.1, h.2⟩
  have hΦ4 : ∀ M w, (Φ3 M w ∧ Sl M w lp l1) → NumI M w := fun M w h => hΦ3 M w h.1
  refine RInt_toE (S := SkO q0 (newK kind key) ++ T) hΦ4 (by omega) e5 cx2 ?_
  clear cx2 cx1 hsl1 cx
  refine fun w G2 cx => readLines_to (S := SkO q0 (newK kind key) ++ T) hΦ4 (by omega) cx (fun hno s6 _ => ?_) (fun l2 s6 ap ac acs hl2 b6 hr2 hpt2 st6 => ?_)
  · clear cx
    refine Br.intro (fun h => by cases h) (fun _ => Br.intro (fun _ => fun w G2 cx => bad (by rw [hall, hno]; rfl) (G2 := G2) ?_) (fun h => by cases h))
    exact (Ctx.dropF (Q := SkO q0 (newK kind key)) (T := T) cx.drop1).weak fun M w h => (un3 M w h.1).1.1
  clear cx
  rw [hl2] at hall
  simp only [Option.bind_some] at hall
  have hnum2 : numK 1 l2 = true := num_from _ _ _ _ _ hl2 rfl
  refine Br.intro (fun h => by cases h) (fun _ => Br.intro (fun h => by cases h) (fun _ => fun w G2 cx => Done_to (S := bufL ap l2.length ac acs :: (SkO q0 (newK kind key) ++ T)) cx.swap ?_))
  clear cx
  refine Br.intro (fun hd => fun w G2 cx => bad (by rw [hall, if_pos (by simpa using hd)]) (G2 := G2) ?_) (fun hd => ?_)
  · exact (Ctx.dropF (Q := SkO q0 (newK kind key)) (T := T) cx.drop1.drop1).weak fun M w h => (un3 M w h.1.1).1.1
  rw [if_neg (by simpa using hd)] at hall
  -- the batches
  obtain ⟨T2, hT2⟩ : ∃ T2, T2 = rd b s6 :: bufL ap l2.length ac acs :: T := ⟨_, rfl⟩
  obtain ⟨Φc, hΦc⟩ : ∃ Ψ : PW, Ψ = fun M w => (Φ M w ∧ Sl M w bp bats) ∧ Elems M w acs l2 := ⟨_, rfl⟩
  have stc : Stable Φc := by rw [hΦc]; exact instStableAnd (fun M w => Φ M w ∧ Sl M w bp bats) (fun M w => Elems M w acs l2)
  have unc : ∀ M w, Φc M w → (Φ M w ∧ Sl M w bp bats) ∧ Elems M w acs l2 := fun M w h => by rw [hΦc] at h; exact h
  have badT : readSk l = none → ∀ {w : World} {G2 : List Own} {q : KP} {st : SkD} {Ψ : PW} [Stable Ψ], (∀ M w, Ψ M w → Φc M w) → Ctx W w ((SkO q st ++ T2) ++ G2) Ψ → _ := fun h {w G2 q st Ψ} _ hw cx => bad h (w := w) (G2 := G2) (by
    have c2 := Ctx.dropF (Q := SkO q st) (T := T2) cx
    rw [hT2] at c2
    exact (Ctx.drop1 (Ctx.drop1 c2)).weak fun M w h => (unc M w (hw M w h)).1.1)
  obtain ⟨INV, hI⟩ : ∃ INV : Option Addr → Nat → Nat → Int → List Own → PW → Nat → Prop, ∀ p n c kI R' Φ' m, INV p n c kI R' Φ' m ↔ ∃ (i : Nat) (rem : List LineD) (q : KP) (st : SkD), kI = i ∧ i ≤ bats.length ∧ n = rem.length ∧ n ≤ c ∧ There p rem.length ∧ R' = SkO q st ++ T2 ∧ Φ' = (fun M w => (Φc M w ∧ SkF q st M w) ∧ Sl M w p rem) ∧ m = bats.length - i ∧ q.sb = sb0 ∧ SkQ q st ∧ SkI st ∧ RdK kind key i rem.length l1.length st ∧ batsK bats l1 (newK kind key) = batsK (bats.drop i) rem st := ⟨_, fun _ _ _ _ _ _ _ => Iff.rfl⟩
  refine ⟨INV, ⟨SkO q0 (newK kind key) ++ T2, fun M w => (Φc M w ∧ SkF q0 (newK kind key) M w) ∧ Sl M w lp l1, _, inferInstance, fun w G2 cx => ?_, (hI _ _ _ _ _ _ _).2 ⟨0, l1, q0, newK kind key, rfl, Nat.zero_le _, rfl, gl1, hthl, rfl, rfl, rfl, hsb0, hq0, new_i kind key, ⟨rfl, rfl, rfl, rfl, rfl, Nat.zero_add _⟩, rfl⟩⟩, ?_⟩
  · have c2 : Ctx W w (([rd b s6, bufL ap l2.length ac acs] ++ (SkO q0 (newK kind key) ++ T)) ++ G2) _ := cx
    have c3 := Ctx.swapU c2
    rw [hT2]
    exact c3.weak fun M w h => by
      have h3 := un3 M w h.1.1
      rw [hΦc]
      exact ⟨⟨⟨⟨h3.1.1, h3.2⟩, h.2⟩, h3.1.2⟩, h.1.2⟩
  intro p n c kI R1 Φ1 m _ hinv
  obtain ⟨i, rem, q, st, rfl, hi, rfl, hnc, hthr, rfl, rfl, rfl, hsb, hq, hI1, hk1, hbk⟩ := (hI _ _ _ _ _ _ _).1 hinv
  clear hinv
  have hkl := hk1.lines
  have hkb := hk1.bats
  have hs : SkS st 400000 := ⟨by omega, by omega, by rw [hk1.aside]; exact Nat.zero_le _, by rw [hk1.key]; omega⟩
  have stF : Stable (fun M w => Φc M w ∧ SkF q st M w) := inferInstance
  have st8 : Stable (fun M w => (Φc M w ∧ SkF q st M w) ∧ Sl M w p rem) := inferInstance
  have hF : Has (fun M w => (Φc M w ∧ SkF q st M w) ∧ Sl M w p rem) (SkF q st) := ⟨fun M w h => h.1.2⟩
  refine Br.intro (fun hlt => ?_) (fun hge => ?_)
  · have hlt : i < bats.length := by have := of_decide_eq_true hlt; omega
    obtain ⟨bb, bo, hbp⟩ := hthb (by omega)
    rw [List.drop_eq_getElem_cons hlt] at hbk
    obtain ⟨bt, hbt⟩ : ∃ x, bats[i] = x := ⟨_, rfl⟩
    rw [hbt] at hbk
    refine ⟨by omega, ptrK_intro bb bo hbp fun w G2 cx => ⟨bt, ?_, ?_⟩⟩
    · have := (unc _ _ cx.phi.1.1).1.2
      rw [hbp] at this
      have h2 := sl_int this hlt
      rw [hbt] at h2
      exact h2
    have hbi : I64 bt := by
      rw [← hbt]
      exact slz_i64 (unc _ _ cx.phi.1.1).1.2 _ (List.getElem_mem hlt)
    clear cx
    refine exI_mk (fun nI R' Φ' k => ∃ j : Nat, nI = j ∧ j ≤ rem.length ∧ (∀ x ∈ rem.take j, x.batch = bt) ∧ R' = SkO q st ++ T2 ∧ Φ' = (fun M w => (Φc M w ∧ SkF q st M w) ∧ Sl M w p rem) ∧ k = rem.length - j) ⟨⟨_, _, _, st8, fun w G cx => cx, 0, rfl, Nat.zero_le _, by simp, rfl, rfl, rfl⟩, ?_⟩
    rintro nI R2 Φ2 k2 _ ⟨j, rfl, hj, hjb, rfl, rfl, rfl⟩
    refine fun w G2 cx => ⟨fun h => by have := of_decide_eq_true h; omega, ptrK_of (fun h => hthr (by have := of_decide_eq_true h; omega)) fun b2 o2 hb2 => ⟨(rem[j]?.map LineD.batch).getD 0, fun h => ?_, ?_⟩⟩
    · have hjl : j < rem.length := by have := of_decide_eq_true h; omega
      have h2 := cx.phi.2
      rw [hb2 h] at h2
      have h3 := sl_batch h2 hjl
      rw [List.getElem?_eq_getElem hjl, Int.toNat_natCast]
      exact h3
    clear cx hb2
    refine Br.intro (fun hin => ⟨by unfold I64; omega, _, _, rem.length - (j + 1), st8, fun w G cx => cx, ⟨j + 1, rfl, ?_, ?_, rfl, rfl, rfl⟩, ?_⟩) (fun hout => ?_)
    · rw [Bool.and_eq_true] at hin
      have := of_decide_eq_true hin.1; omega
    · rw [Bool.and_eq_true] at hin
      have hjl : j < rem.length := by have := of_decide_eq_true hin.1; omega
      have h2 := of_decide_eq_true hin.2
      rw [List.getElem?_eq_getElem hjl] at h2
      intro x hx
      rw [List.take_succ_eq_append_getElem hjl] at hx
      rcases List.mem_append.1 hx with hx | hx
      · exact hjb x hx
      · rw [List.mem_singleton.1 hx]; exact h2
    · rw [Bool.and_eq_true] at hin
      have := of_decide_eq_true hin.1; omega
    have hne : ∀ h : j < rem.length, rem[j].batch ≠ bt := fun h e => by
      rcases Bool.and_eq_false_iff.1 hout with h2 | h2
      · have := of_decide_eq_false h2; omega
      · have h2 := of_decide_eq_false h2
        rw [List.getElem?_eq_getElem h] at h2
        exact h2 e
    obtain ⟨hh1, hh2⟩ := head_take hj hjb hne
    have hbs : batsK (bt :: bats.drop (i + 1)) rem st = if lookK st bt (headK bt rem) = 0 then batsK (bats.drop (i + 1)) (restK bt rem) (takeK st bt (headK bt rem)) else none := rfl
    rw [hh1, hh2] at hbs
    rw [hbs] at hbk
    have hjt : j = (rem.take j).length := by rw [List.length_take]; omega
    have hjn : ((j : Int)).toNat = (rem.take j).length := by rw [Int.toNat_natCast]; exact hjt
    have hL : Has (fun M w => (Φc M w ∧ SkF q st M w) ∧ Sl M w p rem) (fun M w => Sl M w (subPtr p 7 0 c) (rem.take j)) := ⟨fun M w h => by rw [subPtr_z]; exact sl_take h.2 j⟩
    refine ⟨by omega, fun w G2 cx => ?_⟩
    rw [hjn, ← hsb]
    refine (Look_to hq hs (by omega) (by rw [← hjt]; omega)).toI (R := T2) cx ?_
    clear cx
    refine Br.intro (fun hz => fun w G2 cx => badT (by rw [hall, hbk, if_neg (of_decide_eq_true hz)]; rfl) (fun M w h => h.1.1) cx) (fun hz => ?_)
    have hz := Decidable.not_not.1 (of_decide_eq_false hz)
    rw [if_pos hz] at hbk
    obtain ⟨gz1, gz2, gz3, _⟩ := look_ok (by rw [hz]; simp)
    refine ⟨by omega, fun w G2 cx => take_use (R := T2) (b := bt) (L := rem.take j) hq hs (by omega) (by rw [← hjt]; omega) cx fun q' hsb' hq' st9 => ?_⟩
    clear cx
    have hdl : (rem.drop j).length = rem.length - j := List.length_drop
    rw [← hjt]
    refine ⟨by omega, by unfold I64; omega, SkO q' (takeK st bt (rem.take j)) ++ T2, (fun M w => (Φc M w ∧ SkF q' (takeK st bt (rem.take j)) M w) ∧ Sl M w (subPtr p 7 j c) (rem.drop j)), _, inferInstance, fun w G2 cx => cx.weak fun M w h => ⟨⟨h.1.1.1, h.2⟩, addr_sub h.1.2 j hnc⟩, (hI _ _ _ _ _ _ _).2 ⟨i + 1, rem.drop j, q', takeK st bt (rem.take j), by omega, hlt, hdl.symm, by omega, there_sub hthr, rfl, rfl, rfl, by rw [hsb', hsb], hq', take_i hI1 gz2 gz1 hbi (fun x hx => (bad_right (gz3 x hx)).2.2.1), ⟨hk1.kind, hk1.key, hk1.prep, hk1.aside, ?_, ?_⟩, hbk⟩, by omega⟩
    · show (st.bats ++ [bt]).length = _
      rw [List.length_append, List.length_singleton]; omega
    · show (st.lines ++ rem.take j).length + _ = _
      rw [List.length_append, ← hjt, hdl]; omega
  · have hge : i = bats.length := by have := of_decide_eq_false hge; omega
    rw [hge, List.drop_length] at hbk
    have hbk : batsK bats l1 (newK kind key) = some (st, rem) := hbk
    rw [hbk] at hall
    simp only [Option.bind_some] at hall
    obtain ⟨A, hA⟩ : ∃ A, shiftL (st.lines.length : Int) l2 = A := ⟨_, rfl⟩
    have hAl : A.length = l2.length := by rw [← hA, shift_len]
    have stP : Stable (fun M w => Φ M w ∧ SkF q st M w) := inferInstance
    -- the numbers of the lines aside
    refine exI_mk (fun nI R' Φ' k => ∃ (x : Nat) (cs : List Value), nI = x ∧ x ≤ l2.length ∧ R' = bufL ap l2.length ac cs :: (SkO q st ++ (rd b s6 :: T)) ∧ Φ' = (fun M w => (Φ M w ∧ SkF q st M w) ∧ Elems M w cs (shiftL (st.lines.length : Int) (l2.take x) ++ l2.drop x)) ∧ k = l2.length - x) ⟨⟨bufL ap l2.length ac acs :: (SkO q st ++ (rd b s6 :: T)), fun M w => (Φ M w ∧ SkF q st M w) ∧ Elems M w acs l2, _, instStableAnd (fun M w => Φ M w ∧ SkF q st M w) (fun M w => Elems M w acs l2), fun w G2 cx => ?_, 0, acs, rfl, Nat.zero_le _, rfl, rfl, rfl⟩, ?_⟩
    · rw [hT2] at cx
      have c2 : Ctx W w (((SkO q st ++ [rd b s6]) ++ (bufL ap l2.length ac acs :: T)) ++ G2) _ := cx.re (by simp)
      have c3 := Ctx.front c2
      have c4 : Ctx W w ((bufL ap l2.length ac acs :: (SkO q st ++ (rd b s6 :: T))) ++ G2) _ := c3.re (by simp)
      exact c4.weak fun M w h => ⟨⟨(unc M w h.1.1).1.1, h.1.2⟩, (unc M w h.1.1).2⟩
    rintro nI R2 Φ2 k2 _ ⟨x, acs2, rfl, hx, rfl, rfl, rfl⟩
    have st10 : Stable (fun M w => (Φ M w ∧ SkF q st M w) ∧ Elems M w acs2 (shiftL (st.lines.length : Int) (l2.take x) ++ l2.drop x)) := instStableAnd (fun M w => Φ M w ∧ SkF q st M w) (fun M w => Elems M w acs2 (shiftL (st.lines.length : Int) (l2.take x) ++ l2.drop x))
    refine Br.intro (fun hlt => ?_) (fun hge2 => ?_)
    · have hlt : x < l2.length := by have := of_decide_eq_true hlt; omega
      obtain ⟨g, hg⟩ := hpt2 (by omega)
      have hy := shift_at (m := (st.lines.length : Int)) hlt
      have hno := num_at hlt hnum2
      have hl2 : (shiftL (st.lines.length : Int) (l2.take x) ++ l2.drop x).length = l2.length := by rw [List.length_append, shift_len, List.length_take, List.length_drop]; omega
      have hyl : x < (shiftL (st.lines.length : Int) (l2.take x) ++ l2.drop x).length := by omega
      have hye : (shiftL (st.lines.length : Int) (l2.take x) ++ l2.drop x)[x] = l2[x] := Option.some.inj (by rw [← List.getElem?_eq_getElem hyl]; exact hy)
      rw [← hsb]
      refine ⟨by omega, ptrK_intro g 0 hg (ptrK_intro q.sb 0 rfl fun w G2 cx => ⟨l2[x].no, ?_, fun w G2 cx => ⟨_, _, _, cx.get 1 rfl rfl, by rw [hno]; unfold I64; omega, by omega, ptrK_intro g 0 hg fun w G2 cx => ⟨?_, fun w2 hw2 => ?_⟩⟩⟩)⟩
      · obtain ⟨rp, rc, he, _⟩ := lrow cx.phi.2 hyl
        rw [hye] at he
        rw [hg] at cx
        have := l_at (S := (SkO q st ++ (rd b s6 :: T)) ++ G2) cx he 0 (by show 0 < 7; decide)
        rw [show 0 + (x : Int).toNat * 7 = x * 7 + 0 by omega]
        exact this
      · have hcl := elems_len7 cx.phi.2
        rw [hg] at cx
        exact l_can (S := (SkO q st ++ (rd b s6 :: T)) ++ G2) cx (by omega)
      · rw [hg] at cx
        obtain ⟨cs3, cx3⟩ := sk_cellI (S := (SkO q st ++ (rd b s6 :: T)) ++ G2) (Φ := fun M w => Φ M w ∧ SkF q st M w) (k := 0) (w' := w2) (v := .int .i64 (l2[x].no + st.lines.length)) cx { l2[x] with no := l2[x].no + st.lines.length } hy (by decide) rfl (fun p c => rfl) (fun h => ⟨by show I64 (l2[x].no + (st.lines.length : Int)); rw [hno]; unfold I64; omega, h.batch, h.time, h.n, h.cause, h.why⟩) (by rw [hw2]; congr 2; omega)
        rw [shift_step hlt, ← hg] at cx3
        exact ⟨bufL ap l2.length ac cs3 :: (SkO q st ++ (rd b s6 :: T)), _, instStableAnd (fun M w => Φ M w ∧ SkF q st M w) (fun M w => Elems M w cs3 (shiftL (st.lines.length : Int) (l2.take (x + 1)) ++ l2.drop (x + 1))), cx3, by unfold I64; omega, _, _, l2.length - (x + 1), instStableAnd (fun M w => Φ M w ∧ SkF q st M w) (fun M w => Elems M w cs3 (shiftL (st.lines.length : Int) (l2.take (x + 1)) ++ l2.drop (x + 1))), fun w G cx => cx, ⟨x + 1, cs3, by omega, hlt, rfl, rfl, rfl⟩, by omega⟩
    · have hge2 : x = l2.length := by have := of_decide_eq_false hge2; omega
      subst hge2
      rw [List.take_length, List.drop_length, List.append_nil] at st10 ⊢
      rw [hA] at hall st10 ⊢
      have badP : readSk l = none → ∀ {w : World} {G2 : List Own} {q : KP} {st : SkD} {Ψ : PW} [Stable Ψ], (∀ M w, Ψ M w → Φ M w) → Ctx W w ((SkO q st ++ (rd b s6 :: T)) ++ G2) Ψ → _ := fun h {w G2 q st Ψ} _ hw cx => bad h (w := w) (G2 := G2) ((Ctx.drop1 (Ctx.dropF (Q := SkO q st) (T := rd b s6 :: T) cx)).weak hw)
      -- the end
      have fin : ∀ {q' : KP} {s' : SkD} {Ψ : PW} {U : List Own}, Stable Ψ → (∀ (w : World) (G2 : List Own), Ctx W w (U ++ G2) Ψ → Ctx W w ((SkO q' s' ++ (rd b s6 :: T)) ++ G2) Ψ) → (∀ M w, Ψ M w → Φ M w ∧ SkF q' s' M w) → q'.sb = sb0 → SkQ q' s' → SkI s' → SkS s' 400000 → I64 s'.kind → I64 s'.prep → readSk l = (if s'.prep = prep ∧ (skB s').data.toList = l then some s' else none) →
          ptrK none (some ⟨sb0, 0, none⟩) fun (a1 b1 : Nat) => ∀ (w : World) (G2 : List Own), Ctx W w (U ++ G2) Ψ → ∃ n : Int, w.cell? ⟨a1, b1 + 4, none⟩ = some (.int .i64 n) ∧
            Br (decide (n ≠ prep)) (∀ (w : World) (G2 : List Own), Ctx W w (U ++ G2) Ψ → ∃ p ok, Value.tuple #[.pointer none, .bool false] = .tuple #[.pointer p, .bool ok] ∧ ∃ R' Φ', Stable Φ' ∧ Ctx W w (R' ++ G) Φ' ∧ K p ok R' Φ')
              (∀ (w : World) (G2 : List Own), Ctx W w (U ++ G2) Ψ → Calls Tryz.prog F.sink_Sink_Bytes #[.pointer (some ⟨sb0, 0, none⟩)] w fun e w' => ∃ s : ByteArray, e = .returned (.string s) ∧ ∃ (R2 : List Own) (Φ2 : PW), Stable Φ2 ∧ Ctx W w' (R2 ++ G2) Φ2 ∧
                Br (decide (s ≠ bs l)) (∀ (w : World) (F1 : List Own), Ctx W w (R2 ++ F1) Φ2 → ∃ p ok, (Value.tuple #[.pointer none, .bool false]) = .tuple #[.pointer p, .bool ok] ∧ ∃ R' Φ', Stable Φ' ∧ Ctx W w (R' ++ G) Φ' ∧ K p ok R' Φ')
                  (∀ (w : World) (F1 : List Own), Ctx W w (R2 ++ F1) Φ2 → ∃ p ok, (Value.tuple #[.pointer (some ⟨sb0, 0, none⟩), .bool true]) = .tuple #[.pointer p, .bool ok] ∧ ∃ R' Φ', Stable Φ' ∧ Ctx W w (R' ++ G) Φ' ∧ K p ok R' Φ')) := by
        intro q' s' Ψ U stΨ toU hw hsb' hq' hI' hs' hk' hp' hr
        have hT' : Has Ψ TabI := ⟨fun M w h => (hΦ M w (hw M w h).1).1⟩
        have hF' : Has Ψ (SkF q' s') := ⟨fun M w h => (hw M w h).2⟩
        rw [← hsb']
        refine ptrK_intro q'.sb 0 rfl fun w G2 cx => ⟨s'.prep, (toU w G2 cx).get 0 rfl rfl, ?_⟩
        have hW : SkW s' := sk_w hI' hk' hp' (hw _ _ cx.phi).2
        clear cx
        refine Br.intro (fun h => fun w G2 cx => badP (by rw [hr, if_neg fun e => of_decide_eq_true h e.1]) (fun M w h => (hw M w h).1) (toU w G2 cx)) (fun h => fun w G2 cx => (Bytes_q hq' hW hs' (by omega)).toS (R := rd b s6 :: T) (toU w G2 cx) ?_)
        clear cx
        have hpr := Decidable.not_not.1 (of_decide_eq_false h)
        refine Br.intro (fun h2 => fun w G2 cx => badP (by rw [hr, if_neg fun e => of_decide_eq_true h2 (by rw [← e.2]; rfl)]) (fun M w h => (hw M w h).1) cx) (fun h2 => fun w G2 cx => ?_)
        have hsome : readSk l = some s' := by
          rw [hr, if_pos ⟨hpr, by rw [Decidable.not_not.1 (of_decide_eq_false h2)]; rfl⟩]
        have stg : Stable (fun M w => Φ M w ∧ SkF q' s' M w) := inferInstance
        refine ⟨_, _, rfl, SkO q' s' ++ R, _, stg, ?_, h1 q' s' hsome hq' hI' hs' stg⟩
        rw [hT] at cx
        have c2 : Ctx W w ((rd b s6 :: (SkO q' s' ++ (R ++ G))) ++ G2) Ψ := Ctx.front cx
        exact ((Ctx.drop1 c2).left.re (by simp)).weak hw
      refine Br.intro (fun hp0 => fun w G2 cx => ?_) (fun hp0 => ?_)
      · have hp0 := of_decide_eq_true hp0
        obtain ⟨cx1, hslA, _, ga1, ga2⟩ := Ctx.freeze (α := LineD) cx cx.phi.2
        have cx2 : Ctx W w ((SkO q st ++ (rd b s6 :: T)) ++ G2) (fun M w => (Φ M w ∧ SkF q st M w) ∧ Sl M w ap A) := (cx1.add hslA).weak fun M w h => ⟨h.1.1, h.2⟩
        clear cx cx1 hslA
        have hFq : Has (fun M w => (Φ M w ∧ SkF q st M w) ∧ Sl M w ap A) (SkF q st) := ⟨fun M w h => h.1.2⟩
        have hLA : Has (fun M w => (Φ M w ∧ SkF q st M w) ∧ Sl M w ap A) (fun M w => Sl M w ap A) := ⟨fun M w h => h.2⟩
        have stA : Stable (fun M w => (Φ M w ∧ SkF q st M w) ∧ Sl M w ap A) := inferInstance
        obtain ⟨m, s', hm⟩ : ∃ m s', prepK st prep A = (m, s') := ⟨_, _, rfl⟩
        have hfin : finK l st prep A = if m = 0 ∧ s'.prep = prep ∧ (skB s').data.toList = l then some s' else none := by unfold finK; rw [if_neg hp0, hm]
        have hi' : SkI s' := by have := prep_i hI1 (b := prep) (L := A); rw [hm] at this; exact this
        have hkp : SkS s' 400000 ∧ I64 s'.kind ∧ I64 s'.prep := by
          rcases prep_cases st prep A with ⟨e, _⟩ | ⟨_, _, _, e⟩
          · rw [hm] at e
            have e : s' = st := e
            rw [e, hk1.kind, hk1.prep]
            exact ⟨hs, hkind, by unfold I64; omega⟩
          · rw [hm] at e
            have e := (Prod.ext_iff.1 e).2
            have e : s' = { st with prep := prep, aside := A } := e
            rw [e]
            exact ⟨⟨hs.bats, hs.lines, by show A.length ≤ _; omega, hs.key⟩, by show I64 st.kind; rw [hk1.kind]; exact hkind, hprep⟩
        rw [hfin] at hall
        rw [← hsb, ← hAl]
        refine Prepare_use (R := rd b s6 :: T) (b := prep) (L := A) hq hI1 hs (by omega) (by omega) cx2 fun q' hsb' hq' st11 => ?_
        clear cx2
        rw [hm] at hq' st11 ⊢
        have hq' : SkQ q' s' := hq'
        have st11 : Stable (fun M w => ((Φ M w ∧ SkF q st M w) ∧ Sl M w ap A) ∧ SkF q' s' M w) := st11
        refine Br.intro (fun h => fun w G2 cx => badP (by rw [hall, if_neg fun e => of_decide_eq_true h e.1]) (fun M w h => h.1.1.1) cx) (fun h => ?_)
        have hm0 : m = 0 := Decidable.not_not.1 (of_decide_eq_false h)
        rw [hsb]
        exact fin st11 (fun w G2 cx => cx) (fun M w h => ⟨h.1.1.1, h.2⟩) (by rw [hsb', hsb]) hq' hi' hkp.1 hkp.2.1 hkp.2.2 (by rw [hall, hm0]; simp only [true_and])
      · have hp0 := Decidable.not_not.1 (of_decide_eq_false hp0)
        have hfin : finK l st prep A = if st.prep = prep ∧ (skB st).data.toList = l then some st else none := by unfold finK; rw [if_pos hp0]; simp only [true_and]
        rw [hfin] at hall
        exact fin st10 (fun w G2 cx => cx.drop1) (fun M w h => h.1) hsb hq hI1 hs (by rw [hk1.kind]; exact hkind) (by rw [hk1.prep]; unfold I64; omega) hall
end
end Go.Proofs.YtjlfpkgjcffilaaGreatDoor
end

/-
  Short rows, and rows that are the same: walked (for seats without the place's functions).
-/
section
set_option linter.unusedVariables false
set_option linter.unusedSimpArgs false
namespace Go.Proofs.YtjlfpkgjcffilaaGreatDoor
open Go.Vc


abbrev ValD.cells (x : ValD) : List Value := [.int .i64 x.kind, .int .i64 x.num, .string x.text]
theorem val_rep {M : List Nat} {w : World} {v : ValD} (h : (I64 v.kind ∧ I64 v.num) ∧ v.text.size ≤ maxLen) : Gv.rep M w v.cells v :=
  ⟨[.int .i64 v.kind], [.int .i64 v.num, .string v.text], rfl, ⟨rfl, h.1.1⟩, [.int .i64 v.num], [.string v.text], rfl, ⟨rfl, h.1.2⟩, rfl, h.2⟩
section
variable {Φ : PW} {p q : Option Addr} {cap cap2 : Nat} {r a b : List ValD} {W w : World} {R G : List Own}

end
end Go.Proofs.YtjlfpkgjcffilaaGreatDoor
end

/-
  The examples of the laws of sinks, walked.
-/
section
set_option linter.unusedVariables false
set_option linter.unusedSimpArgs false
namespace Go.Proofs.YtjlfpkgjcffilaaGreatDoor
open Go.Vc


abbrev vN (no : Int) : List ValD := [⟨0, no, ByteArray.mk #[]⟩]
abbrev lineD (no b : Int) : LineD := ⟨no, b, no, vN no, 1, 0, 0⟩
theorem vN_rep {M : List Nat} {w : World} {no : Int} (h : I64 no) : Gv.rep M w [.int .i64 0, .int .i64 no, .string (ByteArray.mk #[])] (⟨0, no, ByteArray.mk #[]⟩ : ValD) := val_rep (v := ⟨0, no, ByteArray.mk #[]⟩) ⟨⟨by show I64 0; unfold I64; decide, h⟩, by show (ByteArray.mk #[]).size ≤ maxLen; decide⟩
theorem lineD_rep {M : List Nat} {w : World} {no b : Int} {p : Option Addr} {c : Nat} (h : I64 no ∧ I64 b) (hc : 1 ≤ c ∧ c ≤ maxLen) (hs : Sl M w p (vN no)) : Gv.rep M w [.int .i64 no, .int .i64 b, .int .i64 no, .slice p 1 c, .int .i64 1, .int .i64 0, .int .i64 0] (lineD no b) :=
  rep_line (x := lineD no b) hc.1 hc.2 ⟨h.1, h.2, h.1, by show I64 1; unfold I64; omega, by show I64 0; unfold I64; omega, by show I64 0; unfold I64; omega⟩ hs

theorem Ctx.swapQ {W w : World} {A B R G : List Own} {Φ : PW} [Stable Φ] (c : Ctx W w ((A ++ (B ++ R)) ++ G) Φ) : Ctx W w ((B ++ (A ++ R)) ++ G) Φ := c.perm (by
  simp only [List.append_assoc]
  rw [← List.append_assoc, ← List.append_assoc B A]
  exact List.Perm.append_right _ List.perm_append_comm)

section
variable {Φ : PW} {q : KP} {st : SkD} {W w : World} {R S G : List Own} {p : Option Addr} {cap : Nat} {L : List LineD}

theorem line_to [Stable Φ] {no b : Int} (h : I64 no) (c : Ctx W w (R ++ G) Φ) {K : Int → Int → Int → Option Addr → Nat → Nat → Int → Int → Int → List Own → PW → Prop}
    (hk : ∀ k, Stable (fun M w => Φ M w ∧ Sl M w (some ⟨k, 0, none⟩) (vN no)) → K no b no (some ⟨k, 0, none⟩) 1 1 1 0 0 R (fun M w => Φ M w ∧ Sl M w (some ⟨k, 0, none⟩) (vN no))) :
    Calls Tryz.prog F.erratalaw43_line #[.int .i64 no, .int .i64 b] w fun e w' => ∃ n1 n2 n3 p k1 k2 n4 n5 n6, e = .returned (.agg #[.int .i64 n1, .int .i64 n2, .int .i64 n3, .slice p k1 k2, .int .i64 n4, .int .i64 n5, .int .i64 n6]) ∧ ∃ R' Φ', Stable Φ' ∧ Ctx W w' (R' ++ G) Φ' ∧ K n1 n2 n3 p k1 k2 n4 n5 n6 R' Φ' := by
  refine (Berratalaw43_line_run no b (R := R ++ G) (J := fun v w' => ∃ n1 n2 n3 p k1 k2 n4 n5 n6, v = .agg #[.int .i64 n1, .int .i64 n2, .int .i64 n3, .slice p k1 k2, .int .i64 n4, .int .i64 n5, .int .i64 n6] ∧ ∃ R' Φ', Stable Φ' ∧ Ctx W w' (R' ++ G) Φ' ∧ K n1 n2 n3 p k1 k2 n4 n5 n6 R' Φ') c ?_).mono fun e w' ⟨v, he, n1, n2, n3, p, k1, k2, n4, n5, n6, hv, rest⟩ => ⟨n1, n2, n3, p, k1, k2, n4, n5, n6, by rw [he, hv], rest⟩
  clear c
  intro _ k w2 G2 cx
  obtain ⟨c2, h2⟩ := Ctx.freezeBlk (α := ValD) (l := vN no) cx (Elems.one (vN_rep h))
  have c3 := c2.add (Ψ := fun M w => Sl M w (some ⟨k, 0, none⟩) (vN no)) h2
  exact ⟨_, _, _, _, _, _, _, _, _, rfl, R, _, inferInstance, c3.left, hk k inferInstance⟩

theorem Deliver_at [Stable Φ] {b m : Int} {st' : SkD} (he : delivK st b L = (m, st')) [hF : Has Φ (SkF q st)] [hL : Has Φ (fun M w => Sl M w p L)] (hq : SkQ q st) (hI : SkI st) {n : Nat} (hs : SkS st n) (hn : n ≤ 400000) (hlen : L.length ≤ 400000) (c : Ctx W w ((SkO q st ++ R) ++ G) Φ) {K : Int → List Own → PW → Prop}
    (hk : ∀ q' : KP, q'.sb = q.sb → SkQ q' st' → Stable (fun M w => Φ M w ∧ SkF q' st' M w) → K m (SkO q' st' ++ R) (fun M w => Φ M w ∧ SkF q' st' M w)) :
    Calls Tryz.prog F.sink_Sink_Deliver #[snk q, .int .i64 b, .slice p L.length cap] w fun e w' => ∃ n, e = .returned (.int .i64 n) ∧ ∃ R' Φ', Stable Φ' ∧ Ctx W w' (R' ++ G) Φ' ∧ K n R' Φ' :=
  Deliver_use hq hI hs hn hlen c (by rw [he]; exact hk)
end

/-! ### small -/
abbrev sK0 : SkD := newK 2 []
abbrev sLa : List LineD := [lineD 3 5]
abbrev sLb : List LineD := [lineD 1 3, lineD 2 3]
abbrev sKa : SkD := takeK sK0 3 sLb
abbrev sKb : SkD := takeK sKa 5 sLa
theorem s_l1 : lookK sK0 5 sLa = 25 := by decide +kernel
theorem s_l2 : lookK sK0 3 sLb = 0 := by decide +kernel
theorem s_l3 : lookK sKa 5 sLa = 0 := by decide +kernel
theorem s_l4 : lookK sKb 4 [] = 25 := by decide +kernel
theorem s_d1 : delivK sK0 5 sLa = (25, sK0) := by
  unfold delivK
  rw [if_neg (by decide), if_neg (by decide), if_pos (by rw [s_l1]; decide), s_l1]
theorem s_d2 : delivK sK0 3 sLb = (0, sKa) := by
  unfold delivK
  rw [if_neg (by decide), if_neg (by decide), if_neg (by rw [s_l2]; decide)]
theorem s_d3 : delivK sKa 5 sLa = (0, sKb) := by
  unfold delivK
  rw [if_neg (by decide), if_neg (by decide), if_neg (by rw [s_l3]; decide)]
theorem s_d4 : delivK sKb 4 [] = (25, sKb) := by
  unfold delivK
  rw [if_neg (by decide), if_neg (by decide), if_pos (by rw [s_l4]; decide), s_l4]
theorem s_ia : SkI sKa := by
  have := deliv_i (new_i 2 []) (b := 3) (L := sLb) (by unfold I64; decide)
  rw [s_d2] at this
  exact this
theorem s_ib : SkI sKb := by
  have := deliv_i s_ia (b := 5) (L := sLa) (by unfold I64; decide)
  rw [s_d3] at this
  exact this
theorem s_s0 : SkS sK0 10 := ⟨by decide, by decide, by decide, by decide⟩
theorem s_sa : SkS sKa 10 := ⟨by decide, by decide, by decide, by decide⟩
theorem s_sb : SkS sKb 10 := ⟨by decide, by decide, by decide, by decide⟩
theorem nilZ {M : List Nat} {w : World} : Sl M w none ([] : List Int) := fun i hi => absurd hi (by simp)
theorem nilL {M : List Nat} {w : World} : Sl M w none ([] : List LineD) := fun i hi => absurd hi (by simp)

set_option maxHeartbeats 4000000 in
theorem small43_in {Φ : PW} [Stable Φ] : GivesIn Φ Tryz.prog F.erratalaw43_small #[] (.bool true) := by
  refine gives_in (Berratalaw43_small_run) fun W R => ?_
  have hz : ∀ Ψ : PW, Has Ψ (fun M w => Sl M w none ([] : List Int)) := fun Ψ => ⟨fun M w _ => nilZ⟩
  have hzl : ∀ Ψ : PW, Has Ψ (fun M w => Sl M w none ([] : List LineD)) := fun Ψ => ⟨fun M w _ => nilL⟩
  refine fun w G cx => New_to (hΦ := hz _) (key := []) (kind := 2) (by decide) cx (fun h => absurd h (by decide)) fun q1 _ hq1 st1 => ?_
  clear cx
  refine fun w G cx => New_to (hΦ := hz _) (key := []) (kind := 2) (by decide) cx (fun h => absurd h (by decide)) fun q2 _ hq2 st2 => ?_
  clear cx
  refine fun w G cx => Br.intro (fun h => by cases h) (fun _ => ?_)
  refine fun w G cx => line_to (no := 3) (b := 5) (by unfold I64; decide) (Ctx.swapQ cx) fun k1 st3 => ?_
  clear cx
  intro k33 w G cx
  obtain ⟨ca, ha⟩ := Ctx.freezeBlk (α := LineD) (l := sLa) cx (Elems.one (lineD_rep (by unfold I64; decide) (by decide) cx.phi.2))
  have ca := ca.add (Ψ := fun M w => Sl M w (some ⟨k33, 0, none⟩) sLa) ha
  clear cx ha
  refine Deliver_at (q := q1) (st := sK0) (L := sLa) (b := 5) s_d1 hq1 (new_i 2 []) s_s0 (by decide) (by decide) ca fun q3 hsb3 hq3 st4 => ?_
  clear ca
  rw [← hsb3]
  refine fun w G cx => line_to (no := 1) (b := 3) (by unfold I64; decide) cx fun k2 st5 => ?_
  clear cx
  refine fun w G cx => line_to (no := 2) (b := 3) (by unfold I64; decide) cx fun k3 st6 => ?_
  clear cx
  intro k71 w G cx
  obtain ⟨ca, ha⟩ := Ctx.freezeBlk (α := LineD) (l := sLb) cx (Elems.two (cs := [.int .i64 1, .int .i64 3, .int .i64 1, .slice (some ⟨k2, 0, none⟩) 1 1, .int .i64 1, .int .i64 0, .int .i64 0]) (lineD_rep (by unfold I64; decide) (by decide) cx.phi.1.2) (lineD_rep (by unfold I64; decide) (by decide) cx.phi.2))
  have ca := ca.add (Ψ := fun M w => Sl M w (some ⟨k71, 0, none⟩) sLb) ha
  clear cx ha
  refine Deliver_at (q := q3) (st := sK0) (L := sLb) (b := 3) s_d2 hq3 (new_i 2 []) s_s0 (by decide) (by decide) ca fun q4 hsb4 hq4 st7 => ?_
  clear ca
  refine fun w G cx => line_to (no := 1) (b := 3) (by unfold I64; decide) (Ctx.swapQ cx) fun k4 st8 => ?_
  clear cx
  refine fun w G cx => line_to (no := 2) (b := 3) (by unfold I64; decide) cx fun k5 st9 => ?_
  clear cx
  intro k109 w G cx
  obtain ⟨ca, ha⟩ := Ctx.freezeBlk (α := LineD) (l := sLb) cx (Elems.two (cs := [.int .i64 1, .int .i64 3, .int .i64 1, .slice (some ⟨k4, 0, none⟩) 1 1, .int .i64 1, .int .i64 0, .int .i64 0]) (lineD_rep (by unfold I64; decide) (by decide) cx.phi.1.2) (lineD_rep (by unfold I64; decide) (by decide) cx.phi.2))
  have ca := ca.add (Ψ := fun M w => Sl M w (some ⟨k109, 0, none⟩) sLb) ha
  clear cx ha
  refine Deliver_at (q := q2) (st := sK0) (L := sLb) (b := 3) s_d2 hq2 (new_i 2 []) s_s0 (by decide) (by decide) ca fun q5 hsb5 hq5 st10 => ?_
  clear ca
  rw [← hsb5]
  refine fun w G cx => line_to (no := 3) (b := 5) (by unfold I64; decide) cx fun k6 st11 => ?_
  clear cx
  intro k132 w G cx
  obtain ⟨ca, ha⟩ := Ctx.freezeBlk (α := LineD) (l := sLa) cx (Elems.one (lineD_rep (by unfold I64; decide) (by decide) cx.phi.2))
  have ca := ca.add (Ψ := fun M w => Sl M w (some ⟨k132, 0, none⟩) sLa) ha
  clear cx ha
  refine Deliver_at (q := q5) (st := sKa) (L := sLa) (b := 5) s_d3 hq5 s_ia s_sa (by decide) (by decide) ca fun q6 hsb6 hq6 st12 => ?_
  clear ca
  rw [← hsb6]
  refine fun w G cx => Deliver_at (hL := hzl _) (q := q6) (st := sKb) (L := []) (b := 4) s_d4 hq6 s_ib s_sb (by decide) (by decide) cx fun q7 hsb7 hq7 st13 => ?_
  clear cx
  rw [← hsb7]
  refine Br.intro (fun _ => Br.intro (fun _ => Br.intro (fun _ => Br.intro (fun _ => Br.intro (fun _ => ?_) (fun h => absurd rfl (of_decide_eq_false h))) (fun h => absurd rfl (of_decide_eq_false h))) (fun h => absurd rfl (of_decide_eq_false h))) (fun h => absurd rfl (of_decide_eq_false h))) (fun h => absurd rfl (of_decide_eq_false h))
  refine fun w G cx => (Last_q hq7).toI cx ?_
  clear cx
  refine Br.intro (fun _ => ?_) (fun h => absurd (show lastK sKb = 5 by decide) (of_decide_eq_false h))
  refine fun w G cx => LinesN_q.toI cx ?_
  clear cx
  exact fun w G cx => ⟨rfl, Ctx.has (Ctx.right (S := SkO q4 sKa) (Ctx.left (Ctx.right (S := SkO q7 sKb) (cx.re (List.append_assoc _ _ _)))))⟩
end Go.Proofs.YtjlfpkgjcffilaaGreatDoor
end

/-
  SinkHides, walked.
-/
section
set_option linter.unusedVariables false
set_option linter.unusedSimpArgs false
namespace Go.Proofs.YtjlfpkgjcffilaaGreatDoor
open Go.Vc


theorem fewO_out {l : List OpD} {n : Int} (h : fewO l n = true) : (l.length : Int) ≤ n ∧ ∀ x ∈ l, x.l.length ≤ 8 := by
  unfold fewO at h
  rw [Bool.and_eq_true] at h
  exact ⟨of_decide_eq_true h.1, fun x hx => by have := fewR_len (List.all_eq_true.1 h.2 x hx); omega⟩

/-- the state between two calls -/
structure HidI (st : SkD) (i : Nat) (LL : List LineD) : Prop where
  inv : SkI st
  prep : PrepI st
  kind : st.kind = 0
  size : SkS st (8 * i)
  aside : st.aside.length ≤ 8
  last : st.prep ≠ 0 → st.aside = LL
  len : LL.length ≤ 8

section
variable {Φ : PW} {W w : World} {R S G : List Own} {p : Option Addr} {cap : Nat}

end
end Go.Proofs.YtjlfpkgjcffilaaGreatDoor
end

/-
  What a call of a sink brings, in plain Lean; a call of any kind, walked.
-/
section
set_option linter.unusedVariables false
set_option linter.unusedSimpArgs false
namespace Go.Proofs.YtjlfpkgjcffilaaGreatDoor
open Go.Vc


theorem asc_last {l : List Int} (h : l.Pairwise (· < ·)) {b : Int} (hb : b ∈ l) : b ≤ l.getLast?.getD 0 := by
  obtain ⟨i, hi, rfl⟩ := List.getElem_of_mem hb
  rw [List.getLast?_eq_getElem?, List.getElem?_eq_getElem (by omega)]
  show l[i] ≤ l[l.length - 1]
  rcases Nat.lt_or_ge i (l.length - 1) with h' | h'
  · exact Int.le_of_lt (List.pairwise_iff_getElem.1 h i (l.length - 1) hi (by omega) h')
  · have : i = l.length - 1 := by omega
    subst this; exact Int.le_refl _
theorem made_all {kind : Int} {key : List Int} {bats : List Int} {lines : List LineD} (h : MadeK kind key bats lines) : bats.Pairwise (· < ·) ∧ (∀ x ∈ lines, x.batch ∈ bats) ∧ lines.Pairwise (fun x y => x.batch ≤ y.batch) := by
  induction h with
  | nil => exact ⟨.nil, by simp, .nil⟩
  | @take bats lines L b h hz ih =>
    obtain ⟨g1, g2, g3⟩ := ih
    obtain ⟨h1, h2, h3, h4⟩ := look_ok (s := ⟨kind, key, bats, lines, 0, []⟩) (by rw [hz]; simp)
    have h2 : bats.getLast?.getD 0 < b := h2
    have hb : ∀ x ∈ L, x.batch = b := fun x hx => (bad_right (h3 x hx)).1
    refine ⟨List.pairwise_append.2 ⟨g1, List.pairwise_singleton _ _, fun a ha c hc => by rw [List.mem_singleton.1 hc]; have := asc_last g1 ha; omega⟩, fun x hx => ?_, List.pairwise_append.2 ⟨g3, ?_, fun x hx y hy => ?_⟩⟩
    · rcases List.mem_append.1 hx with hx | hx
      · exact List.mem_append_left _ (g2 x hx)
      · rw [hb x hx]; simp
    · exact List.pairwise_iff_getElem.2 fun i j hi hj _ => by rw [hb _ (List.getElem_mem hi), hb _ (List.getElem_mem hj)]; exact Int.le_refl _
    · rw [hb y hy]; have := asc_last g1 (g2 x hx); omega
theorem op_grow {s : SkD} (h : SkR s) (k b : Int) (L : List LineD) : ∃ L', (opK k s b L).2.lines = s.lines ++ L' ∧ lastK s ≤ lastK (opK k s b L).2 ∧ (lastK (opK k s b L).2 = lastK s → L' = []) ∧ (∀ x ∈ L', x.batch = lastK (opK k s b L).2) ∧ L'.length ≤ max L.length s.aside.length := by
  have same : ∀ {t : SkD}, t.lines = s.lines → t.bats = s.bats → ∃ L', t.lines = s.lines ++ L' ∧ lastK s ≤ lastK t ∧ (lastK t = lastK s → L' = []) ∧ (∀ x ∈ L', x.batch = lastK t) ∧ L'.length ≤ max L.length s.aside.length := fun {t} h1 h2 =>
    ⟨[], by rw [h1, List.append_nil], by unfold lastK; rw [h2]; exact Int.le_refl _, fun _ => rfl, by simp, by simp⟩
  have took : ∀ {t : SkD} {c : Int} {M : List LineD}, lookK s c M = 0 → M.length ≤ max L.length s.aside.length → t.lines = s.lines ++ M → t.bats = s.bats ++ [c] → ∃ L', t.lines = s.lines ++ L' ∧ lastK s ≤ lastK t ∧ (lastK t = lastK s → L' = []) ∧ (∀ x ∈ L', x.batch = lastK t) ∧ L'.length ≤ max L.length s.aside.length := fun {t c M} hz hm hl hb => by
    obtain ⟨h1, h2, h3, _⟩ := look_ok (by rw [hz]; simp)
    have e : lastK t = c := by unfold lastK; rw [hb]; simp
    exact ⟨M, hl, by rw [e]; omega, fun h => by rw [e] at h; omega, fun x hx => by rw [e]; exact (bad_right (h3 x hx)).1, hm⟩
  have hP : ∃ L', (prepK s b L).2.lines = s.lines ++ L' ∧ lastK s ≤ lastK (prepK s b L).2 ∧ (lastK (prepK s b L).2 = lastK s → L' = []) ∧ (∀ x ∈ L', x.batch = lastK (prepK s b L).2) ∧ L'.length ≤ max L.length s.aside.length := by
    rcases prep_cases s b L with ⟨e, _⟩ | ⟨_, _, _, e⟩ <;> rw [e] <;> exact same rfl rfl
  unfold opK
  split
  · exact hP
  split
  · exact hP
  split
  · rcases comm_cases s b with ⟨e, _⟩ | ⟨h0, h1, h2, h3, e⟩
    · rw [e]; exact same rfl rfl
    · rw [e]
      have hp := (h.prep (by omega)).2.2
      rw [← h3] at hp
      exact took hp (by omega) rfl rfl
  split
  · rcases abort_cases s b with ⟨e, _⟩ | ⟨_, _, _, e⟩ <;> rw [e] <;> exact same rfl rfl
  split
  · exact same rfl rfl
  split
  · exact same rfl rfl
  · rcases deliv_cases s b L with ⟨e, _⟩ | ⟨_, _, h2, e⟩
    · rw [e]; exact same rfl rfl
    · rw [e]; exact took (Decidable.not_not.1 h2) (by omega) rfl rfl
theorem op_bats (s : SkD) (k b : Int) (L : List LineD) : (opK k s b L).2.bats.length ≤ s.bats.length + 1 := by
  have hP : (prepK s b L).2.bats.length ≤ s.bats.length + 1 := by
    rcases prep_cases s b L with ⟨e, _⟩ | ⟨_, _, _, e⟩ <;> rw [e] <;> exact Nat.le_succ _
  have take : ∀ (M : List LineD), (takeK s b M).bats.length ≤ s.bats.length + 1 := fun M => by show (s.bats ++ [b]).length ≤ _; rw [List.length_append, List.length_singleton]; omega
  unfold opK
  split
  · exact hP
  split
  · exact hP
  split
  · rcases comm_cases s b with ⟨e, _⟩ | ⟨_, _, _, _, e⟩ <;> rw [e]
    · exact Nat.le_succ _
    · exact take s.aside
  split
  · rcases abort_cases s b with ⟨e, _⟩ | ⟨_, _, _, e⟩ <;> rw [e] <;> exact Nat.le_succ _
  split
  · exact Nat.le_succ _
  split
  · exact Nat.le_succ _
  · rcases deliv_cases s b L with ⟨e, _⟩ | ⟨_, _, _, e⟩ <;> rw [e]
    · exact Nat.le_succ _
    · exact take L
theorem op_prepZ {s : SkD} (h : I64 s.prep) (k : Int) {b : Int} (hb : I64 b) (L : List LineD) : I64 (opK k s b L).2.prep := by
  have hP : I64 (prepK s b L).2.prep := by
    rcases prep_cases s b L with ⟨e, _⟩ | ⟨_, _, _, e⟩ <;> rw [e]
    · exact h
    · exact hb
  have z : I64 0 := by unfold I64; decide
  unfold opK
  split
  · exact hP
  split
  · exact hP
  split
  · rcases comm_cases s b with ⟨e, _⟩ | ⟨_, _, _, _, e⟩ <;> rw [e]
    · exact h
    · exact z
  split
  · rcases abort_cases s b with ⟨e, _⟩ | ⟨_, _, _, e⟩ <;> rw [e]
    · exact h
    · exact z
  split
  · exact h
  split
  · exact h
  · rcases deliv_cases s b L with ⟨e, _⟩ | ⟨_, _, _, e⟩ <;> rw [e] <;> exact h

/-- the state of a sink after some calls -/
structure OnceI (kind : Int) (key : List Int) (st : SkD) (i : Nat) : Prop where
  inv : SkI st
  prep : PrepI st
  made : SkR st
  size : SkS st (8 * i + 1)
  aside : st.aside.length ≤ 8
  kind : st.kind = kind
  prepZ : I64 st.prep
  key : st.key = key
  bats : st.bats.length ≤ i
  lines : st.lines.length ≤ 8 * i
theorem once0 {kind : Int} {key : List Int} (h : newOk kind key = true) (hk : key.length ≤ 20) : OnceI kind key (newK kind key) 0 :=
  ⟨new_i kind key, fun h => absurd rfl h, new_r h, ⟨by show 0 ≤ _; omega, by show 0 ≤ _; omega, by show 0 ≤ _; omega, by show key.length ≤ _; omega⟩, by show 0 ≤ 8; omega, rfl, by show I64 0; unfold I64; decide, rfl, Nat.le_refl _, Nat.le_refl _⟩
theorem op_o {kind : Int} {key : List Int} {st : SkD} {i : Nat} (h : OnceI kind key st i) (k : Int) {b : Int} (hb : I64 b) {L : List LineD} (hL : L.length ≤ 8) : OnceI kind key (opK k st b L).2 (i + 1) := by
  obtain ⟨h1, h2⟩ := op_i h.inv h.prep hb k L
  obtain ⟨h3, h4⟩ := op_s h.size h.aside k b hL
  obtain ⟨h5, h6⟩ := op_kind st k b L
  have h7 := op_bats st k b L
  have hln : (opK k st b L).2.lines.length ≤ 8 * (i + 1) := by
    obtain ⟨L', e, _, _, _, hm⟩ := op_grow h.made k b L
    have := h.lines
    have := h.aside
    rw [e, List.length_append]
    omega
  exact ⟨h1, h2, op_r h.made k b L, h3.up (by omega), h4, by rw [h5, h.kind], op_prepZ h.prepZ k hb L, by rw [h6, h.key], by have := h.bats; omega, hln⟩
end Go.Proofs.YtjlfpkgjcffilaaGreatDoor
end

/-
  A call of a sink, of any kind: walked.
-/
section
set_option linter.unusedVariables false
set_option linter.unusedSimpArgs false
namespace Go.Proofs.YtjlfpkgjcffilaaGreatDoor
open Go.Vc


section
variable {Φ : PW} {q : KP} {st : SkD} {W w : World} {R S G : List Own} {p : Option Addr} {cap : Nat} {L : List LineD}

set_option maxHeartbeats 4000000 in
theorem DoAll_use [Stable Φ] {op b : Int} [hF : Has Φ (SkF q st)] [hL : Has Φ (fun M w => Sl M w p L)] [hN : Has Φ NumI] (hq : SkQ q st) (hI : SkI st) (hR : SkR st) (hkd : I64 st.kind) (hpz : I64 st.prep) {n : Nat} (hs : SkS st n) (hn : n ≤ 400000)
    (hsz : 200 + (st.key.length + st.bats.length) * 21 + (st.lines.length + st.aside.length) * 3330 ≤ 2500000) (hlen : L.length ≤ 400000) (c : Ctx W w ((SkO q st ++ R) ++ G) Φ) {K : Option Addr → Int → List Own → PW → Prop}
    (hk : ∀ q' : KP, SkQ q' (opK (andZ op 7) st b L).2 → Stable (fun M w => Φ M w ∧ SkF q' (opK (andZ op 7) st b L).2 M w) → K (some ⟨q'.sb, 0, none⟩) (opK (andZ op 7) st b L).1 (SkO q' (opK (andZ op 7) st b L).2 ++ R) (fun M w => Φ M w ∧ SkF q' (opK (andZ op 7) st b L).2 M w)) :
    Calls Tryz.prog F.erratalaw43_do #[snk q, .agg #[.int .i64 op, .int .i64 b, .slice p L.length cap]] w fun e w' => ∃ a n, e = .returned (.tuple #[.pointer a, .int .i64 n]) ∧ ∃ R' Φ', Stable Φ' ∧ Ctx W w' (R' ++ G) Φ' ∧ K a n R' Φ' := by
  have hW : SkW st := sk_w hI hkd hpz (hF.go _ _ c.phi)
  have hT : Has Φ TabI := ⟨fun M w h => (hN.go M w h).1⟩
  have hread : readSk (skB st).data.toList = some st := read_bytes hR hW (by have := hs.key; omega) (by have := hs.bats; omega) (by have := hs.lines; omega) (by have := hs.aside; omega)
  have hbl : (skB st).data.toList.length ≤ 2500000 := by rw [list_size]; exact Nat.le_trans (skB_size hW hs hn) hsz
  refine (Berratalaw43_do_run q.sb 0 op b p L.length cap (R := (SkO q st ++ R) ++ G) (J := fun v w' => ∃ a n, v = .tuple #[.pointer a, .int .i64 n] ∧ ∃ R' Φ', Stable Φ' ∧ Ctx W w' (R' ++ G) Φ' ∧ K a n R' Φ') c ?_).mono fun e w' ⟨v, he, a, n, hv, rest⟩ => ⟨a, n, by rw [he, hv], rest⟩
  clear c
  refine fun _ => ⟨andZ op 7, fun w => and_run op 7 w, ?_⟩
  obtain ⟨k, hkk⟩ : ∃ k, andZ op 7 = k := ⟨_, rfl⟩
  rw [hkk] at hk ⊢
  have tail : ∀ {m : Int} {st' : SkD} (q' : KP), opK k st b L = (m, st') → SkQ q' st' → ∀ {w : World} {G2 : List Own}, Ctx W w ((SkO q' st' ++ (R ++ G)) ++ G2) (fun M w => Φ M w ∧ SkF q' st' M w) → ∃ a n, Value.tuple #[.pointer (some ⟨q'.sb, 0, none⟩), .int .i64 m] = .tuple #[.pointer a, .int .i64 n] ∧ ∃ R' Φ', Stable Φ' ∧ Ctx W w (R' ++ G) Φ' ∧ K a n R' Φ' := fun {m st'} q' h hq' {w G2} cx => by
    rw [h] at hk
    exact ⟨_, m, rfl, SkO q' st' ++ R, _, inferInstance, (cx.left).re (by simp), hk q' hq' inferInstance⟩
  have cP : opK k st b L = prepK st b L → ∀ {w : World} {G2 : List Own}, Ctx W w (((SkO q st ++ R) ++ G) ++ G2) Φ → _ := fun h {w G2} cx => Prepare_use (R := R ++ G) (G := G2) (b := b) (L := L) (cap := cap) (p := p) hq hI hs hn hlen (cx.re (by simp)) (K := fun m R' Φ' => ∀ (w : World) (G2 : List Own), Ctx W w (R' ++ G2) Φ' → ∃ a n, Value.tuple #[.pointer (some ⟨q.sb, 0, none⟩), .int .i64 m] = .tuple #[.pointer a, .int .i64 n] ∧ ∃ R' Φ', Stable Φ' ∧ Ctx W w (R' ++ G) Φ' ∧ K a n R' Φ') fun q' hsb hq' _ => fun w G2 cx => by rw [← hsb]; exact tail q' h hq' cx
  have cC : opK k st b L = commK st b → ∀ {w : World} {G2 : List Own}, Ctx W w (((SkO q st ++ R) ++ G) ++ G2) Φ → _ := fun h {w G2} cx => Commit_use (R := R ++ G) (G := G2) (b := b) hq hI hs hn (cx.re (by simp)) (K := fun m R' Φ' => ∀ (w : World) (G2 : List Own), Ctx W w (R' ++ G2) Φ' → ∃ a n, Value.tuple #[.pointer (some ⟨q.sb, 0, none⟩), .int .i64 m] = .tuple #[.pointer a, .int .i64 n] ∧ ∃ R' Φ', Stable Φ' ∧ Ctx W w (R' ++ G) Φ' ∧ K a n R' Φ') fun q' hsb hq' _ => fun w G2 cx => by rw [← hsb]; exact tail q' h hq' cx
  have cA : opK k st b L = abortK st b → ∀ {w : World} {G2 : List Own}, Ctx W w (((SkO q st ++ R) ++ G) ++ G2) Φ → _ := fun h {w G2} cx => Abort_use (R := R ++ G) (G := G2) (b := b) hq hI hs hn (cx.re (by simp)) (K := fun m R' Φ' => ∀ (w : World) (G2 : List Own), Ctx W w (R' ++ G2) Φ' → ∃ a n, Value.tuple #[.pointer (some ⟨q.sb, 0, none⟩), .int .i64 m] = .tuple #[.pointer a, .int .i64 n] ∧ ∃ R' Φ', Stable Φ' ∧ Ctx W w (R' ++ G) Φ' ∧ K a n R' Φ') fun q' hsb hq' _ => fun w G2 cx => by rw [← hsb]; exact tail q' h hq' cx
  have cD : opK k st b L = delivK st b L → ∀ {w : World} {G2 : List Own}, Ctx W w (((SkO q st ++ R) ++ G) ++ G2) Φ → _ := fun h {w G2} cx => Deliver_use (R := R ++ G) (G := G2) (b := b) (L := L) (cap := cap) (p := p) hq hI hs hn hlen (cx.re (by simp)) (K := fun m R' Φ' => ∀ (w : World) (G2 : List Own), Ctx W w (R' ++ G2) Φ' → ∃ a n, Value.tuple #[.pointer (some ⟨q.sb, 0, none⟩), .int .i64 m] = .tuple #[.pointer a, .int .i64 n] ∧ ∃ R' Φ', Stable Φ' ∧ Ctx W w (R' ++ G) Φ' ∧ K a n R' Φ') fun q' hsb hq' _ => fun w G2 cx => by rw [← hsb]; exact tail q' h hq' cx
  have cY : opK k st b L = (0, st) → ∀ {w : World} {G2 : List Own}, Ctx W w (((SkO q st ++ R) ++ G) ++ G2) Φ → _ := fun h {w G2} cx => Copy_to (R := R ++ G) (G := G2) hq hs hn (cx.re (by simp)) (K := fun a R' Φ' => ∀ (w : World) (G2 : List Own), Ctx W w (R' ++ G2) Φ' → ∃ a' n, Value.tuple #[.pointer a, .int .i64 0] = .tuple #[.pointer a', .int .i64 n] ∧ ∃ R' Φ', Stable Φ' ∧ Ctx W w (R' ++ G) Φ' ∧ K a' n R' Φ') fun q' hq' _ => fun w G2 cx => tail q' h hq' (G2 := G2) (Ctx.sub cx (List.Sublist.append (List.Sublist.append (List.Sublist.refl _) (List.sublist_append_right _ _)) (List.Sublist.refl _)))
  have cR : opK k st b L = (0, st) → ∀ {w : World} {G2 : List Own}, Ctx W w (((SkO q st ++ R) ++ G) ++ G2) Φ → Calls Tryz.prog F.sink_Sink_Bytes #[snk q] w fun e40 w41 => ∃ (s42 : ByteArray), e40 = .returned (.string s42) ∧ ∃ (R43 : List Own), ∃ (Φ44 : PW), Stable Φ44 ∧ Ctx W w41 (R43 ++ G2) Φ44 ∧ ∀ (w45 : World) (R46 : List Own), Ctx W w45 (R43 ++ R46) Φ44 → Calls Tryz.prog F.sink_Read #[.string s42] w45 fun e47 w48 => ∃ (p49 : Option Addr), ∃ (c50 : Bool), e47 = .returned (.tuple #[.pointer p49, .bool c50]) ∧ ∃ (R51 : List Own), ∃ (Φ52 : PW), Stable Φ52 ∧ Ctx W w48 (R51 ++ R46) Φ52 ∧
      Br (!c50) (∀ (w : World) (G2 : List Own), Ctx W w (R51 ++ G2) Φ52 → ∃ a n, Value.tuple #[.pointer none, .int .i64 0] = .tuple #[.pointer a, .int .i64 n] ∧ ∃ R' Φ', Stable Φ' ∧ Ctx W w (R' ++ G) Φ' ∧ K a n R' Φ') (∀ (w : World) (G2 : List Own), Ctx W w (R51 ++ G2) Φ52 → ∃ a n, Value.tuple #[.pointer p49, .int .i64 0] = .tuple #[.pointer a, .int .i64 n] ∧ ∃ R' Φ', Stable Φ' ∧ Ctx W w (R' ++ G) Φ' ∧ K a n R' Φ') := fun h {w G2} cx => by
    refine (Bytes_q (st := st) (q := q) hq hW hs hn).toS (R := R ++ G) (G := G2) (cx.re (by simp)) ?_
    clear cx
    refine fun w G2 cx => Read_to hN.go (skB st).data.toList hbl cx (fun hn => ?_) (fun q' st' hr hq' _ _ st1 => ?_)
    · rw [hread] at hn; cases hn
    · rw [hread] at hr
      cases hr
      refine Br.intro (fun h => by cases h) (fun _ => fun w G2 cx => tail q' h hq' (G2 := G2) (Ctx.sub cx (List.Sublist.append (List.Sublist.append (List.Sublist.refl _) (List.sublist_append_right _ _)) (List.Sublist.refl _))))
  have e0 : opK k st b L = if k = 0 then prepK st b L else if k = 1 then prepK st b L else if k = 2 then commK st b else if k = 3 then abortK st b else if k = 6 then (0, st) else if k = 7 then (0, st) else delivK st b L := rfl
  have rest : k ≠ 0 → k ≠ 1 → opK k st b L = if k = 2 then commK st b else if k = 3 then abortK st b else if k = 6 then (0, st) else if k = 7 then (0, st) else delivK st b L := fun h h2 => by rw [e0, if_neg h, if_neg h2]
  refine Br.intro (fun h0 => ?_) (fun h0 => ?_)
  · refine Br.intro (fun _ => fun w G2 cx => cP (by rw [e0, if_pos (of_decide_eq_true h0)]) cx) (fun h => ?_)
    rw [h0] at h; cases h
  · refine Br.intro (fun h => fun w G2 cx => cP (by rw [e0, if_neg (of_decide_eq_false h0), if_pos (of_decide_eq_true h)]) cx) (fun h1 => ?_)
    have e1 := rest (of_decide_eq_false h0) (of_decide_eq_false h1)
    refine Br.intro (fun h => fun w G2 cx => cC (by rw [e1, if_pos (of_decide_eq_true h)]) cx) (fun h => ?_)
    rw [if_neg (of_decide_eq_false h)] at e1
    refine Br.intro (fun h => fun w G2 cx => cA (by rw [e1, if_pos (of_decide_eq_true h)]) cx) (fun h => ?_)
    rw [if_neg (of_decide_eq_false h)] at e1
    refine Br.intro (fun h => fun w G2 cx => cY (by rw [e1, if_pos (of_decide_eq_true h)]) cx) (fun h => ?_)
    rw [if_neg (of_decide_eq_false h)] at e1
    refine Br.intro (fun h => fun w G2 cx => cR (by rw [e1, if_pos (of_decide_eq_true h)]) cx) (fun h => ?_)
    rw [if_neg (of_decide_eq_false h)] at e1
    exact fun w G2 cx => cD e1 cx
end
end Go.Proofs.YtjlfpkgjcffilaaGreatDoor
end

