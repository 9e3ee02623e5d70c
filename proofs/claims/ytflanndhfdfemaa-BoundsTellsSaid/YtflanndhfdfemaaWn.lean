/-
  The walk of bounds.Witness.
-/
import Derived.Test.YtflanndhfdfemaaWk
import Derived.Test.YtflanndhfdfemaaVcZ
import Derived.Test.YtflanndhfdfemaaBc
set_option linter.unusedVariables false
set_option linter.unusedSimpArgs false
namespace Go.Proofs.Ytflanndhfdfemaa
open Go.Vc

structure ValD where
  kind : Int
  num : Int
  text : ByteArray
instance : Gv ValD := Gv.via (β := Int × Int × ByteArray) (fun x => (x.kind, x.num, x.text)) (fun y => ⟨y.1, y.2.1, y.2.2⟩) (fun _ => rfl)

structure DeltaD where
  time : Int
  row : List ValD
  n : Int
instance : Gv DeltaD := Gv.via (β := Int × List ValD × Int) (fun x => (x.time, x.row, x.n)) (fun y => ⟨y.1, y.2.1, y.2.2⟩) (fun _ => rfl)

def colB (c : ColD) : Bool := win c.type 0 2
def valOf (c : ColD) : ValD := ⟨c.type, 0, ByteArray.mk #[]⟩
def deltaOf (cols : List ColD) (k : Nat) : DeltaD := ⟨30001 * k, cols.map valOf, 1⟩

def witD (l : List NodeD) (node n : Int) : List DeltaD :=
  if wellB l = true ∧ win node 0 ((l.length : Int) - 1) = true ∧ win n 1 1000 = true then
    match l[node.toNat]? with
    | none => []
    | some x => if boundedD x = true then [] else match x.inp[0]? with
      | none => []
      | some i => match l[i.toNat]? with
        | none => []
        | some y => if y.cols.all colB = true then (List.range n.toNat).map (deltaOf y.cols) else []
  else []

theorem sl_col {M : List Nat} {w : World} {b o : Nat} {l : List ColD} (h : Sl M w (some ⟨b, o, none⟩) l) {i : Nat} (hi : i < l.length) : RowAt w b (o + i * 3) [.string l[i].name, .int .i64 l[i].type, .string l[i].unit] := by
  obtain ⟨b', o', cs, e, _, h3, _, _, rfl, ⟨rfl, _⟩, _, _, rfl, ⟨rfl, _⟩, rfl, _⟩ := h i hi
  cases e
  exact h3

def valC (cols : List ColD) : List Value := (cols.map fun c => [.int .i64 c.type, .int .i64 0, .string (ByteArray.mk #[])]).flatten

theorem valC_snoc (l : List ColD) (c : ColD) : valC l ++ [.int .i64 c.type, .int .i64 0, .string (ByteArray.mk #[])] = valC (l ++ [c]) := by simp [valC]

theorem val_elems {M : List Nat} {w : World} : ∀ {cols : List ColD}, (∀ c ∈ cols, colB c = true) → Elems M w (valC cols) (cols.map valOf)
  | [], _ => Elems.nil
  | c :: r, h => by
    have hc := h c (by simp)
    simp [colB, win] at hc
    exact Elems.append (Elems.one (x := valOf c) (cs := [.int .i64 c.type, .int .i64 0, .string (ByteArray.mk #[])]) ⟨[_], _, rfl, ⟨rfl, by show I64 c.type; unfold I64; omega⟩, [_], _, rfl, ⟨rfl, i0⟩, rfl, str0⟩) (val_elems fun x hx => h x (by simp [hx]))

theorem delta_rep {M : List Nat} {w : World} {p : Option Addr} {cap : Nat} {cols : List ColD} {k : Nat} (hk : k ≤ 100000) (h : Sl M w p (cols.map valOf)) (h1 : cols.length ≤ cap) (h2 : cap ≤ maxLen) :
    Gv.rep M w [.int .i64 (30001 * k), .slice p cols.length cap, .int .i64 1] (deltaOf cols k) := by
  refine ⟨[_], _, rfl, ⟨rfl, by show I64 (30001 * k); unfold I64; omega⟩, [_], _, rfl, ⟨p, cap, ?_, by show (cols.map valOf).length ≤ cap; rw [List.length_map]; exact h1, h2, h⟩, rfl, by show I64 1; unfold I64; omega⟩
  show [Value.slice p cols.length cap] = [Value.slice p (cols.map valOf).length cap]
  rw [List.length_map]

abbrev dC (p : Option Addr) (n cap k : Nat) : List Value := [.int .i64 (30001 * (k : Int)), .slice p n cap, .int .i64 1]

theorem k55 : appB Try.prog 51 55 3 40 = true := by kernel_rfl
theorem k70 : appB Try.prog 53 70 3 32 = true := by kernel_rfl

theorem Zero_g (k : Int) : Gives Try.prog F.value_Zero #[.int .i64 k] (.agg #[.int .i64 k, .int .i64 0, .string (ByteArray.mk #[])]) :=
  gives_of (Bvalue_Zero_run k) fun W R Φ _ => fun _ w F c => ⟨rfl, c.left⟩

set_option maxRecDepth 100000 in
theorem Witness_pin {Φ : PW} [Stable Φ] (p0P : Option Addr) (p0N p0C : Nat) (p : Option Addr) (cap : Nat) (l : List NodeD) (node n : Int) (b o : Nat) (cs : List (List Value)) (hp : 0 < l.length → p = some ⟨b, o, none⟩) (hΦ : ∀ M w, Φ M w → Pin b o cs l M w)
    (hsl : ∀ M w, Φ M w → Sl M w p l) (hlen : l.length ≤ 1000000) (hcols : ∀ x ∈ l, x.cols.length ≤ 1000) :
    GivesSl Φ Try.prog F.bounds_Witness #[.agg #[.slice p0P p0N p0C, .slice p l.length cap], .int .i64 node, .int .i64 n] (witD l node n) fun u => u := by
  refine gives_sl (Bbounds_Witness_run p0P p0N p0C p l.length cap node n) fun W R => ?_
  have nil : witD l node n = [] → ∀ w F, Ctx W w (R ++ F) Φ → ∃ q cap', Value.slice none 0 0 = .slice q (witD l node n).length cap' ∧ (witD l node n).length ≤ cap' ∧ cap' ≤ maxLen ∧ Ctx W w R (fun M w => Φ M w ∧ Sl M w q (witD l node n)) :=
    fun h w F cx => by rw [h]; exact ⟨none, 0, rfl, Nat.le_refl _, Nat.zero_le _, cx.left.add Sl.nil⟩
  refine fun _ w F cx => (Well_in _ _ _ _ _ _ hsl (by omega)).use cx fun w cx => ⟨_, rfl, _, _, inferInstance, cx, Br.intro (fun h => nil ?_) (fun hw => ?_)⟩
  · have h : wellB l = false := by simpa using h
    unfold witD; rw [if_neg (by simp [h])]
  have hw : wellB l = true := by simpa using hw
  refine ⟨by unfold I64; omega, fun w F cx => (within_g _ _ _).in.use cx fun w cx => ⟨_, rfl, _, _, inferInstance, cx, Br.intro (fun h => nil ?_) (fun hn1 => fun w F cx => (within_g _ _ _).in.use cx fun w cx => ⟨_, rfl, _, _, inferInstance, cx, Br.intro (fun h => nil ?_) (fun hn2 => ?_)⟩)⟩⟩
  · have h : win node 0 ((l.length : Int) - 1) = false := by simpa using h
    unfold witD; rw [if_neg (by simp [h])]
  · have h : win n 1 1000 = false := by simpa using h
    unfold witD; rw [if_neg (by simp [h])]
  have hn1 : win node 0 ((l.length : Int) - 1) = true := by simpa using hn1
  have hn2 : win n 1 1000 = true := by simpa using hn2
  have hb1 : 0 ≤ node ∧ node ≤ (l.length : Int) - 1 := by simpa [win] using hn1
  have hb2 : 1 ≤ n ∧ n ≤ 1000 := by simpa [win] using hn2
  have hnl : node.toNat < l.length := by omega
  have hwit : witD l node n = if boundedD l[node.toNat] = true then [] else match l[node.toNat].inp[0]? with
      | none => []
      | some i => match l[i.toNat]? with
        | none => []
        | some y => if y.cols.all colB = true then (List.range n.toNat).map (deltaOf y.cols) else [] := by
    unfold witD; rw [if_pos ⟨hw, hn1, hn2⟩, List.getElem?_eq_getElem hnl]
  have hpb := hp (by omega)
  clear cx
  refine ⟨by omega, ptrK_intro b o hpb fun w F cx => ?_⟩
  obtain ⟨x, hrow, hlike, h1, h15, hsub, _⟩ := node_at hΦ cx node.toNat hnl
  have hth := (hsub _ _ cx.phi).there
  refine ⟨_, _, _, _, _, _, _, _, _, _, _, _, _, _, _, _, _, _, _, _, _, _, _, _, _, _, _, _, _, _, hrow _ _ cx.phi, fun _ w F cx => (Bounded_g x).in.use cx fun w cx => ⟨_, rfl, _, _, inferInstance, cx, Br.intro (fun h => nil ?_) (fun hbd => Br.intro (fun h => nil ?_) (fun hin => ?_))⟩⟩
  · rw [hwit, if_pos (by rw [← hlike.bounded]; exact h)]
  · have h : (x.n1N : Int) = 0 := by simpa using h
    rw [hwit]
    split
    · rfl
    · rw [List.getElem?_eq_none (by omega)]
  have hbd : boundedB x = false := hbd
  have hin : ¬ (x.n1N : Int) = 0 := by simpa using hin
  have hi0 : 0 < l[node.toNat].inp.length := by omega
  have hwf := (wellFrom_iff l 0).1 (by simp [wellB] at hw; exact hw.1) node.toNat hnl
  rw [Nat.zero_add] at hwf
  simp only [nodeOk, Bool.and_eq_true, List.all_eq_true] at hwf
  have hir := hwf.2 l[node.toNat].inp[0] (List.getElem_mem hi0)
  have hir : 0 ≤ l[node.toNat].inp[0] ∧ l[node.toNat].inp[0] ≤ (node.toNat : Int) - 1 := by simpa [win] using hir
  have hil : l[node.toNat].inp[0].toNat < l.length := by omega
  obtain ⟨x2, hrow2, _, _, h152, _, hsub2⟩ := node_at hΦ cx l[node.toNat].inp[0].toNat hil
  have hth2 := (hsub2 _ _ cx.phi).there
  have hcl := hcols _ (List.getElem_mem hil)
  have hwit : witD l node n = if l[l[node.toNat].inp[0].toNat].cols.all colB = true then (List.range n.toNat).map (deltaOf l[l[node.toNat].inp[0].toNat].cols) else [] := by
    rw [hwit, if_neg (by rw [← hlike.bounded, hbd]; simp), List.getElem?_eq_getElem hi0]
    simp only
    rw [List.getElem?_eq_getElem hil]
  rw [h1]
  clear cx
  generalize hcc : l[l[node.toNat].inp[0].toNat].cols = cols at *
  obtain ⟨m, rfl⟩ : ∃ m : Nat, n = m := ⟨n.toNat, by omega⟩
  rw [Int.toNat_natCast] at hwit
  refine exI_mk (fun p78 k79 k80 n81 R' Φ' kk => ∃ k : Nat, n81 = k ∧ k ≤ m ∧ k79 = k ∧ (0 < k → cols.all colB = true) ∧ ∃ oc : List Value, R' = .buf p78 k k80 oc 55 3 :: R ∧ Φ' = (fun M w => Φ M w ∧ Elems M w oc ((List.range k).map (deltaOf cols))) ∧ kk = m - k)
    ⟨⟨.buf none 0 0 [] 55 3 :: R, fun M w => Φ M w ∧ Elems M w [] ((List.range 0).map (deltaOf cols)), _, inferInstance, fun w F c => (c.buf0 55 3).add Elems.nil, 0, rfl, Nat.zero_le _, rfl, fun h => absurd h (Nat.lt_irrefl 0), [], rfl, rfl, rfl⟩, ?_⟩
  rintro p78 k79 k80 n81 R1 Φ1 kk _ ⟨k, rfl, hk, rfl, hall, oc, rfl, rfl, rfl⟩
  refine Br.intro (fun hlt => ?_) (fun hge => ?_)
  · have hlt : k79 < m := by simpa using hlt
    obtain ⟨bi, oi, hbi⟩ := hth (by omega)
    refine ⟨by unfold I64; omega, fun _ w F cx => ⟨by omega, ptrK_intro bi oi hbi ⟨l[node.toNat].inp[0], by have := sl_int (hbi ▸ hsub _ _ cx.phi.1) hi0; rwa [Nat.add_zero] at this, by omega, ptrK_intro b o hpb ⟨_, _, _, hrow2 _ _ cx.phi.1 15 (by simp), ?_⟩⟩⟩⟩
    rw [h152]
    clear cx
    refine exI_mk (fun n101 n102 p103 k104 k105 n106 R' Φ' kk => ∃ i : Nat, n101 = i ∧ i ≤ cols.length ∧ n102 = 30001 * (k79 : Int) ∧ n106 = 1 ∧ k104 = i ∧ (∀ c ∈ cols.take i, colB c = true) ∧ R' = .buf p103 i k105 (valC (cols.take i)) 70 3 :: .buf p78 k79 k80 oc 55 3 :: R ∧
        Φ' = (fun M w => Φ M w ∧ Elems M w oc ((List.range k79).map (deltaOf cols))) ∧ kk = cols.length - i)
      ⟨⟨.buf none 0 0 [] 70 3 :: .buf p78 k79 k80 oc 55 3 :: R, _, _, inferInstance, fun w F c => c.buf0 70 3, 0, rfl, Nat.zero_le _, rfl, rfl, rfl, by simp, rfl, rfl, rfl⟩, ?_⟩
    rintro n101 n102 p103 k104 k105 n106 R2 Φ2 kk _ ⟨i, rfl, hi, rfl, rfl, rfl, hok, rfl, rfl, rfl⟩
    refine Br.intro (fun hi' => ?_) (fun hi' => ?_)
    · have hi' : k104 < cols.length := by simpa using hi'
      obtain ⟨bc, oc2, hbc⟩ := hth2 (by omega)
      refine ⟨by omega, ptrK_intro bc oc2 hbc fun w F cx => ⟨_, _, _, sl_col (hbc ▸ hsub2 _ _ cx.phi.1) hi', fun _ w F cx => (within_g _ _ _).in.use cx fun w cx => ⟨_, rfl, _, _, inferInstance, cx, Br.intro (fun hbad => ?_) (fun hgood => fun w F cx => (Zero_g _).in.use cx fun w cx => ⟨_, _, _, rfl, _, _, inferInstance, cx, fun _ _ h => h, fun k137 => ⟨fun _ _ h => h, fun w F cx => ?_⟩⟩)⟩⟩⟩
      · have hbad : win cols[k104].type 0 2 = false := by simpa using hbad
        have hbad : colB cols[k104] = false := hbad
        have := nil (by rw [hwit, if_neg (fun h => by rw [List.all_eq_true] at h; have := h _ (List.getElem_mem hi'); rw [hbad] at this; cases this)])
        exact fun w F cx => this w F cx.drop1.drop1.fst
      · have hgood : win cols[k104].type 0 2 = true := by simpa using hgood
        have hgood : colB cols[k104] = true := hgood
        obtain ⟨p', cap', w', hr, hp', cx⟩ := Ctx.app1 cx k70 (by omega) rfl rfl (by omega) (by omega)
        refine ⟨p', _, cap', w', hr, .buf p' (k104 + 1) cap' (valC (cols.take (k104 + 1))) 70 3 :: .buf p78 k79 k80 oc 55 3 :: R, _, inferInstance, ?_, fun _ _ h => h, by unfold I64; omega, .buf p' (k104 + 1) cap' (valC (cols.take (k104 + 1))) 70 3 :: .buf p78 k79 k80 oc 55 3 :: R, _, cols.length - (k104 + 1), inferInstance, fun w F c => c,
          ⟨k104 + 1, rfl, hi', rfl, rfl, rfl, ?_, rfl, rfl, rfl⟩, by omega⟩
        · rw [List.take_succ_eq_append_getElem hi', ← valC_snoc]
          exact cx
        · rw [List.take_succ_eq_append_getElem hi']
          intro c hc
          rcases List.mem_append.1 hc with hc | hc
          · exact hok c hc
          · rw [List.mem_singleton] at hc; subst hc; exact hgood
    · have hi' : k104 = cols.length := Nat.le_antisymm hi (by simpa using hi')
      subst hi'
      rw [List.take_length] at hok ⊢
      refine fun k155 w F cx => ?_
      have cx : Ctx W w (.buf p103 cols.length k105 (valC cols) 70 3 :: .blk k155 (dC p103 cols.length k105 k79) 55 :: .buf p78 k79 k80 oc 55 3 :: (R ++ F)) (fun M w => Φ M w ∧ Elems M w oc ((List.range k79).map (deltaOf cols))) := Ctx.swap cx
      obtain ⟨c1, hs1, _, hcap1, hcap2⟩ := Ctx.freeze (α := ValD) (l := cols.map valOf) cx (val_elems hok)
      obtain ⟨p', cap', w', hr, hp', cx⟩ := Ctx.app1 (c1.add (Ψ := fun M w => Sl M w p103 (cols.map valOf)) hs1) k55 (by omega) rfl rfl (by omega) (by omega)
      have cx2 : Ctx W w' (.buf p' (k79 + 1) cap' (oc ++ dC p103 cols.length k105 k79) 55 3 :: (R ++ F)) (fun M w => Φ M w ∧ Elems M w (oc ++ dC p103 cols.length k105 k79) ((List.range (k79 + 1)).map (deltaOf cols))) :=
        cx.weak fun M w h => ⟨h.1.1, by rw [List.range_succ, List.map_append]; exact h.1.2.snoc (delta_rep (by omega) h.2 hcap1 hcap2)⟩
      have hS2 : Stable (fun M w => Φ M w ∧ Elems M w (oc ++ dC p103 cols.length k105 k79) ((List.range (k79 + 1)).map (deltaOf cols))) := instStableAnd Φ (fun M w => Elems M w (oc ++ dC p103 cols.length k105 k79) ((List.range (k79 + 1)).map (deltaOf cols)))
      refine ⟨p', _, cap', w', hr, .buf p' (k79 + 1) cap' (oc ++ dC p103 cols.length k105 k79) 55 3 :: R, fun M w => Φ M w ∧ Elems M w (oc ++ dC p103 cols.length k105 k79) ((List.range (k79 + 1)).map (deltaOf cols)), hS2,
        cx2, by unfold I64; omega, .buf p' (k79 + 1) cap' (oc ++ dC p103 cols.length k105 k79) 55 3 :: R, fun M w => Φ M w ∧ Elems M w (oc ++ dC p103 cols.length k105 k79) ((List.range (k79 + 1)).map (deltaOf cols)), m - (k79 + 1), hS2,
        fun w F c => c, ⟨k79 + 1, rfl, hlt, rfl, fun _ => List.all_eq_true.2 hok, _, rfl, rfl, rfl⟩, by omega⟩
  · have hge : k79 = m := Nat.le_antisymm hk (by simpa using hge)
    subst hge
    rw [hwit, if_pos (hall (by omega))]
    refine fun w F cx => ?_
    obtain ⟨c1, hs1, hn, hcap1, hcap2⟩ := Ctx.freeze (α := DeltaD) (l := (List.range k79).map (deltaOf cols)) (S := R ++ F) cx cx.phi.2
    exact ⟨p78, k80, by simp, by simpa using hcap1, hcap2, ((c1.weak fun _ _ h => h.1).add (Ψ := fun M w => Sl M w p78 ((List.range k79).map (deltaOf cols))) hs1).left⟩

theorem Witness_in {Φ : PW} [Stable Φ] (p0P : Option Addr) (p0N p0C : Nat) (p : Option Addr) (cap : Nat) (l : List NodeD) (node n : Int) (hsl : ∀ M w, Φ M w → Sl M w p l) (hlen : l.length ≤ 1000000) (hcols : ∀ x ∈ l, x.cols.length ≤ 1000) :
    GivesSl Φ Try.prog F.bounds_Witness #[.agg #[.slice p0P p0N p0C, .slice p l.length cap], .int .i64 node, .int .i64 n] (witD l node n) fun u => u :=
  .pinned hsl fun b o cs hp => Witness_pin _ _ _ _ _ _ _ _ b o cs hp (fun _ _ h => h.2) (fun _ _ h => hsl _ _ h.1) hlen hcols

end Go.Proofs.Ytflanndhfdfemaa
