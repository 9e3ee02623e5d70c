/-
  The walks of the reference's Witness, SameRows, and both Totals.
-/
import Derived.Test.YtflanndhfdfemaaWt
set_option linter.unusedVariables false
set_option linter.unusedSimpArgs false
namespace Go.Proofs.Ytflanndhfdfemaa
open Go.Vc

set_option maxRecDepth 100000 in
theorem rWitness_pin {Φ : PW} [Stable Φ] (p0P : Option Addr) (p0N p0C : Nat) (p : Option Addr) (cap : Nat) (l : List NodeD) (node n : Int) (b o : Nat) (cs : List (List Value)) (hp : 0 < l.length → p = some ⟨b, o, none⟩) (hΦ : ∀ M w, Φ M w → Pin b o cs l M w)
    (hsl : ∀ M w, Φ M w → Sl M w p l) (hlen : l.length ≤ 1000000) (hcols : ∀ x ∈ l, x.cols.length ≤ 1000) :
    GivesSl Φ Try.prog F.errataref20_Witness #[.agg #[.slice p0P p0N p0C, .slice p l.length cap], .int .i64 node, .int .i64 n] (witD l node n) fun u => u := by
  refine gives_sl (Berrataref20_Witness_run p0P p0N p0C p l.length cap node n) fun W R => ?_
  have nil : witD l node n = [] → ∀ w F, Ctx W w (R ++ F) Φ → ∃ q cap', Value.slice none 0 0 = .slice q (witD l node n).length cap' ∧ (witD l node n).length ≤ cap' ∧ cap' ≤ maxLen ∧ Ctx W w R (fun M w => Φ M w ∧ Sl M w q (witD l node n)) :=
    fun h w F cx => by rw [h]; exact ⟨none, 0, rfl, Nat.le_refl _, Nat.zero_le _, cx.left.add Sl.nil⟩
  refine fun _ w F cx => (rWell_in _ _ _ _ _ _ hsl).use cx fun w cx => ⟨_, rfl, _, _, inferInstance, cx, Br.intro (fun h => nil ?_) (fun hw => ?_)⟩
  · have h : wellB l = false := by simpa using h
    unfold witD; rw [if_neg (by simp [h])]
  have hw : wellB l = true := by simpa using hw
  refine Br.intro (fun h => nil ?_) (fun hq1 => Br.intro (fun h => nil ?_) (fun hq2 => Br.intro (fun h => nil ?_) (fun hq3 => Br.intro (fun h => nil ?_) (fun hq4 => ?_))))
  · have h : node < 0 := by simpa using h
    unfold witD; rw [if_neg (fun e => by have := e.2.1; simp only [win, Bool.and_eq_true, decide_eq_true_eq] at this; omega)]
  · have h : (l.length : Int) ≤ node := by simpa using h
    unfold witD; rw [if_neg (fun e => by have := e.2.1; simp only [win, Bool.and_eq_true, decide_eq_true_eq] at this; omega)]
  · have h : n < 1 := by simpa using h
    unfold witD; rw [if_neg (fun e => by have := e.2.2; simp only [win, Bool.and_eq_true, decide_eq_true_eq] at this; omega)]
  · have h : 1000 < n := by simpa using h
    unfold witD; rw [if_neg (fun e => by have := e.2.2; simp only [win, Bool.and_eq_true, decide_eq_true_eq] at this; omega)]
  have hq1 : ¬ node < 0 := by simpa using hq1
  have hq2 : ¬ (l.length : Int) ≤ node := by simpa using hq2
  have hq3 : ¬ n < 1 := by simpa using hq3
  have hq4 : ¬ 1000 < n := by simpa using hq4
  have hn1 : win node 0 ((l.length : Int) - 1) = true := by simp only [win, Bool.and_eq_true, decide_eq_true_eq]; omega
  have hn2 : win n 1 1000 = true := by simp only [win, Bool.and_eq_true, decide_eq_true_eq]; omega
  have hb1 : 0 ≤ node ∧ node ≤ (l.length : Int) - 1 := by simpa [win] using hn1
  have hb2 : 1 ≤ n ∧ n ≤ 1000 := by simpa [win] using hn2
  have hnl : node.toNat < l.length := by omega
  have hwit : witD l node n = if boundedD l[node.toNat] = true then [] else match l[node.toNat].inp[0]? with
      | none => []
      | some i => match l[i.toNat]? with
        | none => []
        | some y => if y.cols.all colB = true then (List.range n.toNat).map (deltaOf y.cols) else [] := by
    unfold witD; rw [if_pos ⟨hw, hn1, hn2⟩, List.getElem?_eq_getElem hnl]; rfl
  have hpb := hp (by omega)
  clear cx
  refine ⟨by omega, ptrK_intro b o hpb fun w F cx => ?_⟩
  obtain ⟨x, hrow, hlike, h1, h15, hsub, _⟩ := node_at hΦ cx node.toNat hnl
  have hth := (hsub _ _ cx.phi).there
  refine ⟨_, _, _, _, _, _, _, _, _, _, _, _, _, _, _, _, _, _, _, _, _, _, _, _, _, _, _, _, _, _, hrow _ _ cx.phi, fun _ w F cx => (rBounded_g x).in.use cx fun w cx => ⟨_, rfl, _, _, inferInstance, cx, Br.intro (fun h => nil ?_) (fun hbd => Br.intro (fun h => nil ?_) (fun hin => ?_))⟩⟩
  · rw [hwit, if_pos (by rw [← hlike.bounded]; exact h)]
  · have h : (x.n1N : Int) = 0 := by simpa using h
    rw [hwit]
    split
    · rfl
    · rw [List.getElem?_eq_none (by omega)]
  have hbd : boundedB x = false := hbd
  have hin : ¬ (x.n1N : Int) = 0 := by simpa using hin
  have hi0 : 0 < l[node.toNat].inp.length := by omega
  have hwf := (wellFrom_iff l 0).1 (by simp [wellB] at hw; exact hw.1) node.toNat hnl
  rw [Nat.zero_add] at hwf
  simp only [nodeOk, Bool.and_eq_true, List.all_eq_true] at hwf
  have hir := hwf.2 l[node.toNat].inp[0] (List.getElem_mem hi0)
  have hir : 0 ≤ l[node.toNat].inp[0] ∧ l[node.toNat].inp[0] ≤ (node.toNat : Int) - 1 := by simpa [win] using hir
  have hil : l[node.toNat].inp[0].toNat < l.length := by omega
  obtain ⟨x2, hrow2, _, _, h152, _, hsub2⟩ := node_at hΦ cx l[node.toNat].inp[0].toNat hil
  have hth2 := (hsub2 _ _ cx.phi).there
  have hcl := hcols _ (List.getElem_mem hil)
  have hwit : witD l node n = if l[l[node.toNat].inp[0].toNat].cols.all colB = true then (List.range n.toNat).map (deltaOf l[l[node.toNat].inp[0].toNat].cols) else [] := by
    rw [hwit, if_neg (by rw [← hlike.bounded, hbd]; simp), List.getElem?_eq_getElem hi0]
    simp only
    rw [List.getElem?_eq_getElem hil]
  rw [h1]
  obtain ⟨bi, oi, hbi⟩ := hth (by omega)
  refine fun w F cx => ⟨by omega, ptrK_intro bi oi hbi ⟨l[node.toNat].inp[0], by have := sl_int (hbi ▸ hsub _ _ cx.phi) hi0; rwa [Nat.add_zero] at this, by omega, ptrK_intro b o hpb ⟨_, _, _, hrow2 _ _ cx.phi 15 (by simp), ?_⟩⟩⟩
  rw [h152]
  clear cx
  generalize hcc : l[l[node.toNat].inp[0].toNat].cols = cols at *
  obtain ⟨m, rfl⟩ : ∃ m : Nat, n = m := ⟨n.toNat, by omega⟩
  rw [Int.toNat_natCast] at hwit
  refine exI_mk (fun p78 k79 k80 n81 R' Φ' kk => ∃ k : Nat, n81 = k ∧ k ≤ m ∧ k79 = k ∧ (0 < k → cols.all colB = true) ∧ ∃ oc : List Value, R' = .buf p78 k k80 oc 55 3 :: R ∧ Φ' = (fun M w => Φ M w ∧ Elems M w oc ((List.range k).map (deltaOf cols))) ∧ kk = m - k)
    ⟨⟨.buf none 0 0 [] 55 3 :: R, fun M w => Φ M w ∧ Elems M w [] ((List.range 0).map (deltaOf cols)), _, inferInstance, fun w F c => (c.buf0 55 3).add Elems.nil, 0, rfl, Nat.zero_le _, rfl, fun h => absurd h (Nat.lt_irrefl 0), [], rfl, rfl, rfl⟩, ?_⟩
  rintro p78 k79 k80 n81 R1 Φ1 kk _ ⟨k, rfl, hk, rfl, hall, oc, rfl, rfl, rfl⟩
  refine Br.intro (fun hlt => ?_) (fun hge => ?_)
  · have hlt : k79 < m := by simpa using hlt
    refine ⟨by unfold I64; omega, fun _ => ?_⟩
    refine exI_mk (fun n101 n102 p103 k104 k105 n106 R' Φ' kk => ∃ i : Nat, n101 = i ∧ i ≤ cols.length ∧ n102 = 30001 * (k79 : Int) ∧ n106 = 1 ∧ k104 = i ∧ (∀ c ∈ cols.take i, colB c = true) ∧ R' = .buf p103 i k105 (valC (cols.take i)) 70 3 :: .buf p78 k79 k80 oc 55 3 :: R ∧
        Φ' = (fun M w => Φ M w ∧ Elems M w oc ((List.range k79).map (deltaOf cols))) ∧ kk = cols.length - i)
      ⟨⟨.buf none 0 0 [] 70 3 :: .buf p78 k79 k80 oc 55 3 :: R, _, _, inferInstance, fun w F c => c.buf0 70 3, 0, rfl, Nat.zero_le _, rfl, rfl, rfl, by simp, rfl, rfl, rfl⟩, ?_⟩
    rintro n101 n102 p103 k104 k105 n106 R2 Φ2 kk _ ⟨i, rfl, hi, rfl, rfl, rfl, hok, rfl, rfl, rfl⟩
    refine Br.intro (fun hi' => ?_) (fun hi' => ?_)
    · have hi' : k104 < cols.length := by simpa using hi'
      obtain ⟨bc, oc2, hbc⟩ := hth2 (by omega)
      refine ⟨by omega, ptrK_intro bc oc2 hbc fun w F cx => ⟨_, sl_col (hbc ▸ hsub2 _ _ cx.phi.1) hi' 1 (by simp), fun w F cx => (rwithin_g _ _ _).in.use cx fun w cx => ⟨_, rfl, _, _, inferInstance, cx, Br.intro (fun hbad => ?_) (fun hgood => ⟨by omega, ptrK_intro bc oc2 hbc ⟨_, fun w S cx => ⟨_, sl_col (hbc ▸ hsub2 _ _ cx.phi.1) hi' 1 (by simp), rfl⟩, fun k137 => ⟨fun _ _ h => h, fun w F cx => ?_⟩⟩⟩)⟩⟩⟩
      · have hbad : win cols[k104].type 0 2 = false := by simpa using hbad
        have hbad : colB cols[k104] = false := hbad
        have := nil (by rw [hwit, if_neg (fun h => by rw [List.all_eq_true] at h; have := h _ (List.getElem_mem hi'); rw [hbad] at this; cases this)])
        exact fun w F cx => this w F cx.drop1.drop1.fst
      · have hgood : win cols[k104].type 0 2 = true := by simpa using hgood
        have hgood : colB cols[k104] = true := hgood
        obtain ⟨p', cap', w', hr, hp', cx⟩ := Ctx.app1 cx k70 (by omega) rfl rfl (by omega) (by omega)
        refine ⟨p', _, cap', w', hr, .buf p' (k104 + 1) cap' (valC (cols.take (k104 + 1))) 70 3 :: .buf p78 k79 k80 oc 55 3 :: R, _, inferInstance, ?_, fun _ _ h => h, by unfold I64; omega, .buf p' (k104 + 1) cap' (valC (cols.take (k104 + 1))) 70 3 :: .buf p78 k79 k80 oc 55 3 :: R, _, cols.length - (k104 + 1), inferInstance, fun w F c => c,
          ⟨k104 + 1, rfl, hi', rfl, rfl, rfl, ?_, rfl, rfl, rfl⟩, by omega⟩
        · rw [List.take_succ_eq_append_getElem hi', ← valC_snoc]
          exact cx
        · rw [List.take_succ_eq_append_getElem hi']
          intro c hc
          rcases List.mem_append.1 hc with hc | hc
          · exact hok c hc
          · rw [List.mem_singleton] at hc; subst hc; exact hgood
    · have hi' : k104 = cols.length := Nat.le_antisymm hi (by simpa using hi')
      subst hi'
      rw [List.take_length] at hok ⊢
      refine fun k155 w F cx => ?_
      have cx : Ctx W w (.buf p103 cols.length k105 (valC cols) 70 3 :: .blk k155 (dC p103 cols.length k105 k79) 55 :: .buf p78 k79 k80 oc 55 3 :: (R ++ F)) (fun M w => Φ M w ∧ Elems M w oc ((List.range k79).map (deltaOf cols))) := Ctx.swap cx
      obtain ⟨c1, hs1, _, hcap1, hcap2⟩ := Ctx.freeze (α := ValD) (l := cols.map valOf) cx (val_elems hok)
      obtain ⟨p', cap', w', hr, hp', cx⟩ := Ctx.app1 (c1.add (Ψ := fun M w => Sl M w p103 (cols.map valOf)) hs1) k55 (by omega) rfl rfl (by omega) (by omega)
      have cx2 : Ctx W w' (.buf p' (k79 + 1) cap' (oc ++ dC p103 cols.length k105 k79) 55 3 :: (R ++ F)) (fun M w => Φ M w ∧ Elems M w (oc ++ dC p103 cols.length k105 k79) ((List.range (k79 + 1)).map (deltaOf cols))) :=
        cx.weak fun M w h => ⟨h.1.1, by rw [List.range_succ, List.map_append]; exact h.1.2.snoc (delta_rep (by omega) h.2 hcap1 hcap2)⟩
      have hS2 : Stable (fun M w => Φ M w ∧ Elems M w (oc ++ dC p103 cols.length k105 k79) ((List.range (k79 + 1)).map (deltaOf cols))) := instStableAnd Φ (fun M w => Elems M w (oc ++ dC p103 cols.length k105 k79) ((List.range (k79 + 1)).map (deltaOf cols)))
      refine ⟨p', _, cap', w', hr, .buf p' (k79 + 1) cap' (oc ++ dC p103 cols.length k105 k79) 55 3 :: R, fun M w => Φ M w ∧ Elems M w (oc ++ dC p103 cols.length k105 k79) ((List.range (k79 + 1)).map (deltaOf cols)), hS2,
        cx2, by unfold I64; omega, .buf p' (k79 + 1) cap' (oc ++ dC p103 cols.length k105 k79) 55 3 :: R, fun M w => Φ M w ∧ Elems M w (oc ++ dC p103 cols.length k105 k79) ((List.range (k79 + 1)).map (deltaOf cols)), m - (k79 + 1), hS2,
        fun w F c => c, ⟨k79 + 1, rfl, hlt, rfl, fun _ => List.all_eq_true.2 hok, _, rfl, rfl, rfl⟩, by omega⟩
  · have hge : k79 = m := Nat.le_antisymm hk (by simpa using hge)
    subst hge
    rw [hwit, if_pos (hall (by omega))]
    refine fun w F cx => ?_
    obtain ⟨c1, hs1, hn, hcap1, hcap2⟩ := Ctx.freeze (α := DeltaD) (l := (List.range k79).map (deltaOf cols)) (S := R ++ F) cx cx.phi.2
    exact ⟨p78, k80, by simp, by simpa using hcap1, hcap2, ((c1.weak fun _ _ h => h.1).add (Ψ := fun M w => Sl M w p78 ((List.range k79).map (deltaOf cols))) hs1).left⟩

theorem rWitness_in {Φ : PW} [Stable Φ] (p0P : Option Addr) (p0N p0C : Nat) (p : Option Addr) (cap : Nat) (l : List NodeD) (node n : Int) (hsl : ∀ M w, Φ M w → Sl M w p l) (hlen : l.length ≤ 1000000) (hcols : ∀ x ∈ l, x.cols.length ≤ 1000) :
    GivesSl Φ Try.prog F.errataref20_Witness #[.agg #[.slice p0P p0N p0C, .slice p l.length cap], .int .i64 node, .int .i64 n] (witD l node n) fun u => u :=
  .pinned hsl fun b o cs hp => rWitness_pin _ _ _ _ _ _ _ _ b o cs hp (fun _ _ h => h.2) (fun _ _ h => hsl _ _ h.1) hlen hcols

theorem rAnalyze_in {Φ : PW} [Stable Φ] (p0P : Option Addr) (p0N p0C : Nat) (p : Option Addr) (cap : Nat) (l : List NodeD) (c : CfgC)
    (hsl : ∀ M w, Φ M w → Sl M w p l) (hlen : l.length ≤ 9223372036854775807) :
    GivesSl Φ Try.prog F.errataref20_Analyze #[.agg #[.slice p0P p0N p0C, .slice p l.length cap], c.v] (analyzeD l c).1 fun u => .tuple #[u, .int .i64 (analyzeD l c).2.1, .int .i64 (analyzeD l c).2.2] :=
  (GivesBuf.pinned hsl fun b o cs hp => rAnalyze_pin _ _ _ _ _ _ _ b o cs hp (fun _ _ h => h.2) (fun _ _ h => hsl _ _ h.1) hlen).sl (α := BndD) fun M w _ => bnd_elems (analyze_ok l c) M w

def sumI (acc : List BndD) : Int := acc.foldl (fun s y => plusI s y.state) 0

theorem sum_bd : ∀ (ys : List BndD) (a : Int), 0 ≤ a → a ≤ 1099511627776 → (∀ y ∈ ys, y.Ok) → 0 ≤ ys.foldl (fun s y => plusI s y.state) a ∧ ys.foldl (fun s y => plusI s y.state) a ≤ 1099511627776
  | [], a, h1, h2, _ => ⟨h1, h2⟩
  | y :: r, a, h1, h2, hy => by
    have k := (hy y (by simp)).s
    have p := plusI_bd (a := a) (b := y.state) h1 k.1
    exact sum_bd r _ p.1 p.2 fun z hz => hy z (by simp [hz])

def totD (l : List NodeD) (c : CfgC) : BndD :=
  if (analyzeD l c).2.2 = 0 then { (analyzeD l c).1.getD ((analyzeD l c).1.length - 1) default with state := sumI (analyzeD l c).1 } else ⟨0, 0, 0, 0⟩

theorem Total_in {Φ : PW} [Stable Φ] (p0P : Option Addr) (p0N p0C : Nat) (p : Option Addr) (cap : Nat) (l : List NodeD) (c : CfgC) (hsl : ∀ M w, Φ M w → Sl M w p l) (hlen : l.length ≤ 9223372036854775807) :
    GivesIn Φ Try.prog F.bounds_Total #[.agg #[.slice p0P p0N p0C, .slice p l.length cap], c.v] (.tuple #[(totD l c).v, .int .i64 (analyzeD l c).2.2]) := by
  refine gives_in (Bbounds_Total_run p0P p0N p0C p l.length cap c.parts c.delay c.late c.ahead c.rate c.span) fun W R => ?_
  unfold totD
  refine fun _ _ _ w F cx => (Analyze_in _ _ _ _ _ _ c hsl hlen).use cx fun p4 k6 w _ _ cx => ?_
  have hth := cx.phi.2.there
  refine ⟨p4, _, k6, _, _, rfl, R, fun M w => Φ M w ∧ Sl M w p4 (analyzeD l c).1, inferInstance, cx, ?_⟩
  clear cx
  have hok := analyze_ok l c
  rcases analyze_cases l c with ⟨h1, h2⟩ | ⟨h1, han⟩
  · rw [if_neg h2]
    exact Br.intro (fun _ => fun w F cx => ⟨rfl, cx.left.fst⟩) (fun h => absurd (by simpa using h) h2)
  · have h0 : (analyzeD l c).2.2 = 0 := by rw [h1]
    rw [h0, if_pos rfl]
    have hal := han.len
    have hpos := han.pos
    have hle := han.le
    generalize (analyzeD l c).1 = acc at *
    refine Br.intro (fun h => by simp at h) (fun _ => ?_)
    refine exI_mk (fun n19 n20 R' Φ' k => ∃ i : Nat, n20 = i ∧ i ≤ acc.length ∧ R' = R ∧ Φ' = (fun M w => Φ M w ∧ Sl M w p4 acc) ∧ k = acc.length - i ∧ n19 = sumI (acc.take i)) ⟨⟨R, _, _, inferInstance, fun w F c => c, 0, rfl, Nat.zero_le _, rfl, rfl, rfl, rfl⟩, ?_⟩
    rintro n19 n20 R1 Φ1 k _ ⟨i, rfl, hi, rfl, rfl, rfl, hs⟩
    have hb := sum_bd (acc.take i) 0 (by omega) (by omega) fun y hy => hok y (List.mem_of_mem_take hy)
    have hs' : n19 = (acc.take i).foldl (fun s y => plusI s y.state) 0 := hs
    rw [← hs'] at hb
    obtain ⟨b2, o2, rfl⟩ := hth (by omega)
    refine Br.intro (fun hlt => ?_) (fun hge => ?_)
    · have hlt : i < acc.length := by simpa using hlt
      have ko := (hok acc[i] (List.getElem_mem hlt)).s
      refine ⟨by omega, ptrK_intro b2 o2 rfl fun w F cx => ⟨_, _, _, _, sl_bnd cx.phi.2 hlt, fun _ w F cx => (plus_g _ _ (by unfold I64; omega)).in.use cx fun w cx => ⟨_, rfl, R1, _, inferInstance, cx, by unfold I64; omega, R1, _, acc.length - (i + 1), inferInstance, fun w F c => c, ⟨i + 1, rfl, hlt, rfl, rfl, rfl, ?_⟩, by omega⟩⟩⟩
      unfold sumI
      rw [List.take_succ_eq_append_getElem hlt, List.foldl_append, ← hs']
      rfl
    · have hge : i = acc.length := Nat.le_antisymm hi (by simpa using hge)
      subst hge
      rw [List.take_length] at hs
      have e1 : (((acc.length : Int) - 1).toNat) = acc.length - 1 := by omega
      rw [e1]
      exact ⟨by unfold I64; omega, by omega, ptrK_intro b2 o2 rfl fun w F cx => ⟨_, _, _, _, acc_row cx.phi.2 (by omega), fun _ w F cx => ⟨by rw [hs], cx.left.fst⟩⟩⟩

theorem rTotal_in {Φ : PW} [Stable Φ] (p0P : Option Addr) (p0N p0C : Nat) (p : Option Addr) (cap : Nat) (l : List NodeD) (c : CfgC) (hsl : ∀ M w, Φ M w → Sl M w p l) (hlen : l.length ≤ 9223372036854775807) :
    GivesIn Φ Try.prog F.errataref20_Total #[.agg #[.slice p0P p0N p0C, .slice p l.length cap], c.v] (.tuple #[(totD l c).v, .int .i64 (analyzeD l c).2.2]) := by
  refine gives_in (Berrataref20_Total_run p0P p0N p0C p l.length cap c.parts c.delay c.late c.ahead c.rate c.span) fun W R => ?_
  unfold totD
  refine fun _ _ _ w F cx => (rAnalyze_in _ _ _ _ _ _ c hsl hlen).use cx fun p4 k6 w _ _ cx => ?_
  have hth := cx.phi.2.there
  refine ⟨p4, _, k6, _, _, rfl, R, fun M w => Φ M w ∧ Sl M w p4 (analyzeD l c).1, inferInstance, cx, fun w F cx => ?_⟩
  clear cx
  have hok := analyze_ok l c
  rcases analyze_cases l c with ⟨h1, h2⟩ | ⟨h1, han⟩
  · rw [if_neg h2]
    exact Br.intro (fun _ => fun w F cx => ⟨rfl, cx.left.fst⟩) (fun h => absurd (by simp at h; exact h.1) h2)
  · have h0 : (analyzeD l c).2.2 = 0 := by rw [h1]
    rw [h0, if_pos rfl]
    have hal := han.len
    have hpos := han.pos
    have hle := han.le
    generalize (analyzeD l c).1 = acc at *
    have e1 : (((acc.length : Int) - 1).toNat) = acc.length - 1 := by omega
    rw [e1]
    obtain ⟨b2, o2, rfl⟩ := hth (by omega)
    refine Br.intro (fun h => by exfalso; simp at h; rw [h] at hal; simp at hal; omega) (fun _ => ⟨by unfold I64; omega, by omega, ptrK_intro b2 o2 rfl fun w F cx => ⟨_, _, _, _, acc_row cx.phi.2 (by omega), fun _ => ?_⟩⟩)
    clear cx
    generalize acc.getD (acc.length - 1) default = y
    refine exI_mk (fun n29 n30 n31 n32 n33 R' Φ' k => ∃ i : Nat, n29 = i ∧ i ≤ acc.length ∧ R' = R ∧ Φ' = (fun M w => Φ M w ∧ Sl M w (some ⟨b2, o2, none⟩) acc) ∧ k = acc.length - i ∧ n30 = y.back ∧ n31 = y.fore ∧ n32 = y.rate ∧ n33 = sumI (acc.take i)) ⟨⟨R, _, _, inferInstance, fun w F c => c, 0, rfl, Nat.zero_le _, rfl, rfl, rfl, rfl, rfl, rfl, rfl⟩, ?_⟩
    rintro n29 n30 n31 n32 n33 R1 Φ1 k _ ⟨i, rfl, hi, rfl, rfl, rfl, rfl, rfl, rfl, hs⟩
    have hb := sum_bd (acc.take i) 0 (by omega) (by omega) fun y hy => hok y (List.mem_of_mem_take hy)
    have hs' : n33 = (acc.take i).foldl (fun s y => plusI s y.state) 0 := hs
    rw [← hs'] at hb
    refine Br.intro (fun hlt => ?_) (fun hge => fun w F cx => ⟨?_, cx.left.fst⟩)
    · have hlt : i < acc.length := by simpa using hlt
      have ko := (hok acc[i] (List.getElem_mem hlt)).s
      refine ⟨by omega, ptrK_intro b2 o2 rfl fun w F cx => ⟨_, sl_bnd cx.phi.2 hlt 3 (by simp), ?_, by unfold I64; omega, R1, _, acc.length - (i + 1), inferInstance, fun w F c => c, ⟨i + 1, rfl, hlt, rfl, rfl, rfl, rfl, rfl, rfl, ?_⟩, by omega⟩⟩
      · show I64 (n33 + acc[i].state); unfold I64; omega
      · unfold sumI
        rw [List.take_succ_eq_append_getElem hlt, List.foldl_append, ← hs']
        rfl
    · have hge : i = acc.length := Nat.le_antisymm hi (by simpa using hge)
      subst hge
      rw [List.take_length] at hs
      rw [hs]

end Go.Proofs.Ytflanndhfdfemaa
