/-
  The walk of ChannelOrder.
-/
import Derived.Test.YticgmbmghnikeaaOc
set_option linter.unusedVariables false
set_option linter.unusedSimpArgs false
namespace Go.Proofs.Yticgmbmghnikeaa
open Go.Vc

def EPhi (Φ : PW) (gs : List Value) (sent : List MsgD) : PW := fun M w => Φ M w ∧ Elems M w gs sent
instance ephi_stable (Φ : PW) [Stable Φ] (gs : List Value) (sent : List MsgD) : Stable (EPhi Φ gs sent) := instStableAnd Φ (fun M w => Elems M w gs sent)

abbrev QPhi (Φ : PW) (gs : List Value) (sent : List MsgD) (ccs : List Value) (q : List MsgD) (first : Nat) : PW := fun M w => EPhi Φ gs sent M w ∧ ChanS ccs q first M w
abbrev OT (b : Nat) (ccs : List Value) (sp : Option Addr) (n sc : Nat) (gs : List Value) (R : List Own) : List Own := .blk b ccs 53 :: .buf sp n sc gs 31 6 :: R
abbrev Cop (p : Option Addr) (n cap : Nat) (ds : List Value) (rows : List Own) : List Own := .buf p n cap ds 56 3 :: rows

theorem in_ops {Φ : PW} {f : FuncId} {args : Array Value} {v : Value} {b o : Nat} {cs : List (List Value)} {l : List OpD} (hΦ : ∀ M w, Φ M w → Pin b o cs l M w)
    (h : OpCells cs l → GivesIn Φ Try.prog f args v) : GivesIn Φ Try.prog f args v :=
  ⟨fun W w S c => (h fun j hj => pin_op (hΦ _ _ c.phi) hj).go W w S c⟩

theorem elems_msg {M : List Nat} {w : World} {gs : List Value} {l : List MsgD} (h : Elems M w gs l) {j : Nat} (hj : j < l.length) : ∃ q c, (gs.drop (j * 6)).take 6 = l[j].cells q c ∧ Sl M w q l[j].deltas := by
  have := h.2 j hj
  rw [show (Gv.ty MsgD).size = 6 from rfl] at this
  obtain ⟨p, c, h1, _, _, _, h2⟩ := msg_cells this
  exact ⟨p, c, h1, h2⟩

theorem elems_msgSl {M : List Nat} {w : World} {gs : List Value} {l : List MsgD} (h : Elems M w gs l) {j : Nat} (hj : j < l.length) {q : Option Addr} {c : Nat} (e : (gs.drop (j * 6)).take 6 = l[j].cells q c) : Sl M w q l[j].deltas := by
  have := h.2 j hj
  rw [show (Gv.ty MsgD).size = 6 from rfl, e] at this
  exact msg_sl this

theorem and3 (a : Int) : ∃ b : Int, ∀ w : World, Sem.run Try.prog (binOp BinOp.and 3 (.int .i64 a) (.int .i64 3)) w = .ok (.int .i64 b) w := ⟨_, fun w => rfl⟩

theorem perm_qq {Q1 Q2 S : List Own} {a : Own} : (Q2 ++ a :: (Q1 ++ S)).Perm (Q2 ++ Q1 ++ a :: S) := by
  refine List.perm_middle.trans ?_
  rw [← List.append_assoc]
  exact List.perm_middle.symm

set_option maxHeartbeats 8000000 in
set_option maxRecDepth 100000 in
theorem Order_pin {Φ : PW} [Stable Φ] (lp : Option Addr) (lcap : Nat) (l : List OpD) (b o : Nat) (cs : List (List Value)) (hp : 0 < l.length → lp = some ⟨b, o, none⟩) (hΦ : ∀ M w, Φ M w → Pin b o cs l M w) (hlen : l.length ≤ 9223372036854775807) :
    GivesIn Φ Try.prog F.erratalaw36_ChannelOrder #[.slice lp l.length lcap] (.bool true) := by
  refine in_ops hΦ fun hcs => ?_
  refine gives_in (Berratalaw36_ChannelOrder_run lp l.length lcap) fun W R => ?_
  refine fun w G cx => small_g.use cx fun w cx => ⟨true, rfl, R, Φ, inferInstance, cx, fun w G cx => New_use cx fun b1 w cx => ⟨some ⟨b1, 0, none⟩, rfl, .blk b1 chan0 53 :: R, Φ, inferInstance, cx, fun w G cx => ?_⟩⟩
  refine (few_in lp lcap l 150 b o cs hp hΦ hcs hlen).use cx fun v w ⟨bf, hbf, hfew⟩ cx => ?_
  subst hbf
  refine ⟨bf, rfl, .blk b1 chan0 53 :: R, Φ, inferInstance, cx, Br.intro (fun h => fun w G cx w G cx => ⟨rfl, cx.left.drop1⟩) (fun h => Br.intro (fun h => by cases h) (fun _ => ?_))⟩
  obtain ⟨hsm, hl150⟩ := hfew (by simpa using h)
  refine exI_mk (fun sp sn sc tkI iI R' Φ' k => ∃ (i tk first : Nat) (sent q : List MsgD) (ccs gs : List Value), iI = i ∧ tkI = tk ∧ sn = sent.length ∧ i ≤ l.length ∧ tk ≤ sent.length ∧ q = sent.drop tk ∧ sent.length ≤ i ∧ sent.length ≤ sc ∧ ChanC ccs q first sent.length ∧
      R' = OT b1 ccs sp sent.length sc gs R ∧ Φ' = QPhi Φ gs sent ccs q first ∧ k = l.length - i)
    ⟨⟨OT b1 chan0 none 0 0 [] R, QPhi Φ [] [] chan0 [] 0, _, inferInstance, fun w G cx => ?_, 0, 0, 0, [], [], chan0, [], rfl, rfl, rfl, Nat.zero_le _, Nat.le_refl _, rfl, Nat.le_refl _, Nat.le_refl _, chan0_c, rfl, rfl, rfl⟩, ?_⟩
  · exact ((cx.weak (Ψ := QPhi Φ [] [] chan0 [] 0) fun M w h => ⟨⟨h, Elems.nil⟩, chan0_s M w⟩).nobuf 31 6).swap
  rintro sp _ sc _ _ R1 Φ1 k _ ⟨i, tk, first, sent, q, ccs, gs, rfl, rfl, rfl, hi, htk, hq, hsi, hsc, hc, rfl, rfl, rfl⟩
  have hcnt := hc.count
  have hql : q.length = sent.length - tk := by rw [hq, List.length_drop]
  have hout : ∀ {w : World} {G : List Own} {ccs gs : List Value} {sp : Option Addr} {n sc : Nat} {sent q : List MsgD} {first : Nat}, Ctx W w (OT b1 ccs sp n sc gs R ++ G) (QPhi Φ gs sent ccs q first) → Ctx W w R Φ := fun cx => cx.left.drop1.drop1.weak fun M w h => h.1.1
  refine Br.intro (fun hlt => ?_) (fun hge => ?_)
  case refine_2 =>
    -- at last
    refine ⟨[], fun _ _ => True, inferInstance, fun w G cx => (cx.weak fun _ _ _ => trivial).right, Br.intro (fun _ => ?_) (fun h => by cases h)⟩
    refine ⟨by omega, fun w G cx => List_use (Φ := QPhi Φ gs sent ccs q first) cx hc (fun M w h => h.2) fun p cap w hcap cx => ?_⟩
    have hst : Stable (fun M w => QPhi Φ gs sent ccs q first M w ∧ Sl M w p q) := inferInstance
    refine ⟨p, q.length, cap, rfl, OT b1 ccs sp sent.length sc gs R, fun M w => QPhi Φ gs sent ccs q first M w ∧ Sl M w p q, hst, cx, fun w G cx => (cx.weak fun _ _ _ => trivial).right, fun w G cx => ?_⟩
    have hst2 : Stable (fun M w => (QPhi Φ gs sent ccs q first M w ∧ Sl M w p q) ∧ Sl M w sp sent) := inferInstance
    have cx1 : Ctx W w (.buf sp sent.length sc gs 31 6 :: .blk b1 ccs 53 :: R ++ G) (fun M w => QPhi Φ gs sent ccs q first M w ∧ Sl M w p q) := cx.swap
    obtain ⟨cx2, hs, _, _, _⟩ := Ctx.freeze (α := MsgD) cx1 cx1.phi.1.1.2
    have hsub : ∀ M w, ((QPhi Φ gs sent ccs q first M w ∧ Sl M w p q) ∧ Sl M w sp sent) → Sl M w (subPtr sp 6 (tk : Int).toNat sc) q := fun M w h => by
      have := addr_sub h.2 tk hsc
      rw [hq]
      exact this
    rw [show sent.length - (tk : Int).toNat = q.length by rw [Int.toNat_natCast, hql]]
    refine (rSameList_in (Φ := fun M w => (QPhi Φ gs sent ccs q first M w ∧ Sl M w p q) ∧ Sl M w sp sent) p _ cap _ q (fun M w h => h.1.2) hsub (by omega)).use (cx2.add hs) fun w cx => ⟨true, rfl, .blk b1 ccs 53 :: R, fun M w => (QPhi Φ gs sent ccs q first M w ∧ Sl M w p q) ∧ Sl M w sp sent, hst2, cx, fun w G cx => (cx.weak fun _ _ _ => trivial).right, Br.intro (fun _ => fun w G cx => ?_) (fun h => by cases h)⟩
    refine (Sent_q (cx.get 0 rfl hc.c26)).mono fun e w' ⟨he, hw⟩ => ?_
    subst hw
    exact ⟨_, he, .blk b1 ccs 53 :: R, fun M w => (QPhi Φ gs sent ccs q first M w ∧ Sl M w p q) ∧ Sl M w sp sent, hst2, cx, fun w G cx => (cx.weak fun _ _ _ => trivial).right, fun w G cx => ⟨by simp, cx.left.drop1.weak fun M w h => h.1.1.1.1⟩⟩
  have hlt : i < l.length := by simpa using hlt
  have hp := hp (by omega)
  obtain ⟨mq, mqc, hme, hm1, hm2, hmok⟩ := hcs i hlt
  have hmsm := hsm _ (List.getElem_mem hlt)
  have hmlen := len_max hm1 hm2
  have hmsl : ∀ M w, Φ M w → Sl M w mq l[i].m.deltas := fun M w h => pin_opSl (hΦ _ _ h) hlt hme
  have hmat : ∀ M w, Φ M w → RowAt w b (o + i * 7 + 1) (l[i].m.cells mq mqc) := fun M w h => pin_opMsg (hΦ _ _ h) hlt hme
  have hop : ∀ M w, Φ M w → w.cell? ⟨b, o + i * 7, none⟩ = some (.int .i64 l[i].op) := fun M w h => pin_opAt (hΦ _ _ h) hlt hme 0 (by simp)
  generalize l[i].op = op at hop
  generalize hmi : l[i].m = m at hmok hmsm hmlen hmsl hmat
  have hI64 : I64 ((i : Int) + 1) := by unfold I64; omega
  refine ⟨by omega, ptrK_intro b o hp fun w G cx => ⟨m.kind, m.node, m.inp, m.bucket, m.n, mq, m.deltas.length, mqc, hmat _ _ cx.phi.1.1, fun w G cx => ?_⟩⟩
  refine (right_in (Φ := QPhi Φ gs sent ccs q first) mq mqc m (fun M w h => hmsl _ _ h.1.1) hmlen).use cx fun v w ⟨bf, hbf⟩ cx => ?_
  subst hbf
  refine ⟨bf, rfl, OT b1 ccs sp sent.length sc gs R, QPhi Φ gs sent ccs q first, inferInstance, cx, Br.intro (fun _ => fun w G cx => ⟨rfl, hout cx⟩) (fun _ => fun w G cx => ?_)⟩
  -- the first message
  refine Head_use (Φ := QPhi Φ gs sent ccs q first) cx hc (fun M w h => h.2) fun p1 cap1 ds1 rows1 w hf1 cx => ?_
  have hfsm : (q.headD msg0).Small := by
    cases q with
    | nil => exact ⟨by simp, fun x hx => by simp at hx⟩
    | cons m q => exact hc.small m (by simp)
  refine ⟨_, _, _, _, _, p1, _, cap1, _, rfl, Cop p1 (q.headD msg0).deltas.length cap1 ds1 rows1 ++ OT b1 ccs sp sent.length sc gs R, QPhi Φ gs sent ccs q first, inferInstance, cx.re (by simp), fun _ => Br.intro (fun h => ?_) (fun _ => ?_)⟩
  · exfalso
    rw [show decide ((tk : Int) < sent.length) = decide (0 < q.length) from decide_eq_decide.2 (by omega)] at h
    simp at h
  refine ⟨by omega, ptrK_intro b o hp fun w G cx => ⟨op, by rw [Int.toNat_natCast]; exact hop _ _ cx.phi.1.1, ?_⟩⟩
  obtain ⟨n86, h86⟩ := and3 op
  refine ⟨n86, h86, Br.intro (fun hdo => fun w G cx => ?_) (fun hdo => ?_)⟩
  · -- Take
    generalize hfe : q.headD msg0 = f at hf1 hfsm cx
    have cx1 : Ctx W w (.blk b1 ccs 53 :: (Cop p1 f.deltas.length cap1 ds1 rows1 ++ (.buf sp sent.length sc gs 31 6 :: R ++ G))) (QPhi Φ gs sent ccs q first) := (cx.re (List.append_assoc _ _ _)).perm List.perm_middle
    refine Take_use (Φ := EPhi Φ gs sent) cx1 hc fun p2 cap2 ds2 rows2 w ccs2 first2 e he hc2 hf2 cx => ?_
    rw [hfe] at hf2 cx ⊢
    have cx2 : Ctx W w (Cop p2 f.deltas.length cap2 ds2 rows2 ++ Cop p1 f.deltas.length cap1 ds1 rows1 ++ OT b1 ccs2 sp sent.length sc gs R ++ G) (QPhi Φ gs sent ccs2 q.tail first2) := (cx.perm perm_qq).re (by simp)
    refine ⟨f.kind, f.node, f.inp, f.bucket, f.n, p2, f.deltas.length, cap2, e, rfl, Cop p2 f.deltas.length cap2 ds2 rows2 ++ Cop p1 f.deltas.length cap1 ds1 rows1 ++ OT b1 ccs2 sp sent.length sc gs R, QPhi Φ gs sent ccs2 q.tail first2, inferInstance, cx2, fun _ => Br.intro (fun h => by rw [he] at h; simp at h) (fun _ => fun w G cx => ?_)⟩
    have hA : ∀ M w, Aside W (Cop p2 f.deltas.length cap2 ds2 rows2 ++ Cop p1 f.deltas.length cap1 ds1 rows1) (QPhi Φ gs sent ccs2 q.tail first2) M w → Sl M w p1 f.deltas := fun M w h => hf1.within h (List.mem_append_right _ List.mem_cons_self) fun x hx => List.mem_append_right _ (List.mem_cons_of_mem _ hx)
    have hB : ∀ M w, Aside W (Cop p2 f.deltas.length cap2 ds2 rows2 ++ Cop p1 f.deltas.length cap1 ds1 rows1) (QPhi Φ gs sent ccs2 q.tail first2) M w → Sl M w p2 f.deltas := fun M w h => hf2.within h (List.mem_append_left _ List.mem_cons_self) fun x hx => List.mem_append_left _ (List.mem_cons_of_mem _ hx)
    refine (rSame_in p2 p1 cap2 cap1 f hB hA (by have := hfsm.1; omega)).use cx.asideF fun w cx => ?_
    refine ⟨true, rfl, Cop p2 f.deltas.length cap2 ds2 rows2 ++ Cop p1 f.deltas.length cap1 ds1 rows1 ++ OT b1 ccs2 sp sent.length sc gs R, QPhi Φ gs sent ccs2 q.tail first2, inferInstance, cx.unasideF, Br.intro (fun h => by cases h) (fun _ => ?_)⟩
    have htail : q.tail = sent.drop (tk + 1) := by rw [hq, List.tail_drop]
    -- both copies are spoilt, and on
    have hs1 : ∀ {w : World} {G : List Own} {K : Ending → World → Prop}, Ctx W w (Cop p2 f.deltas.length cap2 ds2 rows2 ++ Cop p1 f.deltas.length cap1 ds1 rows1 ++ OT b1 ccs2 sp sent.length sc gs R ++ G) (QPhi Φ gs sent ccs2 q.tail first2) →
        (∀ w', Ctx W w' (Cop p1 f.deltas.length cap1 ds1 rows1 ++ OT b1 ccs2 sp sent.length sc gs R ++ G) (QPhi Φ gs sent ccs2 q.tail first2) → K (.returned (.tuple #[])) w') → Calls Try.prog F.erratalaw36_spoil #[f.v p2 cap2] w K := fun {w G K} cx hk => by
      have cx1 : Ctx W w (Cop p2 f.deltas.length cap2 ds2 rows2 ++ (Cop p1 f.deltas.length cap1 ds1 rows1 ++ OT b1 ccs2 sp sent.length sc gs R ++ G)) (QPhi Φ gs sent ccs2 q.tail first2) := cx.re (by simp)
      exact spoil_use cx1 hf2.loose hfsm hk
    have hs2 : ∀ {w : World} {G : List Own} {K : Ending → World → Prop}, Ctx W w (Cop p1 f.deltas.length cap1 ds1 rows1 ++ OT b1 ccs2 sp sent.length sc gs R ++ G) (QPhi Φ gs sent ccs2 q.tail first2) →
        (∀ w', Ctx W w' (OT b1 ccs2 sp sent.length sc gs R ++ G) (QPhi Φ gs sent ccs2 q.tail first2) → K (.returned (.tuple #[])) w') → Calls Try.prog F.erratalaw36_spoil #[f.v p1 cap1] w K := fun {w G K} cx hk => by
      have cx1 : Ctx W w (Cop p1 f.deltas.length cap1 ds1 rows1 ++ (OT b1 ccs2 sp sent.length sc gs R ++ G)) (QPhi Φ gs sent ccs2 q.tail first2) := cx.re (by simp)
      exact spoil_use cx1 hf1.loose hfsm hk
    refine Br.intro (fun hthere => ?_) (fun hthere => ?_)
    · have hq0 : 0 < q.length := of_decide_eq_true hthere
      have htk2 : tk < sent.length := by omega
      have hfs : f = sent[tk] := by
        rw [← hfe, hq, List.drop_eq_getElem_cons htk2]
        rfl
      have hgl : gs.length = sent.length * 6 := cx.phi.1.1.2.1
      obtain ⟨g, hg, _⟩ := cx.bufCell 1 rfl (by rw [hgl]; omega)
      obtain ⟨tq, tc, hte, _⟩ := elems_msg cx.phi.1.1.2 htk2
      have hC : ∀ M w, Aside W (Cop p2 f.deltas.length cap2 ds2 rows2 ++ Cop p1 f.deltas.length cap1 ds1 rows1) (QPhi Φ gs sent ccs2 q.tail first2) M w → Sl M w tq f.deltas := fun M w h => by
        rw [hfs]
        exact elems_msgSl h.less.1.2 htk2 hte
      rw [← hfs] at hte
      refine ⟨[], fun _ _ => True, inferInstance, fun w G cx => (cx.weak fun _ _ _ => trivial).right, by omega, ptrK_intro g 0 hg fun w G cx => ⟨f.kind, f.node, f.inp, f.bucket, f.n, tq, f.deltas.length, tc, ?_, fun w G cx => ?_⟩⟩
      · rw [Int.toNat_natCast, Nat.zero_add]
        exact cx.asideF.bufRow 1 rfl hg (rows_of (vs := f.cells tq tc) hte)
      refine (rSame_in p2 tq cap2 tc f hB hC (by have := hfsm.1; omega)).use cx.asideF fun w cx => ?_
      refine ⟨true, rfl, Cop p2 f.deltas.length cap2 ds2 rows2 ++ Cop p1 f.deltas.length cap1 ds1 rows1 ++ OT b1 ccs2 sp sent.length sc gs R, QPhi Φ gs sent ccs2 q.tail first2, inferInstance, cx.unasideF, fun w G cx => (cx.weak fun _ _ _ => trivial).right, Br.intro (fun h => by cases h) (fun _ => ⟨by unfold I64; omega, fun w G cx => hs1 cx fun w cx => ⟨rfl, Cop p1 f.deltas.length cap1 ds1 rows1 ++ OT b1 ccs2 sp sent.length sc gs R, QPhi Φ gs sent ccs2 q.tail first2, inferInstance, cx, fun w G cx => hs2 cx fun w cx => ⟨rfl, OT b1 ccs2 sp sent.length sc gs R, QPhi Φ gs sent ccs2 q.tail first2, inferInstance, cx, hI64, ?_⟩⟩⟩)⟩
      exact ⟨_, QPhi Φ gs sent ccs2 q.tail first2, l.length - (i + 1), inferInstance, fun w G cx => cx, ⟨i + 1, tk + 1, first2, sent, q.tail, ccs2, gs, rfl, rfl, rfl, hlt, htk2, htail, by omega, hsc, hc2, rfl, rfl, rfl⟩, by omega⟩
    · have hq0 : q = [] := List.eq_nil_of_length_eq_zero (by have := of_decide_eq_false hthere; omega)
      refine fun w G cx => hs1 cx fun w cx => ⟨rfl, Cop p1 f.deltas.length cap1 ds1 rows1 ++ OT b1 ccs2 sp sent.length sc gs R, QPhi Φ gs sent ccs2 q.tail first2, inferInstance, cx, fun w G cx => hs2 cx fun w cx => ⟨rfl, OT b1 ccs2 sp sent.length sc gs R, QPhi Φ gs sent ccs2 q.tail first2, inferInstance, cx, hI64, ?_⟩⟩
      exact ⟨_, QPhi Φ gs sent ccs2 q.tail first2, l.length - (i + 1), inferInstance, fun w G cx => cx, ⟨i + 1, tk, first2, sent, q.tail, ccs2, gs, rfl, rfl, rfl, hlt, htk, by rw [← hq, hq0]; rfl, by omega, hsc, hc2, rfl, rfl, rfl⟩, by omega⟩
  · -- Send
    refine ⟨by omega, ptrK_intro b o hp fun w G cx => ⟨m.kind, m.node, m.inp, m.bucket, m.n, mq, m.deltas.length, mqc, hmat _ _ cx.phi.1.1, fun w G cx => ?_⟩⟩
    refine (rClone_copy (Φ := QPhi Φ gs sent ccs q first) mq mqc m (fun M w h => hmsl _ _ h.1.1) hmsm).use cx.dropF fun p2 cap2 ds2 rows2 w hf2 cx => ?_
    have hA : ∀ {Ψ : PW}, ∀ M w, Aside W (Cop p2 m.deltas.length cap2 ds2 rows2) Ψ M w → Sl M w p2 m.deltas := fun M w h => hf2.within h List.mem_cons_self fun x hx => List.mem_cons_of_mem _ hx
    refine ⟨m.kind, m.node, m.inp, m.bucket, m.n, p2, m.deltas.length, cap2, rfl, Cop p2 m.deltas.length cap2 ds2 rows2 ++ OT b1 ccs sp sent.length sc gs R, QPhi Φ gs sent ccs q first, inferInstance, cx.re (List.append_assoc _ _ _).symm, fun _ w G cx => ?_⟩
    refine Send_use (Φ := EPhi Φ gs sent) cx.asideF hc (fun M w h => hA M w h) hmok hmlen (by omega) fun e ccs2 q2 n2 w hR hc2 cx => ?_
    refine ⟨e, rfl, Cop p2 m.deltas.length cap2 ds2 rows2 ++ OT b1 ccs2 sp sent.length sc gs R, QPhi Φ gs sent ccs2 q2 first, inferInstance, cx.unasideF, ?_⟩
    refine exI_mk (fun c R' Φ' => c = decide (q.length = 4) ∧ R' = Cop p2 m.deltas.length cap2 ds2 rows2 ++ OT b1 ccs2 sp sent.length sc gs R ∧ Φ' = QPhi Φ gs sent ccs2 q2 first) ⟨⟨by unfold I64; omega, _, QPhi Φ gs sent ccs2 q2 first, inferInstance, fun w G cx => cx, decide_eq_decide.2 (by omega), rfl, rfl⟩, ?_⟩
    rintro c R1 Φ1 _ ⟨rfl, rfl, rfl⟩
    refine exI_mk (fun R' Φ' => R' = Cop p2 m.deltas.length cap2 ds2 rows2 ++ OT b1 ccs2 sp sent.length sc gs R ∧ Φ' = QPhi Φ gs sent ccs2 q2 first) ⟨?_, ?_⟩
    · have hRight : ∀ {w : World} {G : List Own} {K : Ending → World → Prop}, Ctx W w (Cop p2 m.deltas.length cap2 ds2 rows2 ++ OT b1 ccs2 sp sent.length sc gs R ++ G) (QPhi Φ gs sent ccs2 q2 first) →
          (∀ w', Ctx W w' (Cop p2 m.deltas.length cap2 ds2 rows2 ++ OT b1 ccs2 sp sent.length sc gs R ++ G) (QPhi Φ gs sent ccs2 q2 first) → K (.returned (.bool (rightM m))) w') → Calls Try.prog F.channel_Right #[m.v p2 cap2] w K := fun {w G K} cx hk =>
        (Right_in (Φ := Aside W (Cop p2 m.deltas.length cap2 ds2 rows2) (QPhi Φ gs sent ccs2 q2 first)) p2 cap2 m (fun M w h => hA M w h) hmlen).use cx.asideF fun w cx => hk w cx.unasideF
      have hnext : ∃ R2 Φ2, Stable Φ2 ∧ (∀ (w : World) (F' : List Own), Ctx W w (Cop p2 m.deltas.length cap2 ds2 rows2 ++ OT b1 ccs2 sp sent.length sc gs R ++ F') (QPhi Φ gs sent ccs2 q2 first) → Ctx W w (R2 ++ F') Φ2) ∧ (R2 = Cop p2 m.deltas.length cap2 ds2 rows2 ++ OT b1 ccs2 sp sent.length sc gs R ∧ Φ2 = QPhi Φ gs sent ccs2 q2 first) :=
        ⟨_, QPhi Φ gs sent ccs2 q2 first, inferInstance, fun w G cx => cx, rfl, rfl⟩
      refine fun w G cx => hRight cx fun w cx => ⟨_, rfl, _, QPhi Φ gs sent ccs2 q2 first, inferInstance, cx, ?_⟩
      rcases hR with ⟨hr, rfl, _⟩ | ⟨hr, h4, rfl, _⟩ | ⟨hr, h4, rfl, _⟩
      · rw [hr]
        refine Br.intro (fun _ => Br.intro (fun h => by simp at h) (fun _ => fun w G cx => hRight cx fun w cx => ⟨_, rfl, _, QPhi Φ gs sent ccs2 q2 first, inferInstance, cx, ?_⟩)) (fun h => by cases h)
        rw [hr]
        refine Br.intro (fun h => by cases h) (fun _ => fun w G cx => hRight cx fun w cx => ⟨_, rfl, _, QPhi Φ gs sent ccs2 q2 first, inferInstance, cx, ?_⟩)
        rw [hr]
        exact Br.intro (fun h => by cases h) (fun _ => hnext)
      · rw [hr]
        refine Br.intro (fun h => by cases h) (fun _ => fun w G cx => hRight cx fun w cx => ⟨_, rfl, _, QPhi Φ gs sent ccs2 q2 first, inferInstance, cx, ?_⟩)
        rw [hr]
        refine Br.intro (fun _ => Br.intro (fun h => by rw [decide_eq_true h4] at h; simp at h) (fun _ => fun w G cx => hRight cx fun w cx => ⟨_, rfl, _, QPhi Φ gs sent ccs2 q2 first, inferInstance, cx, ?_⟩)) (fun h => by cases h)
        rw [hr]
        refine Br.intro (fun _ => Br.intro (fun h => by rw [decide_eq_true h4] at h; cases h) (fun _ => hnext)) (fun h => by cases h)
      · rw [hr]
        refine Br.intro (fun h => by cases h) (fun _ => fun w G cx => hRight cx fun w cx => ⟨_, rfl, _, QPhi Φ gs sent ccs2 q2 first, inferInstance, cx, ?_⟩)
        rw [hr]
        refine Br.intro (fun _ => Br.intro (fun h => by rw [decide_eq_false (show ¬ q.length = 4 by omega)] at h; simp at h) (fun _ => fun w G cx => hRight cx fun w cx => ⟨_, rfl, _, QPhi Φ gs sent ccs2 q2 first, inferInstance, cx, ?_⟩)) (fun h => by cases h)
        rw [hr]
        refine Br.intro (fun _ => Br.intro (fun _ => Br.intro (fun h => by simp at h) (fun _ => hnext)) (fun _ => hnext)) (fun h => by cases h)
    rintro R1 Φ1 _ ⟨rfl, rfl⟩
    refine exI_mk (fun sp2 sn2 sc2 R' Φ' => ∃ (sent2 : List MsgD) (gs2 : List Value), sn2 = sent2.length ∧ sent2.length = n2 ∧ q2 = sent2.drop tk ∧ tk ≤ sent2.length ∧ sent2.length ≤ i + 1 ∧ sent2.length ≤ sc2 ∧ R' = Cop p2 m.deltas.length cap2 ds2 rows2 ++ OT b1 ccs2 sp2 sent2.length sc2 gs2 R ∧ Φ' = QPhi Φ gs2 sent2 ccs2 q2 first) ⟨?_, ?_⟩
    · refine Br.intro (fun h0 => fun w G cx => ?_) (fun h0 => ?_)
      · obtain ⟨hq2, hn2⟩ : q2 = q ++ [m] ∧ n2 = sent.length + 1 := by
          have h0 := of_decide_eq_true h0
          rcases hR with ⟨_, h, _⟩ | ⟨_, _, h, _⟩ | ⟨_, _, _, h⟩
          · omega
          · omega
          · exact h
        refine (rClone_copy (Φ := Aside W (Cop p2 m.deltas.length cap2 ds2 rows2) (QPhi Φ gs sent ccs2 q2 first)) p2 cap2 m (fun M w h => hA M w h) hmsm).useA cx.asideF fun p3 cap3 w h3 h4 cx => ?_
        have hst : Stable (fun M w => QPhi Φ gs sent ccs2 q2 first M w ∧ Sl M w p3 m.deltas) := inferInstance
        refine ⟨m.kind, m.node, m.inp, m.bucket, m.n, p3, m.deltas.length, cap3, rfl, Cop p2 m.deltas.length cap2 ds2 rows2 ++ OT b1 ccs2 sp sent.length sc gs R, fun M w => QPhi Φ gs sent ccs2 q2 first M w ∧ Sl M w p3 m.deltas, hst, cx.unasideF, fun k2 w G cx => ?_⟩
        have cx1 : Ctx W w (.blk k2 (m.cells p3 cap3) 31 :: .buf sp sent.length sc gs 31 6 :: (Cop p2 m.deltas.length cap2 ds2 rows2 ++ (.blk b1 ccs2 53 :: (R ++ G)))) (fun M w => QPhi Φ gs sent ccs2 q2 first M w ∧ Sl M w p3 m.deltas) := by
          refine cx.perm (List.Perm.cons _ ?_)
          show (Cop p2 m.deltas.length cap2 ds2 rows2 ++ OT b1 ccs2 sp sent.length sc gs R ++ G).Perm _
          rw [List.append_assoc]
          refine (List.Perm.append_left _ (List.Perm.swap _ _ _)).trans ?_
          exact List.perm_middle
        obtain ⟨p', cap', w', hrun, _, cx'⟩ := Ctx.app1 (P := Try.prog) (ts := 22) (ty := 22) (kb := #[false, false]) (size := 6) (bytes := 64) cx1 (by kernel_rfl) (by omega) rfl rfl (by omega) (by omega)
        obtain ⟨_, hcapn, _⟩ := cx'.bufLen 0 rfl
        have hst3 : Stable (QPhi Φ (gs ++ m.cells p3 cap3) (sent ++ [m]) ccs2 q2 first) := inferInstance
        have cx2 : Ctx W w' (Cop p2 m.deltas.length cap2 ds2 rows2 ++ OT b1 ccs2 p' (sent.length + 1) cap' (gs ++ m.cells p3 cap3) R ++ G) (QPhi Φ (gs ++ m.cells p3 cap3) (sent ++ [m]) ccs2 q2 first) := by
          refine Ctx.perm (S := .buf p' (sent.length + 1) cap' (gs ++ m.cells p3 cap3) 31 6 :: (Cop p2 m.deltas.length cap2 ds2 rows2 ++ (.blk b1 ccs2 53 :: (R ++ G)))) (cx'.weak fun M w h => ⟨⟨h.1.1.1, h.1.1.2.snoc (rep_msg hmok h3 h4 h.2)⟩, h.1.2⟩) ?_
          rw [List.append_assoc]
          refine List.perm_middle.symm.trans ?_
          exact List.Perm.append_left _ (List.Perm.swap _ _ _)
        refine ⟨p', sent.length + 1, cap', w', hrun, _, QPhi Φ (gs ++ m.cells p3 cap3) (sent ++ [m]) ccs2 q2 first, hst3, cx2, _, QPhi Φ (gs ++ m.cells p3 cap3) (sent ++ [m]) ccs2 q2 first, hst3, fun w G cx => cx, sent ++ [m], gs ++ m.cells p3 cap3, by simp, by simp [hn2], ?_, by simp; omega, by simp; omega, by simpa using hcapn, by simp, rfl⟩
        rw [hq2, hq, List.drop_append_of_le_length htk]
      · obtain ⟨hq2, hn2⟩ : q2 = q ∧ n2 = sent.length := by
          have h0 := of_decide_eq_false h0
          rcases hR with ⟨_, _, h⟩ | ⟨_, _, _, h⟩ | ⟨_, _, h, _⟩
          · exact h
          · exact h
          · omega
        exact ⟨_, QPhi Φ gs sent ccs2 q2 first, inferInstance, fun w G cx => cx, sent, gs, rfl, hn2.symm, by rw [hq2, hq], htk, by omega, hsc, rfl, rfl⟩
    rintro sp2 _ sc2 R1 Φ1 _ ⟨sent2, gs2, rfl, hn2, hq2, htk2, hsi2, hsc2, rfl, rfl⟩ w G cx
    have cx1 : Ctx W w (Cop p2 m.deltas.length cap2 ds2 rows2 ++ (OT b1 ccs2 sp2 sent2.length sc2 gs2 R ++ G)) (QPhi Φ gs2 sent2 ccs2 q2 first) := cx.re (by simp)
    have hcnt2 := hc2.count
    have hql2 : q2.length = sent2.length - tk := by rw [hq2, List.length_drop]
    refine spoil_use cx1 hf2.loose hmsm fun w cx => ⟨rfl, OT b1 ccs2 sp2 sent2.length sc2 gs2 R, QPhi Φ gs2 sent2 ccs2 q2 first, inferInstance, cx, fun w G cx => ?_⟩
    have hL : ∀ w', w' = w → Calls Try.prog F.channel_Channel_Len #[.pointer (some ⟨b1, 0, none⟩)] w' fun e w' => e = .returned (.int .i64 q2.length) ∧ w' = w := fun w' hw => by
      subst hw
      exact Len_q (cx.get 0 rfl hc2.c25)
    refine ⟨q2.length, hL, by unfold I64; omega, q2.length, fun _ => hL, Br.intro (fun h => ?_) (fun _ => ⟨hI64, _, QPhi Φ gs2 sent2 ccs2 q2 first, l.length - (i + 1), inferInstance, fun w G cx => cx, ⟨i + 1, tk, first, sent2, q2, ccs2, gs2, rfl, rfl, rfl, hlt, htk2, hq2, hsi2, hsc2, by rw [hn2]; exact hc2, rfl, rfl, rfl⟩, by omega⟩)⟩
    exfalso
    simp only [Bool.or_eq_true, decide_eq_true_eq] at h
    omega

end Go.Proofs.Yticgmbmghnikeaa
