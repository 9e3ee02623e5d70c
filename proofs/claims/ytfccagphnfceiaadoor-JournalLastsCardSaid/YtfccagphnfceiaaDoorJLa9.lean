/-
  For every input erratalaw06.JournalLasts returns true, does not panic, comes to an end, and leaves what came in as it was; the variables that its row lists are as the program's text lays them.
  Conditions: none beyond the given statement's own (JournalLastsCardSaid).
-/
import Derived.Test.YtfccagphnfceiaaDoorJLa8
import Derived.Test.YtfccagphnfceiaaDoorJLa7
import Derived.Test.YtfccagphnfceiaaDoorCards
import Derived.MakeChecks
import Derived.Stop.LaidErr
import Derived.Lib.LaidTab
import Derived.Test.YtfccagphnfceiaaDoorTie
import Derived.SevenTiedAt
import Derived.LaidMore
import Derived.ChangeMaps5
import Derived.Test.YtfccagphnfceiaaDoorRows

/-
  The law that a journal lasts: what is held, and the parts of a round.
-/
section
set_option linter.unusedVariables false
set_option linter.unusedSimpArgs false
namespace Go.Proofs.YtfccagphnfceiaaDoor
open Go.Vc

/-- what is known: the list of what survives, and the two lists of the law -/
def LF (Ψ : PW) (kp : Option Addr) (keep : List Int) (ps : Option Addr) (sure : List ByteArray) (pm : Option Addr) (maybe : List ByteArray) : PW := fun M w => (Ψ M w ∧ Sl M w kp keep) ∧ (Sl M w ps sure ∧ Sl M w pm maybe)
instance instStableLF (Ψ : PW) [Stable Ψ] (kp : Option Addr) (keep : List Int) (ps : Option Addr) (sure : List ByteArray) (pm : Option Addr) (maybe : List ByteArray) : Stable (LF Ψ kp keep ps sure pm maybe) :=
  have h1 : Stable (fun M w => Ψ M w ∧ Sl M w kp keep) := instStableAnd Ψ (fun M w => Sl M w kp keep)
  have h2 : Stable (fun M w => Sl M w ps sure ∧ Sl M w pm maybe) := instStableAnd (fun M w => Sl M w ps sure) (fun M w => Sl M w pm maybe)
  instStableAnd (fun M w => Ψ M w ∧ Sl M w kp keep) (fun M w => Sl M w ps sure ∧ Sl M w pm maybe)
/-- with the slices of an operation -/
def OF (Φ : PW) (p : Option Addr) (L : List ByteArray) (q : Option Addr) (K : List Int) : PW := fun M w => Φ M w ∧ (Sl M w p L ∧ Sl M w q K)
instance instStableOF (Φ : PW) [Stable Φ] (p : Option Addr) (L : List ByteArray) (q : Option Addr) (K : List Int) : Stable (OF Φ p L q K) :=
  have h2 : Stable (fun M w => Sl M w p L ∧ Sl M w q K) := instStableAnd (fun M w => Sl M w p L) (fun M w => Sl M w q K)
  instStableAnd Φ (fun M w => Sl M w p L ∧ Sl M w q K)
abbrev mayP (sure maybe : List ByteArray) (failed : Bool) : List ByteArray → Prop := fun l => l = sure ∨ (failed = true ∧ l = maybe)
structure LI (q : DkP) (d : DsS) (jo : Option (JoP × JouS)) (sure maybe : List ByteArray) (failed : Bool) : Prop where
  dq : DkQ q d
  kl : d.keep.length ≤ 1000000
  fut : JFut d 3 (mayP sure maybe failed)
  jou : ∀ x j, jo = some (x, j) → SI d j ∧ j.base = 3 ∧ SB x.p x.cap j.list x.o ∧ j.list = sure
  sl : sure.length ≤ 1048576
def LInv (N db : Nat) (Ψ : PW) (R : List Own) (pj ps : Option Addr) (ks cs : Nat) (pm : Option Addr) (km cm : Nat) (failed : Bool) (n : Int) (R' : List Own) (Φ' : PW) (k : Nat) : Prop :=
  ∃ (i : Nat) (q : DkP) (d : DsS) (jo : Option (JoP × JouS)) (sure maybe : List ByteArray), pj = oP jo ∧ ks = sure.length ∧ ks ≤ cs ∧ km = maybe.length ∧ n = i ∧ i + k = N + 1 ∧ q.db = db ∧ R' = oO q jo ++ (dkL q d ++ R) ∧ Φ' = LF Ψ q.kp d.keep ps sure pm maybe ∧ LI q d jo sure maybe failed
theorem LI.kk {q : DkP} {d : DsS} {jo : Option (JoP × JouS)} {sure maybe : List ByteArray} {failed : Bool} (h : LI q d jo sure maybe failed) {Θ : PW} (e : ∀ M w, Θ M w → Sl M w q.kp d.keep) : DkK Θ q d := ⟨h.kl, e⟩
/-- another disk with the same files -/
theorem LI.frame {q q' : DkP} {d d' : DsS} {jo : Option (JoP × JouS)} {sure maybe : List ByteArray} {failed : Bool} (h : LI q d jo sure maybe failed) (hq : DkQ q' d') (hf : d'.files = d.files) (hk : d'.keep.length ≤ 1000000) : LI q' d' jo sure maybe failed :=
  ⟨hq, hk, h.fut.frame hf, fun x j e => by
    obtain ⟨a1, a2, a3, a4⟩ := h.jou x j e
    exact ⟨a1.frame hf, a2, a3, a4⟩, h.sl⟩
/-- after a call on the journal -/
theorem LI.call {q : DkP} {d : DsS} {x x' : JoP} {j : JouS} {sure maybe next sure' maybe' : List ByteArray} {failed failed' : Bool} {u : DkU} (h : LI q d (some (x, j)) sure maybe failed) {r : DsS × JouS × Int} (hC : CallR d j next r) (hq : DkQ (q.mv u) r.1) (hk : r.1.keep = d.keep) (hsb : SB x'.p x'.cap r.2.1.list x'.o)
    (e1 : r.2.2 = 0 → sure' = next) (e2 : r.2.2 ≠ 0 → sure' = sure) (e3 : r.2.2 = 9 ∨ r.2.2 = 10 → maybe' = next ∧ failed' = true) (e4 : ¬ (r.2.2 = 9 ∨ r.2.2 = 10) → maybe' = maybe ∧ failed' = failed) :
    LI (q.mv u) r.1 (some (x', r.2.1)) sure' maybe' failed' ∧ r.2.1.list = sure' := by
  obtain ⟨a1, a2, a3, a4⟩ := h.jou x j rfl
  have hl : r.2.1.list = sure' ∧ JFut r.1 3 (mayP sure' maybe' failed') := by
    rcases hC.or with ⟨h1, h2, h3, h4, h5⟩ | ⟨h1, h2, h3, h4⟩ | ⟨h1, h2, h3, h4⟩
    · obtain ⟨b1, b2⟩ := e4 (by omega)
      have hs : sure' = sure := by
        by_cases h0 : r.2.2 = 0
        · rw [e1 h0, (h5 h0).1, a4]
        · exact e2 h0
      rw [h2, hs, b1, b2, h1]
      exact ⟨a4, h.fut⟩
    · have := h4.fut (P := mayP sure' maybe' failed') (.inl (by rw [h3, e1 h1]))
      rw [hC.base, a2] at this
      exact ⟨by rw [h3, e1 h1], this⟩
    · obtain ⟨b1, b2⟩ := e3 h1
      have hs : sure' = sure := e2 (by omega)
      rw [a2] at h4
      refine ⟨by rw [h3, a4, hs], h4.mono fun l hl => ?_⟩
      rcases hl with hl | hl
      · exact .inl (by rw [hl, a4, hs])
      · exact .inr ⟨b2, by rw [hl, b1]⟩
  refine ⟨⟨hq, by rw [hk]; exact h.kl, hl.2, fun x2 j2 e => ?_, ?_⟩, hl.1⟩
  · cases e
    exact ⟨hC.si, hC.base.trans a2, hsb, hl.1⟩
  · rw [← hl.1]; exact hC.si.len.1
section
variable {W w : World} {S R G : List Own} {Φ : PW}
theorem disky_in [Stable Φ] (e : Int) : GivesIn Φ Tryd.prog F.erratalaw06_disky #[.int .i64 e] (.bool (decide (e = 9) || decide (e = 10))) :=
  gives_in (Berratalaw06_disky_run e) fun W R => fun w G cx w G cx => ⟨rfl, cx.left⟩
end
end Go.Proofs.YtfccagphnfceiaaDoor
end

/-
  The law that a journal lasts: walked.
-/
section
set_option linter.unusedVariables false
set_option linter.unusedSimpArgs false
namespace Go.Proofs.YtfccagphnfceiaaDoor
open Go.Vc

section
variable {W w : World} {S R G : List Own} {Φ : PW}
set_option maxHeartbeats 4000000 in
theorem lasts_pin [Stable Φ] (hi : JI Φ) {lp kp : Option Addr} {lc kc : Nat} {l : List OpJ} {kl : List Int} {b o : Nat} {cs : List (List Value)} (hlp : 0 < l.length → lp = some ⟨b, o, none⟩) (hpin : ∀ M w, Φ M w → Pin b o cs l M w) (hkeep : ∀ M w, Φ M w → Sl M w kp kl) (hll : l.length ≤ 9223372036854775807) :
    GivesIn Φ Tryd.prog F.erratalaw06_JournalLasts #[.slice lp l.length lc, .slice kp kl.length kc] (.bool true) := by
  refine gives_in (Merratalaw06_JournalLasts_run lp l.length lc kp kl.length kc) fun W R => fun w G cx => (small_in hi).use cx fun w cx => ⟨true, rfl, R, Φ, inferInstance, cx, fun w G cx => (few_inJ hlp hpin hll).use cx fun w cx => ⟨fewB l, rfl, R, Φ, inferInstance, cx, Br.intro (fun h => fun w G cx => ⟨rfl, cx.left⟩) (fun hfew => Br.intro (fun h => fun w G cx => ⟨rfl, cx.left⟩) (fun hk50 => fun w G cx => DNew_use cx fun q0 w hq cx => ?_))⟩⟩
  have hfew := fewB_yes (by simpa using hfew)
  have hk50 : kl.length ≤ 50 := by have := of_decide_eq_false hk50; omega
  have hi1 : JI (fun M w => Φ M w ∧ dkF q0 dsNew M w) := hi.weak fun _ _ h => h.1
  have hkk : DkK (fun M w => Φ M w ∧ dkF q0 dsNew M w) q0 dsNew := ⟨Nat.zero_le _, fun M w h => h.2⟩
  refine ⟨_, rfl, dkL q0 dsNew ++ R, fun M w => Φ M w ∧ dkF q0 dsNew M w, inferInstance, cx.re (List.append_assoc _ _ _).symm, Br.intro (fun h => by cases h) (fun _ => fun w G cx => ?_)⟩
  refine WOpen_use hi1 hq hkk (b := 3) ⟨by decide, by decide⟩ (P := fun l => l = []) (new_fut 3) (cx.re (List.append_assoc _ _ _)) (fun u d' e w he' hd' hno _ _ _ _ => absurd dsNew_h hno) (fun u x d j w hd' hfine hm hlv hbr hP hb hkp cx => ?_)
  refine ⟨_, _, rfl, JoO x q0 j ++ (dkL (q0.mv u) d ++ R), _, inferInstance, j_out cx, Br.intro (fun h => by cases h) (fun _ => ?_)⟩
  have hk0 : d.keep = [] := hkp
  have hf0 := hlv.fut (P := mayP [] [] false) (.inl hP)
  rw [hb] at hf0
  have hI0 : LI (q0.mv u) d (some (x, j)) [] [] false := ⟨hm.dq, by rw [hk0]; exact Nat.zero_le _, hf0, fun x' j' e => (by cases e; exact ⟨.of_live hlv, hb, hm.sb, hP⟩), Nat.zero_le _⟩
  obtain ⟨db, hdb⟩ : ∃ db, q0.db = db := ⟨_, rfl⟩
  refine exI_mk (LInv l.length db Φ R) ⟨⟨oO (q0.mv u) (some (x, j)) ++ (dkL (q0.mv u) d ++ R), LF Φ (q0.mv u).kp d.keep none [] none [], l.length + 1, inferInstance, fun w G cx => cx.weak fun M w h => ⟨⟨h.1, by rw [hk0]; exact Sl.nil⟩, Sl.nil, Sl.nil⟩, 0, q0.mv u, d, some (x, j), [], [], rfl, rfl, Nat.le_refl _, rfl, rfl, by omega, hdb, rfl, rfl, hI0⟩, ?_⟩
  rw [hdb]
  clear cx hI0 hf0 hlv hbr hP hb hkp hm hk0 hfine hd' hkk hi1 hq
  rintro pj ps ks cs' pm km cm failed n R1 Φ1 k st ⟨i, q, d, jo, sure, maybe, rfl, rfl, hcs, rfl, rfl, hik, rfl, rfl, rfl, hI⟩
  refine Br.intro (fun hle => fun _ => ?_) (fun hgt => fun w G cx => ⟨rfl, (b_end cx).weak fun M w h => h.1.1⟩)
  have hle : i ≤ l.length := by have := of_decide_eq_true hle; omega
  obtain ⟨k, rfl⟩ : ∃ m, k = m + 1 := ⟨k - 1, by omega⟩
  have hI64 : I64 ((i : Int) + 1) := by unfold I64; omega
  -- the operation
  refine exI_mk (fun kind pl kl2 cl nn pk kk ck R' Φ' => ∃ (q' : DkP) (d' : DsS) (z : OpJ), kind = z.kind ∧ kl2 = z.L.length ∧ nn = z.n ∧ kk = z.keep.length ∧ q'.db = q.db ∧ R' = oO q' jo ++ (dkL q' d' ++ R) ∧ Φ' = LF (OF Φ pl z.L pk z.keep) q'.kp d'.keep ps sure pm maybe ∧ LI q' d' jo sure maybe failed ∧ textsB z.L = true ∧ z.keep.length ≤ 50 ∧ I64 z.n ∧ (i = l.length → d'.lost = 0 ∧ d'.armed = 0 ∧ z.kind = 4)) ⟨Br.intro (fun hlt => ?_) (fun hge => ?_), ?_⟩
  · have hlt : i < l.length := by have := of_decide_eq_true hlt; omega
    have hlp := hlp (by omega)
    refine ⟨⟨by omega, by omega⟩, ptrK_intro b o hlp fun w G cx => ?_⟩
    have hp1 := hpin _ _ cx.phi.1.1
    obtain ⟨p1, c1, q1, e1, he, hk64, hn64, hL, hK, _⟩ := opj_pin hp1 hlt
    have hli := hfew.1 _ (List.getElem_mem hlt)
    refine ⟨_, _, _, _, _, _, _, _, by rw [Int.toNat_natCast]; exact opj_row hp1 hlt he, _, LF (OF Φ p1 l[i].L q1 l[i].keep) q.kp d.keep ps sure pm maybe, inferInstance, fun w G cx => cx.weak fun M w h => ⟨⟨⟨h.1.1, opj_sl (hpin M w h.1.1) hlt he⟩, h.1.2⟩, h.2⟩, q, d, l[i], rfl, rfl, rfl, rfl, rfl, rfl, rfl, hI, hli.1, hli.2, hn64, fun h => by omega⟩
  · have hge : i = l.length := by have := of_decide_eq_false hge; omega
    intro w G cx
    refine Lose_use (S := oO q jo ++ (R ++ G)) hI.dq (by unfold I64; omega) (o_in cx) fun w hq1 cx => ⟨rfl, oO q jo ++ (dkL q (loseS d 0) ++ R), _, inferInstance, jd_out cx, fun w G cx => ?_⟩
    refine Arm_use (S := oO q jo ++ (R ++ G)) hq1 (n := 0) (by unfold I64; omega) (l := []) (Nat.zero_le _) (fun M w _ => Sl.nil) (o_in cx) fun p' c' w hq2 cx => ⟨rfl, oO q jo ++ (dkL { q with kp := p', kc := c' } (armS (loseS d 0) 0 []) ++ R), _, inferInstance, jd_out cx, _, LF (OF Φ none [] kp kl) p' [] ps sure pm maybe, inferInstance, fun w G cx => cx.weak fun M w h => ⟨⟨⟨h.1.1.1, Sl.nil, hkeep M w h.1.1.1⟩, Sl.nil⟩, h.1.2⟩, { q with kp := p', kc := c' }, armS (loseS d 0) 0 [], ⟨4, [], 0, kl⟩, rfl, rfl, rfl, rfl, rfl, rfl, rfl, hI.frame hq2 rfl (Nat.zero_le _), by simp [textsB], hk50, by show I64 0; unfold I64; decide, fun _ => ⟨rfl, rfl, rfl⟩⟩
  clear hI
  rintro kind pl kl2 cl nn pk kk ck R1 Φ1 st ⟨q', d', z, rfl, rfl, rfl, rfl, hdb', rfl, rfl, hI, hzt, hzk, hzn, hlast⟩
  rw [← hdb']
  have fz := texts_form hzt
  have lz := (textsB_yes hzt).2
  have back : ∀ M w, LF (OF Φ pl z.L pk z.keep) q'.kp d'.keep ps sure pm maybe M w → LF Φ q'.kp d'.keep ps sure pm maybe M w := fun M w h => ⟨⟨h.1.1.1, h.1.2⟩, h.2⟩
  obtain ⟨Ω, hΩ⟩ : ∃ Ω : PW, LF (OF Φ pl z.L pk z.keep) q'.kp d'.keep ps sure pm maybe = Ω := ⟨_, rfl⟩
  have stΩ : Stable Ω := by rw [← hΩ]; infer_instance
  rw [hΩ] at back ⊢
  have kΩ : ∀ M w, Ω M w → Sl M w q'.kp d'.keep := by rw [← hΩ]; exact fun M w h => h.1.2
  have zL : ∀ M w, Ω M w → Sl M w pl z.L := by rw [← hΩ]; exact fun M w h => h.1.1.2.1
  have zK : ∀ M w, Ω M w → Sl M w pk z.keep := by rw [← hΩ]; exact fun M w h => h.1.1.2.2
  have sΩ : ∀ M w, Ω M w → Sl M w ps sure := by rw [← hΩ]; exact fun M w h => h.2.1
  have mΩ : ∀ M w, Ω M w → Sl M w pm maybe := by rw [← hΩ]; exact fun M w h => h.2.2
  have hiΩ : JI Ω := hi.weak fun M w h => (back M w h).1.1
  have hinv : ∀ {ps2 pm2 : Option Addr} {cs2 cm2 : Nat} {q2 : DkP} {d2 : DsS} {jo2 : Option (JoP × JouS)} {sure2 maybe2 : List ByteArray} {failed2 : Bool}, sure2.length ≤ cs2 → q2.db = q'.db → LI q2 d2 jo2 sure2 maybe2 failed2 → LInv l.length q'.db Φ R (oP jo2) ps2 sure2.length cs2 pm2 maybe2.length cm2 failed2 ((i : Int) + 1) (oO q2 jo2 ++ (dkL q2 d2 ++ R)) (LF Φ q2.kp d2.keep ps2 sure2 pm2 maybe2) k := fun hc hd hI2 => ⟨i + 1, _, _, _, _, _, rfl, rfl, hc, rfl, by omega, by omega, hd, rfl, rfl, hI2⟩
  refine Br.intro (fun h0 => Br.intro (fun _ => ?A1) (fun h => absurd (of_decide_eq_true h0) (of_decide_eq_false h))) (fun h0 => Br.intro (fun h1 => ?A2) (fun h1 => Br.intro (fun h2 => ?lose) (fun h2 => Br.intro (fun h3 => ?arm) (fun h3 => Br.intro (fun h4 => Br.intro (fun _ => ?C1) (fun h => absurd (of_decide_eq_true h4) (of_decide_eq_false h))) (fun h4 => Br.intro (fun h5 => ?C2) (fun h5 => ?skip))))))
  case skip => exact ⟨hI64, _, _, k, inferInstance, fun w G cx => cx.weak back, hinv hcs rfl hI, Nat.lt_succ_self _⟩
  case lose =>
    refine fun w G cx => Lose_use (S := oO q' jo ++ (R ++ G)) hI.dq hzn (o_in cx) fun w hq1 cx => ⟨rfl, oO q' jo ++ (dkL q' (loseS d' z.n) ++ R), Ω, inferInstance, jd_out cx, hI64, _, _, k, inferInstance, fun w G cx => cx.weak back, hinv (d2 := loseS d' z.n) hcs rfl (hI.frame hq1 rfl hI.kl), Nat.lt_succ_self _⟩
  case arm =>
    refine fun w G cx => Arm_use (S := oO q' jo ++ (R ++ G)) hI.dq hzn (by omega) zK (o_in cx) fun p' c' w hq2 cx => ⟨rfl, oO q' jo ++ (dkL { q' with kp := p', kc := c' } (armS d' z.n z.keep) ++ R), _, inferInstance, jd_out cx, hI64, _, _, k, inferInstance, fun w G cx => cx.weak fun M w h => ⟨⟨(back M w h.1).1.1, h.2⟩, (back M w h.1).2⟩, hinv (q2 := { q' with kp := p', kc := c' }) (d2 := armS d' z.n z.keep) hcs rfl (hI.frame hq2 rfl (by show z.keep.length ≤ _; omega)), Nat.lt_succ_self _⟩
  case A1 | A2 =>
    cases jo with
    | none => exact Br.intro (fun _ => ⟨hI64, _, _, k, inferInstance, fun w G cx => cx.weak back, hinv hcs rfl hI, Nat.lt_succ_self _⟩) (fun h => by cases h)
    | some xj =>
      obtain ⟨x, j⟩ := xj
      obtain ⟨si, hb, sb, hsj⟩ := hI.jou x j rfl
      have hss : ∀ y ∈ sure, y.size ≤ maxLen := by rw [← hsj]; exact si.len.2
      have hszL : ∀ y ∈ z.L, y.size ≤ maxLen := fun y hy => Nat.le_trans ((textsB_yes hzt).1 y hy) (by unfold maxLen; omega)
      have hsl := hI.sl
      refine Br.intro (fun h => by cases h) (fun _ => ⟨[], tru, inferInstance, fun w G cx => cut_to cx (List.nil_sublist _), fun g => ⟨fun w G cx => cut_to cx (List.nil_sublist _), fun w G cx => ?_⟩⟩)
      obtain ⟨p2, c2, w2, hr2, cx2⟩ := clone_strs (c2 := cs') (S := (JoO x q' j ++ (dkL q' d' ++ R)) ++ G) sΩ (by omega) cx
      refine ⟨p2, _, c2, w2, hr2, .buf p2 sure.length c2 (strC sure) 9 1 :: (JoO x q' j ++ (dkL q' d' ++ R)), Ω, inferInstance, cx2, fun w G cx => cut_to cx (List.nil_sublist _), fun w G cx => ?_⟩
      obtain ⟨p3, c3, w3, hr3, cx3⟩ := grow_strs (c2 := cl) (S := (JoO x q' j ++ (dkL q' d' ++ R)) ++ G) zL (by omega) cx
      obtain ⟨c4, s4, _, hc3, _⟩ := cx3.freeze (elems_strJ (l := sure ++ z.L) fun y hy => (List.mem_append.1 hy).elim (hss y) (hszL y))
      have c5 := c4.add (Ψ := fun M w => Sl M w p3 (sure ++ z.L)) s4
      refine ⟨p3, _, c3, w3, hr3, JoO x q' j ++ (dkL q' d' ++ R), fun M w => Ω M w ∧ Sl M w p3 (sure ++ z.L), inferInstance, c5, ?_⟩
      clear c5 c4 s4 cx3 cx2 hr2 hr3 cx
      refine exI_mk (fun pn kn cn e R' Φ' => ∃ (u : DkU) (r : DsS × JouS × Int) (x' : JoP) (next : List ByteArray), e = r.2.2 ∧ CallR d' j next r ∧ kn = next.length ∧ kn ≤ cn ∧ R' = JoO x' q' r.2.1 ++ (dkL (q'.mv u) r.1 ++ R) ∧ (Φ' = fun M w => Ω M w ∧ Sl M w pn next) ∧ DkQ (q'.mv u) r.1 ∧ r.1.keep = d'.keep ∧ SB x'.p x'.cap r.2.1.list x'.o ∧ x'.jb = x.jb) ⟨Br.intro (fun hk => ?_) (fun hk => ?_), ?_⟩
      · intro w G cx
        refine WAppend_use (Φ := fun M w => Ω M w ∧ Sl M w p3 (sure ++ z.L)) (S := R ++ G) (hiΩ.weak fun _ _ h => h.1) ⟨hI.dq, hI.kk fun M w h => kΩ M w h.1, sb⟩ si (fun M w h => zL M w h.1) (by omega) (j_in cx) fun u p c o2 r w hr hC hm hk2 cx => ⟨r.2.2, rfl, JoO (x.mv p c o2) q' r.2.1 ++ (dkL (q'.mv u) r.1 ++ R), _, inferInstance, j_out cx, _, _, inferInstance, fun w G cx => cx, u, r, x.mv p c o2, sure ++ z.L, rfl, by rw [hsj] at hC; exact hC, rfl, hc3, rfl, rfl, hm.dq, hk2, hm.sb, rfl⟩
      · intro w G cx
        refine WCut_use (Φ := fun M w => Ω M w ∧ Sl M w p3 (sure ++ z.L)) (n := z.n) (S := R ++ G) (hiΩ.weak fun _ _ h => h.1) ⟨hI.dq, hI.kk fun M w h => kΩ M w h.1, sb⟩ si (j_in cx) fun u p c o2 r w hr hC hm hk2 cx => ⟨r.2.2, rfl, JoO (x.mv p c o2) q' r.2.1 ++ (dkL (q'.mv u) r.1 ++ R), fun M w => Ω M w ∧ Sl M w p3 (sure ++ z.L), inferInstance, j_out cx, fun g => ⟨⟨by omega, by omega⟩, fun w G cx => ?_⟩⟩
        rw [hsj] at hC
        have hmin : (max 0 (min z.n (sure.length : Int))).toNat = (sure.take z.n.toNat).length := by rw [List.length_take]; omega
        rw [sub_z, hmin]
        obtain ⟨p5, c5, w5, hr5, cx5⟩ := clone_strs (Φ := fun M w => Ω M w ∧ Sl M w p3 (sure ++ z.L)) (c2 := cs') (q := ps) (l := sure.take z.n.toNat) (S := (JoO (x.mv p c o2) q' r.2.1 ++ (dkL (q'.mv u) r.1 ++ R)) ++ G) (fun M w h => sl_take (sΩ M w h.1) _) (by rw [List.length_take]; omega) cx
        obtain ⟨c6, s6, _, hc6, _⟩ := cx5.freeze (elems_strJ (l := sure.take z.n.toNat) fun y hy => hss y (List.mem_of_mem_take hy))
        have c7 := (c6.weak fun _ _ h => h.1).add (Ψ := fun M w => Sl M w p5 (sure.take z.n.toNat)) s6
        exact ⟨p5, _, c5, w5, hr5, JoO (x.mv p c o2) q' r.2.1 ++ (dkL (q'.mv u) r.1 ++ R), fun M w => Ω M w ∧ Sl M w p5 (sure.take z.n.toNat), inferInstance, c7, _, _, inferInstance, fun w G cx => cx, u, r, x.mv p c o2, _, rfl, hC, rfl, hc6, rfl, rfl, hm.dq, hk2, hm.sb, rfl⟩
      rintro pn kn cn e R1 Φ1 st ⟨u, r, x', next, rfl, hC, rfl, hcn, rfl, rfl, hq2, hk2, hsb2, hxj⟩
      have hst : Stable (fun M w => Ω M w ∧ Sl M w pn next) := inferInstance
      refine exI_mk (fun ps2 ks2 cs2 R' Φ' => ∃ sure2 : List ByteArray, ks2 = sure2.length ∧ ks2 ≤ cs2 ∧ R' = JoO x' q' r.2.1 ++ (dkL (q'.mv u) r.1 ++ R) ∧ (Φ' = fun M w => Ω M w ∧ Sl M w pn next) ∧ (r.2.2 = 0 → sure2 = next) ∧ (r.2.2 ≠ 0 → sure2 = sure) ∧ ∀ M w, (Ω M w ∧ Sl M w pn next) → Sl M w ps2 sure2)
        ⟨Br.intro (fun h => ⟨_, _, hst, fun w G cx => cx, next, rfl, hcn, rfl, rfl, fun _ => rfl, fun h' => absurd (of_decide_eq_true h) h', fun M w h => h.2⟩) (fun h => ⟨_, _, hst, fun w G cx => cx, sure, rfl, hcs, rfl, rfl, fun h' => absurd h' (of_decide_eq_false h), fun _ => rfl, fun M w h => sΩ M w h.1⟩), ?_⟩
      rintro ps2 ks2 cs2 R1 Φ1 st ⟨sure2, rfl, hcs2, rfl, rfl, e1, e2, hs2⟩
      refine exI_mk (fun pm2 km2 cm2 f2 R' Φ' => ∃ maybe2 : List ByteArray, km2 = maybe2.length ∧ R' = JoO x' q' r.2.1 ++ (dkL (q'.mv u) r.1 ++ R) ∧ (Φ' = fun M w => Ω M w ∧ Sl M w pn next) ∧ (r.2.2 = 9 ∨ r.2.2 = 10 → maybe2 = next ∧ f2 = true) ∧ (¬ (r.2.2 = 9 ∨ r.2.2 = 10) → maybe2 = maybe ∧ f2 = failed) ∧ ∀ M w, (Ω M w ∧ Sl M w pn next) → Sl M w pm2 maybe2)
        ⟨fun w G cx => (disky_in r.2.2).use cx fun w cx => ⟨_, rfl, JoO x' q' r.2.1 ++ (dkL (q'.mv u) r.1 ++ R), _, hst, cx, Br.intro (fun h => ⟨_, _, hst, fun w G cx => cx, next, rfl, rfl, rfl, fun _ => ⟨rfl, rfl⟩, fun h' => absurd (by simpa using h) h', fun M w h => h.2⟩) (fun h => ⟨_, _, hst, fun w G cx => cx, maybe, rfl, rfl, rfl, fun h' => absurd h' (by simpa using h), fun _ => ⟨rfl, rfl⟩, fun M w h => mΩ M w h.1⟩)⟩, ?_⟩
      rintro pm2 km2 cm2 f2 R1 Φ1 st ⟨maybe2, rfl, rfl, rfl, e3, e4, hm2⟩
      obtain ⟨hI2, hlist⟩ := hI.call (x' := x') (u := u) hC hq2 hk2 hsb2 e1 e2 e3 e4
      have hlr := hC.si.len
      intro w G cx
      have hop : oP (some (x, j)) = oP (some (x', r.2.1)) := by show some _ = some _; rw [hxj]
      rw [hop]
      refine All_use (q := q') (S := (dkL (q'.mv u) r.1 ++ R) ++ G) hsb2 (by omega) (cx.re (List.append_assoc _ _ _)) fun g2 w cx => ?_
      have cf := froz (S := (JoO x' q' r.2.1 ++ (dkL (q'.mv u) r.1 ++ R)) ++ G) hlr.2 (cx.re (congrArg (_ :: ·) (List.append_assoc _ _ _).symm))
      refine ⟨_, _, _, rfl, JoO x' q' r.2.1 ++ (dkL (q'.mv u) r.1 ++ R), _, inferInstance, cf, fun w G cx => ?_⟩
      refine (Same_in (fun M w h => h.2) (fun M w h => hs2 M w h.1) (by omega)).use cx fun w cx => ?_
      rw [decide_eq_true hlist]
      refine ⟨true, rfl, JoO x' q' r.2.1 ++ (dkL (q'.mv u) r.1 ++ R), fun M w => Ω M w ∧ Sl M w pn next, hst, cx.weak fun _ _ h => h.1, Br.intro (fun h => by cases h) (fun _ => fun w G cx => ?_)⟩
      refine Len_use (q := q') (S := (dkL (q'.mv u) r.1 ++ R) ++ G) (cx.re (List.append_assoc _ _ _)) fun w cx => ⟨_, rfl, JoO x' q' r.2.1 ++ (dkL (q'.mv u) r.1 ++ R), _, hst, cx.re (List.append_assoc _ _ _).symm, Br.intro (fun h => absurd (by rw [hlist]) (of_decide_eq_true h)) (fun _ => ⟨hI64, JoO x' q' r.2.1 ++ (dkL (q'.mv u) r.1 ++ R), LF Φ q'.kp r.1.keep ps2 sure2 pm2 maybe2, k, inferInstance, fun w G cx => cx.weak fun M w h => ?_, ?_, Nat.lt_succ_self _⟩)⟩
      rotate_left 1
      · have := hinv (q2 := q'.mv u) (d2 := r.1) (jo2 := some (x', r.2.1)) (ps2 := ps2) (pm2 := pm2) (cm2 := cm2) hcs2 rfl hI2
        exact this
      · exact ⟨⟨(back M w h.1).1.1, by rw [hk2]; exact kΩ M w h.1⟩, hs2 M w h, hm2 M w h⟩
  case C1 | C2 =>
    refine exI_mk (fun R' Φ' => ∃ (q2 : DkP) (d2 : DsS), R' = dkL q2 d2 ++ R ∧ Ω = Φ' ∧ q2.db = q'.db ∧ q2.kp = q'.kp ∧ DkQ q2 d2 ∧ d2.keep = d'.keep ∧ JFut d2 3 (mayP sure maybe failed) ∧ (i = l.length → d2.lost = 0 ∧ d2.armed = 0)) ⟨Br.intro (fun hk => ?_) (fun hk => ?_), ?_⟩
    · intro w G cx
      exact Crash_use (q := q') (S := oO q' jo ++ (R ++ G)) hI.dq (by omega) zK (o_in cx) fun u2 w hq1 cx => ⟨rfl, dkL (q'.mv u2) (crashS d' z.keep) ++ R, Ω, stΩ, o_drop cx, dkL (q'.mv u2) (crashS d' z.keep) ++ R, Ω, stΩ, fun w G cx => cx, q'.mv u2, crashS d' z.keep, rfl, rfl, rfl, rfl, hq1, crash_keep _ _, hI.fut.ev (crash_ev hI.dq.w _ _) (crash_ev hI.dq.w _ _), fun h => ⟨(crash_lost _ _).trans (hlast h).1, crash_arm (hlast h).2.1 _⟩⟩
    · exact ⟨dkL q' d' ++ R, Ω, stΩ, fun w G cx => o_drop (o_in cx), q', d', rfl, rfl, rfl, rfl, hI.dq, rfl, hI.fut, fun h => ⟨(hlast h).1, (hlast h).2.1⟩⟩
    rintro R1 Φ1 st ⟨q2, d2, rfl, rfl, hdb2, hkp2, hq2, hk2, hf2, hl2⟩
    have hkl := hI.kl
    have hsl := hI.sl
    clear hI hlast
    rw [← hdb2] at hinv ⊢
    intro w G cx
    refine Start_use (q := q2) (S := R ++ G) hq2 (cx.re (List.append_assoc _ _ _)) fun w hq3 cx => ⟨rfl, dkL q2 (startS d2) ++ R, Ω, inferInstance, cx.re (List.append_assoc _ _ _).symm, fun w G cx => ?_⟩
    have hk3 : (startS d2).keep = d'.keep := hk2
    have kk2 : DkK Ω q2 (startS d2) := ⟨by rw [hk3]; exact hkl, fun M w h => by rw [hkp2, hk3]; exact kΩ M w h⟩
    refine WOpen_use (q := q2) (S := R ++ G) hiΩ hq3 kk2 ⟨by decide, by decide⟩ (hf2.frame (start_files _)) (cx.re (List.append_assoc _ _ _)) (fun u3 d3 e w he hd3 hno hq4 hk4 hf4 cx => ?_) (fun u3 x d3 j w hd3 hfine hm hlv hbr hP hb3 hk4 cx => ?_)
    · have hka : d3.keep = d'.keep := hk4.trans hk3
      refine ⟨none, e, rfl, dkL (q2.mv u3) d3 ++ R, Ω, inferInstance, cx.re (List.append_assoc _ _ _).symm, Br.intro (fun _ => fun w G cx => (disky_in e).use cx fun w cx => ⟨_, rfl, dkL (q2.mv u3) d3 ++ R, Ω, inferInstance, cx, Br.intro (fun h => ?_) (fun _ => Br.intro (fun h => ?_) (fun h => ⟨hI64, _, _, k, inferInstance, fun w G cx => cx.weak fun M w h => ?_, hinv (q2 := q2.mv u3) (d2 := d3) (jo2 := none) hcs rfl ⟨hq4, by rw [hka]; exact hkl, hf4, fun x j e => (by cases e), hsl⟩, Nat.lt_succ_self _⟩))⟩) (fun h => by cases h)⟩
      · rcases he with rfl | rfl <;> simp at h
      · obtain ⟨a1, a2⟩ := hl2 (by have := of_decide_eq_true h; omega)
        exact absurd ⟨rfl, a2, a1⟩ hno
      · show LF Φ q2.kp d3.keep ps sure pm maybe M w
        rw [hkp2, hka]
        exact back M w h
    · have hjl := (SI.of_live hlv).len
      have hka : d3.keep = d'.keep := hk4.trans hk3
      refine ⟨_, 0, rfl, JoO x q2 j ++ (dkL (q2.mv u3) d3 ++ R), Ω, inferInstance, j_out cx, Br.intro (fun h => by cases h) (fun _ => ?_)⟩
      refine exI_mk (fun R' Φ' => R' = JoO x q2 j ++ (dkL (q2.mv u3) d3 ++ R) ∧ Ω = Φ') ⟨Br.intro (fun h => by simp at h) (fun _ => fun w G cx => ?_), ?_⟩
      · refine All_use (q := q2) (S := (dkL (q2.mv u3) d3 ++ R) ++ G) hm.sb (by omega) (cx.re (List.append_assoc _ _ _)) fun g2 w cx => ?_
        have cf := froz (S := (JoO x q2 j ++ (dkL (q2.mv u3) d3 ++ R)) ++ G) hjl.2 (cx.re (congrArg (_ :: ·) (List.append_assoc _ _ _).symm))
        refine ⟨_, _, _, rfl, JoO x q2 j ++ (dkL (q2.mv u3) d3 ++ R), _, inferInstance, cf, fun w G cx => ?_⟩
        refine (Same_in (fun M w h => h.2) (fun M w h => sΩ M w h.1) (by omega)).use cx fun w cx => ?_
        refine ⟨_, rfl, JoO x q2 j ++ (dkL (q2.mv u3) d3 ++ R), Ω, inferInstance, cx.weak fun _ _ h => h.1, Br.intro (fun h => Br.intro (fun hfl => fun w G cx => ?_) (fun hfl => ?_)) (fun _ => ⟨_, Ω, inferInstance, fun w G cx => cx, rfl, rfl⟩)⟩
        · have hmay : j.list = maybe := by
            rcases hP with hP | hP
            · rw [decide_eq_true hP] at h; cases h
            · exact hP.2
          refine All_use (q := q2) (S := (dkL (q2.mv u3) d3 ++ R) ++ G) hm.sb (by omega) (cx.re (List.append_assoc _ _ _)) fun g2 w cx => ?_
          have cf := froz (S := (JoO x q2 j ++ (dkL (q2.mv u3) d3 ++ R)) ++ G) hjl.2 (cx.re (congrArg (_ :: ·) (List.append_assoc _ _ _).symm))
          refine ⟨_, _, _, rfl, JoO x q2 j ++ (dkL (q2.mv u3) d3 ++ R), _, inferInstance, cf, fun w G cx => ?_⟩
          refine (Same_in (fun M w h => h.2) (fun M w h => mΩ M w h.1) (by omega)).use cx fun w cx => ?_
          rw [decide_eq_true hmay]
          exact ⟨true, rfl, JoO x q2 j ++ (dkL (q2.mv u3) d3 ++ R), Ω, inferInstance, cx.weak fun _ _ h => h.1, Br.intro (fun h => by cases h) (fun _ => ⟨_, Ω, inferInstance, fun w G cx => cx, rfl, rfl⟩)⟩
        · rcases hP with hP | hP
          · rw [decide_eq_true hP] at h; cases h
          · rw [hP.1] at hfl; cases hfl
      rintro R1 Φ1 st ⟨rfl, rfl⟩
      intro w G cx
      refine All_use (q := q2) (S := (dkL (q2.mv u3) d3 ++ R) ++ G) hm.sb (by omega) (cx.re (List.append_assoc _ _ _)) fun g2 w cx => ?_
      have cf := froz (S := (JoO x q2 j ++ (dkL (q2.mv u3) d3 ++ R)) ++ G) hjl.2 (cx.re (congrArg (_ :: ·) (List.append_assoc _ _ _).symm))
      have hf5 := hlv.fut (P := mayP j.list maybe false) (.inl rfl)
      rw [hb3] at hf5
      refine ⟨_, _, _, rfl, JoO x q2 j ++ (dkL (q2.mv u3) d3 ++ R), _, inferInstance, cf, hI64, _, _, k, inferInstance, fun w G cx => cx.weak fun M w h => ?_, hinv (q2 := q2.mv u3) (d2 := d3) (jo2 := some (x, j)) (sure2 := j.list) (maybe2 := maybe) (failed2 := false) (Nat.le_refl _) rfl ⟨hm.dq, by rw [hka]; exact hkl, hf5, fun x' j' e => (by cases e; exact ⟨.of_live hlv, hb3, hm.sb, rfl⟩), hjl.1⟩, Nat.lt_succ_self _⟩
      exact ⟨⟨(back M w h.1).1.1, by rw [hka]; show Sl M w q2.kp _; rw [hkp2]; exact kΩ M w h.1⟩, h.2, mΩ M w h.1⟩
theorem Lasts_in [Stable Φ] (hi : JI Φ) {lp kp : Option Addr} {lc kc : Nat} {l : List OpJ} {kl : List Int} (hl : ∀ M w, Φ M w → Sl M w lp l) (hk : ∀ M w, Φ M w → Sl M w kp kl) (hll : l.length ≤ 9223372036854775807) :
    GivesIn Φ Tryd.prog F.erratalaw06_JournalLasts #[.slice lp l.length lc, .slice kp kl.length kc] (.bool true) := ⟨fun W w S cx => by
  obtain ⟨g, o, cs, hp, cx'⟩ := cx.pin (hl _ _ cx.phi)
  exact ((lasts_pin (Φ := fun M w => Φ M w ∧ Pin g o cs l M w) (hi.weak fun _ _ h => h.1) hp (fun M w h => h.2) (fun M w h => hk M w h.1) hll).go W w S cx').mono fun e w' ⟨he, c'⟩ => ⟨he, c'.weak fun _ _ h => h.1⟩⟩
end
end Go.Proofs.YtfccagphnfceiaaDoor
end

/-
  From what a row lists as laid to the facts of the walk.
-/
section
set_option linter.unusedVariables false
set_option linter.unusedSimpArgs false
namespace Go.Proofs.YtfccagphnfceiaaDoor
open Go.Vc Go.RowKit


theorem la_row (u : TypeId) (h : Tryd.prog.typeName? 3 u = some "*errors.errorString") : u = 140 :=
  typeName_ptr_named (nm := "errors.errorString") (by rw [show "*" ++ "errors.errorString" = "*errors.errorString" by decide]; kernel_rfl) (by kernel_rfl) (by decide) u (by rw [show "*" ++ "errors.errorString" = "*errors.errorString" by decide]; exact h)

theorem la_err {n : String} {text : List UInt8} {r : List (String × DataW Unit)} {W : World} {g : Nat} (h : laidMet Tryd.prog ((n, .iface "*errors.errorString" (.ptr (.agg [.lit (.string text)]))) :: r) W)
    (hg : Tryd.prog.globalNamed n = some g) (ht : (Tryd.prog.globals[g]?).map (·.type) = some 92) : ErrAt g [] W := by
  obtain ⟨a, s, hv, _⟩ := laid_sentinel h hg ht Tryd.underlying92 la_row Tryd.underlying140 Tryd.underlying142 rfl rfl Tryd.underlying9 (by kernel_rfl) (by kernel_rfl)
  exact ⟨by simp, _, by have h0 := World.var?_cell hg hv 0; simpa using h0, .inr ⟨_, _, rfl⟩⟩

abbrev LaidI : PW := fun M w => NumI M w ∧ OffI M w
theorem la_num {W : World} (h : laidMetH Tryd.prog Rows.journalReadsRow.laid W) : LaidI [] W := by
  rw [MakeChecks.laidMetH_plain Tryd.prog Rows.journalReadsRow.laid W (by kernel_rfl)] at h
  have h2 := h.tail.tail
  exact ⟨⟨Tab.start (Lib.tabIs_of_head (k := .u64) (zs := Lib.pow10Tab) (g := 1) (t := 127) (e := 110) (n := 20) (by kernel_rfl) (by kernel_rfl) (by kernel_rfl) (by kernel_rfl) (by kernel_rfl) (by kernel_rfl) h2),
    la_err h2.tail.tail.tail (by kernel_rfl) (by kernel_rfl), la_err h2.tail.tail (by kernel_rfl) (by kernel_rfl)⟩,
    Tab.start (Lib.tabIs_of_head (k := .i64) (zs := [0, 64, 131072]) (g := 0) (t := 87) (e := 3) (n := 3) (by kernel_rfl) (by kernel_rfl) (by kernel_rfl) (by kernel_rfl) (by kernel_rfl) (by kernel_rfl) h2.tail)⟩

end Go.Proofs.YtfccagphnfceiaaDoor
end

section
set_option linter.unusedVariables false
set_option linter.unusedSimpArgs false
namespace Go.Proofs.YtfccagphnfceiaaDoor
open Go.ChangeShapes Go.WideShapes Go.ChangeAt Go.RowKit Go.Vc


theorem df_own : ownKnob Tryd.prog.godebug = none := by kernel_rfl
theorem df_laid : laidOutB Tryd.prog = true := by kernel_rfl

theorem trodAll_n {H : Type} {enc : TypeId × Value → H} {P : Program} {w : World} {base : Nat} {spare : Nat → Bool} {held : Bool} {t0 t1 : TypeId} {args : Array Value} {ds : List (DataW H)} {ps : List MemPlace} (h : DataW.TrodAll enc P w base spare held [t0, t1] args.toList ds ps) :
    ∃ v0 v1 d0 d1 p0 p1, args = #[v0, v1] ∧ ds = [d0, d1] ∧ ps = p0 ++ p1 ∧ DataW.Trod enc P w base spare held t0 v0 d0 p0 ∧ DataW.Trod enc P w base spare held t1 v1 d1 p1 := by
  obtain ⟨v0, vs0, d0, ds0, p0, q0, hargs, rfl, rfl, h0, h⟩ := trodAll_cons h
  obtain ⟨v1, vs1, d1, ds1, p1, q1, rfl, rfl, rfl, h1, h⟩ := trodAll_cons h
  obtain ⟨rfl, rfl, rfl⟩ := trodAll_nil h
  exact ⟨v0, v1, d0, d1, p0, p1, by cases args; simp_all, rfl, by simp, h0, h1⟩

theorem door_met (os : Os) (args : Array Value) : laidMetH Tryd.prog Rows.journalLastsRow.laid ((World.doorLaid Tryd.prog 400 os).forCall (fun _ _ => 0) ⟨#[], args, []⟩).memory :=
  laidMetH_of_parts3 (fuel := 8) (laidMet_of_run' 8 (by kernel_rfl) (by kernel_rfl)) (by kernel_rfl) (by kernel_rfl)

set_option maxRecDepth 100000 in
theorem law_lifted (os : Os) (started : os.Started) (H : Type) (enc : TypeId × Value → H) :
    ReturnsInHanded {} Tryd.checked os 6 .any (fun w args => (Rows.journalLastsSpec.pre enc Tryd.prog Tryd.f6 Rows.journalLastsRow.domain false w args ∧ laidMetH Tryd.prog Rows.journalLastsRow.laid w) ∧ sizedMet enc Tryd.prog Tryd.f6 (OpenSpec.ofChange Rows.journalLastsSpec) false w args) (Rows.journalLastsSpec.post enc Tryd.prog Tryd.f6 false true false false) := by
  refine lawTrueLaid (C := Tryd.checked) (tb := 4) df_own started (by kernel_rfl) Tryd.func6 df_laid rfl ?_ rfl Tryd.underlying4 (by kernel_rfl)
    (ChangeSpec.witness_shaped (enc := enc) (C := Tryd.checked) (os := os) (X := fun w _ => laidMetH Tryd.prog Rows.journalLastsRow.laid w) false (World.doorLaid Tryd.prog 400 os) #[.slice none 0 0, .slice none 0 0] 8 rfl (World.shaped_of_RefB (by kernel_rfl) (by kernel_rfl)) (by kernel_rfl) (by kernel_rfl) (by kernel_rfl) (door_met os _)) ?_
  · intro ds hd
    match ds, hd with
    | [_, _], _ => exact ⟨rfl, rfl, rfl⟩
  · intro W base args ds p hval0 hA0 _ hL
    have hval : ∀ (j : Nat) t v, Tryd.f6.params[j]? = some t → args[j]? = some v → Value.okWide Tryd.prog W .any base t v := hval0
    have hA : DataW.TrodAll enc Tryd.prog W 0 (fun _ => true) true Tryd.f6.params.toList args.toList ds p := hA0
    rw [Tryd.params6] at hA hval
    obtain ⟨v0, v1, d0, d1, p0, p1, rfl, rfl, rfl, h0, h1⟩ := trodAll_n hA
    obtain ⟨lp, lc, l, rfl, la, lb, s0⟩ := open_sl (α := OpJ) 12 Tryd.underlying45 (hval 0 45 v0 rfl rfl) (by kernel_rfl) h0
    obtain ⟨keepp, keepc, keep, rfl, keepa, keepb, s1⟩ := open_sl (α := Int) 12 Tryd.underlying46 (hval 1 46 v1 rfl rfl) (by kernel_rfl) h1
    have st0 : Stable (fun M w => Sl M w keepp keep) := inferInstance
    have st1 : Stable (fun M w => Sl M w lp l ∧ Sl M w keepp keep) := instStableAnd (fun M w => Sl M w lp l) (fun M w => Sl M w keepp keep)
    have st2 : Stable (fun M w => LaidI M w ∧ Sl M w lp l ∧ Sl M w keepp keep) := instStableAnd (fun M w => LaidI M w) (fun M w => Sl M w lp l ∧ Sl M w keepp keep)
    have fin : GivesIn (fun M w => LaidI M w ∧ Sl M w lp l ∧ Sl M w keepp keep) Tryd.prog 6 _ (.bool true) := Lasts_in (Φ := (fun M w => LaidI M w ∧ Sl M w lp l ∧ Sl M w keepp keep)) ⟨fun _ _ h => h.1.1, fun _ _ h => h.1.2⟩ (lp := lp) (lc := lc) (l := l) (kp := keepp) (kc := keepc) (kl := keep) (fun _ _ h => h.2.1) (fun _ _ h => h.2.2) (by unfold maxLen at *; omega)
    exact fin.law ⟨la_num hL, s0, s1⟩

theorem row_holds : Rows.JournalLastsSaid :=
  OpenClaim.holds_of_wide 6 Tryd.f6 rfl rfl rfl rfl rfl rfl rfl ⟨rfl, rfl, rfl, rfl, rfl⟩ rfl rfl rfl rfl rfl (by kernel_rfl) Tryd.func6 (by kernel_rfl)
    (of_decide_eq_true (by kernel_rfl)) (by unfold Func.isWrapper; first | (rw [if_pos (by decide +kernel)]; kernel_rfl) | (rw [if_neg (by decide +kernel)]; exact ⟨rfl, rfl⟩))
    (fun os started H enc _ => law_lifted os started H enc)

theorem lasts_holds : Rows.JournalLastsCardSaid :=
  Claim7.holds_tied_plain_at .later [] [.data, .data, .data, .data, .sentinel, .sentinel] true Rows.journalLastsCard.stood.harness true
    row_holds (fun _ h => by cases h) (by kernel_rfl) (fun _ h => by cases h) journalLasts_row_tie rfl ⟨rfl, rfl⟩ (by kernel_rfl) rfl
    (fun f fn hf hfn => by
      obtain rfl : f = 6 := Option.some.inj ((show Tryd.prog.funcNamed Rows.journalLastsRow.func = some 6 by kernel_rfl).symm.trans hf) |>.symm
      obtain rfl : fn = Tryd.f6 := (Option.some.inj (Tryd.func6.symm.trans hfn)).symm
      exact ⟨by kernel_rfl, fun j t ht => by
        rw [Tryd.params6] at ht
        have hm := Array.mem_of_getElem? ht
        have hall : ((Tryd.f6.params.toList).all fun u => !Tryd.prog.wantsStandIn u) = true := by kernel_rfl
        rw [Tryd.params6] at hall
        exact (show Tryd.prog.wantsStandIn t = false by simpa using List.all_eq_true.1 hall t (by simpa using hm))⟩)
    (by kernel_rfl)

end Go.Proofs.YtfccagphnfceiaaDoor
end

