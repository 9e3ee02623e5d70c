/-
  Log, Role, Commit, Hard; the example of the documentation.
-/
import Derived.Test.YtifgijoeckoojaaRq
set_option linter.unusedVariables false
set_option linter.unusedSimpArgs false
namespace Go.Proofs.Ytifgijoeckoojaa
open Go.Vc

theorem Log_use {W w : World} {S : List Own} {Φ : PW} [Stable Φ] {b : Nat} {r : Rep} {p : Option Addr} {c : Nat} (cx : Ctx W w (repO b r p c ++ S) Φ) (hok : ∀ x ∈ r.log, x.Ok) (hlen : r.log.length ≤ 4000) {K : Ending → World → Prop}
    (hK : ∀ q cap w', r.log.length ≤ cap → cap ≤ maxLen → Ctx W w' (repO b r p c ++ S) (fun M w => Φ M w ∧ Sl M w q r.log) → K (.returned (.slice q r.log.length cap)) w') :
    Calls Try.prog F.replica_Replica_Log #[.pointer (some ⟨b, 0, none⟩)] w K := by
  refine (Breplica_Replica_Log_run b 0 (J := fun u w' => K (.returned u) w') cx ?_).mono fun e w' ⟨v, he, hj⟩ => by rw [he]; exact hj
  refine fun w G cx => ⟨p, r.log.length, c, cx.get 0 rfl rfl, fun w G cx => ?_⟩
  have cx1 : Ctx W w (S ++ G) (Aside W (repO b r p c) Φ) := Ctx.aside (cx.re (List.append_assoc _ _ _))
  refine CloneR_use cx1 (fun M w h => log_sl h (n := r.log.length) (c := c) (by simp) hok) (by omega) fun q cap w cx => ?_
  obtain ⟨_, hcap1, hcap2⟩ := cx.bufLen 0 rfl
  have cx2 : Ctx W w (.buf q r.log.length cap (recCells r.log) 55 2 :: (repO b r p c ++ (S ++ G))) Φ := cx.unaside.perm List.perm_middle
  obtain ⟨cx3, hs, _⟩ := Ctx.freeze (α := RecD) cx2 (recs_elems hok)
  have hst : Stable (fun M w => Φ M w ∧ Sl M w q r.log) := instStableAnd Φ (fun M w => Sl M w q r.log)
  exact ⟨q, _, cap, rfl, repO b r p c ++ S, fun M w => Φ M w ∧ Sl M w q r.log, hst, gr (cx3.add hs), fun w G cx => hK q cap w hcap1 hcap2 cx.left⟩

theorem Role_q {w : World} {b : Nat} {r : Rep} {p : Option Addr} {c : Nat} (h : Here w b r p c) : Calls Try.prog F.replica_Replica_Role #[.pointer (some ⟨b, 0, none⟩)] w fun e w' => e = .returned (.int .i64 r.role) ∧ w' = w :=
  (Qreplica_Replica_Role_run b 0 w (fun u w' => u = .int .i64 r.role ∧ w' = w) ⟨r.role, h.at 4 rfl, rfl, rfl⟩).mono fun e w' ⟨v, h1, h2, h3⟩ => ⟨by rw [h1, h2], h3⟩

theorem Commit_q {w : World} {b : Nat} {r : Rep} {p : Option Addr} {c : Nat} (h : Here w b r p c) : Calls Try.prog F.replica_Replica_Commit #[.pointer (some ⟨b, 0, none⟩)] w fun e w' => e = .returned (.int .i64 r.commit) ∧ w' = w :=
  (Qreplica_Replica_Commit_run b 0 w (fun u w' => u = .int .i64 r.commit ∧ w' = w) ⟨r.commit, h.at 5 rfl, rfl, rfl⟩).mono fun e w' ⟨v, h1, h2, h3⟩ => ⟨by rw [h1, h2], h3⟩

theorem Commit_use {W w : World} {S : List Own} {Φ : PW} [Stable Φ] {b : Nat} {r : Rep} {p : Option Addr} {c : Nat} (cx : Ctx W w (repO b r p c ++ S) Φ) {K : Ending → World → Prop} (hK : ∀ w', Ctx W w' (repO b r p c ++ S) Φ → K (.returned (.int .i64 r.commit)) w') :
    Calls Try.prog F.replica_Replica_Commit #[.pointer (some ⟨b, 0, none⟩)] w K :=
  (Commit_q (here_of cx)).mono fun e w' ⟨h1, h2⟩ => by subst h2; rw [h1]; exact hK _ cx

theorem Hard_use {W w : World} {S : List Own} {Φ : PW} [Stable Φ] {b : Nat} {r : Rep} {p : Option Addr} {c : Nat} (cx : Ctx W w (repO b r p c ++ S) Φ) {K : Ending → World → Prop} (hK : ∀ w', Ctx W w' (repO b r p c ++ S) Φ → K (.returned (.agg #[.int .i64 r.term, .int .i64 r.vote])) w') :
    Calls Try.prog F.replica_Replica_Hard #[.pointer (some ⟨b, 0, none⟩)] w K := by
  refine (Breplica_Replica_Hard_run b 0 (J := fun u w' => K (.returned u) w') cx ?_).mono fun e w' ⟨v, he, hj⟩ => by rw [he]; exact hj
  exact fun _ w G cx => ⟨r.term, r.vote, cx.row 0 rfl (rows_of (vs := [.int .i64 r.term, .int .i64 r.vote]) rfl), fun w G cx => hK w cx.left⟩

theorem first_msg {W w : World} {S : List Own} {Φ : PW} [Stable Φ] {q1 q2 : Option Addr} {recs : List RecD} {send rest : List MsgR} {m : MsgR} (cx : Ctx W w S (OPhi Φ q1 recs q2 send)) (hs : send = m :: rest) :
    ∃ b o mp mc, ∃ Ψ : PW, Stable Ψ ∧ q2 = some ⟨b, o, none⟩ ∧ Ctx W w S Ψ ∧ (∀ M w, Ψ M w → Φ M w ∧ RowAt w b o (m.cells mp mc) ∧ Sl M w mp m.recs) ∧ m.recs.length ≤ mc ∧ mc ≤ maxLen ∧ m.Ok := by
  obtain ⟨b, o, cs, hp, cx'⟩ := cx.pin cx.phi.2.2
  subst hs
  have h0 : 0 < (m :: rest).length := by simp
  obtain ⟨mp, mc, he, h1, h2, h3⟩ := pin_msg cx'.phi.2 h0
  refine ⟨b, o, mp, mc, fun M w => OPhi Φ q1 recs q2 (m :: rest) M w ∧ Pin b o cs (m :: rest) M w, inferInstance, hp h0, cx', fun M w h => ⟨h.1.1, ?_, ?_⟩, h1, h2, h3⟩
  · have := pin_msgAt h.2 h0 he
    rw [Nat.zero_mul, Nat.add_zero] at this
    exact this
  · exact pin_msgSl h.2 h0 he

theorem swapL {W w : World} {A B S G : List Own} {Φ : PW} [Stable Φ] (c : Ctx W w (A ++ (B ++ S) ++ G) Φ) : Ctx W w (B ++ (A ++ S ++ G)) Φ := by
  refine c.perm ?_
  have e1 : (A ++ (B ++ S) ++ G).Perm ((A ++ B) ++ (S ++ G)) := List.Perm.of_eq (by simp)
  exact e1.trans ((List.Perm.append_right _ List.perm_append_comm).trans (List.Perm.of_eq (by simp)))

theorem out_gr {W : World} {S G : List Own} {Φ : PW} {b : Nat} {r' : Rep} {o : OutR} {J : Value → World → Prop} (h : ∀ p' c' q1 c1 q2 c2 w', o.recs.length ≤ c1 → c1 ≤ maxLen → o.send.length ≤ c2 → c2 ≤ maxLen → Ctx W w' (repO b r' p' c' ++ S ++ G) (OPhi Φ q1 o.recs q2 o.send) → J (outV o q1 c1 q2 c2) w') :
    OutK W (S ++ G) Φ b r' o J := fun p' c' q1 c1 q2 c2 w' h1 h2 h3 h4 cx => h p' c' q1 c1 q2 c2 w' h1 h2 h3 h4 (gr cx)

def exA0 : Rep := newRep 0 0 (-1) []
def exB0 : Rep := newRep 1 0 (-1) []
def exM1 : MsgR := ⟨0, 0, 1, 1, 0, 0, 0, false, []⟩
def exM2 : MsgR := ⟨1, 1, 0, 1, 0, 0, 0, true, []⟩
def exE : RecD := ⟨1, ByteArray.mk #[OfNat.ofNat 97]⟩
def exM4 : MsgR := ⟨2, 0, 1, 1, 0, 0, 0, false, [exE]⟩
def exM5 : MsgR := ⟨3, 1, 0, 1, 1, 0, 0, true, []⟩
def exX1 := tickP exA0
def exX2 := hearP exB0 exM1
def exX3 := hearP exX1.1 exM2
def exX4 := proposeP exX3.1 (ByteArray.mk #[OfNat.ofNat 97])
def exX5 := hearP exX2.1 exM4
def exX6 := hearP exX4.1 exM5

theorem ex1 : exX1.2.save = true ∧ exX1.2.term = 1 ∧ exX1.2.vote = 0 ∧ exX1.2.send.length = 2 ∧ ∃ r, exX1.2.send = exM1 :: r := ⟨by decide, by decide, by decide, by decide, _, rfl⟩
theorem ex2 : exX2.2.send = [exM2] := rfl
theorem ex3 : exX3.2.send.length = 2 ∧ exX3.1.role = 2 := ⟨by decide, by decide⟩
theorem ex4 : exX4.2.1 = 1 ∧ exX4.2.2.1 = 0 ∧ exX4.2.2.2.send.length = 2 ∧ ∃ r, exX4.2.2.2.send = exM4 :: r := ⟨by decide, by decide, by decide, _, rfl⟩
theorem ex5 : exX5.2.src = 1 ∧ exX5.2.send = [exM5] := ⟨by decide, rfl⟩
theorem ex6 : exX6.1.commit = 1 ∧ exX6.1.log.length = 1 ∧ exX5.1.log.length = 1 := ⟨by decide, by decide, by decide⟩

theorem exWa : exA0.Wf := new_wf (by decide) (by decide) (by decide) (by decide) (by decide) ⟨by simp, by simp, by simp, by simp⟩ (by simp)
theorem exWb : exB0.Wf := new_wf (by decide) (by decide) (by decide) (by decide) (by decide) ⟨by simp, by simp, by simp, by simp⟩ (by simp)
theorem exW1 : exX1.1.Wf := (tick_wf exWa).1
theorem exW2 : exX2.1.Wf := (hear_wf exWb).1
theorem exW3 : exX3.1.Wf := (hear_wf exW1).1
theorem exW4 : exX4.1.Wf := (propose_wf exW3 _).1
theorem exW5 : exX5.1.Wf := (hear_wf exW2).1
theorem exW6 : exX6.1.Wf := (hear_wf exW4).1

end Go.Proofs.Ytifgijoeckoojaa
