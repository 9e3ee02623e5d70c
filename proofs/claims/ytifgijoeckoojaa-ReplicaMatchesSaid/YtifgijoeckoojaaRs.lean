/-
  The example of the documentation, walked.
-/
import Derived.Test.YtifgijoeckoojaaRr
set_option linter.unusedVariables false
set_option linter.unusedSimpArgs false
namespace Go.Proofs.Ytifgijoeckoojaa
open Go.Vc

set_option maxHeartbeats 2000000 in
set_option maxRecDepth 10000 in
theorem small_g : Gives Try.prog F.erratalaw08_small #[] (.bool true) := by
  refine gives_of Berratalaw08_small_run fun W R Φ _ => ?_
  refine fun w G cx => New_use cx 0 0 (-1) [] none 0 (fun _ _ _ => Sl.nil) (by simp) (fun h => absurd h (by decide)) fun _ ba pa ca w cx => ⟨some ⟨ba, 0, none⟩, rfl, repO ba exA0 pa ca ++ R, Φ, inferInstance, gr cx, fun w G cx => New_use cx 1 0 (-1) [] none 0 (fun _ _ _ => Sl.nil) (by simp) (fun h => absurd h (by decide)) fun _ bb pb cb w cx => ⟨some ⟨bb, 0, none⟩, rfl, repO bb exB0 pb cb ++ (repO ba exA0 pa ca ++ R), Φ, inferInstance, gr cx, fun w G cx => Br.intro (fun h => by cases h) (fun _ => ?_)⟩⟩
  intro w G cx
  refine Tick_use (swapL cx) exWa.ok (out_gr fun pa ca q1 c1 q2 c2 w _ _ _ _ cx => ?_)
  obtain ⟨y1, y2, y3, y4, r1, y5⟩ := ex1
  obtain ⟨b1, o1, mp1, mc1, Φ1, hst1, hq1, cz1, hΦ1, hl1, hl1', hm1⟩ := first_msg cx y5
  subst hq1
  refine ⟨_, _, _, _, q1, _, c1, some ⟨b1, o1, none⟩, _, c2, rfl, repO ba exX1.1 pa ca ++ (repO bb exB0 pb cb ++ R), Φ1, hst1, cz1, fun _ => Br.intro (fun h => absurd h (by decide)) (fun _ => Br.intro (fun h => absurd h (by decide)) (fun _ => ⟨okAgg40, Br.intro (fun h => absurd h (by decide)) (fun _ => ⟨⟨by decide, by decide⟩, ptrK_intro b1 o1 rfl fun w G cx => ⟨_, _, _, _, _, _, _, _, mp1, _, mc1, (hΦ1 _ _ cx.phi).2.1, fun w G cx => ?_⟩⟩)⟩))⟩
  refine Hear_use (swapL cx) exWb.ok exM1 hm1 mp1 mc1 (fun M w h => (hΦ1 M w h).2.2) hl1 hl1' (out_gr fun pb cb q3 c3 q4 c4 w _ _ _ _ cx => ?_)
  obtain ⟨b2, o2, mp2, mc2, Φ2, hst2, hq2, cz2, hΦ2, hl2, hl2', hm2⟩ := first_msg cx ex2
  subst hq2
  refine ⟨_, _, _, _, q3, _, c3, some ⟨b2, o2, none⟩, _, c4, rfl, repO bb exX2.1 pb cb ++ (repO ba exX1.1 pa ca ++ R), Φ2, hst2, cz2, fun _ w G cx => ⟨fun _ => ⟨by decide, by decide⟩, ptrK_intro b2 o2 rfl ⟨true, fun _ => (hΦ2 _ _ cx.phi).2.1 7 (show 7 < 9 by decide), Br.intro (fun h => absurd h (by decide)) (fun _ => ⟨⟨by decide, by decide⟩, ptrK_intro b2 o2 rfl fun w G cx => ⟨_, _, _, _, _, _, _, _, mp2, _, mc2, (hΦ2 _ _ cx.phi).2.1, fun w G cx => ?_⟩⟩)⟩⟩⟩
  refine Hear_use (swapL cx) exW1.ok exM2 hm2 mp2 mc2 (fun M w h => (hΦ2 M w h).2.2) hl2 hl2' (out_gr fun pa ca q5 c5 q6 c6 w _ _ _ _ cx => ?_)
  refine ⟨_, _, _, _, q5, _, c5, q6, _, c6, rfl, repO ba exX3.1 pa ca ++ (repO bb exX2.1 pb cb ++ R), OPhi Φ2 q5 exX3.2.recs q6 exX3.2.send, inferInstance, cx, fun _ w G cx => ?_⟩
  refine Propose_use (gl cx) exW3.ok (fun hr => exW3.one (by rw [hr]; decide)) _ (out_gr fun pa ca q7 c7 q8 c8 w _ _ _ _ cx => ?_)
  obtain ⟨z1, z2, z3, r4, z4⟩ := ex4
  obtain ⟨b4, o4, mp4, mc4, Φ4, hst4, hq4, cz4, hΦ4, hl4, hl4', hm4⟩ := first_msg cx z4
  subst hq4
  refine ⟨_, _, _, _, _, _, q7, _, c7, some ⟨b4, o4, none⟩, _, c8, rfl, repO ba exX4.1 pa ca ++ (repO bb exX2.1 pb cb ++ R), Φ4, hst4, cz4, fun _ w G cx => ⟨exX4.1.role, fun _ w' hw => by rw [hw]; exact Role_q (here_of (gl cx)), Br.intro (fun h => absurd h (by decide)) (fun _ => ⟨⟨by decide, by decide⟩, ptrK_intro b4 o4 rfl fun w G cx => ⟨_, _, _, _, _, _, _, _, mp4, _, mc4, (hΦ4 _ _ cx.phi).2.1, fun w G cx => ?_⟩⟩)⟩⟩
  refine Hear_use (swapL cx) exW2.ok exM4 hm4 mp4 mc4 (fun M w h => (hΦ4 M w h).2.2) hl4 hl4' (out_gr fun pb cb q9 c9 q10 c10 w _ _ _ _ cx => ?_)
  obtain ⟨b5, o5, mp5, mc5, Φ5, hst5, hq5, cz5, hΦ5, hl5, hl5', hm5⟩ := first_msg cx ex5.2
  subst hq5
  refine ⟨_, _, _, _, q9, _, c9, some ⟨b5, o5, none⟩, _, c10, rfl, repO bb exX5.1 pb cb ++ (repO ba exX4.1 pa ca ++ R), Φ5, hst5, cz5, fun _ w G cx => Br.intro (fun h => absurd h (by decide)) (fun _ => ⟨⟨by decide, by decide⟩, ptrK_intro b5 o5 rfl fun w G cx => ⟨_, _, _, _, _, _, _, _, mp5, _, mc5, (hΦ5 _ _ cx.phi).2.1, fun w G cx => ?_⟩⟩)⟩
  refine Hear_use (swapL cx) exW4.ok exM5 hm5 mp5 mc5 (fun M w h => (hΦ5 M w h).2.2) hl5 hl5' (out_gr fun pa ca q11 c11 q12 c12 w _ _ _ _ cx => ?_)
  refine ⟨_, _, _, _, q11, _, c11, q12, _, c12, rfl, repO ba exX6.1 pa ca ++ (repO bb exX5.1 pb cb ++ R), OPhi Φ5 q11 exX6.2.recs q12 exX6.2.send, inferInstance, cx, fun w G cx => Commit_use (gl cx) fun w cx => ⟨_, rfl, repO ba exX6.1 pa ca ++ (repO bb exX5.1 pb cb ++ R), OPhi Φ5 q11 exX6.2.recs q12 exX6.2.send, inferInstance, gr cx, Br.intro (fun _ w G cx => ?_) (fun h => absurd h (by decide))⟩⟩
  have hΦ : ∀ M w, OPhi Φ5 q11 exX6.2.recs q12 exX6.2.send M w → Φ M w := fun M w h => (hΦ1 M w (hΦ2 M w (hΦ4 M w (hΦ5 M w h.1).1).1.1).1).1
  have hst6 : Stable (OPhi Φ5 q11 exX6.2.recs q12 exX6.2.send) := inferInstance
  generalize OPhi Φ5 q11 exX6.2.recs q12 exX6.2.send = Φ6 at cx hΦ hst6
  refine Log_use (gl cx) exW6.ok.recs exW6.ok.len fun q cap w _ _ cx => ⟨q, _, cap, rfl, repO ba exX6.1 pa ca ++ (repO bb exX5.1 pb cb ++ R), (fun M w => Φ6 M w ∧ Sl M w q exX6.1.log), instStableAnd Φ6 (fun M w => Sl M w q exX6.1.log), gr cx, Br.intro (fun _ w G cx => ?_) (fun h => absurd h (by decide))⟩
  have cy : Ctx W w (repO ba exX6.1 pa ca ++ (repO bb exX5.1 pb cb ++ R) ++ G) Φ := cx.weak fun M w h => hΦ M w h.1
  refine Log_use (swapL cy) exW5.ok.recs exW5.ok.len fun q cap w _ _ cx => ⟨q, _, cap, rfl, repO bb exX5.1 pb cb ++ (repO ba exX6.1 pa ca ++ R), Φ, inferInstance, (gr cx).weak fun M w h => h.1, fun w G cx => ⟨rfl, cx.left.right.right⟩⟩

end Go.Proofs.Ytifgijoeckoojaa
