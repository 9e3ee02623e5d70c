/-
 For every input erratalaw09.GroupRestarts returns true,does not panic,comes to an end,and leaves what came in as it was;the variables that its row lists are as the program's text lays them.
 Conditions: none beyond the given statement's own (GroupRestartsCardSaid).
-/
import Derived.Test.YtnlkemjhgdbfkaaGreatDoorCs13
import Derived.Test.YtnlkemjhgdbfkaaGreatDoorTie
import Derived.Test.YtnlkemjhgdbfkaaGreatDoorCards
import Derived.SevenTiedAt
import Derived.LaidMore
import Derived.ChangeMaps5
import Derived.Test.YtnlkemjhgdbfkaaGreatDoorRows
open Go.Proofs.Tryz
set_option linter.unusedVariables false
set_option linter.unusedSimpArgs false
section
namespace Go.Proofs.YtnlkemjhgdbfkaaGreatDoor
open Go.ChangeShapes Go.WideShapes Go.ChangeAt Go.RowKit Go.Vc
theorem aRY:ownKnob prog.godebug=none:=by kernel_rfl
theorem aDv:laidOutB prog=true:=by kernel_rfl
theorem aFT{H}{enc:TypeId × Value->H}{P w base spare held t0 t1 args ds ps}(h:DataW.TrodAll enc P w base spare held [t0,t1] args.toList ds ps):
  ∃ v0 v1 d0 d1 p0 p1,args=#[v0,v1]/\ds=[d0,d1]/\ps=p0++p1/\DataW.Trod enc P w base spare held t0 v0 d0 p0/\DataW.Trod enc P w base spare held t1 v1 d1 p1:=by
 obtain ⟨v0,vs0,d0,ds0,p0,q0,hargs,rfl,rfl,h0,h⟩:=trodAll_cons h;obtain ⟨v1,vs1,d1,ds1,p1,q1,rfl,rfl,rfl,h1,h⟩:=trodAll_cons h;obtain ⟨rfl,rfl,rfl⟩:=trodAll_nil h;exact ⟨v0,v1,d0,d1,p0,p1,by cases args;simp_all,rfl,by simp,h0,h1⟩
theorem aKn(os args):laidMetH prog Rows.groupRestartsRow.laid ((World.doorLaid prog 400 os).forCall (λ_ _=>0) ⟨#[],args,[]⟩).memory :=
 laidMetH_of_parts3 (fuel:=8) (laidMet_of_run' 8 (by kernel_rfl) (by kernel_rfl)) (by kernel_rfl) (by kernel_rfl)
set_option maxRecDepth 100000 in
theorem aBZ(os)(started:os.Started)(H)(enc:TypeId × Value->H):
  ReturnsInHanded {} Tryz.checked os 10 .any (λw args=>(Rows.groupRestartsSpec.pre enc prog Tryz.f10 Rows.groupRestartsRow.domain false w args/\laidMetH prog Rows.groupRestartsRow.laid w)/\sizedMet enc prog Tryz.f10 (OpenSpec.ofChange Rows.groupRestartsSpec) false w args) (Rows.groupRestartsSpec.post enc prog Tryz.f10 false true false false):=by
 refine a7u (C:=Tryz.checked) (tb:=4) aRY started (by kernel_rfl) func10 aDv rfl ?_ rfl underlying4 (by kernel_rfl)
  (ChangeSpec.witness_shaped (enc:=enc) (C:=Tryz.checked) (os:=os) (X:=λw _=>laidMetH prog Rows.groupRestartsRow.laid w) false (World.doorLaid prog 400 os) #[.slice none 0 0,.slice none 0 0] 8 rfl (World.shaped_of_RefB (by kernel_rfl) (by kernel_rfl)) (by kernel_rfl) (by kernel_rfl) (by kernel_rfl) (aKn os _)) ?_
 .intro ds hd
  match ds,hd with
  | [_,_],_=>exact ⟨rfl,rfl,rfl⟩
 .intro W base args ds p aYH hA0 _ hL;have hval:∀ (j:Nat) t v,Tryz.f10.params[j]? = some t->args[j]? = some v->Value.okWide prog W .any base t v:=aYH;have hA:DataW.TrodAll enc prog W 0 (λ_=>true) true Tryz.f10.params.toList args.toList ds p:=hA0;rw [Tryz.params10] at hA hval;obtain ⟨v0,v1,d0,d1,p0,p1,rfl,rfl,rfl,h0,h1⟩:=aFT hA;obtain ⟨lp,lc,l,rfl,la,lb,s0⟩:=aCF (α:=OpG) 12 underlying25 (hval 0 25 v0 rfl rfl) (by kernel_rfl) h0
  obtain ⟨WY,aYI,keep,rfl,b6p,b6q,s1⟩:=aCF (α:=Int) 12 underlying37 (hval 1 37 v1 rfl rfl) (by kernel_rfl) h1;have st0:aB (λM w=>Sl M w WY keep):=aM;have st1:aB (λM w=>Sl M w lp l/\Sl M w WY keep):=cE (λM w=>Sl M w lp l) (λM w=>Sl M w WY keep);have st2:aB (λM w=>a88 M w/\Sl M w lp l/\Sl M w WY keep):=cE (λM w=>a88 M w) (λM w=>Sl M w lp l/\Sl M w WY keep);have fin:cS (λM w=>a88 M w/\Sl M w lp l/\Sl M w WY keep) prog 10 _ (.bool true):=a86 (Φ:=(λM w=>a88 M w/\Sl M w lp l/\Sl M w WY keep)) ⟨λ_ _ h=>h.1.1,λ_ _ h=>h.1.2⟩ (lp:=lp) (lc:=lc) (l:=l) (λ_ _ h=>h.2.1) (by unfold maxLen at *;omega) (kp:=WY) (kc:=aYI) (keep:=keep) (λ_ _ h=>h.2.2)
  exact fin.law ⟨aRX hL,s0,s1⟩
theorem jf0:(Rows.groupRestartsRow.wf (OpenSpec.ofChange Rows.groupRestartsSpec))=true:=by kernel_rfl
theorem jf2:(mapsRowed prog)=true:=by kernel_rfl
theorem jf3:(Tryz.f10.params.all (prog.readableRec ·))=true:=by kernel_rfl
theorem jf4:(namedTie prog Rows.groupRestartsRow.named Rows.groupRestartsSpec.vars)=true:=by kernel_rfl
theorem jf5:((Rows.groupRestartsRow.stops == []))=true:=by kernel_rfl
theorem jf6:((prog.stops == []))=true:=by kernel_rfl
theorem jf7:((Rows.groupRestartsRow.knobs == []))=true:=by kernel_rfl
theorem jf8:((prog.stopKnobs == []))=true:=by kernel_rfl
theorem jf9:((Rows.groupRestartsRow.inPlace == prog.inPlace 10))=true:=by kernel_rfl
theorem b4a:((Rows.groupRestartsRow.unfollowed == prog.unfollowed 10))=true:=by kernel_rfl
theorem b4b:((Rows.groupRestartsRow.recurses == prog.recurses 10))=true:=by kernel_rfl
theorem b4c:((Rows.groupRestartsRow.named == prog.varsNamed 10))=true:=by kernel_rfl
theorem b4d:((Rows.groupRestartsRow.maps == (Tryz.f10.params.toList++Rows.groupRestartsSpec.plain.varTypes prog).any (prog.mapsRec ·)))=true:=by kernel_rfl
theorem b4e:((Rows.groupRestartsRow.ifaces == (Tryz.f10.params.toList++Rows.groupRestartsSpec.plain.varTypes prog).any (prog.ifacesRec ·)))=true:=by kernel_rfl
theorem b4f:((Rows.groupRestartsRow.mapsOut == prog.mapsAmong Tryz.f10.resultTypes.toList))=true:=by kernel_rfl
theorem b4g:((Rows.groupRestartsRow.loops == (Tryz.f10.params.toList++Rows.groupRestartsSpec.plain.varTypes prog).any (prog.loopsFrom ·)))=true:=by kernel_rfl
theorem b4h:((Rows.groupRestartsRow.wideKeys == (Tryz.f10.params.toList++Rows.groupRestartsSpec.plain.varTypes prog++Tryz.f10.resultTypes.toList).any (prog.wideKeysFrom ·)))=true:=by kernel_rfl
theorem b4i:(Rows.groupRestartsSpec.vars.all (prog.varReadable ·))=true:=by kernel_rfl
theorem b4j:(Tryz.f10.resultTypes.all (λt=>prog.readableRec t&&decide (t<prog.types.size)))=true:=by kernel_rfl
theorem b4k:((Rows.groupRestartsRow.ifacesOut == Tryz.f10.resultTypes.toList.any (prog.ifacesRec ·)))=true:=by kernel_rfl
theorem b4l:((Rows.groupRestartsRow.loopsOut == Tryz.f10.resultTypes.toList.any (prog.loopsFrom ·)))=true:=by kernel_rfl
theorem b4m:((Rows.groupRestartsRow.plainKeys == prog.plainKeys))=true:=by kernel_rfl
theorem b4n:(Rows.groupRestartsRow.shortTexts.isNone)=true:=by kernel_rfl
theorem b4o:(prog.stopsHeard)=true:=by kernel_rfl
theorem b4p:(prog.mayEnter)=true:=by kernel_rfl
theorem b4q:((Rows.groupRestartsRow.lifted == prog.liftsFinal))=true:=by kernel_rfl
theorem b4r:((prog.make == some Rows.groupRestartsRow.make))=true:=by kernel_rfl
theorem b4s:((Rows.groupRestartsRow.pinned == Rows.groupRestartsRow.pinnedBy))=true:=by kernel_rfl
theorem b4t:((Rows.groupRestartsRow.veiled == (Tryz.f10.params.toList++Rows.groupRestartsSpec.plain.varTypes prog++Tryz.f10.resultTypes.toList).any (prog.veiledRec ·)))=true:=by kernel_rfl
theorem b4u:(Rows.groupRestartsRow.veiledFits prog Tryz.f10.params.toList (Tryz.f10.params.toList++Rows.groupRestartsSpec.plain.varTypes prog++Tryz.f10.resultTypes.toList))=true:=by kernel_rfl
theorem fI{a b}(h:a=true)(k:b=true):(a&&b)=true:=by rw [h,k];rfl
theorem aRZ:joinedFacts prog 10 Tryz.f10 Rows.groupRestartsSpec Rows.groupRestartsRow=true:=by
 unfold joinedFacts;exact (fI (fI (fI (fI (fI (fI (fI (fI (fI (fI (fI (fI (fI (fI (fI (fI (fI (fI (fI (fI (fI (fI (fI (fI (fI (fI (fI (fI (fI (fI (fI jf0 aDv) jf2) jf3) jf4) jf5) jf6) jf7) jf8) jf9) b4a) b4b) b4c) b4d) b4e) b4f) b4g) b4h) b4i) b4j) b4k) b4l) b4m) b4n) b4o) b4p) b4q) b4r) (by kernel_rfl)) b4s) b4t) b4u)
theorem aDw:prog.funcNamed Rows.groupRestartsRow.func=some 10:=by kernel_rfl
theorem aNx:prog.mainIs=some (Rows.groupRestartsCard.stood.harness.1,Rows.groupRestartsCard.stood.harness.2.toList):=by kernel_rfl
theorem aKo:Rows.groupRestartsCard.stood.looks=prog.looks []:=by kernel_rfl
theorem aNy:false=Rows.groupRestartsRow.goesBy prog:=by kernel_rfl
theorem aFU:Rows.GroupRestartsSaid :=
 OpenClaim.holds_of_wide 10 Tryz.f10 rfl rfl rfl rfl rfl rfl rfl ⟨rfl,rfl,rfl,rfl,rfl⟩ rfl rfl rfl rfl rfl aDw func10 aRZ
  (eR (by kernel_rfl)) (by unfold Func.isWrapper;first|(rw [if_pos (by decide +kernel)];kernel_rfl)|(rw [if_neg (by decide +kernel)];exact ⟨rfl,rfl⟩))
  (λos started H enc _=>aBZ os started H enc)
theorem restarts_holds:Rows.GroupRestartsCardSaid :=
 Claim7.holds_tied_plain_at .later [] [.data,.data,.data,.data,.sentinel,.sentinel] true Rows.groupRestartsCard.stood.harness true
  aFU (λ_ h=>by cases h) (by kernel_rfl) (λ_ h=>by cases h) groupRestarts_row_tie rfl ⟨rfl,rfl⟩ aNx rfl
  (λf fn hf hfn=>by
   obtain rfl:f=10:=Option.some.inj (aDw.symm.trans hf) |>.symm;obtain rfl:fn=Tryz.f10:=(Option.some.inj (func10.symm.trans hfn)).symm;exact ⟨aKo,λj t ht=>by
    rw [Tryz.params10] at ht;have hm:=Array.mem_of_getElem? ht;have hall:((Tryz.f10.params.toList).all λu => !prog.wantsStandIn u)=true:=by kernel_rfl
    rw [Tryz.params10] at hall;exact (show prog.wantsStandIn t=false by simpa using List.all_eq_true.1 hall t (by simpa using hm))⟩)
  aNy
end Go.Proofs.YtnlkemjhgdbfkaaGreatDoor
end

