/-
  For every input erratalaw44.CommitAborts returns true,does not panic,comes to an end,and leaves what came in as it was; the variables that its row lists are as the program's text lays them.
  Conditions: none beyond the given statement's own (CommitAbortsCardSaid).
-/
import Derived.Test.YtfccagphnfceiaaGreatDoorCAb10
import Derived.Test.YtfccagphnfceiaaGreatDoorCAb9
import Derived.Test.YtfccagphnfceiaaGreatDoorCards
import Derived.MakeChecks
import Derived.Stop.LaidErr
import Derived.Lib.LaidTab
import Derived.Test.YtfccagphnfceiaaGreatDoorTie
import Derived.SevenTiedAt
import Derived.LaidMore
import Derived.ChangeMaps5
import Derived.Test.YtfccagphnfceiaaGreatDoorRows

set_option linter.unusedVariables false
set_option linter.unusedSimpArgs false
section
namespace Go.Proofs.YtfccagphnfceiaaGreatDoor
open Go.Vc
section
variable {Φ:PW}
set_option maxHeartbeats 8000000 in
theorem Aborts_in [Stable Φ] (hE:CE Φ) {kind:Int} {o r:OpC} {lp kp mp np:Option Addr} {lc kc mc nc:Nat} (ho:∀ M w,Φ M w→Gv.rep M w (o.cells lp lc kp kc) o) (hr:∀ M w,Φ M w→Gv.rep M w (r.cells mp mc np nc) r) {prepare:Bool} :
    GivesIn Φ Tryz.prog F.erratalaw44_CommitAborts #[.int .i64 kind,o.v lp lc kp kc,r.v mp mc np nc,.bool prepare] (.bool true):=by
  refine gives_in (Merratalaw44_CommitAborts_run kind o.kind o.b o.n lp o.L.length lc o.next kp o.keep.length kc o.fit r.kind r.b r.n mp r.L.length mc r.next np r.keep.length nc r.fit prepare) fun W R=>fun _ _ w G cx => ?_
  refine (small44_in hE).toB cx fun k7 w G cx => ?_
  have fo:=opc_rep (ho _ _ cx.left.drop1.phi)
  have fr:=opc_rep (hr _ _ cx.left.drop1.phi)
  have he:Elems (dom (Own.blk k7 (o.cells lp lc kp kc++r.cells mp mc np nc) 25 :: (R++G))) w (o.cells lp lc kp kc++r.cells mp mc np nc) [o,r]:=Elems.two (ho _ _ cx.phi) (hr _ _ cx.phi)
  obtain ⟨cx2,h2⟩:=Ctx.freezeBlk (α:=OpC) (l:=[o,r]) cx he
  have cx3:=cx2.add (Ψ:=fun M w=>Sl M w (some ⟨k7,0,none⟩) [o,r]) h2
  obtain ⟨b,oo,cs,hpb,cx4⟩:=cx3.pin cx3.phi.2
  refine (few_in44 (l:=[o,r]) (m:=2) hpb (fun M w h=>h.2) (by show 2≤9223372036854775807; decide)).toB (R:=R) cx4 ?_
  clear cx cx2 cx3 cx4 h2 he
  cases hfew:fewC [o,r] 2 with
  | false=>exact Br.intro (fun _=>fun w G cx=>⟨rfl,(Ctx.left cx).weak fun M w h=>h.1.1⟩) (fun h=>by cases h)
  | true =>
  refine Br.intro (fun h=>by cases h) (fun _=>fun w G cx => ?_)
  have cx:=cx.weak (Ψ:=Φ) fun M w h=>h.1.1
  obtain ⟨hall,_⟩:=fewC_yes hfew
  obtain ⟨go1,_,go3,go4⟩:=hall o (by simp)
  obtain ⟨gr1,_,gr3,gr4⟩:=hall r (by simp)
  have hnil:Has Φ (fun M w=>Sl M w none ([]:List Int)):=⟨fun M w h=>Sl.nil⟩
  refine New_to (kind:=kind) (key:=[]) (cap:=0) (p:=none) (by decide) cx (fun _=>fun w G cx=>DNew_use cx fun q w hq cx=>⟨_,rfl,dkL q dsNew++R,fun M w=>Φ M w∧dkF q dsNew M w,inferInstance,cx.re (List.append_assoc _ _ _).symm,fun w G cx=>Br.intro (fun _=>fun w G cx=>fun w G cx=>⟨rfl,((Ctx.left cx).sub (List.sublist_append_right _ _)).weak fun M w h=>h.1⟩) (fun h=>by cases h)⟩) (fun k0 hok hkq st1=>fun w G cx => ?_)
  have hkd:0≤kind∧kind < 3:=by
    unfold newOk at hok
    simp only [Bool.and_eq_true,Bool.not_eq_true',decide_eq_false_iff_not] at hok
    omega
  have hkq0:DsH dsNew:=dsNew_h
  refine DNew_use cx fun q0 w hq0 cx=>⟨_,rfl,dkL q0 dsNew++(SkO k0 (newK kind [])++R),fun M w=>(Φ M w∧SkF k0 (newK kind []) M w)∧dkF q0 dsNew M w,inferInstance,cx.re (by simp),fun w G cx=>Br.intro (fun h=>by cases h) (fun _=>fun w G cx => ?_)⟩
  have hk0:DkK (fun M w=>(Φ M w∧SkF k0 (newK kind []) M w)∧dkF q0 dsNew M w) q0 dsNew:=⟨Nat.zero_le _,fun M w h=>h.2⟩
  refine OpenF_use (q:=q0) (d:=dsNew) (S:=SkO k0 (newK kind [])++(R++G)) (hE.weak fun M w h=>h.1.1) hq0 hk0 cnew_fut (cx.re (by simp)) (fun u d' e w he hno _ _ _ _ _ cx=>absurd dsNew_h hno) (fun u0 p0 c0 d0 w hd0 _ hfine0 hq1 hkp0 hl0 hP0 hpr0 hst0 cx => ?_)
  have f0:FinC d0 c0 stC0:=⟨hfine0 dsNew_h,hq1.w,hl0,hP0,hst0⟩
  have H0:CoH (fun M w=>((Φ M w∧SkF k0 (newK kind []) M w)∧dkF q0 dsNew M w)∧CoF p0 c0 M w) k0 (newK kind []) p0 (q0.mv u0) d0 c0 18:=⟨hE.weak fun M w h=>h.1.1.1,fun M w h=>h.1.1.2,fun M w h=>h.2,hq1,(hk0.weak fun M w h=>h.1).of hkp0 u0,hl0.w,hkq,new_i kind [],new_s18 kind⟩
  have A:AtC Φ p0.cb k0.sb _ k0 (newK kind []) p0 (q0.mv u0) d0 c0 18:=⟨H0,rfl,rfl,fun M w h=>h.1.1.1⟩
  have st0:Stable (fun M w=>((Φ M w∧SkF k0 (newK kind []) M w)∧dkF q0 dsNew M w)∧CoF p0 c0 M w):=inferInstance
  refine ⟨_,0,rfl,CoO p0 q0 c0++(dkL (q0.mv u0) d0++(SkO k0 (newK kind [])++R)),_,st0,Ctx.re (S:=CoO p0 q0 c0++(dkL (q0.mv u0) d0++(SkO k0 (newK kind [])++(R++G)))) cx (by simp),Br.intro (fun h=>by cases h) (fun _=>fun w G cx => ?_)⟩
  generalize (fun M w=>((Φ M w∧SkF k0 (newK kind []) M w)∧dkF q0 dsNew M w)∧CoF p0 c0 M w)=Ψ0 at A cx st0
  have hsW:SkW (newK kind []):=⟨by show I64 kind; unfold I64; omega,by show I64 0; unfold I64; decide,by simp,by simp,by simp,by simp⟩
  have same0:(newK kind []).lines=[]:=rfl
  clear H0 hk0 hkq
  refine SkBytesS_use (s:=newK kind []) A.H.E A.H.hS A.sb A.H.hkq hsW A.H.hs (by decide) cx (fun w G cx => ?_)
  refine DecideS_use (S:=R++G) A.H A.cb (f0.decide7 (by decide)) (cx.re lay1) (A.same fun Ψ k p q st A=>Br.intro (fun h=>absurd rfl (of_decide_eq_true h)) (fun _=>fun w G cx => ?_))
  refine FinishS_use (S:=R++G) A.H A.cb A.sb (by decide) (f0.finish7 (by decide)) (cx.re lay1) (A.same fun Ψ k p q st A=>Br.intro (fun h=>absurd rfl (of_decide_eq_true h)) (fun _=>fun w G cx => ?_))
  refine AbortS_use (S:=R++G) A.H A.cb A.sb (by decide) (f0.abort7 (by decide)) (cx.re lay1) (A.same fun Ψ k p q st A=>Br.intro (fun h=>absurd rfl (of_decide_eq_true h)) (fun _=>fun w G cx => ?_))
  refine PrepS_use (S:=R++G) A.H A.cb A.sb (by decide) (f0.prepare7 (by decide)) (cx.re lay1) (A.same fun Ψ k p q st A=>Br.intro (fun h=>absurd rfl (of_decide_eq_true h)) (fun _=>fun w G cx => ?_))
  refine RecoverS_use (S:=R++G) A.H A.cb A.sb (by decide) (f0.recover0 rfl) (cx.re lay1) (A.same fun Ψ k p q st A=>Br.intro (fun h=>absurd rfl (of_decide_eq_true h)) (fun _=>fun w G cx => ?_))
  obtain ⟨o1,ho1⟩:∃ o1:OpC,{ o with fit:=true }=o1:=⟨_,rfl⟩
  have hL1:∀ {Ψ:PW},(∀ M w,Ψ M w→Φ M w)→∀ M w,Ψ M w→Sl M w lp o1.L:=fun h M w x=>by rw [←ho1]; exact (opc_rep (ho M w (h M w x))).2.1
  have w1:∀ x∈o1.L,rightR x.row=true→LineW x:=by rw [←ho1]; exact line_wS fo.2.1
  have b1:o1.fit=true∧I64 o1.b∧I64 o1.n∧o1.L.length≤6∧o1.next.size≤50∧∀ x∈o1.L,x.row.length≤1000000:=by
    rw [←ho1]
    exact ⟨rfl,fo.1.2.1,fo.1.2.2,go3,go1,fun y hy=>by have:=go4 y hy; omega⟩
  have v1:o1.v lp lc kp kc=.agg #[.int .i64 o.kind,.int .i64 o.b,.int .i64 o.n,.slice lp o.L.length lc,.string o.next,.slice kp o.keep.length kc,.bool true]:=by rw [←ho1]
  rw [←v1]
  rcases opX0 (s:=newK kind []) f0 same0 b1.1 b1.2.2.1 b1.2.2.2.1 b1.2.2.2.2.1 w1 with hx | ⟨d1,c1,hx,f1,pr1,kk1⟩
  · refine DoesS_use (S:=R++G) (o:=o1) A.H A.cb A.sb (by decide) (hL1 A.dn) b1.2.2.2.1 b1.2.2.2.2.2 b1.2.1 b1.2.2.1 b1.2.2.2.2.1 hx (cx.re lay1) (A.same fun Ψ k p q st A=>Br.intro (fun _=>Br.intro (fun _=>fun w G cx => ?_) (fun h=>by cases h)) (fun h=>absurd (of_decide_eq_false h) (by decide)))
    refine PhaseS_use A.cb cx (Br.intro (fun _=>fun w G cx => ?_) (fun h=>absurd (by rw [f0.now]) (of_decide_eq_false h)))
    refine SkBytesS_use (s:=newK kind []) A.H.E A.H.hS A.sb A.H.hkq hsW A.H.hs (by decide) cx (fun w G cx => ?_)
    exact ⟨by rw [decide_eq_true rfl],A.fin cx⟩
  obtain ⟨x1,hx1⟩:∃ x1:StC,(⟨0,1,.empty,batchC o1 0,o1.n,o1.next,linesO o1 (batchC o1 0) 1⟩:StC)=x1:=⟨_,rfl⟩
  have p1:x1.phase=1∧x1.last=0∧x1.check=.empty∧1≤x1.batch:=by rw [←hx1]; exact ⟨rfl,rfl,rfl,(batchC_0 b1.1).1⟩
  rw [hx1] at f1
  refine DoesS_use (S:=R++G) (o:=o1) A.H A.cb A.sb (by decide) (hL1 A.dn) b1.2.2.2.1 b1.2.2.2.2.2 b1.2.1 b1.2.2.1 b1.2.2.2.2.1 hx (cx.re lay1) (A.go kk1 f1.live.w (new_i kind []) (new_s18 kind) fun Ψ k p q st A=>Br.intro (fun h=>absurd rfl (of_decide_eq_true h)) (fun _=>fun w G cx => ?_))
  refine DoesS_use (S:=R++G) (o:=o1) A.H A.cb A.sb (by decide) (hL1 A.dn) b1.2.2.2.1 b1.2.2.2.2.2 b1.2.1 b1.2.2.1 b1.2.2.2.2.1 (busy0 f1 (by omega)) (cx.re lay1) (A.same fun Ψ k p q st A=>Br.intro (fun h=>absurd rfl (of_decide_eq_true h)) (fun _=>fun w G cx => ?_))
  refine DecideS_use (S:=R++G) A.H A.cb (f1.decide25 p1.1 pr1) (cx.re lay1) (A.same fun Ψ k p q st A=>Br.intro (fun h=>absurd rfl (of_decide_eq_true h)) (fun _=>fun w G cx => ?_))
  refine FinishS_use (S:=R++G) A.H A.cb A.sb (by decide) (f1.finish7 (by omega)) (cx.re lay1) (A.same fun Ψ k p q st A=>Br.intro (fun h=>absurd rfl (of_decide_eq_true h)) (fun _ => ?_))
  refine exI_mk (fun R' Φ'=>∃ k p q c s,AtC Φ p0.cb k0.sb Φ' k s p q d1 c 18∧MidC kind d1 c s x1∧R'=CoO p q c++(dkL q d1++(SkO k s++R))) ⟨?_,?_⟩
  · refine Br.intro (fun _=>fun w G cx => ?_) (fun _=>⟨_,Ψ,st,fun w G cx=>cx,k,p,q,c1,_,A,MidC.new f1 p1.2.2.2,rfl⟩)
    obtain ⟨b,s',e,hm,_,_⟩:=mid_prep (kind:=kind) f1 p1.2.2.2 p1.1
    refine PrepS_use (S:=R++G) (r:=(d1,{ c1 with prep:=b },s',(giveC c1 (newK kind [])).1)) A.H A.cb A.sb (by decide) (by rw [e]) (cx.re lay1) (A.go rfl hm.f.live.w hm.i hm.n fun Ψ k p q st A=>⟨_,Ψ,st,fun w G cx=>cx,k,p,q,_,s',A,hm,rfl⟩)
  clear st A
  rintro R' Ψ st ⟨k,p,q,c2,s2,A,hm,rfl⟩
  intro w G cx
  have ck:checkC c2=ByteArray.mk #[]:=by unfold checkC; rw [hm.f.now,if_neg (by rw [p1.1]; decide),p1.2.2.1]; rfl
  refine CheckS_use A.cb cx ?_
  rw [ck]
  refine Br.intro (fun h=>absurd rfl (of_decide_eq_true h)) (fun _=>fun w G cx => ?_)
  refine SkListS_use (s:=s2) A.H.hS A.sb A.H.hkq A.H.hI A.H.hs (by decide) cx (fun pl cl st2 => ?_)
  have A:=A.weak (Ψ:=fun M w=>Ψ M w∧Sl M w pl s2.lines) fun M w h=>h.1
  refine Br.intro (fun h=>absurd (by rw [hm.lines]; rfl) (of_decide_eq_true h)) (fun _=>fun w G cx => ?_)
  obtain ⟨d3,c3,e3,f3,pr3,kk3⟩:=abort_fine (s:=s2) hm.f p1.1
  rw [hm.drop] at e3
  rw [p1.2.1,p1.2.2.1] at f3
  refine AbortS_use (S:=R++G) A.H A.cb A.sb (by decide) e3 (cx.re lay1) (A.go kk3 f3.live.w (new_i kind []) (new_s18 kind) fun Ψ k p q st A=>Br.intro (fun h=>absurd rfl (of_decide_eq_true h)) (fun _=>fun w G cx => ?_))
  refine SkBytesS_use (s:=newK kind []) A.H.E A.H.hS A.sb A.H.hkq hsW A.H.hs (by decide) cx (Br.intro (fun h=>absurd rfl (of_decide_eq_true h)) (fun _=>fun w G cx => ?_))
  have ck3:checkC c3=ByteArray.mk #[]:=by unfold checkC; rw [f3.now]; rfl
  refine CheckS_use A.cb cx ?_
  rw [ck3]
  refine Br.intro (fun h=>absurd rfl (of_decide_eq_true h)) (fun _=>fun w G cx => ?_)
  refine LastS_use A.cb cx (Br.intro (fun h=>absurd (by rw [f3.now]) (of_decide_eq_true h)) (fun _=>fun w G cx => ?_))
  refine PhaseS_use A.cb cx (Br.intro (fun h=>absurd (by rw [f3.now]) (of_decide_eq_true h)) (fun _=>fun w G cx => ?_))
  -- another operation
  obtain ⟨r1,hr1⟩:∃ r1:OpC,{ r with b:=o.b,fit:=true }=r1:=⟨_,rfl⟩
  have hL2:∀ {Ψ:PW},(∀ M w,Ψ M w→Φ M w)→∀ M w,Ψ M w→Sl M w mp r1.L:=fun h M w x=>by rw [←hr1]; exact (opc_rep (hr M w (h M w x))).2.1
  have w2:∀ x∈r1.L,rightR x.row=true→LineW x:=by rw [←hr1]; exact line_wS fr.2.1
  have b2:r1.fit=true∧I64 r1.b∧I64 r1.n∧r1.L.length≤6∧r1.next.size≤50∧(∀ x∈r1.L,x.row.length≤1000000)∧r1.next=r.next:=by
    rw [←hr1]
    exact ⟨rfl,fo.1.2.1,fr.1.2.2,gr3,gr1,(fun y hy=>by have:=gr4 y hy; omega),rfl⟩
  have v2:r1.v mp mc np nc=.agg #[.int .i64 r.kind,.int .i64 o.b,.int .i64 r.n,.slice mp r.L.length mc,.string r.next,.slice np r.keep.length nc,.bool true]:=by rw [←hr1]
  rw [←v2,←b2.2.2.2.2.2.2]
  refine (Batch_in (o:=r1) (lp:=mp) (lc:=mc) (kp:=np) (kc:=nc) (last:=0)).toI cx (fun w G cx => ?_)
  have hb0:=batchC_0 b2.1
  refine (Lines_sl (lc:=mc) (kp:=np) (kc:=nc) (hL2 A.dn) (batch:=batchC r1 0) (first:=1) (by unfold I64; omega) (by decide) (by have:=b2.2.2.2.1; omega) b2.2.2.2.2.2.1).to cx fun lp2 lc2 g1 g2 st2=>fun w G cx => ?_
  have A:=A.weak (Ψ:=fun M w=>Ψ M w∧Sl M w lp2 (linesO r1 (batchC r1 0) 1)) fun M w h=>h.1
  obtain ⟨Φ2,hΦ2⟩:∃ Φ2:PW,(fun M w=>Ψ M w∧Sl M w lp2 (linesO r1 (batchC r1 0) 1))=Φ2:=⟨_,rfl⟩
  have dn2:∀ M w,Φ2 M w→Φ M w:=fun M w x=>A.dn M w (by rw [←hΦ2] at x; exact x)
  have sl2:∀ M w,Φ2 M w→Sl M w lp2 (linesO r1 (batchC r1 0) 1):=fun M w x=>by rw [←hΦ2] at x; exact x.2
  have st3:Stable Φ2:=by rw [←hΦ2]; infer_instance
  have A:AtC Φ2 p0.cb k0.sb Φ2 k (newK kind []) p q d3 c3 18:=⟨by rw [←hΦ2]; exact A.H,A.cb,A.sb,fun _ _ h=>h⟩
  have cx:Ctx W w ((CoO p q c3++(dkL q d3++(SkO k (newK kind [])++R)))++G) Φ2:=by rw [←hΦ2]; exact cx
  clear hΦ2 st2
  rcases opX0 (s:=newK kind []) f3 same0 b2.1 b2.2.2.1 b2.2.2.2.1 b2.2.2.2.2.1 w2 with hx | ⟨d4,c4,hx,f4,pr4,kk4⟩
  · refine DoesS_use (S:=R++G) (o:=r1) A.H A.cb A.sb (by decide) (hL2 dn2) b2.2.2.2.1 b2.2.2.2.2.2.1 b2.2.1 b2.2.2.1 b2.2.2.2.2.1 hx (cx.re lay1) (A.same fun Ψ k p q st A=>Br.intro (fun _=>fun w G cx=>⟨rfl,(A.fin cx).weak dn2⟩) (fun h=>absurd (of_decide_eq_false h) (by decide)))
  obtain ⟨x4,hx4⟩:∃ x4:StC,(⟨0,1,.empty,batchC r1 0,r1.n,r1.next,linesO r1 (batchC r1 0) 1⟩:StC)=x4:=⟨_,rfl⟩
  have p4:x4.phase=1∧1≤x4.batch∧x4.batch=batchC r1 0∧x4.next=r1.next∧x4.lines=linesO r1 (batchC r1 0) 1:=by rw [←hx4]; exact ⟨rfl,hb0.1,rfl,rfl,rfl⟩
  rw [hx4] at f4
  refine DoesS_use (S:=R++G) (o:=r1) A.H A.cb A.sb (by decide) (hL2 dn2) b2.2.2.2.1 b2.2.2.2.2.2.1 b2.2.1 b2.2.2.1 b2.2.2.2.2.1 hx (cx.re lay1) (A.go kk4 f4.live.w (new_i kind []) (new_s18 kind) fun Ψ k p q st A=>Br.intro (fun h=>absurd rfl (of_decide_eq_true h)) (fun _=>fun w G cx => ?_))
  obtain ⟨b,s',e,hm,hb,hs'⟩:=mid_prep (kind:=kind) f4 p4.2.1 p4.1
  refine PrepS_use (S:=R++G) (r:=(d4,{ c4 with prep:=b },s',(giveC c4 (newK kind [])).1)) A.H A.cb A.sb (by decide) (by rw [e]) (cx.re lay1) (A.go rfl hm.f.live.w hm.i hm.n fun Ψ k p q st A=>Br.intro (fun hg => ?_) (fun hg => ?_))
  · have hg:=of_decide_eq_true hg
    have hb:b=false:=by rw [hb,pr4,decide_eq_false hg]; rfl
    refine Br.intro (fun _=>fun w G cx => ?_) (fun h=>by cases h)
    refine DecideS_use (S:=R++G) A.H A.cb (hm.f.decide25 p4.1 hb) (cx.re lay1) (A.same fun Ψ k p q st A=>Br.intro (fun _=>fun w G cx => ?_) (fun h=>absurd rfl (of_decide_eq_false h)))
    refine SkListS_use (s:=s') A.H.hS A.sb A.H.hkq A.H.hI A.H.hs (by decide) cx (fun pl cl st2=>fun w G cx => ?_)
    have A:=A.weak (Ψ:=fun M w=>Ψ M w∧Sl M w pl s'.lines) fun M w h=>h.1
    exact ⟨by rw [hm.lines]; rfl,(A.fin cx).weak dn2⟩
  · have hg:(giveC c4 (newK kind [])).1=0:=by have:=of_decide_eq_false hg; omega
    have hb:b=true:=by rw [hb,pr4,decide_eq_true hg]; rfl
    refine Br.intro (fun _=>fun w G cx => ?_) (fun h=>by cases h)
    obtain ⟨d5,c5,e5,f5,pr5,kk5⟩:=decide_fine hm.f p4.1 hb
    refine DecideS_use (S:=R++G) (r:=(d5,c5,s',0)) A.H A.cb (by rw [e5]) (cx.re lay1) (A.go kk5 f5.live.w hm.i hm.n fun Ψ k p q st A=>Br.intro (fun _=>fun w G cx => ?_) (fun h=>absurd rfl (of_decide_eq_false h)))
    refine AbortS_use (S:=R++G) A.H A.cb A.sb (by decide) (f5.abort7 (by show (2:Int)≠1; decide)) (cx.re lay1) (A.same fun Ψ k p q st A=>⟨_,Ψ,st,fun w G cx=>cx,Br.intro (fun _=>fun w G cx => ?_) (fun h=>absurd rfl (of_decide_eq_false h))⟩)
    have ck5:checkC c5=r1.next:=by unfold checkC; rw [f5.now,if_pos rfl]; exact p4.2.2.2.1
    refine CheckS_use A.cb cx ⟨fun w G cx=>cx,?_⟩
    rw [ck5]
    refine Br.intro (fun _=>fun w G cx => ?_) (fun h=>absurd rfl (of_decide_eq_false h))
    obtain ⟨s6,e6,l6,i6,n6⟩:=mid_end (kind:=kind) f4 p4.2.1 hg (c':=c5) ⟨by rw [f5.now],by rw [f5.now]⟩
    rw [←hs'] at e6
    obtain ⟨d6,c6,e7,f6,pr6,kk6⟩:=finish_fine f5 rfl e6
    refine FinishS_use (S:=R++G) A.H A.cb A.sb (by decide) e7 (cx.re lay1) (A.go kk6 f6.live.w i6 n6 fun Ψ k p q st A=>⟨_,Ψ,st,fun w G cx=>cx,Br.intro (fun _=>fun w G cx => ?_) (fun h=>absurd rfl (of_decide_eq_false h))⟩)
    refine LastS_use A.cb cx ⟨fun w G cx=>cx,_,Ψ,st,fun w G cx=>cx,Br.intro (fun _=>fun w G cx => ?_) (fun h=>absurd (by rw [f6.now]; exact p4.2.2.1) (of_decide_eq_false h))⟩
    refine SkListS_use (s:=s6) A.H.hS A.sb A.H.hkq A.H.hI A.H.hs (by decide) cx (fun pl cl st2=>⟨fun w G cx=>cx.weak fun M w h=>h.1,fun w G cx => ?_⟩)
    have A:=A.weak (Ψ:=fun M w=>Ψ M w∧Sl M w pl s6.lines) fun M w h=>h.1
    have hl6:s6.lines.length≤18:=by rw [l6]; exact f4.wf.few
    refine (SameLn_in (Φ:=fun M w=>Ψ M w∧Sl M w pl s6.lines) (a:=s6.lines) (b:=linesO r1 (batchC r1 0) 1) (fun M w h=>h.2) (fun M w h=>sl2 M w (A.dn M w h)) (by omega) (fun z hz=>by have:=right_len (i6.row z hz); omega)).toB cx (fun w G cx => ?_)
    exact ⟨by rw [l6,p4.2.2.2.2,decide_eq_true rfl],(A.fin cx).weak dn2⟩
end
end Go.Proofs.YtfccagphnfceiaaGreatDoor
end

section
namespace Go.Proofs.YtfccagphnfceiaaGreatDoor
open Go.Vc Go.RowKit
theorem la_row (u:TypeId) (h:Tryz.prog.typeName? 3 u=some "*errors.errorString"):u=240 :=
  typeName_ptr_named (nm := "errors.errorString") (by rw [show "*" ++ "errors.errorString" = "*errors.errorString" by decide]; kernel_rfl) (by kernel_rfl) (by decide) u (by rw [show "*" ++ "errors.errorString" = "*errors.errorString" by decide]; exact h)
theorem la_err {n:String} {text:List UInt8} {r:List (String × DataW Unit)} {W:World} {g:Nat} (h:laidMet Tryz.prog ((n,.iface "*errors.errorString" (.ptr (.agg [.lit (.string text)]))) :: r) W)
    (hg:Tryz.prog.globalNamed n=some g) (ht:(Tryz.prog.globals[g]?).map (·.type)=some 167):ErrAt g [] W:=by
  obtain ⟨a,s,hv,_⟩:=laid_sentinel h hg ht Tryz.underlying167 la_row Tryz.underlying240 Tryz.underlying242 rfl rfl Tryz.underlying9 (by kernel_rfl) (by kernel_rfl)
  exact ⟨by simp,_,by have h0:=World.var?_cell hg hv 0; simpa using h0,.inr ⟨_,_,rfl⟩⟩
abbrev LaidI:PW:=fun M w=>NumI M w∧OffI M w
theorem la_num {W:World} (h:laidMetH Tryz.prog Rows.commitAnywhereRow.laid W):LaidI [] W:=by
  rw [MakeChecks.laidMetH_plain Tryz.prog Rows.commitAnywhereRow.laid W (by kernel_rfl)] at h
  have h2:=h.tail.tail
  exact ⟨⟨Tab.start (Lib.tabIs_of_head (k:=.u64) (zs:=Lib.pow10Tab) (g:=1) (t:=229) (e:=216) (n:=20) (by kernel_rfl) (by kernel_rfl) (by kernel_rfl) (by kernel_rfl) (by kernel_rfl) (by kernel_rfl) h2),
    la_err h2.tail.tail.tail (by kernel_rfl) (by kernel_rfl),la_err h2.tail.tail (by kernel_rfl) (by kernel_rfl)⟩,
    Tab.start (Lib.tabIs_of_head (k:=.i64) (zs:=[0,64,131072]) (g:=0) (t:=123) (e:=3) (n:=3) (by kernel_rfl) (by kernel_rfl) (by kernel_rfl) (by kernel_rfl) (by kernel_rfl) (by kernel_rfl) h2.tail)⟩
end Go.Proofs.YtfccagphnfceiaaGreatDoor
end

section
namespace Go.Proofs.YtfccagphnfceiaaGreatDoor
open Go.ChangeShapes Go.WideShapes Go.ChangeAt Go.RowKit Go.Vc
theorem df_own:ownKnob Tryz.prog.godebug=none:=by kernel_rfl
theorem df_laid:laidOutB Tryz.prog=true:=by kernel_rfl
theorem trodAll_n {H:Type} {enc:TypeId × Value→H} {P:Program} {w:World} {base:Nat} {spare:Nat→Bool} {held:Bool} {t0 t1 t2 t3:TypeId} {args:Array Value} {ds:List (DataW H)} {ps:List MemPlace} (h:DataW.TrodAll enc P w base spare held [t0,t1,t2,t3] args.toList ds ps) :
    ∃ v0 v1 v2 v3 d0 d1 d2 d3 p0 p1 p2 p3,args=#[v0,v1,v2,v3]∧ds=[d0,d1,d2,d3]∧ps=p0++p1++p2++p3∧DataW.Trod enc P w base spare held t0 v0 d0 p0∧DataW.Trod enc P w base spare held t1 v1 d1 p1∧DataW.Trod enc P w base spare held t2 v2 d2 p2∧DataW.Trod enc P w base spare held t3 v3 d3 p3:=by
  obtain ⟨v0,vs0,d0,ds0,p0,q0,hargs,rfl,rfl,h0,h⟩:=trodAll_cons h
  obtain ⟨v1,vs1,d1,ds1,p1,q1,rfl,rfl,rfl,h1,h⟩:=trodAll_cons h
  obtain ⟨v2,vs2,d2,ds2,p2,q2,rfl,rfl,rfl,h2,h⟩:=trodAll_cons h
  obtain ⟨v3,vs3,d3,ds3,p3,q3,rfl,rfl,rfl,h3,h⟩:=trodAll_cons h
  obtain ⟨rfl,rfl,rfl⟩:=trodAll_nil h
  exact ⟨v0,v1,v2,v3,d0,d1,d2,d3,p0,p1,p2,p3,by cases args; simp_all,rfl,by simp,h0,h1,h2,h3⟩
theorem door_met (os:Os) (args:Array Value):laidMetH Tryz.prog Rows.commitAbortsRow.laid ((World.doorLaid Tryz.prog 400 os).forCall (fun _ _=>0) ⟨#[],args,[]⟩).memory :=
  laidMetH_of_parts3 (fuel:=8) (laidMet_of_run' 8 (by kernel_rfl) (by kernel_rfl)) (by kernel_rfl) (by kernel_rfl)
set_option maxRecDepth 100000 in
theorem law_lifted (os:Os) (started:os.Started) (H:Type) (enc:TypeId × Value→H) :
    ReturnsInHanded {} Tryz.checked os 6 .any (fun w args=>(Rows.commitAbortsSpec.pre enc Tryz.prog Tryz.f6 Rows.commitAbortsRow.domain false w args∧laidMetH Tryz.prog Rows.commitAbortsRow.laid w)∧sizedMet enc Tryz.prog Tryz.f6 (OpenSpec.ofChange Rows.commitAbortsSpec) false w args) (Rows.commitAbortsSpec.post enc Tryz.prog Tryz.f6 false true false false):=by
  refine lawTrueLaid (C:=Tryz.checked) (tb:=4) df_own started (by kernel_rfl) Tryz.func6 df_laid rfl ?_ rfl Tryz.underlying4 (by kernel_rfl)
    (ChangeSpec.witness_shaped (enc:=enc) (C:=Tryz.checked) (os:=os) (X:=fun w _=>laidMetH Tryz.prog Rows.commitAbortsRow.laid w) false (World.doorLaid Tryz.prog 400 os) #[.int .i64 0,.agg #[.int .i64 0,.int .i64 0,.int .i64 0,.slice none 0 0,.string .empty,.slice none 0 0,.bool false],.agg #[.int .i64 0,.int .i64 0,.int .i64 0,.slice none 0 0,.string .empty,.slice none 0 0,.bool false],.bool false] 8 rfl (World.shaped_of_RefB (by kernel_rfl) (by kernel_rfl)) (by kernel_rfl) (by kernel_rfl) (by kernel_rfl) (door_met os _)) ?_
  · intro ds hd
    match ds,hd with
    | [_,_,_,_],_=>exact ⟨rfl,rfl,rfl⟩
  · intro W base args ds p hval0 hA0 _ hL
    have hval:∀ (j:Nat) t v,Tryz.f6.params[j]? = some t→args[j]? = some v→Value.okWide Tryz.prog W .any base t v:=hval0
    have hA:DataW.TrodAll enc Tryz.prog W 0 (fun _=>true) true Tryz.f6.params.toList args.toList ds p:=hA0
    rw [Tryz.params6] at hA hval
    obtain ⟨v0,v1,v2,v3,d0,d1,d2,d3,p0,p1,p2,p3,rfl,rfl,rfl,h0,h1,h2,h3⟩:=trodAll_n hA
    obtain ⟨kind,rfl,rfl,rfl,kindw⟩:=open_int Tryz.underlying3 (hval 0 3 v0 rfl rfl) h0
    obtain ⟨ocs,o,rfl,s1⟩:=open_agg (α:=OpC) 12 Tryz.underlying25 (hval 1 25 v1 rfl rfl) (by kernel_rfl) h1
    obtain ⟨op1,oc1,op2,oc2,rfl,_⟩:=opc_cells s1
    obtain ⟨rcs,r,rfl,s2⟩:=open_agg (α:=OpC) 12 Tryz.underlying25 (hval 2 25 v2 rfl rfl) (by kernel_rfl) h2
    obtain ⟨rp1,rc1,rp2,rc2,rfl,_⟩:=opc_cells s2
    obtain ⟨prep,rfl,rfl,rfl⟩:=open_bool Tryz.underlying4 (hval 3 4 v3 rfl rfl) h3
    have st0:Stable (fun M w=>Gv.rep M w (r.cells rp1 rc1 rp2 rc2) r):=inferInstance
    have st1:Stable (fun M w=>Gv.rep M w (o.cells op1 oc1 op2 oc2) o∧Gv.rep M w (r.cells rp1 rc1 rp2 rc2) r):=instStableAnd (fun M w=>Gv.rep M w (o.cells op1 oc1 op2 oc2) o) (fun M w=>Gv.rep M w (r.cells rp1 rc1 rp2 rc2) r)
    have st2:Stable (fun M w=>LaidI M w∧Gv.rep M w (o.cells op1 oc1 op2 oc2) o∧Gv.rep M w (r.cells rp1 rc1 rp2 rc2) r):=instStableAnd (fun M w=>LaidI M w) (fun M w=>Gv.rep M w (o.cells op1 oc1 op2 oc2) o∧Gv.rep M w (r.cells rp1 rc1 rp2 rc2) r)
    have fin:GivesIn (fun M w=>LaidI M w∧Gv.rep M w (o.cells op1 oc1 op2 oc2) o∧Gv.rep M w (r.cells rp1 rc1 rp2 rc2) r) Tryz.prog 6 _ (.bool true):=Aborts_in (kind:=kind) (prepare:=prep) (Φ:=(fun M w=>LaidI M w∧Gv.rep M w (o.cells op1 oc1 op2 oc2) o∧Gv.rep M w (r.cells rp1 rc1 rp2 rc2) r)) ⟨fun _ _ h=>h.1.1,fun _ _ h=>h.1.2⟩ (lp:=op1) (lc:=oc1) (kp:=op2) (kc:=oc2) (mp:=rp1) (mc:=rc1) (np:=rp2) (nc:=rc2) (o:=o) (r:=r) (fun _ _ h=>h.2.1) (fun _ _ h=>h.2.2)
    exact fin.law ⟨la_num hL,s1,s2⟩
theorem row_holds:Rows.CommitAbortsSaid :=
  OpenClaim.holds_of_wide 6 Tryz.f6 rfl rfl rfl rfl rfl rfl rfl ⟨rfl,rfl,rfl,rfl,rfl⟩ rfl rfl rfl rfl rfl (by kernel_rfl) Tryz.func6 (by kernel_rfl)
    (of_decide_eq_true (by kernel_rfl)) (by unfold Func.isWrapper; first | (rw [if_pos (by decide +kernel)]; kernel_rfl) | (rw [if_neg (by decide +kernel)]; exact ⟨rfl,rfl⟩))
    (fun os started H enc _=>law_lifted os started H enc)
theorem aborts_holds:Rows.CommitAbortsCardSaid :=
  Claim7.holds_tied_plain_at .later [] [.data,.data,.data,.data,.sentinel,.sentinel] true Rows.commitAbortsCard.stood.harness true
    row_holds (fun _ h=>by cases h) (by kernel_rfl) (fun _ h=>by cases h) commitAborts_row_tie rfl ⟨rfl,rfl⟩ (by kernel_rfl) rfl
    (fun f fn hf hfn=>by
      obtain rfl:f=6:=Option.some.inj ((show Tryz.prog.funcNamed Rows.commitAbortsRow.func=some 6 by kernel_rfl).symm.trans hf) |>.symm
      obtain rfl:fn=Tryz.f6:=(Option.some.inj (Tryz.func6.symm.trans hfn)).symm
      exact ⟨by kernel_rfl,fun j t ht=>by
        rw [Tryz.params6] at ht
        have hm:=Array.mem_of_getElem? ht
        have hall:((Tryz.f6.params.toList).all fun u => !Tryz.prog.wantsStandIn u)=true:=by kernel_rfl
        rw [Tryz.params6] at hall
        exact (show Tryz.prog.wantsStandIn t=false by simpa using List.all_eq_true.1 hall t (by simpa using hm))⟩)
    (by kernel_rfl)
end Go.Proofs.YtfccagphnfceiaaGreatDoor
end

