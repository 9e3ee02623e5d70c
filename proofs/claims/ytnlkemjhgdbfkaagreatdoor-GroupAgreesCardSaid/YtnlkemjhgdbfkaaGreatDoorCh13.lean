/-
 For every input erratalaw09.GroupAgrees returns true,does not panic,comes to an end,and leaves what came in as it was;the variables that its row lists are as the program's text lays them.
 Conditions: none beyond the given statement's own (GroupAgreesCardSaid).
-/
import Derived.Test.YtnlkemjhgdbfkaaGreatDoorCh12
import Derived.Test.YtnlkemjhgdbfkaaGreatDoorCh6
import Derived.Test.YtnlkemjhgdbfkaaGreatDoorCh10
import Derived.Test.YtnlkemjhgdbfkaaGreatDoorCh9
import Derived.Test.YtnlkemjhgdbfkaaGreatDoorCards
import Derived.MakeChecks
import Derived.Stop.LaidErr
import Derived.Lib.LaidTab
import Derived.Test.YtnlkemjhgdbfkaaGreatDoorTie
import Derived.SevenTiedAt
import Derived.LaidMore
import Derived.ChangeMaps5
import Derived.Test.YtnlkemjhgdbfkaaGreatDoorRows
open Go.Proofs.Tryz
set_option linter.unusedVariables false
set_option linter.unusedSimpArgs false
section
namespace Go.Proofs.YtnlkemjhgdbfkaaGreatDoor
open Go.Vc
theorem aIK (M w cs) (x:ByteArray) (h:Gv.rep M w cs x):(cs.all λu=>mU u)=true:=by
 obtain ⟨rfl,_⟩:=h
 rfl
theorem aQt {W w Q Φ M p n c l} (h:Go.Vc.iS W Q Φ M w) (hm:Own.buf p n c (dL l) 9 1∈Q) (hok:∀ x∈l,x.size<=maxLen):Sl M w p l :=
 vR.sl (α:=ByteArray) (D:=[]) (h.parked hm) (yK hok)
section
variable {W w:World} {S:List Own} {Φ:PW} {L:L9} {G:gP} {i:Nat}
theorem aAQ [aB Φ] {q l c2} (c:Ctx W w S Φ) (kZ:∀ M w,Φ M w->Sl M w q l) (hlen:l.length<100000000) {K} (hk:∀ p cap w',Ctx W w' (.buf p l.length cap (dL l) 9 1 :: S) Φ->K (.returned (.slice p l.length cap)) w'):aD F.iQ #[.slice q l.length c2] w K:=by
 refine fW (rX q l.length c2 (J:=K∘.returned) c ?_)
 refine Br.intro (λh=>λw G cx=>?_) (λh=>λk w G cx=>?_)
 .have hq:q=none:=by simpa using h
  have hl:l.length=0:=by
   rcases Nat.eq_zero_or_pos l.length with h0|h0
   .exact h0
   .obtain ⟨b,o,hb⟩:=(kZ _ _ cx.tX).there h0
    rw [hq] at hb;cases hb
  have hl':l=[]:=List.eq_nil_of_length_eq_zero hl
  subst hl'
  exact hk none 0 w (cx.left.EW 9 1)
 .obtain ⟨p',cap',w',cs,hrun,cx'⟩:=Ctx.a4a (P:=prog) (ts:=40) (ty:=40) (kb:=#[false,false]) (bytes:=16) (c2:=c2) cx (by kernel_rfl) aIK kZ hlen (by omega)
  have hcs:=NV cx'.tX.2
  subst hcs
  exact ⟨p',l.length,cap',w',hrun,.buf p' l.length cap' (dL l) 9 1 :: S,Φ,aL,cx'.fst,λw G cx=>hk p' cap' w cx.left⟩
theorem yP [aB Φ] (hsz:∀ s∈G.fV,s.size<=maxLen) (hlen:G.fV.length<100000000) (cx:Ctx W w (cR L G++S) Φ) {K} (hk:∀ p c w',G.fV.length<=c->Ctx W w' (cR L G++S) (λM w=>Φ M w/\Sl M w p G.fV)->K (.returned (.slice p G.fV.length c)) w'):
  aD F.gC #[.pointer (some ⟨L.gb,0,none⟩)] w K:=by
 refine fW (xX L.gb 0 (J:=K∘.returned) cx λw Y cx=>⟨L.cp,G.fV.length,L.cc,cx.get 0 rfl (by rfl),λw Y cx=>?_⟩)
 have jL:Ctx W w (S++Y) (Go.Vc.iS W (cR L G) Φ):=Ctx.aside (cx.re (b9 _ _ _))
 refine aAQ jL (λM w h=>aQt h (n:=G.fV.length) (c:=L.cc) (by unfold cR;simp) hsz) hlen λq cap w cx=>?_
 obtain ⟨_,a2r,hcap2⟩:=cx.sU 0 rfl
 have BK:Ctx W w (.buf q G.fV.length cap (dL G.fV) 9 1 :: (cR L G++(S++Y))) Φ:=cx.A9.perm List.perm_middle
 obtain ⟨WW,hs,_⟩:=Ctx.freeze (α:=ByteArray) BK (yK hsz)
 have hst:aB (λM w=>Φ M w/\Sl M w q G.fV):=dM Φ (λM w=>Sl M w q G.fV)
 exact ⟨q,_,cap,rfl,cR L G++S,λM w=>Φ M w/\Sl M w q G.fV,hst,gr (WW.add hs),λw Y cx=>hk q cap w a2r cx.left⟩
theorem a3j {M w cs} {x:Int × Int} (h:Gv.rep M w cs x):cs=[.int .i64 x.1,.int .i64 x.2]/\(aX x.1/\aX x.2):=by
 obtain ⟨_,_,rfl,⟨rfl,h1⟩,rfl,h2⟩:=h
 exact ⟨rfl,h1,h2⟩
theorem aL5 (M w cs) (x:Int × Int) (h:Gv.rep M w cs x):(cs.all λu=>mU u)=true:=by
 rw [(a3j h).1];rfl
theorem aEx {M w l} (h:∀ x∈l,aX x.1/\aX x.2):dI M w (kV l) l:=by
 refine ⟨uY l,λj hj=>?_⟩
 rw [show (Gv.ty (Int × Int)).size=2 from rfl,X2 hj]
 have:=h _ (List.getElem_mem hj)
 exact ⟨[_],[_],rfl,⟨rfl,this.1⟩,rfl,this.2⟩
theorem aEy {M w cs l} (h:dI M w cs l):cs=kV l:=by
 apply List.ext_getElem?
 intro i
 have hl:=h.1
 rw [show (Gv.ty (Int × Int)).size=2 from rfl] at hl
 by_cases hi:i<cs.length
 .have hj:i / 2<l.length:=by omega
  have h1:=(a3j (h.2 (i / 2) hj)).1
  rw [show (Gv.ty (Int × Int)).size=2 from rfl,<-X2 hj] at h1
  have h2:((cs.drop (i / 2*2)).take 2)[i % 2]? = (((kV l).drop (i / 2*2)).take 2)[i % 2]? := by rw [h1]
  rw [List.getElem?_take_of_lt (by omega),List.getElem?_take_of_lt (by omega),List.getElem?_drop,List.getElem?_drop] at h2
  rwa [show i / 2*2+i % 2=i by omega] at h2
 .rw [List.getElem?_eq_none (by omega),List.getElem?_eq_none (by rw [uY];omega)]
theorem aAR [aB Φ] {q l c2} (c:Ctx W w S Φ) (kZ:∀ M w,Φ M w->Sl M w q l) (hlen:l.length<100000000) {K} (hk:∀ p cap w',Ctx W w' (.buf p l.length cap (kV l) 325 2 :: S) Φ->K (.returned (.slice p l.length cap)) w'):aD F.eR #[.slice q l.length c2] w K:=by
 refine fW (mC q l.length c2 (J:=K∘.returned) c ?_)
 refine Br.intro (λh=>λw G cx=>?_) (λh=>λk w G cx=>?_)
 .have hq:q=none:=by simpa using h
  have hl:l.length=0:=by
   rcases Nat.eq_zero_or_pos l.length with h0|h0
   .exact h0
   .obtain ⟨b,o,hb⟩:=(kZ _ _ cx.tX).there h0
    rw [hq] at hb;cases hb
  have hl':l=[]:=List.eq_nil_of_length_eq_zero hl
  subst hl'
  exact hk none 0 w (cx.left.EW 325 2)
 .obtain ⟨p',cap',w',cs,hrun,cx'⟩:=Ctx.a4a (P:=prog) (ts:=254) (ty:=254) (kb:=#[false,false]) (bytes:=16) (c2:=c2) cx (by kernel_rfl) aL5 kZ hlen (by omega)
  have hcs:=aEy cx'.tX.2
  subst hcs
  exact ⟨p',l.length,cap',w',hrun,.buf p' l.length cap' (kV l) 325 2 :: S,Φ,aL,cx'.fst,λw G cx=>hk p' cap' w cx.left⟩
theorem aIL [aB Φ] {fm es sF} (hm:w.heap[fm]? = some (bK (Value.int .i64) fK es sF)) (cx:Ctx W w S Φ) {K} (hk:∀ b w',Ctx W w' (.obj b (bK (Value.int .i64) fK es sF) :: S) Φ->K (.returned (.map (some b))) w'):aD F.fX #[.map (some fm)] w K :=
 (AnyW.maps_Clone Tryz.mc1 fm _ sF w hm).mono λe w' ⟨he,hw⟩=>by rw [he];exact hk _ _ (cx.newObj hw)
theorem aIM [aB Φ] {sm es sF} (hm:w.heap[sm]? = some (bK iN Value.bool es sF)) (cx:Ctx W w S Φ) {K} (hk:∀ b w',Ctx W w' (.obj b (bK iN Value.bool es sF) :: S) Φ->K (.returned (.map (some b))) w'):aD F.eU #[.map (some sm)] w K :=
 (AnyW.maps_Clone Tryz.mc2 sm _ sF w hm).mono λe w' ⟨he,hw⟩=>by rw [he];exact hk _ _ (cx.newObj hw)
theorem aIN [aB Φ] {q d} (hq:oR q d) (cx:Ctx W w (aZ q d++S) Φ) {K} (hk:∀ q' w',q'.kp=q.kp->oR q' d->Ctx W w' (aZ q' d++(aZ q d++S)) Φ->K (.returned (.pointer (some ⟨q'.db,0,none⟩))) w'):aD F.xL #[.pointer (some ⟨q.db,0,none⟩)] w K:=by
 have hqs:∀ x∈d.queue,aX x.1/\aX x.2:=λx hx=>by have:=hq.range x hx;unfold aX;omega
 have hql:=hq.aHw
 refine fW (KI q.db 0 (J:=K∘.returned) cx λw Y cx=>⟨_,_,_,_,_,_,_,_,_,_,_,cx.DB 0 rfl,λk w Y cx=>⟨cx.can 0 rfl (by show 0+7<=7;omega),λw' hw'=>?_⟩⟩)
 have c0:=cx.F6 0 hw' rfl
 refine ⟨.blk k (uD q d) 256 :: (aZ q d++S),Φ,aL,c0,[.blk q.db (uD q d) 256],VI,aL,λw Y cx=>bX cx (.cons _ (.cons_cons _ (List.nil_sublist _))),some q.fm,λw Y cx=>⟨_,cx.get 0 rfl rfl,rfl⟩,q.qp,d.queue.length,q.qc,λw Y cx=>⟨_,_,_,cx.get 0 rfl rfl,rfl⟩,some q.sm,λw Y cx=>⟨_,cx.get 0 rfl rfl,rfl⟩,λw Y cx=>?_⟩
 refine aIL (cx.own (.obj q.fm (bK (Value.int .i64) fK q.rV q.cL)) (by simp [aZ])) cx λb1 w cx=>⟨_,rfl,.obj b1 (bK (Value.int .i64) fK q.rV q.cL) :: .blk k (uD q d) 256 :: (aZ q d++S),Φ,aL,cx,λw Y cx=>bX cx (.cons _ (.cons _ (.cons_cons _ (List.nil_sublist _)))),λw Y cx=>?_⟩
 have cA:Ctx W w ((.obj b1 (bK (Value.int .i64) fK q.rV q.cL) :: .blk k (uD q d) 256 :: S)++Y) (Go.Vc.iS W (aZ q d) Φ):=Ctx.aside (Q:=aZ q d) (cx.perm (by
  show ((.obj b1 (bK (Value.int .i64) fK q.rV q.cL) :: .blk k (uD q d) 256 :: (aZ q d++S))++Y).Perm (aZ q d++((.obj b1 (bK (Value.int .i64) fK q.rV q.cL) :: .blk k (uD q d) 256 :: S)++Y))
  have:∀ (a b:Own) (D S Y:List Own),((a :: b :: (D++S))++Y).Perm (D++((a :: b :: S)++Y)):=λa b D S Y=>by
   rw [List.cons_append,List.cons_append,b9]
   exact (List.perm_append_comm_assoc [a,b] D (S++Y))
  exact this _ _ _ _ _))
 refine aAR cA (λM w h=>vR.sl (α:=Int × Int) (D:=[]) (h.parked (o:=.buf q.qp d.queue.length q.qc (kV d.queue) 325 2) (by simp [aZ])) (aEx hqs)) (by omega) λp' c' w cx=>?_
 have c1:Ctx W w ((.buf p' d.queue.length c' (kV d.queue) 325 2 :: .obj b1 (bK (Value.int .i64) fK q.rV q.cL) :: .blk k (uD q d) 256 :: (aZ q d++S))++Y) Φ:=cx.A9.perm (by
  have:∀ (a b c:Own) (D S Y:List Own),(D++(a :: ((b :: c :: S)++Y))).Perm ((a :: b :: c :: (D++S))++Y):=λa b c D S Y=>by
   have e:(a :: b :: c :: (D++S))++Y=[a,b,c]++(D++(S++Y)):=by simp
   rw [e]
   exact (List.perm_append_comm_assoc [a,b,c] D (S++Y)).symm
  exact this _ _ _ _ _ _)
 refine ⟨_,_,_,rfl,.buf p' d.queue.length c' (kV d.queue) 325 2 :: .obj b1 (bK (Value.int .i64) fK q.rV q.cL) :: .blk k (uD q d) 256 :: (aZ q d++S),Φ,aL,c1,λw Y cx=>bX cx (.cons _ (.cons _ (.cons _ (.cons_cons _ (List.nil_sublist _))))),λw Y cx=>?_⟩
 refine aIM (cx.own (.obj q.sm (bK iN Value.bool q.EA q.j5)) (by simp [aZ])) cx λb2 w cx=>?_
 let X:List Own:=.buf p' d.queue.length c' (kV d.queue) 325 2 :: .obj b1 (bK (Value.int .i64) fK q.rV q.cL) :: []
 refine ⟨_,rfl,.obj b2 (bK iN Value.bool q.EA q.j5) :: .buf p' d.queue.length c' (kV d.queue) 325 2 :: .obj b1 (bK (Value.int .i64) fK q.rV q.cL) :: .blk k (uD q d) 256 :: (aZ q d++S),Φ,aL,cx,λw Y cx=>⟨cx.can 3 rfl (by show 0+1<=7;omega),λw' hw'=>⟨.obj b2 (bK iN Value.bool q.EA q.j5) :: .buf p' d.queue.length c' (kV d.queue) 325 2 :: .obj b1 (bK (Value.int .i64) fK q.rV q.cL) :: .blk k ((uD q d).set 0 (.map (some b1))) 256 :: (aZ q d++S),Φ,aL,cx.put 3 hw' rfl,λw Y cx=>⟨cx.can 3 rfl (by show 1+1<=7;omega),λw' hw'=>⟨.obj b2 (bK iN Value.bool q.EA q.j5) :: .buf p' d.queue.length c' (kV d.queue) 325 2 :: .obj b1 (bK (Value.int .i64) fK q.rV q.cL) :: .blk k (((uD q d).set 0 (.map (some b1))).set 1 (.slice p' d.queue.length c')) 256 :: (aZ q d++S),Φ,aL,cx.put 3 hw' rfl,λw Y cx=>⟨cx.can 3 rfl (by show 2+1<=7;omega),λw' hw'=>⟨.obj b2 (bK iN Value.bool q.EA q.j5) :: .buf p' d.queue.length c' (kV d.queue) 325 2 :: .obj b1 (bK (Value.int .i64) fK q.rV q.cL) :: .blk k ((((uD q d).set 0 (.map (some b1))).set 1 (.slice p' d.queue.length c')).set 2 (.map (some b2))) 256 :: (aZ q d++S),Φ,aL,cx.put 3 hw' rfl,λw Y cx=>?_⟩⟩⟩⟩⟩⟩⟩
 refine hk ⟨k,b1,q.rV,q.cL,b2,q.EA,q.j5,p',c',q.kp,q.kc⟩ w rfl ⟨hq.fok,hq.sok,hq.TS,hq.a1K,hq.nodup,hq.range,hq.size,hq.lost,hq.eL⟩ ?_
 refine (Ctx.left cx).perm ?_
 have:∀ (a b c e:Own) (D:List Own),(a :: b :: c :: e :: D).Perm ([e,c,a,b]++D):=λa b c e D=>by
  show (a :: b :: c :: e :: D).Perm (e :: c :: a :: b :: D)
  exact (List.perm_middle (a:=e) (l₁:=[a,b,c]) (l₂:=D)).trans (.cons _ (List.perm_middle (a:=c) (l₁:=[a,b]) (l₂:=D)))
 exact this _ _ _ _ _
def aQu (d:gZ):Prop:=∀ j,(qK (LY d) 0).2.1=some j->j.list.length<=1000000/\∀ s∈j.list,s.size<=100000000/\(mX s).Ok
theorem aQv {d Q} (h:DnI d Q):aQu d:=λj hj=>by
 obtain ⟨hw,H,P,hQ,hC,hL⟩:=h
 obtain ⟨c1,c2,c3⟩:=aCf hw
 have L8:a7t (LY d) P:=hL.ev (c2 _) (c2 _)
 have hO:=TP (d:=LY d) (b:=0) (by decide) c1 L8
 rcases hO.or with ⟨j',g1,g2,g3,⟨lg,g4,g5,g6⟩,g7,g8⟩|⟨g1,g2,g3⟩
 .rw [g1] at hj
  cases hj
  have hsz:=g5.size
  refine ⟨?_,λs hs=>?_⟩
  .rw [g4]
   have:=x7 (l:=lg.map gX) λx hx=>by
    have:=jS hx
    omega
   omega
  .rw [g4] at hs
   have:=jS hs
   obtain ⟨x,hx,rfl⟩:=List.mem_map.1 hs
   have h1:=g5.aAm x hx
   refine ⟨by omega,?_⟩
   rw [Y3 h1.1 h1.2]
   exact ⟨h1.1,by unfold maxLen;omega⟩
 .rw [g1] at hj;cases hj
theorem aCo (L G) (hi:i<3) (F):(cR L G++F).Perm (aZ (L.P i).q (G.mem i).d++(kG L.gb (kW L G) :: (aAH (L.P i) (G.mem i)++(zG L G i++F)))):=by
 have h:=yO (L.P i) (G.mem i) L.gb (kW L G) (zG L G i) F
 rw [List.cons_append,b9] at h
 exact (RN L G hi F).trans h
theorem a7W [aB Φ] (hoff:∀ M w,Φ M w->rM M w) (hN:∀ M w,Φ M w->tM M w) (hF:mT Φ L G) (hs:∀ i,i<3->aQu (G.mem i).d) {id} (cx:Ctx W w (cR L G++S) Φ) {K} (hk:∀ p c w',Ctx W w' (cR L G++S) (λM w=>Φ M w/\Sl M w p (wZ G id))->K (.returned (.slice p (wZ G id).length c)) w'):
  aD F.pT #[.pointer (some ⟨L.gb,0,none⟩),.int .i64 id] w K:=by
 refine fW (CF L.gb 0 id (J:=K∘.returned) cx λw Y cx=>?_)
 rw [b9] at cx
 refine RW cx λw cx=>⟨_,rfl,cR L G++S,Φ,aL,by rw [b9];exact cx,?_⟩
 unfold wZ at hk
 by_cases hid:id<0\/3<=id
 .have e1:upG G id=1:=by unfold upG;rw [if_pos hid]
  rw [if_pos hid] at hk
  rw [e1]
  exact Br.intro (λ_=>λw Y cx=>hk none 0 w (cx.left.add Sl.nil)) (λh=>absurd rfl (cS h))
 have e1:upG G id≠1:=by unfold upG;rw [if_neg hid];split<;>decide
 rw [if_neg hid] at hk
 refine Br.intro (λh=>absurd (eC h) e1) (λ_=>⟨by omega,λw Y cx=>?_⟩)
 obtain ⟨i,rfl⟩:∃ i:Nat,id=i:=⟨id.toNat,by omega⟩
 have hi:i<3:=by omega
 rw [Int.toNat_natCast] at hk ⊢
 have hm:=hF.mem i hi
 refine ⟨some ⟨(L.P i).q.db,0,none⟩,cx.get 0 rfl (by rw [Nat.zero_add];exact CW L G hi (k:=0) (by decide)),λw Y cx=>?_⟩
 rw [b9] at cx
 refine aIN hm.dq (cx.perm (aCo L G hi (S++Y))) λq w _ hq cx=>?_
 have pb:∀ (D:List Own) (Y:List Own),(D++(aZ (L.P i).q (G.mem i).d++(kG L.gb (kW L G) :: (aAH (L.P i) (G.mem i)++(zG L G i++(S++Y)))))).Perm ((D++(cR L G++S))++Y):=λD Y=>by
  rw [b9,b9]
  exact .append_left _ (aCo L G hi (S++Y)).symm
 refine ⟨_,rfl,aZ q (G.mem i).d++(cR L G++S),Φ,aL,cx.perm (pb _ _),λw Y cx=>?_⟩
 rw [b9] at cx
 refine a69 hq (n:=0) (by unfold aX;decide) cx λw hq cx=>⟨rfl,aZ q (nL (G.mem i).d 0)++(cR L G++S),Φ,aL,by rw [b9];exact cx,λw Y cx=>?_⟩
 rw [b9] at cx
 refine aB0 hq (n:=0) (p:=none) (cap:=0) (l:=[]) (by unfold aX;decide) (Nat.zero_le _) (λM w h=>Sl.nil) cx λp' c' w hq cx=>?_
 obtain ⟨q1,hq1⟩:∃ q1:DkP,q1={ q with kp:=p',kc:=c' }:=⟨_,rfl⟩
 have hdb:q1.db=q.db:=by rw [hq1]
 rw [<-hq1] at hq cx
 rw [<-hdb]
 obtain ⟨Ψ,hΨ⟩:∃ Ψ:PW,Ψ=λM w=>Φ M w/\dkF q1 (vU (nL (G.mem i).d 0) 0 []) M w:=⟨_,rfl⟩
 haveI:aB Ψ:=by rw [hΨ];infer_instance
 have hw1:∀ M w,Ψ M w->Φ M w:=by rw [hΨ];exact λM w h=>h.1
 have zY:∀ M w,Ψ M w->dkF q1 (vU (nL (G.mem i).d 0) 0 []) M w:=by rw [hΨ];exact λM w h=>h.2
 rw [<-hΨ] at cx
 refine ⟨rfl,aZ q1 (vU (nL (G.mem i).d 0) 0 [])++(cR L G++S),Ψ,aL,by rw [b9];exact cx,λw Y cx=>?_⟩
 rw [b9] at cx
 refine K0 hq (p:=none) (cap:=0) (keep:=[]) (Nat.zero_le _) (λM w h=>Sl.nil) cx λu w hq cx=>⟨rfl,aZ (q1.mv u) (cQ (vU (nL (G.mem i).d 0) 0 []) [])++(cR L G++S),Ψ,aL,by rw [b9];exact cx,λw Y cx=>?_⟩
 rw [b9] at cx
 have hk1:J6 Ψ (q1.mv u) (eA (cQ (vU (nL (G.mem i).d 0) 0 []) [])):=by
  have h0:J6 Ψ q1 (vU (nL (G.mem i).d 0) 0 []):=⟨Nat.zero_le _,zY⟩
  exact h0.of (by show (cQ _ _).keep=_;exact EC _ _) u
 refine a2K hq cx λw hq cx=>⟨rfl,aZ (q1.mv u) (eA (cQ (vU (nL (G.mem i).d 0) 0 []) []))++(cR L G++S),Ψ,aL,by rw [b9];exact cx,λw Y cx=>?_⟩
 rw [b9] at cx
 have hcd:eA (cQ (vU (nL (G.mem i).d 0) 0 []) [])=LY (G.mem i).d:=rfl
 rw [hcd] at hq hk1 cx
 refine a2R hq hk1 (λM w h=>hoff M w (hw1 M w h)) (λM w h=>hN M w (hw1 M w h)) cx (λu2 d' e w ho qP TY cx=>?_) (λu2 x d' j w ho hsb qP TY cx=>?_)
 .have e2:mS (G.mem i).d=[]:=by unfold mS;rw [ho]
  rw [e2] at hk
  have hne:=a0o ho
  have c1:Ctx W w ((cR L G++S)++Y) Ψ:=Ctx.right cx
  exact ⟨none,e,rfl,cR L G++S,Ψ,aL,c1,Br.intro (λ_=>λw Y cx=>hk none 0 w ((cx.left.weak hw1).add Sl.nil)) (λh=>absurd (Decidable.not_not.1 (cS h)) hne)⟩
 .have e2:mS (G.mem i).d=j.list.map mX:=by unfold mS;rw [ho]
  rw [e2] at hk
  obtain ⟨h1,h2⟩:=hs i hi j (by rw [ho])
  have c1:Ctx W w (eI x (q1.mv u) j++((cR L G++S)++Y)) Ψ:=cx.sub (List.Sublist.append_left (List.sublist_append_right _ _) _)
  refine ⟨some ⟨x.jb,0,none⟩,0,rfl,eI x (q1.mv u) j++(cR L G++S),Ψ,aL,by rw [b9];exact c1,Br.intro (λh=>absurd rfl (eC h)) (λ_=>λw Y cx=>?_)⟩
  rw [b9] at cx
  refine RJ (λM w h=>hN M w (hw1 M w h)) hsb h1 (λs hs=>(h2 s hs).1) (λs hs=>(h2 s hs).2) cx λp c w cx=>⟨_,_,_,rfl,eI x (q1.mv u) j++(cR L G++S),_,dM Ψ (λM w=>Sl M w p (j.list.map mX)),by rw [b9];exact cx,λw Y cx=>?_⟩
  exact hk p c w ((Ctx.right (S:=eI x (q1.mv u) j) (Ctx.left cx)).weak λM w h=>⟨hw1 M w h.1,h.2⟩)
abbrev aQw:List Value:=[dD,dD,dD,dD]
def FX (P:Nat->RM) (N:aHT) (j:Nat):List Value :=
 (if 0<j then EH (P 0) true else aQw)++((if 1<j then EH (P 1) true else aQw)++((if 2<j then EH (P 2) true else aQw)++[.pointer (some ⟨N.nb,0,none⟩),.slice none 0 0]))
def JF (P:Nat->RM):Nat->List Own
 | 0=>[]
 | j+1=>gY (P j) (CT j)++JF P j
theorem a0N (P N j):(FX P N j).length=14:=by
 unfold FX
 split<;>split<;>split<;>rfl
theorem a7X (P X) {k}:∀ j,j<=k->JF (put P k X) j=JF P j
 | 0,_=>rfl
 | j+1,h=>by
  show gY (put P k X j) (CT j)++JF (put P k X) j=gY (P j) (CT j)++JF P j
  rw [gN _ _ (by omega),a7X P X j (by omega)]
theorem aEz (P N) {j} (hj:j<3) (X):up3 ((FX P N j).set (j*4) (pA X.q.db)) (j*4) X.x.jb X.cb X.rb=FX (put P j X) N (j+1):=by
 match j,hj with
 | 0,_=>rfl
 | 1,_=>rfl
 | 2,_=>rfl
theorem aEA (i):(CT i).up.isSome=true:=by
 obtain ⟨u,h,_⟩:=EO i
 rw [h];rfl
theorem aL6 (gb N P):kW ⟨gb,N,none,0,P⟩ J1=FX P N 3:=by
 have e:∀ i,(J1.mem i).up.isSome=true:=aEA
 unfold kW
 rw [e,e,e]
 rfl
theorem aL7 (a) (D X Y:List Own):(D++((a :: X)++Y)).Perm ((a :: (D++X))++Y):=by
 rw [List.cons_append,List.cons_append,b9]
 exact List.perm_middle
theorem aEB (P N):FX P N 0=[dD,dD,dD,dD,dD,dD,dD,dD,dD,dD,dD,dD,.pointer (some ⟨N.nb,0,none⟩),.slice none 0 0]:=rfl
theorem a7Y [aB Φ] (hoff:∀ M w,Φ M w->rM M w) (hN:∀ M w,Φ M w->tM M w) (cx:Ctx W w S Φ) {K} (hk:∀ L Ψ w',aB Ψ->(∀ M w,Ψ M w->Φ M w)->mT Ψ L J1->Ctx W w' (cR L J1++S) Ψ->K (.returned (.pointer (some ⟨L.gb,0,none⟩))) w'):
  aD F.JR #[] w K:=by
 refine fW (Z0 (J:=K∘.returned) cx λw Y cx=>aHX (S:=S++Y) cx λN w cx=>⟨_,rfl,fO N ⟨[],0⟩++S,Φ,aL,by rw [b9];exact cx,λgb=>?_⟩)
 refine dF (λnI R' Ψ κ=>∃ (j:Nat) (P:Nat->RM),nI=j/\j<=3/\κ=3 - j/\R'=kG gb (FX P N j) :: (JF P j++(fO N ⟨[],0⟩++S))/\(∀ M w,Ψ M w->Φ M w)/\∀ i,i<j->O0 Ψ (P i) (CT i)) ⟨⟨kG gb (FX (λ_=>⟨⟨0,0,[],0,0,[],0,none,0,none,0⟩,⟨0,0,none,0,.obj 0 (.map #[] 0)⟩,0,0,none,0⟩) N 0) :: ([]++(fO N ⟨[],0⟩++S)),Φ,_,aL,λw Y cx=>by rw [aEB];exact cx,0,_,rfl,Nat.zero_le _,rfl,rfl,λ_ _ h=>h,λi hi=>absurd hi (Nat.not_lt_zero _)⟩,?_⟩
 rintro nI R' Ψ κ hst ⟨j,P,rfl,hj,rfl,rfl,hw,hM⟩
 refine Br.intro (λhlt=>?_) (λhge=>λw Y cx=>?_)
 .have hlt:j<3:=by have:=eC hlt;omega
  refine ⟨[],VI,aL,λw Y cx=>bX cx (List.nil_sublist _),λw Y cx=>?_⟩
  refine aHx cx λq w hq cx=>?_
  obtain ⟨Ξ,hΞ⟩:∃ Ξ:PW,Ξ=λM w=>Ψ M w/\dkF q nK M w:=⟨_,rfl⟩
  haveI:aB Ξ:=by rw [hΞ];infer_instance
  have hw1:∀ M w,Ξ M w->Ψ M w:=by rw [hΞ];exact λM w h=>h.1
  have zY:∀ M w,Ξ M w->dkF q nK M w:=by rw [hΞ];exact λM w h=>h.2
  rw [<-hΞ] at cx
  have c1:Ctx W w ((kG gb (FX P N j) :: (aZ q nK++(JF P j++(fO N ⟨[],0⟩++S))))++Y) Ξ:=cx.perm (aL7 _ _ _ _)
  refine ⟨some ⟨q.db,0,none⟩,rfl,kG gb (FX P N j) :: (aZ q nK++(JF P j++(fO N ⟨[],0⟩++S))),Ξ,aL,c1,λw Y cx=>bX cx (List.nil_sublist _),by omega,λw Y cx=>?_⟩
  rw [Int.toNat_natCast,Nat.zero_add]
  refine ⟨cx.can 0 rfl (by rw [a0N];omega),λw' hw'=>⟨kG gb ((FX P N j).set (j*4) (pA q.db)) :: (aZ q nK++(JF P j++(fO N ⟨[],0⟩++S))),Ξ,aL,cx.put 0 hw' rfl,by omega,λw Y cx=>?_⟩⟩
  have aPK:((FX P N j).set (j*4) (pA q.db))[j*4]? = some (.pointer (some ⟨q.db,0,none⟩)):=by
   rw [List.getElem?_set_self (by rw [a0N];omega)]
  rw [List.cons_append,b9] at cx
  refine a2X (id:=j) (λM w h=>hoff M w (hw M w (hw1 M w h))) (λM w h=>hN M w (hw M w (hw1 M w h))) aPK (by rw [List.length_set,a0N];omega) hq ⟨Nat.zero_le _,zY⟩ (λup hu=>(aL2 hlt up hu).1) cx (λu w ho he hq1 TY cx=>?_) (λu x cb rb rp rc up w ho he hsb hq1 TY cx=>?_)
  .exfalso
   obtain ⟨u',h1,_⟩:=EO j
   have h1:(bZ j nK).2.1=some u':=h1
   rw [ho] at h1;cases h1
  .have e1:=aEz P N hlt ⟨q.mv u,x,cb,rb,rp,rc⟩
   have e1:up3 ((FX P N j).set (j*4) (pA q.db)) (j*4) x.jb cb rb=FX (put P j ⟨q.mv u,x,cb,rb,rp,rc⟩) N (j+1):=e1
   rw [e1] at cx
   have em:CT j=⟨(bZ j nK).1,some up⟩:=by rw [<-ho];rfl
   have e2:JF (put P j ⟨q.mv u,x,cb,rb,rp,rc⟩) (j+1)=gY ⟨q.mv u,x,cb,rb,rp,rc⟩ ⟨(bZ j nK).1,some up⟩++JF P j:=by
    show gY (put P j _ j) (CT j)++JF (put P j _) j=_
    rw [cZ,a7X P _ j (Nat.le_refl _),em]
   have c2:Ctx W w ((kG gb (FX (put P j ⟨q.mv u,x,cb,rb,rp,rc⟩) N (j+1)) :: (JF (put P j ⟨q.mv u,x,cb,rb,rp,rc⟩) (j+1)++(fO N ⟨[],0⟩++S)))++Y) Ξ:=by
    rw [e2]
    refine cx.perm (.cons _ ?_)
    show (aS rb up.r rp rc++(eI x q up.j++([eS cb q up.c]++(aZ (q.mv u) (bZ j nK).1++((JF P j++(fO N ⟨[],0⟩++S))++Y))))).Perm (((aS rb up.r rp rc++(eI x (q.mv u) up.j++(aZ (q.mv u) (bZ j nK).1++[eS cb (q.mv u) up.c])))++JF P j++(fO N ⟨[],0⟩++S))++Y)
    rw [b9 (aS rb up.r rp rc++_) (JF P j),b9 (aS rb up.r rp rc++_),b9 (aS rb up.r rp rc),b9 (eI x _ up.j),b9 (aZ _ _)]
    exact .append_left _ (.append_left _ (List.perm_append_comm_assoc _ _ _))
   refine ⟨0,rfl,kG gb (FX (put P j ⟨q.mv u,x,cb,rb,rp,rc⟩) N (j+1)) :: (JF (put P j ⟨q.mv u,x,cb,rb,rp,rc⟩) (j+1)++(fO N ⟨[],0⟩++S)),Ξ,aL,c2,by unfold aX;omega,_,Ξ,_,aL,λw Y cx=>cx,⟨j+1,_,by omega,by omega,rfl,rfl,λM w h=>hw M w (hw1 M w h),λi hi=>?_⟩,by omega⟩
   by_cases e:i=j
   .subst e
    rw [cZ,em]
    exact ⟨hq1,⟨by rw [TY];exact Nat.zero_le _,λM w h=>by rw [TY];exact zY M w h⟩,λv hv=>by cases hv;exact hsb⟩
   .rw [gN _ _ e]
    exact (hM i (by omega)).weak hw1
 .have he:j=3:=by have:=cS hge;omega
  subst he
  refine hk ⟨gb,N,none,0,P⟩ Ψ w hst hw ⟨hM,Nat.zero_le _⟩ ?_
  have c1:=(Ctx.left cx).EW 9 1
  refine c1.perm ?_
  unfold cR
  rw [aL6]
  show (Own.buf none 0 0 [] 9 1 :: kG gb (FX P N 3) :: ((gY (P 2) (CT 2)++(gY (P 1) (CT 1)++(gY (P 0) (CT 0)++[])))++(fO N ⟨[],0⟩++S))).Perm ((kG gb (FX P N 3) :: (fO N ⟨[],0⟩++(Own.buf none 0 0 [] 9 1 :: (gY (P 0) (CT 0)++(gY (P 1) (CT 1)++gY (P 2) (CT 2))))))++S)
  have key:∀ (a b:Own) (X Y Z N S:List Own),(a :: b :: ((X++(Y++(Z++[])))++(N++S))).Perm ((b :: (N++(a :: (Z++(Y++X)))))++S):=λa b X Y Z N S=>by
   refine (List.Perm.swap _ _ _).trans ?_
   rw [List.append_nil,List.cons_append]
   refine .cons _ ?_
   have e:(N++a :: (Z++(Y++X)))++S=N++((a :: (Z++(Y++X)))++S):=b9 _ _ _
   rw [e]
   refine List.Perm.trans ?_ (List.perm_append_comm_assoc (a :: (Z++(Y++X))) N S)
   rw [List.cons_append]
   refine .cons _ (.append_right _ ?_)
   refine (List.perm_append_comm_assoc X Y Z).trans ?_
   refine (List.Perm.append_left Y List.perm_append_comm).trans ?_
   exact List.perm_append_comm_assoc Y Z X
  exact key _ _ _ _ _ _ _
end
structure O4 where
 r:Nat->dX
 fl:List bR
 sp:Int
 fV:List ByteArray
def CY (m:bR):NS:=⟨m.src,m.to,bs (rZ m)⟩
def oQ (P:O4) (i:Nat):O4:=if P.fV.length<(P.r i).aE then { P with fV:=((P.r i).log.take (P.r i).aE).map bQ.data } else P
def JG (P:O4):O4:=oQ (oQ (oQ P 0) 1) 2
def aNp (sp:Int) (id:Nat) (m:bR):Bool:=(CQ id&&(CQ m.to&&decide ((id:Int)≠m.to)))&&yE sp id m.to
def a3k (sp:Int) (id:Nat) (fl:List bR) (m:bR):List bR:=if (aNp sp id m&&decide (fl.length<500))=true then fl++[m] else fl
def aAS (sp:Int) (id:Nat) (fl l:List bR):List bR:=l.foldl (a3k sp id) fl
def a7Z (P:O4) (i:Nat) (x:dX × lT):O4:={ P with r:=put P.r i x.1,fl:=aAS P.sp i P.fl x.2.send }
def doP (P:O4) (i:Nat) (x:dX × lT):O4:=JG (a7Z P i x)
def aAT (P:O4) (i:Nat):O4:=doP P i (eG (P.r i))
def aAU (P:O4) (i:Nat) (data:ByteArray):O4:=doP P i ((aK (P.r i) data).1,(aK (P.r i) data).2.2.2)
def aAV (P:O4):O4:=match P.fl with
 | []=>P
 | m :: rest=>if yE P.sp m.src m.to=false then { P with fl:=rest } else doP { P with fl:=rest } m.to.toNat (cX (P.r m.to.toNat) m)
def a0O:Nat->O4->O4 × Nat
 | 0,P=>(P,0)
 | k+1,P=>if P.fl=[] then (P,0) else
  let x:=a0O k (aAV P)
  (x.1,x.2+1)
def a71 (P:O4) (i:Nat) (most:Int):O4 × Nat:=a0O most.toNat (aAT P i)
theorem JH (P i):(oQ P i).r=P.r/\(oQ P i).fl=P.fl/\(oQ P i).sp=P.sp:=by
 unfold oQ
 split<;>exact ⟨rfl,rfl,rfl⟩
theorem aL8 (P):(JG P).r=P.r/\(JG P).fl=P.fl/\(JG P).sp=P.sp:=by
 unfold JG
 obtain ⟨a1,a2,a3⟩:=JH P 0
 obtain ⟨b1,b2,b3⟩:=JH (oQ P 0) 1
 obtain ⟨c1,c2,c3⟩:=JH (oQ (oQ P 0) 1) 2
 exact ⟨by rw [c1,b1,a1],by rw [c2,b2,a2],by rw [c3,b3,a3]⟩
theorem a3l {sp i}:∀ {l fl:List bR} {a:bR},a∈aAS sp i fl l->a∈fl\/a∈l
 | [],fl,a,h=>.inl h
 | b :: l,fl,a,h=>by
  rcases a3l (l:=l) (fl:=a3k sp i fl b) h with h|h
  .unfold a3k at h
   split at h
   .rcases List.mem_append.1 h with h|h
    .exact .inl h
    .rw [List.mem_singleton.1 h];exact .inr (by simp)
   .exact .inl h
  .exact .inr (by simp [h])
structure aL9 (G:gP) (P:O4) (C:Cl):Prop where
 r:∀ j,P.r j=(C.nd j).rep
 up:∀ i,i<3->∃ u,(G.mem i).up=some u
 h:∀ i,i<3->OB (G.mem i).d
 fl:G.eX.aM=P.fl.map CY
 sp:G.eX.split=P.sp
 fV:G.fV=P.fV
 ms:∀ m∈P.fl,m∈C.sent/\TM m/\m.aF.length<=8/\(0<=m.src/\m.src<=2)/\(0<=m.to/\m.to<=2)
theorem a3m (id:Nat):∀ (l:List bR) (n:L7) (fl:List bR),(∀ a∈l,a.src=id)->n.aM=fl.map CY->(lV id n l).aM=(aAS n.split id fl l).map CY/\(lV id n l).split=n.split
 | [],n,fl,_,h=>⟨h,rfl⟩
 | a :: l,n,fl,hs,h=>by
  have key:(wC n id a.to (bs (rZ a))).1.aM=(a3k n.split id fl a).map CY/\(wC n id a.to (bs (rZ a))).1.split=n.split:=by
   have hl:n.aM.length=fl.length:=by rw [h,List.length_map]
   unfold wC a3k aNp
   by_cases h1:(CQ id&&(CQ a.to&&decide ((id:Int)≠a.to)))=false
   .rw [if_pos h1,h1]
    exact ⟨h,rfl⟩
   rw [if_neg h1]
   have h1:(CQ id&&(CQ a.to&&decide ((id:Int)≠a.to)))=true:=by simpa using h1
   by_cases h2:yE n.split id a.to=false
   .rw [if_pos h2,h1,h2]
    exact ⟨h,rfl⟩
   rw [if_neg h2]
   have h2:yE n.split id a.to=true:=by simpa using h2
   by_cases h3:500<=n.aM.length
   .rw [if_pos h3,if_neg (by rw [h1,h2];simp;omega)]
    exact ⟨h,rfl⟩
   .rw [if_neg h3,if_pos (by rw [h1,h2];simp;omega)]
    refine ⟨?_,rfl⟩
    show n.aM++[_]=_
    rw [h,List.map_append]
    have:a.src=id:=hs a (by simp)
    show _=List.map CY fl++[⟨a.src,a.to,bs (rZ a)⟩]
    rw [this]
  have h2:=a3m id l (wC n id a.to (bs (rZ a))).1 (a3k n.split id fl a) (λb hb=>hs b (by simp [hb])) key.1
  rw [key.2] at h2
  exact h2
theorem UF {G P i} (hu:∃ u,(G.mem i).up=some u/\u.r=P.r i) (hc:G.fV=P.fV):(iE G i).fV=(oQ P i).fV:=by
 obtain ⟨u,hu,hr⟩:=hu
 unfold iE oQ
 rw [hu]
 simp only
 rw [hr,hc]
 split
 .rfl
 .exact hc
theorem aIO {G P} (hu:∀ i,i<3->∃ u,(G.mem i).up=some u/\u.r=P.r i) (hc:G.fV=P.fV):(iX G).fV=(JG P).fV/\(iX G).mem=G.mem/\(iX G).eX=G.eX:=by
 unfold iX JG
 obtain ⟨m0,n0⟩:=o8 G 0
 obtain ⟨m1,n1⟩:=o8 (iE G 0) 1
 obtain ⟨m2,n2⟩:=o8 (iE (iE G 0) 1) 2
 have p0:=(JH P 0).1
 have p1:=(JH (oQ P 0) 1).1
 have c0:=UF (hu 0 (by decide)) hc
 have c1:=UF (G:=iE G 0) (P:=oQ P 0) (i:=1) (by rw [m0,p0];exact hu 1 (by decide)) c0
 have c2:=UF (G:=iE (iE G 0) 1) (P:=oQ (oQ P 0) 1) (i:=2) (by rw [m1,m0,p1,p0];exact hu 2 (by decide)) c1
 exact ⟨c2,by rw [m2,m1,m0],by rw [n2,n1,n0]⟩
section
variable {N N' D:Nat} {B B':Int} {G G':gP} {C C':Cl} {g g':Gh} {A A':Int->Nat->Nat} {i:Nat} {P:O4}
theorem GI.doF (h:GI N B D G C g A) (hs:aL9 G P C) (hN:N<=N') (hB:B<=B') (vA:N'*(D+90)<=1048576) (hi:i<3) {u} (hu:(G.mem i).up=some u) {x} (hx:Hap C i x) (hrb:RB N' B' x.1) (hmb:∀ a∈x.2.send,MB N' B' a) (hd:∀ y∈x.1.log,y.data.size<=D) (hg:∀ a∈x.2.send,WQ i x.1.log a):
  ∃ C' g' A',GI N' B' D (doG G i u x).1 C' g' A'/\aL9 (doG G i u x).1 (doP P i x) C'/\(doG G i u x).2=0:=by
 obtain ⟨hr,hU⟩:=h.j.up i hi u hu
 obtain ⟨hw,hf⟩:=hx.fits h.j.s.m.wf hi
 have hid:x.1.id=i:=by rw [hf.id];exact (h.j.s.m.wf.rep i hi).2
 have hok:=hw.ok
 have hst:=a0u (d:=(G.mem i).d) (u:=u) (r:=(C.nd i).rep) (r':=x.1) (o:=x.2) (by rw [<-hr];exact hU) hf ⟨by have:=hok.mE;have:=hok.iW;unfold aX;omega,by have:=hok.xZ;have:=hok.y3;unfold aX;omega⟩ (RU hok.log hok.iW hrb.len hd vA)
 have aIP:=hst.BG (hs.h i hi)
 unfold doG
 simp only
 obtain ⟨⟨d1,u1,e1⟩,hq⟩:∃ y,cY (G.mem i).d { u with r:=x.1 } x.2=y:=⟨_,rfl⟩
 rw [hq] at hst aIP ⊢
 simp only
 have he:e1=0:=aIP.2
 rw [if_pos he]
 rcases hst.or with ⟨_,g1,g2⟩|⟨e,_⟩
 rotate_left 1
 .have e:e1=9\/e1=10:=e
  omega
 have g2:u1.r=x.1:=g2
 obtain ⟨g',n,f⟩:=hx.aQi h.j.s hi
 have hj:=h.j.set hN hB hi f hw hid hrb hmb hd (λa ha y hy=>hd y ((hg a ha).aF y hy)) (m:=⟨d1,some u1⟩) (λv hv=>by cases hv;exact ⟨g2,g1⟩) (by simp)
 have hsn:=a0F (C:=VR C i x.1 (C.sent++x.2.send)) i x.2.send G.eX hj.eX hj.U3 (λa ha=>by
  have hga:=hg a ha
  exact ⟨List.mem_append_right _ ha,a4Q hok hga,hga.len,hga.src,hga.to⟩) hi
 have hgi:=(aCl (G:={ cV G i ⟨d1,some u1⟩ with eX:=lV i (cV G i ⟨d1,some u1⟩).eX x.2.send }) ⟨hj.s,hj.b,hj.data,hj.mdata,hj.up,hj.dn,hsn.1,hsn.2,hj.fV⟩).1
 obtain ⟨p1,p2,p3⟩:=aL8 (a7Z P i x)
 have hup:∀ k,k<3->∃ v,((cV G i ⟨d1,some u1⟩).mem k).up=some v/\v.r=(a7Z P i x).r k:=λk hk=>by
  by_cases e:k=i
  .subst e
   refine ⟨u1,by show ((put G.mem k _ k)).up=_;rw [cZ],?_⟩
   show u1.r=put P.r k x.1 k
   rw [cZ,g2]
  .obtain ⟨v,hv⟩:=hs.up k hk
   refine ⟨v,by show ((put G.mem i _ k)).up=_;rw [gN _ _ e];exact hv,?_⟩
   show v.r=put P.r i x.1 k
   rw [gN _ _ e,(h.j.up k hk v hv).1,hs.r k]
 obtain ⟨c1,c2,c3⟩:=aIO (G:={ cV G i ⟨d1,some u1⟩ with eX:=lV i (cV G i ⟨d1,some u1⟩).eX x.2.send }) (P:=a7Z P i x) hup hs.fV
 have hsd:=a3m i x.2.send G.eX P.fl (λa ha=>(hg a ha).src) hs.fl
 refine ⟨_,_,_,hgi,⟨λj=>?_,λk hk=>?_,λk hk=>?_,?_,?_,c1,λm hm=>?_⟩,rfl⟩
 .show (JG (a7Z P i x)).r j=_
  rw [p1]
  show put P.r i x.1 j=((VR C i x.1 (C.sent++x.2.send)).nd j).rep
  by_cases e:j=i
  .subst e;rw [cZ,K7]
  .rw [gN _ _ e,EN _ _ _ e,hs.r j]
 .rw [c2]
  obtain ⟨v,hv,_⟩:=hup k hk
  exact ⟨v,hv⟩
 .rw [c2]
  show OB (put G.mem i _ k).d
  by_cases e:k=i
  .subst e;rw [cZ];exact aIP.1
  .rw [gN _ _ e];exact hs.h k hk
 .rw [c3]
  show _=(JG (a7Z P i x)).fl.map CY
  rw [p2]
  have:=hsd.1
  rw [hs.sp] at this
  exact this
 .rw [c3]
  show _=(JG (a7Z P i x)).sp
  rw [p3]
  exact hsd.2.trans hs.sp
 .have hm:m∈(JG (a7Z P i x)).fl:=hm
  rw [p2] at hm
  rcases a3l hm with hm|hm
  .obtain ⟨a,b⟩:=hs.ms m hm
   exact ⟨List.mem_append_left _ a,b⟩
  .have hga:=hg m hm
   refine ⟨List.mem_append_right _ hm,a4Q hok hga,hga.len,?_,hga.to⟩
   rw [hga.src];omega
def gS (N:Nat) (B:Int) (D:Nat) (G:gP) (P:O4):Prop:=∃ C g A,GI N B D G C g A/\aL9 G P C
theorem toN (i):((i:Nat):Int).toNat=i:=Int.toNat_natCast i
theorem gS.tick (h:gS N B D G P) (vA:N*(D+90)<=1048576) (hi:i<3):gS N (B+1) D (yF G i).1 (aAT P i):=by
 obtain ⟨C,g,A,h,hs⟩:=h
 obtain ⟨u,hu⟩:=hs.up i hi
 obtain ⟨e,hU⟩:=h.j.up _ hi u hu
 have hw:=(h.j.s.m.wf.rep _ hi).1
 have hb:=a4O hw (h.j.b.rep _ hi)
 unfold yF CS aAT
 rw [if_neg (by omega),toN,hu]
 simp only
 rw [hs.r i,e]
 have hg:=aAD hw.ok
 rw [(h.j.s.m.wf.rep _ hi).2] at hg
 obtain ⟨C',g',A',a,b,_⟩:=h.doF hs (Nat.le_refl _) (show B<=B+1 by omega) vA hi hu (x:=eG (C.nd i).rep) (.inl rfl) hb.1 hb.2 (by rw [a0D];exact h.j.data _ hi) hg
 exact ⟨C',g',A',a,b⟩
theorem gS.a4T (h:gS N B D G P) (vA:(N+1)*(D+90)<=1048576) (hi:i<3) {data} (aID:data.size<=D) (h0:(aK (P.r i) data).2.2.1=0):
  gS (N+1) B D (dN G i data).1 (aAU P i data)/\(dN G i data).2=((aK (P.r i) data).2.1,0):=by
 obtain ⟨C,g,A,h,hs⟩:=h
 obtain ⟨u,hu⟩:=hs.up i hi
 obtain ⟨e,hU⟩:=h.j.up _ hi u hu
 have hw:=(h.j.s.m.wf.rep _ hi).1
 have hb:=a4P hw (h.j.b.rep _ hi) data
 rw [hs.r i] at h0
 unfold dN aAU
 rw [if_neg (by omega),toN,hu]
 simp only
 rw [hs.r i,e,if_neg (by rw [h0];simp)]
 have hg:=aAE hw data
 rw [(h.j.s.m.wf.rep _ hi).2] at hg
 obtain ⟨C',g',A',a,b,c⟩:=h.doF hs (Nat.le_succ _) (Int.le_refl B) vA hi hu (x:=((aK (C.nd i).rep data).1,(aK (C.nd i).rep data).2.2.2)) (.inr (.inr ⟨data,rfl⟩)) hb.1 hb.2 (λy hy=>by
  rcases a0E y hy with a|a
  .exact h.j.data _ hi y a
  .rw [a];exact aID) hg
 rw [if_neg (by rw [c];simp)]
 exact ⟨⟨C',g',A',a,b⟩,rfl⟩
theorem gS.EG (h:gS N B D G P) (vA:N*(D+90)<=1048576):gS N B D (gF G 0).1 (aAV P):=by
 obtain ⟨C,g,A,h,hs⟩:=h
 have hfl:=hs.fl
 unfold gF aAV
 rw [if_neg (by decide),show ((0:Int).toNat)=0 from rfl]
 cases he:P.fl with
 | nil =>
  rw [he] at hfl
  rw [hfl]
  exact ⟨C,g,A,h,hs⟩
 | cons m rest =>
  rw [he] at hfl
  obtain ⟨m1,m2,m3,m4,m5⟩:=hs.ms m (by rw [he];simp)
  rw [hfl]
  simp only [List.map_cons,List.getElem?_cons_zero]
  have htk:(takeN G.eX 0).aM=rest.map CY:=by
   show G.eX.aM.eraseIdx 0=_
   rw [hfl];rfl
  have h1:=h.takeN 0
  have hs1:aL9 { G with eX:=takeN G.eX 0 } { P with fl:=rest } C:=⟨hs.r,hs.up,hs.h,htk,hs.sp,hs.fV,λx hx=>hs.ms x (by rw [he];simp [hx])⟩
  have e1:(CY m).src=m.src:=rfl
  have e2:(CY m).to=m.to:=rfl
  rw [e1,e2,hs.sp]
  by_cases hh:yE P.sp m.src m.to=false
  .rw [if_pos hh,if_pos hh]
   exact ⟨C,g,A,h1,hs1⟩
  rw [if_neg hh,if_neg hh]
  have e3:(AD (CY m).body.data.toList).getD VE=m:=by
   show (AD (bs (rZ m)).data.toList).getD VE=m
   rw [pN,ZT m2 (by omega)]
   rfl
  rw [e3]
  obtain ⟨i,hto⟩:∃ i:Nat,m.to=i:=⟨m.to.toNat,by omega⟩
  rw [hto]
  have hi:i<3:=by omega
  obtain ⟨u,hu⟩:=hs1.up i hi
  obtain ⟨e,hU⟩:=h1.j.up _ hi u hu
  have hw:=(h1.j.s.m.wf.rep _ hi).1
  have hb:=a4N hw (h1.j.b.rep _ hi) (h1.j.b.msg m m1)
  have hg:=aAF hw m
  unfold CS
  rw [if_neg (by omega),toN,hu]
  simp only
  rw [hs.r i,e]
  have hg2:=hg.1
  rw [(h1.j.s.m.wf.rep _ hi).2] at hg2
  obtain ⟨C',g',A',a,b,_⟩:=h1.doF hs1 (Nat.le_refl _) (Int.le_refl B) vA hi hu (x:=cX (C.nd i).rep m) (.inr (.inl ⟨m,m1,rfl⟩)) hb.1 hb.2 (λy hy=>by
   rcases hg.2 y hy with a|a
   .exact h1.j.data _ hi y a
   .exact h1.j.mdata m m1 y a) hg2
  exact ⟨C',g',A',a,b⟩
theorem gS.drain (vA:N*(D+90)<=1048576):∀ (k:Nat) {G:gP} {P:O4},gS N B D G P->gS N B D (yG k G).1 (a0O k P).1/\(yG k G).2=(a0O k P).2
 | 0,_,_,h=>⟨h,rfl⟩
 | k+1,G,P,h=>by
  have hfl:(G.eX.aM=[]) ↔ (P.fl=[]):=by
   obtain ⟨C,g,A,_,hs⟩:=h
   rw [hs.fl]
   exact List.map_eq_nil_iff
  unfold yG a0O
  by_cases he:P.fl=[]
  .rw [if_pos he,if_pos (hfl.2 he)]
   exact ⟨h,rfl⟩
  .rw [if_neg he,if_neg (λe=>he (hfl.1 e))]
   have ih:=gS.drain vA k (h.EG vA)
   exact ⟨ih.1,by show _+1=_+1;rw [ih.2]⟩
theorem gS.settle (h:gS N B D G P) (vA:N*(D+90)<=1048576) (hi:i<3) (most):gS N (B+1) D (cE G i most).1 (a71 P i most).1/\(cE G i most).2=(a71 P i most).2:=by
 unfold cE a71
 exact gS.drain vA _ (h.tick vA hi)
theorem gS.fV (h:gS N B D G P):G.fV=P.fV:=by
 obtain ⟨C,g,A,h,hs⟩:=h
 exact hs.fV
theorem gS.eX (h:gS N B D G P):G.eX.aM=P.fl.map CY:=by
 obtain ⟨C,g,A,h,hs⟩:=h
 exact hs.fl
theorem gS.upS (h:gS N B D G P) (hi:i<3):∃ u,(G.mem i).up=some u/\u.r=P.r i/\NY (G.mem i).d u:=by
 obtain ⟨C,g,A,h,hs⟩:=h
 obtain ⟨u,hu⟩:=hs.up i hi
 obtain ⟨e,hU⟩:=h.j.up _ hi u hu
 exact ⟨u,hu,by rw [e,hs.r i],hU⟩
theorem gS.role (h:gS N B D G P) (hi:i<3):yH G i=(P.r i).role/\wD G i=(P.r i).term/\aVg G i=(P.r i).log/\wZ G i=(P.r i).log:=by
 obtain ⟨u,hu,e,hU⟩:=h.upS hi
 have hid:¬ ((i:Int)<0\/3<=(i:Int)):=by omega
 refine ⟨?_,?_,?_,?_⟩
 .unfold yH;rw [if_neg hid,toN,hu];show u.r.role=_;rw [e]
 .unfold wD;rw [if_neg hid,toN,hu];show u.r.term=_;rw [e]
 .unfold aVg;rw [if_neg hid,toN,hu];show u.r.log=_;rw [e]
 .unfold wZ;rw [if_neg hid,toN,a0v hU,e]
theorem GI.BG (h:GI N B D G C g A) (hup:∀ i,i<3->∃ u,(G.mem i).up=some u) (hh:∀ i,i<3->OB (G.mem i).d):∃ P,gS N B D G P/\(∀ j,P.r j=(C.nd j).rep)/\P.sp=G.eX.split:=by
 have key:∀ l:List NS,(∀ p∈l,VS C p)->∃ fl:List bR,l=fl.map CY/\∀ m∈fl,m∈C.sent/\TM m/\m.aF.length<=8/\(0<=m.src/\m.src<=2)/\(0<=m.to/\m.to<=2):=by
  intro l
  induction l with
  | nil=>intro _;exact ⟨[],rfl,λm hm=>by cases hm⟩
  | cons p l ih =>
   intro hp
   obtain ⟨fl,e,hf⟩:=ih λq hq=>hp q (by simp [hq])
   obtain ⟨m,a,b,c,d,f,rfl⟩:=hp p (by simp)
   refine ⟨m :: fl,by rw [e];rfl,λx hx=>?_⟩
   rcases List.mem_cons.1 hx with rfl|hx
   .exact ⟨a,b,c,d,f⟩
   .exact hf x hx
 obtain ⟨fl,e,hf⟩:=key G.eX.aM h.j.eX
 exact ⟨⟨λj=>(C.nd j).rep,fl,G.eX.split,G.fV⟩,⟨C,g,A,h,⟨λj=>rfl,hup,hh,e,rfl,rfl,hf⟩⟩,λj=>rfl,rfl⟩
end
section
variable {r r':dX} {m:bR} {s:List bR}
end
section
variable {r r':dX} {m x:bR} {s:List bR}
end
section
variable {P P':O4} {m:bR} {rest:List bR} {j:Nat}
end
def Rel (i:Nat) (T:Int) (k:Nat) (m:bR):Prop :=
 (m.kind=2/\m.src=i/\m.term=T/\m.sL k)\/(m.kind=3/\m.src=k/\T<=m.term/\m.sL i)
section
variable {i a b:Nat} {T:Int} {P P':O4} {m:bR} {rest:List bR} {j:Nat}
end
section
variable {i:Nat} {T:Int} {L:List bQ} {P P':O4} {m:bR} {rest:List bR} {j:Nat}
end
section
variable {G:gP} {i:Nat}
end
section
variable {N N' D:Nat} {B B':Int} {G G':gP} {C C':Cl} {g g':Gh} {A A':Int->Nat->Nat} {i:Nat} {P:O4}
theorem AJ.gi (h:AJ N B D G g A G'):∃ C' g' A',GI N B D G' C' g' A':=by
 obtain ⟨C',g',A',a,_⟩:=h
 exact ⟨C',g',A',a⟩
end
section
variable {N N' D:Nat} {B B':Int} {G G':gP} {C C':Cl} {g g':Gh} {A A':Int->Nat->Nat} {i:Nat}
def a0P (G:gP):Nat->List Int × List Int->List Int × List Int
 | 0,x=>x
 | k+1,x=>if yH G k=2 then ((a0P G k x).1++[wD G k],(a0P G k x).2++[(k:Int)]) else a0P G k x
theorem vB.note (hj:GJ N B D G C g A) {x} (h:vB g x.1 x.2):∀ k,k<=3->vB g (a0P G k x).1 (a0P G k x).2
 | 0,_=>h
 | k+1,hk=>by
  have ih:=vB.note hj h k (by omega)
  unfold a0P
  split
  .rename_i hr
   exact ih.snoc (aCn hj (by omega) hr)
  .exact ih
def ER (G:gP) (i:Nat):Bool:=decide (G.fV.length<=(wZ G i).length/\((wZ G i).take G.fV.length).map bQ.data=G.fV)
def ES (G:gP):Nat->Nat
 | 0=>0
 | k+1=>ES G k+(if ER G k=true then 1 else 0)
theorem aAW (h:GJ N B D G C g A):2<=ES G 3:=by
 obtain ⟨a,b,ha,hb,hab,hst⟩:=a0H h
 have key:∀ i,i<3->(i=a\/i=b)->ER G i=true:=λi hi e=>by
  have:=hst i e
  unfold ER wZ
  rw [if_neg (by omega),toN]
  exact decide_eq_true this
 have ka:=key a ha (.inl rfl)
 have kb:=key b hb (.inr rfl)
 show 2<=((0+(if ER G 0=true then 1 else 0))+(if ER G 1=true then 1 else 0))+(if ER G 2=true then 1 else 0)
 have hc:(a=0/\b=1)\/(a=0/\b=2)\/(a=1/\b=0)\/(a=1/\b=2)\/(a=2/\b=0)\/(a=2/\b=1):=by omega
 rcases hc with ⟨rfl,rfl⟩|⟨rfl,rfl⟩|⟨rfl,rfl⟩|⟨rfl,rfl⟩|⟨rfl,rfl⟩|⟨rfl,rfl⟩<;>rw [if_pos ka,if_pos kb]<;>split<;>omega
theorem GI.aQx (h:GI N B D G C g A):∀ s∈G.fV,s.size<=2000:=by
 obtain ⟨K,t,e,hK⟩:=h.j.fV
 rcases hK with h0|⟨t',p,hch,_,hn,hk⟩
 .rw [e,List.eq_nil_of_length_eq_zero h0]
  intro s hs
  cases hs
 .intro s hs
  rw [e] at hs
  obtain ⟨x,hx,rfl⟩:=List.mem_map.1 hs
  have h2:=hk.2
  rw [List.take_length] at h2
  rw [h2] at hx
  exact (h.j.s.VA t').data x (List.mem_of_mem_take hx)
theorem GI.aMb (h:GI N B D G C g A):G.fV.length<=8000:=by
 obtain ⟨a,b,ha,hb,hab,hst⟩:=a0H h.j
 have h1:=(hst a (.inl rfl)).1
 have h2:(mS (G.mem a).d).length<=4000:=by
  obtain ⟨t,v,hq⟩:=NZ (h.j.any ha)
  obtain ⟨C',g',A',bk⟩:=K8 h.j.s ha hq.1
  have:=(bk.s.m.wf.rep a ha).1.ok.len
  rw [bk.rep] at this
  exact this
 omega
end
end Go.Proofs.YtnlkemjhgdbfkaaGreatDoor
end

section
namespace Go.Proofs.YtnlkemjhgdbfkaaGreatDoor
set_option maxRecDepth 100000
open Go.Vc
def BI (lP:Option Addr) (lN lC:Nat):aR:=λW R Φ J=>
 Zc W R Φ F.r6 #[] λe2 q=>∃ c4,e2=.returned (.bool c4)/\q λR5 fA=>Zc W R5 fA F.vE #[.slice lP lN lC,aA 80] λe9 q=>∃ c11,e9=.returned (.bool c11)/\q λA5 qR=>Br (!c11) (Zr W A5 qR J (.bool c4)) (Zc W A5 qR F.JR #[] λe18 q=>∃ p20,e18=.returned (.pointer p20)/\q λO9 qU=>Br p20.isNone (Zr W O9 qU J (.bool false)) (∀ LS LU,Ctx W LS (O9++LU) qU->aD F.gC #[.pointer p20] LS λe27 w28=>∃ p29 k30 k31,e27=.returned (.slice p29 k30 k31)/\∃ R32 aAX,aB aAX /\ Ctx W w28 (R32++LU) aAX/\yQ λ(I34:Option Addr->Nat->Nat->Option Addr->Nat->Nat->Option Addr->Nat->Nat->Int->List Own->PW->Nat->Prop)=>(Zs W R32 aAX (I34 p29 k30 k31 none 0 0 none 0 0 0))/\∀ p40 k41 k42 p43 k44 k45 p46 k47 k48 n49 R50 I51 k52,aB I51->I34 p40 k41 k42 p43 k44 k45 p46 k47 k48 n49 R50 I51 k52->Br (decide (n49<(↑lN:Int))) (Zi n49 lN lP λk53 k54=>Zd W R50 I51 λw55=>∃ Y9 n58 n59 s60 p61 k62 k63,bL w55 k53 (k54+n49.toNat*5) [aA Y9,aA n58,aA n59,.string s60,.slice p61 k62 k63]/\Zc W R50 I51 F.xK #[.pointer p20,Value.agg #[aA Y9,aA n58,aA n59,.string s60,.slice p61 k62 k63]] λe66 q=>∃ n68 n69,e66=.returned (Value.tuple #[aA n68,aA n69])/\q λR70 b06=>Zc W R70 b06 F.gC #[.pointer p20] λe74 q=>∃ p76 k77 k78,e74=.returned (.slice p76 k77 k78)/\q λR79 HA=>Zc W R79 HA F.lI #[.slice p40 k41 k42,.slice p76 k77 k78] λe83 q=>∃ c85,e83=.returned (.bool c85)/\q λR86 a9b=>Br (!c85) (Zr W R86 a9b J (.bool false)) (yQ λ(I90:Option Addr->Nat->Nat->Option Addr->Nat->Nat->Int->Int->List Own->PW->Nat->Prop)=>(Zs W R86 a9b (I90 p43 k44 k45 p46 k47 k48 0 0))/\∀ p96 k97 k98 p99 YM aMc n102 n103 a30 aIQ aCM,aB aIQ -> I90 p96 k97 k98 p99 YM aMc n102 n103 a30 aIQ aCM->Br (decide (n103<3)) (yQ λ(aQy:Int->List Own->PW->Prop)=>(Zc W a30 aIQ F.pT #[.pointer p20,aA n103] λb08 q=>∃ a6b a1b FA,b08=.returned (.slice a6b a1b FA)/\q λBZ nJ=>Zc W BZ nJ F.pS #[.slice p76 k77 k78,.slice a6b a1b FA] λb09 q=>∃ aKQ,b09=.returned (.bool aKQ)/\q λa1i V5=>Br aKQ (aX (n102+1)/\∃ TB uO,aB uO/\Wk W a1i V5 TB uO/\aQy (n102+1) TB uO) (∃ a1s C8,aB C8/\Wk W a1i V5 a1s C8/\aQy n102 a1s C8))/\∀ (n132:Int) (aGR:List Own) (aQz:List Nat->World->Prop),aB aQz->aQy n132 aGR aQz->Zc W aGR aQz F.nS #[.pointer p20,aA n103] λaF1 q=>∃ n139,aF1=.returned (aA n139)/\q λPD EV=>Br (decide (n139≠2)) (aX (n103+1)/\Zb W PD EV aCM (I90 p96 k97 k98 p99 YM aMc n132 (n103+1))) (yQ λ(MV:Int->List Own->PW->Nat->Prop)=>(Zs W PD EV (MV 0))/\∀ n153 MR aIR aQA,aB aIR->MV n153 MR aIR aQA->Br (decide (n153<(↑k97:Int))) (∃ aQB aCp,aB aCp/\Wk W MR aIR aQB aCp/\Zi n153 k97 p96 λb1a aOE=>∃ (n163:Int),(Zd W aQB aCp λaOG=>∃ n166,aOG.cell? (aH b1a (aOE+n153.toNat))=some (aA n166)/\aA n166=aA n163)/\Zc W MR aIR F.kD #[.pointer p20,aA n103] λb1b q=>∃ n171,b1b=.returned (aA n171)/\q λa6o a73=>Wk W a6o a73 aQB aCp/\Br (decide (n163=n171)) (Zi n153 YM p99 λb1c b1d=>Zd W a6o a73 λaN6=>∃ n180,aN6.cell? (aH b1c (b1d+n153.toNat))=some (aA n180)/\Br (decide (n180≠n103)) (Zr W a6o a73 J (.bool false)) (aX (n153+1)/\Zb W a6o a73 aQA (MV (n153+1)))) (aX (n153+1)/\∃ aWa aIS aKt,aB aIS/\Wk W a6o a73 aWa aIS /\ MV (n153+1) aWa aIS aKt/\aKt<aQA)) (Zc W MR aIR F.kD #[.pointer p20,aA n103] λb1e q=>∃ n197,b1e=.returned (aA n197)/\q λb1f aWb=>∀ (aWc:Nat) aWd aWe,Ctx W aWd (Own.blk aWc [aA n197] 3 :: b1f++aWe) aWb->∃ aWf aWg aWh aWi,Sem.run prog (builtin Builtin.append #[37,37] 37 #[false,false] #[.slice p96 k97 k98,.slice (aJ aWc 0) 1 1]) aWd=.ok (.value (.slice aWf aWg aWh)) aWi/\∃ aWj aIT,aB aIT/\Ctx W aWi (aWj++aWe) aIT/\∀ (aCU:Nat) aWk aWl,Ctx W aWk (Own.blk aCU [aA n103] 3 :: aWj++aWl) aIT->∃ aWm aCW aWn aWo,Sem.run prog (builtin Builtin.append #[37,37] 37 #[false,false] #[.slice p99 YM aMc,.slice (aJ aCU 0) 1 1]) aWk=.ok (.value (.slice aWm aCW aWn)) aWo/\∃ aWp aIU,aB aIU/\Ctx W aWo (aWp++aWl) aIU/\aX (n103+1)/\Zb W aWp aIU aCM (I90 aWf aWg aWh aWm aCW aWn n132 (n103+1))))) (Br (decide (n102<2)) (Zr W a30 aIQ J (.bool false)) (aX (n49+1)/\Zb W a30 aIQ k52 (I34 p76 k77 k78 p96 k97 k98 p99 YM aMc (n49+1)))))) (Zr W R50 I51 J (.bool c4))))
theorem vV (lP lN lC):bE F.jX #[.slice lP lN lC] (BI lP lN lC):=bF { keep:=some [0,2,3,4,5,6,7,8,9,10,11,12,16,20,26,40,43,50,56,60,78,90],eF:=[(28,[.held [(0,true),(1,true),(4,true),(5,true),(2,true),(3,true),(6,false)],.bD [7,8,9,10,13,11,12,14,15] none])],loops:=[(26,[(12,.one (.int .i64))],[]),(20,[(6,.one (.slice)),(7,.one (.slice)),(10,.one (.int .i64)),(11,.one (.int .i64))],[]),(11,[(5,.one (.slice)),(6,.one (.slice)),(7,.one (.slice)),(8,.one (.int .i64))],[])],a5o:=[(24,[(10,.one (.int .i64))],[])] } λ_ _ _ _=>by kernel_rfl
def O5:aR:=λW R Φ J=>
 Zc W R Φ F.JR #[] λe2 q=>∃ p4,e2=.returned (.pointer p4)/\q λR5 fA=>Br p4.isNone (Zr W R5 fA J (.bool false)) (Zc W R5 fA F.dP #[.pointer p4,aA 1,aA 99] λe11 q=>∃ MQ,e11=.returned (aA MQ)/\q λO7 tE=>Zc W O7 tE F.nS #[.pointer p4,aA 1] λe18 q=>∃ n20,e18=.returned (aA n20)/\q λO9 qU=>Br (decide (n20=2)) (∀ w23 LR,Ctx W w23 (O9++LR) qU->aD F.kD #[.pointer p4,aA 0] w23 λe25 w26=>∃ n27,e25=.returned (aA n27)/\∃ R28 YE,aB YE/\Ctx W w26 (R28 ++ LR) YE/\Zc W R28 YE F.eM #[.pointer p4,aA 1,Value.string (ByteArray.mk #[OfNat.ofNat 97])] λe32 q=>∃ n34 n35,e32=.returned (Value.tuple #[aA n34,aA n35])/\q λGR tH=>Zc W GR tH F.dP #[.pointer p4,aA 1,aA 99] λe40 q=>∃ n42,e40=.returned (aA n42)/\q λR43 a1x=>Zc W R43 a1x F.eM #[.pointer p4,aA 0,Value.string (ByteArray.mk #[OfNat.ofNat 98])] λe47 q=>∃ n49 n50,e47=.returned (Value.tuple #[aA n49,aA n50])/\q λV7 DN=>Br (decide (MQ=8)) (Br (decide (n27=1)) (Br (decide (n34=1)) (Br (decide (n35=0)) (Br (decide (n42=8)) (Br (decide (n50=24)) (Zc W V7 DN F.gC #[.pointer p4] λe55 q=>∃ p57 k58 k59,e55=.returned (.slice p57 k58 k59)/\q λR60 PV=>∀ (k62:Nat) (w63:World) (R64:List Own),Ctx W w63 (Own.blk k62 [Value.string (ByteArray.mk #[OfNat.ofNat 97])] 9 :: R60++R64) PV->aD F.gD #[.slice p57 k58 k59,.slice (aJ k62 0) 1 1] w63 λe65 w66=>∃ c67,e65=.returned (.bool c67)/\∃ R68 H7,aB H7/\Ctx W w66 (R68++R64) H7/\Zr W R68 H7 J (.bool c67)) (Zr W V7 DN J (.bool false))) (Zr W V7 DN J (.bool false))) (Zr W V7 DN J (.bool false))) (Zr W V7 DN J (.bool false))) (Zr W V7 DN J (.bool false))) (Zr W V7 DN J (.bool false))) (Zc W O9 qU F.eM #[.pointer p4,aA 1,Value.string (ByteArray.mk #[OfNat.ofNat 97])] λe86 q=>∃ n88 n89,e86=.returned (Value.tuple #[aA n88,aA n89])/\q λR90 aCH=>Zc W R90 aCH F.dP #[.pointer p4,aA 1,aA 99] λe94 q=>∃ n96,e94=.returned (aA n96)/\q λR97 P8=>Zc W R97 P8 F.eM #[.pointer p4,aA 0,Value.string (ByteArray.mk #[OfNat.ofNat 98])] λb1g q=>∃ n103 n104,b1g=.returned (Value.tuple #[aA n103,aA n104])/\q λa9p V8=>Br (decide (MQ=8)) (Zr W a9p V8 J (.bool false)) (Zr W a9p V8 J (.bool false))))
theorem ET :bE F.r6 #[] O5:=bF { keep:=some [0,1,2,3,4,5,6,8,11],split:=[5,9] } λ_ _ _ _=>by kernel_rfl
def UG (lP:Option Addr) (lN lC:Nat) (n:Int):aR:=λW R Φ J=>
 yQ λ(I0:Int->List Own->PW->Nat->Prop)=>(Zs W R Φ (I0 0))/\∀ n6 R7 I8 k9,aB I8->I0 n6 R7 I8 k9->Br (decide (n6<(↑lN:Int))) (Zd W R7 I8 λw10=>Zi n6 lN lP λk12 GY=>∃ s14,w10.cell? (aH k12 (GY+n6.toNat*5+3))=some (.string s14)/\((!decide (50<(↑s14.size:Int)))=true->0<=n6/\n6<(↑lN:Int))/\vC (some !decide (50<(↑s14.size:Int))) lP λDP VY=>∃ (p17:Option Addr) (k18 VZ:Nat),((!decide (50<(↑s14.size:Int)))=true->w10.cell? (aH DP (VY+n6.toNat*5+4))=some (.slice p17 k18 VZ))/\Br (decide (50<(↑s14.size:Int))||decide (20<(↑k18:Int))) (Zr W R7 I8 J (.bool false)) (aX (n6+1)/\Zb W R7 I8 k9 (I0 (n6+1)))) (Zr W R7 I8 J (.bool (decide ((↑lN:Int)<=n))))
theorem JJ (lP lN lC n):bE F.vE #[.slice lP lN lC,.int .i64 n] (UG lP lN lC n):=bF { keep:=some [0,1,4,5,9,27],loops:=[(2,[(5,.one (.int .i64))],[])] } λ_ _ _ _=>by kernel_rfl
def WR (gB gO:Nat) (o0:Int) (o1:Int) (o2:Int) (o3:ByteArray) (o4P:Option Addr) (o4N o4C:Nat):aR:=λW R Φ J=>
 ∀ (b:Nat),∃ R0 cG,aB cG/\Wk W R Φ R0 cG/\Zc W R Φ F.jW #[.pointer (aJ gB gO)] λe6 q=>∃ n8,e6=.returned (aA n8)/\q λR9 j3=>Wk W R9 j3 R0 cG/\Zc W R9 j3 F.gV #[aA o2,aA n8] λe15 q=>∃ n17,e15=.returned (aA n17)/\q λSQ T3=>Zc W SQ T3 F.gV #[aA o0,aA 14] λe22 q=>∃ n24,e22=.returned (aA n24)/\q λwA lS=>Br (decide (n24=0)) (∀ w27 R28,Ctx W w27 (wA++R28) lS->aD F.nT #[.pointer (aJ gB gO),aA o1] w27 λe29 w30=>∃ n31,e29 = .returned (aA n31)/\∃ R32 aAX,aB aAX/\Ctx W w30 (R32++R28) aAX/\Zr W R32 aAX J (Value.tuple #[aA 0,aA n31])) (Br (decide (n24=1)) (Zc W wA lS F.eM #[.pointer (aJ gB gO),aA o1,.string o3] λe38 q=>∃ n40 n41,e38=.returned (Value.tuple #[aA n40,aA n41])/\q λR42 a54=>Zr W R42 a54 J (Value.tuple #[aA n40,aA n41])) (Br (decide (n24=2)) (Br (decide (n24=2)) (Zc W wA lS F.eP #[.pointer (aJ gB gO),aA n17] λe48 q=>∃ n50,e48=.returned (aA n50)/\q λV7 DN=>Zr W V7 DN J (Value.tuple #[aA 0,aA n50])) (Br (decide (n24=5)) (Zc W wA lS F.kE #[.pointer (aJ gB gO),aA n17] λe57 q=>∃ n59,e57=.returned (aA n59)/\q λR60 PV=>Zr W R60 PV J (Value.tuple #[aA 0,aA n59])) (Br (decide (n24=6)) (Zc W wA lS F.iP #[.pointer (aJ gB gO),aA n17] λe66 q=>∃ n68,e66=.returned (aA n68)/\q λR69 KB=>Zr W R69 KB J (Value.tuple #[aA 0,aA n68])) (Br (decide (n24=7)) (Zc W wA lS F.jD #[.pointer (aJ gB gO),aA o2] λe75 q=>e75=.returned (Value.tuple #[])/\q λR77 a9e=>Zr W R77 a9e J (Value.tuple #[aA 0,aA 0])) (Br (decide (n24=8)) (Zc W wA lS F.jY #[.pointer (aJ gB gO)] λe83 q=>e83=.returned (Value.tuple #[])/\q λR85 b1h=>Zr W R85 b1h J (Value.tuple #[aA 0,aA 0])) (Br (decide (n24=9)) (Zc W wA lS F.jE #[.pointer (aJ gB gO),aA o1,.slice o4P o4N o4C] λe91 q=>∃ n93,e91=.returned (aA n93)/\q λR94 b1i=>Zr W R94 b1i J (Value.tuple #[aA 0,aA n93])) (Br (decide (n24=10)) (Zc W wA lS F.jC #[.pointer (aJ gB gO),aA o1] λb1j q=>∃ n102,b1j=.returned (aA n102)/\q λaDm Z5=>Zr W aDm Z5 J (Value.tuple #[aA 0,aA n102])) (Br (decide (n24=11)) (Zc W wA lS F.jZ #[.pointer (aJ gB gO),aA o1,aA o2] λb1k q=>∃ n111,b1k=.returned (aA n111)/\q λaKK a6k=>Zr W aKK a6k J (Value.tuple #[aA 0,aA n111])) (Br (decide (n24=12)) (∀ aWr aKG,Ctx W aWr (wA++aKG) lS -> aD F.lY #[.pointer (aJ gB gO),aA o1,aA o2,.slice o4P o4N o4C] aWr λaPe a6l=>∃ n120,aPe=.returned (aA n120)/\∃ aGH a2l,aB a2l/\Ctx W a6l (aGH++aKG) a2l/\Zr W aGH a2l J (Value.tuple #[aA 0,aA n120])) (∃ aGx aIV,aB aIV/\Wk W wA lS aGx aIV/\Zc W wA lS F.gV #[aA o2,aA 100] λb1l q=>∃ n133,b1l=.returned (aA n133)/\q λa5N aNq=>Wk W a5N aNq aGx aIV/\∀ aWs aWt,Ctx W aWs (a5N++aWt) aNq->aD F.dP #[.pointer (aJ gB gO),aA o1,aA n133] aWs λb1m a6r=>∃ n142,b1m=.returned (aA n142)/\∃ aWu aIW, aB aIW/\Ctx W a6r (aWu++aWt) aIW/\Zr W aWu aIW J (Value.tuple #[aA n142,aA 0]))))))))))) (Br (decide (n24=3)) (Br (decide (n24=3)) (Zc W wA lS F.eP #[.pointer (aJ gB gO),aA n17] λb1n q=>∃ n151,b1n=.returned (aA n151)/\q λaJ4 aWv=>Zr W aJ4 aWv J (Value.tuple #[aA 0,aA n151])) (Br (decide (n24=5)) (Zc W wA lS F.kE #[.pointer (aJ gB gO),aA n17] λb1o q=>∃ n160,b1o=.returned (aA n160)/\q λa3M YC=>Zr W a3M YC J (Value.tuple #[aA 0,aA n160])) (Br (decide (n24=6)) (Zc W wA lS F.iP #[.pointer (aJ gB gO),aA n17] λb1p q=>∃ n169,b1p=.returned (aA n169)/\q λb1q aWw=>Zr W b1q aWw J (Value.tuple #[aA 0,aA n169])) (Br (decide (n24=7)) (Zc W wA lS F.jD #[.pointer (aJ gB gO),aA o2] λb1r q=>b1r=.returned (Value.tuple #[])/\q λb1s aWx=>Zr W b1s aWx J (Value.tuple #[aA 0,aA 0])) (Br (decide (n24=8)) (Zc W wA lS F.jY #[.pointer (aJ gB gO)] λb1t q=>b1t=.returned (Value.tuple #[])/\q λb1u aWy=>Zr W b1u aWy J (Value.tuple #[aA 0,aA 0])) (Br (decide (n24=9)) (Zc W wA lS F.jE #[.pointer (aJ gB gO),aA o1,.slice o4P o4N o4C] λb1v q=>∃ n194,b1v=.returned (aA n194)/\q λb1w aWz=>Zr W b1w aWz J (Value.tuple #[aA 0,aA n194])) (Br (decide (n24=10)) (∀ aWA aWB,Ctx W aWA (wA++aWB) lS->aD F.jC #[.pointer (aJ gB gO),aA o1] aWA λb1x b1y=>∃ n203,b1x=.returned (aA n203) /\ ∃ aGk a2g,aB a2g/\Ctx W b1y (aGk++aWB) a2g/\Zr W aGk a2g J (Value.tuple #[aA 0,aA n203])) (Br (decide (n24=11)) (Zc W wA lS F.jZ #[.pointer (aJ gB gO),aA o1,aA o2] λb1z q=>∃ n212,b1z=.returned (aA n212)/\q λb1A aWC=>Zr W b1A aWC J (Value.tuple #[aA 0,aA n212])) (Br (decide (n24=12)) (Zc W wA lS F.lY #[.pointer (aJ gB gO),aA o1,aA o2,.slice o4P o4N o4C] λb1B q=>∃ n221,b1B=.returned (aA n221)/\q λb1C aWD=>Zr W b1C aWD J (Value.tuple #[aA 0,aA n221])) (∃ aWE aIX,aB aIX/\Wk W wA lS aWE aIX/\Zc W wA lS F.gV #[aA o2,aA 100] λb1D q=>∃ n234,b1D=.returned (aA n234)/\q λaGm aNr=>Wk W aGm aNr aWE aIX/\Zc W aGm aNr F.dP #[.pointer (aJ gB gO),aA o1,aA n234] λb1E q=>∃ n243,b1E=.returned (aA n243)/\q λb1F aWF=>Zr W b1F aWF J (Value.tuple #[aA n243,aA 0]))))))))))) (Br (decide (n24=4)) (Zc W wA lS F.eP #[.pointer (aJ gB gO),aA n17] λb1G q=>∃ n252,b1G=.returned (aA n252)/\q λb1H aWG=>Zr W b1H aWG J (Value.tuple #[aA 0,aA n252])) (Br (decide (n24=5)) (Zc W wA lS F.kE #[.pointer (aJ gB gO),aA n17] λb1I q=>∃ n261,b1I=.returned (aA n261)/\q λb1J aWH=>Zr W b1J aWH J (Value.tuple #[aA 0,aA n261])) (Br (decide (n24=6)) (∀ aWI aWJ,Ctx W aWI (wA++aWJ) lS->aD F.iP #[.pointer (aJ gB gO),aA n17] aWI λb1K b1L=>∃ n270,b1K=.returned (aA n270)/\∃ aGo aIY,aB aIY /\ Ctx W b1L (aGo++aWJ) aIY/\Zr W aGo aIY J (Value.tuple #[aA 0,aA n270])) (Br (decide (n24=7)) (Zc W wA lS F.jD #[.pointer (aJ gB gO),aA o2] λb1M q=>b1M=.returned (Value.tuple #[])/\q λb1N aWK=>Zr W b1N aWK J (Value.tuple #[aA 0,aA 0])) (Br (decide (n24=8)) (Zc W wA lS F.jY #[.pointer (aJ gB gO)] λb1O q=>b1O=.returned (Value.tuple #[])/\q λb1P aWL=>Zr W b1P aWL J (Value.tuple #[aA 0,aA 0])) (Br (decide (n24=9)) (∀ aWM aWN, Ctx W aWM (wA++aWN) lS->aD F.jE #[.pointer (aJ gB gO),aA o1,.slice o4P o4N o4C] aWM λb1Q b1R=>∃ n295,b1Q=.returned (aA n295)/\∃ a8V PF,aB PF/\Ctx W b1R (a8V++aWN) PF/\Zr W a8V PF J (Value.tuple #[aA 0,aA n295])) (Br (decide (n24=10)) (Zc W wA lS F.jC #[.pointer (aJ gB gO),aA o1] λb1S q=>∃ n304,b1S=.returned (aA n304)/\q λb1T aWO=>Zr W b1T aWO J (Value.tuple #[aA 0,aA n304])) (Br (decide (n24=11)) (Zc W wA lS F.jZ #[.pointer (aJ gB gO),aA o1,aA o2] λb1U q=>∃ n313,b1U=.returned (aA n313)/\q λb1V aWP=>Zr W b1V aWP J (Value.tuple #[aA 0,aA n313])) (Br (decide (n24=12)) (Zc W wA lS F.lY #[.pointer (aJ gB gO),aA o1,aA o2,.slice o4P o4N o4C] λb1W q=>∃ n322,b1W=.returned (aA n322)/\q λb1X aWQ=>Zr W b1X aWQ J (Value.tuple #[aA 0,aA n322])) (∃ aWR aIZ,aB aIZ/\Wk W wA lS aWR aIZ/\Zc W wA lS F.gV #[aA o2,aA 100] λb1Y q=>∃ n335,b1Y=.returned (aA n335)/\q λaWS aNs=>Wk W aWS aNs aWR aIZ/\Zc W aWS aNs F.dP #[.pointer (aJ gB gO),aA o1,aA n335] λb1Z q=>∃ n344,b1Z=.returned (aA n344)/\q λb10 aWT=>Zr W b10 aWT J (Value.tuple #[aA n344,aA 0]))))))))))))))
theorem LC (gB gO o0 o1 o2 o3 o4P o4N o4C):bE F.xK #[.pointer (aJ gB gO),.agg #[.int .i64 o0,.int .i64 o1,.int .i64 o2,.string o3,.slice o4P o4N o4C]] (WR gB gO o0 o1 o2 o3 o4P o4N o4C):=bF { keep:=some [0,3,4,5,6,14,22,28,38,45,50,55,61,65,73,79,87],gA:=[3],eF:=[(1,[.held [(0,true),(2,true),(1,true),(3,false)],.bD [] (some 4),.bD [5] none]),(3,[.held [(0,true),(1,true),(3,true),(2,true),(4,true),(5,false)],.bD [] (some 6),.bD [7,8] none])] } λ_ _ _ _=>by kernel_rfl
def LD (aP:Option Addr) (aN aC:Nat) (bP:Option Addr) (bN bC:Nat):aR:=λW R Φ J=>
 Br (decide ((↑aN:Int)<=(↑bN:Int))) ((0<=min (↑aN:Int) (↑bN:Int)/\min (↑aN:Int) (↑bN:Int)<=(↑bC:Int))/\Zc W R Φ F.gD #[.slice aP aN aC,.slice (cJ bP 1 0 bC) (min (↑aN:Int) (↑bN:Int)).toNat bC] λe2 q=>∃ c4,e2=.returned (.bool c4)/\q λR5 fA=>Zr W R5 fA J (.bool c4)) (Zr W R Φ J (.bool false))
theorem CZ (aP aN aC bP bN bC):bE F.lI #[.slice aP aN aC,.slice bP bN bC] (LD aP aN aC bP bN bC):=bF { keep:=some [0,1,4],split:=[1] } λ_ _ _ _=>by kernel_rfl
def LF (lP:Option Addr) (lN lC:Nat) (a1f:Option Addr) (W0 a3O:Nat):aR:=λW R Φ J=>
 Br (decide ((↑W0:Int)<(↑lN:Int))) (Zr W R Φ J (.bool false)) (yQ λ(I2:Int->List Own->PW->Nat->Prop)=>(Zs W R Φ (I2 0))/\∀ n8 R9 I10 FY,aB I10->I2 n8 R9 I10 FY->Br (decide (n8<(↑lN:Int))) (Zd W R9 I10 λG5=>Zi n8 W0 a1f λvN DP=>∃ s16,G5.cell? (aH vN (DP+n8.toNat*2+1))=some (.string s16)/\Zi n8 lN lP λuI k18=>∃ s19,G5.cell? (aH uI (k18+n8.toNat))=some (.string s19)/\Br (decide (s16≠s19)) (Zr W R9 I10 J (.bool false)) (aX (n8+1)/\Zb W R9 I10 FY (I2 (n8+1)))) (Zr W R9 I10 J (.bool true)))
theorem D0 (lP lN lC a1f W0 a3O):bE F.pS #[.slice lP lN lC,.slice a1f W0 a3O] (LF lP lN lC a1f W0 a3O):=bF { keep:=some [0,1,4,5,10,14,26],loops:=[(4,[(5,.one (.int .i64))],[])] } λ_ _ _ _=>by kernel_rfl
def UH (n:Int) (m:Int):aR:=λW R Φ J=>
 Br (decide (m<1)) (Zr W R Φ J (aA 0)) ((m=0->False)/\Br (decide (n.tmod m<0)) (aX (n.tmod m+m)/\Zr W R Φ J (aA (n.tmod m+m))) (Zr W R Φ J (aA (n.tmod m))))
theorem JK (n m):bE F.gV #[.int .i64 n,.int .i64 m] (UH n m):=bF { keep:=some [0,1,4,6,11] } λ_ _ _ _=>by kernel_rfl
end Go.Proofs.YtnlkemjhgdbfkaaGreatDoor
end

section
namespace Go.Proofs.YtnlkemjhgdbfkaaGreatDoor
open Go.Vc
instance:Gv OpG:=Gv.via (β:=Int × Int × Int × ByteArray × List Int) (λx=>(x.kind,x.id,x.n,x.data,x.keep)) (λy=>⟨y.1,y.2.1,y.2.2.1,y.2.2.2.1,y.2.2.2.2⟩) (λ_=>rfl)
abbrev OpG.cells (x:OpG) (p:Option Addr) (c:Nat):List Value:=[.int .i64 x.kind,.int .i64 x.id,.int .i64 x.n,.string x.data,.slice p x.keep.length c]
structure OpG.Ok (x:OpG):Prop where
 kind:aX x.kind
 id:aX x.id
 n:aX x.n
theorem a3n {M w cs} {x:OpG} (h:Gv.rep M w cs x):∃ p c,cs=x.cells p c/\x.Ok/\x.keep.length<=9223372036854775807/\Sl M w p x.keep:=by
 obtain ⟨c1,c2,rfl,⟨rfl,h1⟩,h2⟩:=h
 obtain ⟨c3,c4,rfl,⟨rfl,h3⟩,h4⟩:=h2
 obtain ⟨c5,c6,rfl,⟨rfl,h5⟩,h6⟩:=h4
 obtain ⟨c7,c8,rfl,⟨rfl,h7⟩,h8⟩:=h6
 obtain ⟨q,e,rfl,g4,g5,g6⟩:=a5u.1 h8
 unfold maxLen at g5
 have g4:x.keep.length<=e:=g4
 exact ⟨q,e,rfl,⟨h1,h3,h5⟩,by omega,g6⟩
def aAY (l:List OpG) (n:Int):Bool:=decide (∀ x∈l,x.data.size<=50/\x.keep.length<=20)&&decide ((l.length:Int)<=n)
theorem aI0 {l n} (h:aAY l n=true):(∀ x∈l,x.data.size<=50/\x.keep.length<=20)/\(l.length:Int)<=n:=by
 unfold aAY at h
 rw [Bool.and_eq_true] at h
 exact ⟨eC h.1,eC h.2⟩
theorem aCq {M w b o cs} {l:List OpG} (h:Pin b o cs l M w) {j} (hj:j<l.length):∃ p c,cs.getD j []=l[j].cells p c/\l[j].Ok/\l[j].keep.length<=9223372036854775807:=by
 obtain ⟨p,c,h1,h2,h3,_⟩:=a3n (h j hj).2.2
 exact ⟨p,c,h1,h2,h3⟩
theorem aCr {M w b o cs} {l:List OpG} (h:Pin b o cs l M w) {j} (hj:j<l.length) {p c} (he:cs.getD j []=l[j].cells p c):bL w b (o+j*5) (l[j].cells p c):=by
 have:=(h j hj).2.1
 rw [he] at this
 exact this
theorem aQC {M w b o cs} {l:List OpG} (h:Pin b o cs l M w) {j} (hj:j<l.length) {p c} (he:cs.getD j []=l[j].cells p c):Sl M w p l[j].keep:=by
 have:=(h j hj).2.2
 rw [he] at this
 obtain ⟨p',c',h1,_,_,h2⟩:=a3n this
 simp only [OpG.cells,List.cons.injEq,Value.slice.injEq,and_true,true_and] at h1
 rw [h1.1]
 exact h2
theorem a74 {w b o} {x:OpG} {p c} (h:bL w b o (x.cells p c)) {i v} (hv:(x.cells p c)[i]? = some v):w.cell? ⟨b,o+i,none⟩=some v:=by
 obtain ⟨hi,he⟩:=List.getElem?_eq_some_iff.1 hv
 rw [h i hi,he]
section
variable {W w:World} {S R Y:List Own} {Φ:PW}
theorem aMd [aB Φ] {p cap l n b o cs} (hp:0<l.length->p=some ⟨b,o,none⟩) (o9:∀ M w,Φ M w->Pin b o cs l M w) (hlen:l.length<=9223372036854775807):bY Φ prog F.vE #[.slice p l.length cap,.int .i64 n] (.bool (aAY l n)):=by
 refine iD (JJ p l.length cap n) λW R=>?_
 refine dF (λnI R' aV k=>∃ i:Nat,nI=i/\i+k=l.length/\R'=R/\aV=Φ/\∀ x∈l.take i,x.data.size<=50/\x.keep.length<=20) ⟨⟨_,Φ,l.length,aL,λw G cx=>cx,0,rfl,by omega,rfl,rfl,by simp⟩,?_⟩
 rintro nI R1 Φ k _ ⟨i,rfl,hik,rfl,rfl,hall⟩
 refine Br.intro (λhlt=>λw G cx=>?_) (λhge=>λw G cx=>⟨?_,cx.left⟩)
 .have hlt:i<l.length:=by have:=eC hlt;omega
  obtain ⟨k,rfl⟩:∃ m,k=m+1:=⟨k - 1,by omega⟩
  have hp:=hp (by omega)
  have bad:(¬ (l[i].data.size<=50/\l[i].keep.length<=20))->aAY l n=false:=λh=>by
   unfold aAY
   rw [decide_eq_false λh2=>h (h2 _ (List.getElem_mem hlt))];rfl
  obtain ⟨q,qc,he,_,_⟩:=aCq (o9 _ _ cx.tX) hlt
  have row:=aCr (o9 _ _ cx.tX) hlt he
  refine ⟨⟨by omega,by omega⟩,aU b o hp ⟨l[i].data,by rw [Int.toNat_natCast];exact a74 (i:=3) row rfl,λ_=>⟨by omega,by omega⟩,aU b o hp ⟨q,l[i].keep.length,qc,λ_=>by rw [Int.toNat_natCast];exact a74 (i:=4) row rfl,Br.intro (λaWU=>λw G cx=>⟨?_,cx.left⟩) (λhok=>⟨by unfold aX;omega,_,Φ,k,aL,λw G cx=>cx,⟨i+1,by omega,by omega,rfl,rfl,λx hx=>?_⟩,Nat.lt_succ_self _⟩)⟩⟩⟩
  .rw [bad λh=>by
    rw [Bool.or_eq_true] at aWU
    rcases aWU with h1|h1
    .have:=eC h1;omega
    .have:=eC h1;omega]
  .rw [List.take_succ_eq_append_getElem hlt] at hx
   rw [Bool.or_eq_false_iff] at hok
   have h1:=cS hok.1
   have h2:=cS hok.2
   rcases List.mem_append.1 hx with hx|hx
   .exact hall x hx
   .rw [List.mem_singleton.1 hx]
    exact ⟨by omega,by omega⟩
 .have hge:i=l.length:=by have:=cS hge;omega
  subst hge
  rw [List.take_length] at hall
  unfold aAY
  rw [decide_eq_true hall,Bool.true_and]
theorem aAZ [aB Φ] {n m} (hm:aX m):bY Φ prog F.gV #[.int .i64 n,.int .i64 m] (.int .i64 (oF n m)):=by
 refine iD (JK n m) λW R=>Br.intro (λh=>λw G cx=>⟨?_,cx.left⟩) (λh=>⟨λh0=>?_,Br.intro (λh2=>⟨?_,λw G cx=>⟨?_,cx.left⟩⟩) (λh2=>λw G cx=>⟨?_,cx.left⟩)⟩)
 .have h:=eC h
  unfold oF
  rw [if_pos h]
 .have h:=cS h
  omega
 .have h:=cS h
  have h2:=eC h2
  have hp:=TZ (n:=n) (m:=m) (by omega)
  rw [if_pos h2] at hp
  have h3:=Int.emod_nonneg n (show m≠0 by omega)
  have h4:=Int.emod_lt_of_pos n (show 0<m by omega)
  rw [hp]
  unfold aX at hm ⊢
  have e:n % m=n.emod m:=rfl
  omega
 .have h:=cS h
  have h2:=eC h2
  have hp:=TZ (n:=n) (m:=m) (by omega)
  rw [if_pos h2] at hp
  unfold oF
  rw [if_neg h,hp]
 .have h:=cS h
  have h2:=cS h2
  have hp:=TZ (n:=n) (m:=m) (by omega)
  rw [if_neg h2] at hp
  unfold oF
  rw [if_neg h,hp]
theorem aEC [aB Φ] {p q ac bc} {a s:List ByteArray} (ha:∀ M w,Φ M w->Sl M w p a) (hb:∀ M w,Φ M w->Sl M w q (a++s)) (hl:a.length<=1000000000) (hc:(a++s).length<=bc):
  bY Φ prog F.lI #[.slice p a.length ac,.slice q (a++s).length bc] (.bool true):=by
 have hle:a.length<=(a++s).length:=by rw [List.length_append];omega
 refine iD (CZ p a.length ac q (a++s).length bc) λW R=>Br.intro (λh=>⟨by omega,λw G cx=>?_⟩) (λh=>absurd (cS h) (by omega))
 have hm:(min ((a.length:Nat):Int) (((a++s).length:Nat):Int)).toNat=((a++s).take a.length).length:=by rw [List.length_take];omega
 rw [hm]
 have kZ:∀ M w,Φ M w->Sl M w (cJ q 1 0 bc) ((a++s).take a.length):=λM w h=>by
  have h1:=ZA (hb M w h) 0 hc
  rw [List.drop_zero] at h1
  exact Sl.take h1 a.length
 refine (aB4 ha kZ hl).use cx λw cx=>⟨_,rfl,R,Φ,aL,cx,λw G cx=>⟨?_,cx.left⟩⟩
 rw [List.take_left,decide_eq_true rfl]
def S1 (l:List ByteArray) (log:List bQ):Bool:=decide (l.length<=log.length/\(log.take l.length).map bQ.data=l)
theorem aED [aB Φ] {p q ac bc l log} (ha:∀ M w,Φ M w->Sl M w p l) (hb:∀ M w,Φ M w->Sl M w q log) (hl:l.length<=1000000000):
  bY Φ prog F.pS #[.slice p l.length ac,.slice q log.length bc] (.bool (S1 l log)):=by
 refine .there (λM w h=>(ha M w h).there) λhta=>.there (λM w h=>(hb M w h).there) λhtb=>?_
 refine iD (D0 p l.length ac q log.length bc) λW R=>Br.intro (λh=>λw G cx=>⟨?_,cx.left⟩) (λh=>?_)
 .have h:=eC h
  unfold S1
  rw [decide_eq_false λe=>by have:=e.1;omega]
 have h:l.length<=log.length:=by have:=cS h;omega
 refine dF (λn R' aV k=>∃ i:Nat,n=i/\i+k=l.length/\R'=R/\aV=Φ/\(log.take i).map bQ.data=l.take i) ⟨⟨_,Φ,l.length,aL,λw G cx=>cx,0,rfl,by omega,rfl,rfl,by simp⟩,?_⟩
 rintro n R1 Φ k _ ⟨i,rfl,hik,rfl,rfl,htk⟩
 refine Br.intro (λhlt=>λw G cx=>?_) (λhge=>λw G cx=>⟨?_,cx.left⟩)
 .have hlt:i<l.length:=by have:=eC hlt;omega
  have a6R:i<log.length:=by omega
  obtain ⟨k,rfl⟩:∃ m,k=m+1:=⟨k - 1,by omega⟩
  obtain ⟨g,o,rfl⟩:=hta (by omega)
  obtain ⟨g2,o2,rfl⟩:=htb (by omega)
  refine ⟨⟨by omega,by omega⟩,aU g2 o2 rfl ⟨log[i].data,?_,⟨by omega,by omega⟩,aU g o rfl ⟨l[i],by rw [Int.toNat_natCast];exact a4z (ha _ _ cx.tX) hlt,Br.intro (λhne=>λw G cx=>⟨?_,cx.left⟩) (λhe=>?_)⟩⟩⟩
  .have:=TG (hb _ _ cx.tX) a6R
   rw [Int.toNat_natCast]
   exact this 1 (by simp)
  .have hne:=eC hne
   unfold S1
   rw [decide_eq_false λe=>hne ?_]
   have h2:=e.2
   have h3:((log.take l.length).map bQ.data)[i]? = l[i]? := by rw [h2]
   rw [List.getElem?_map,List.getElem?_take_of_lt hlt,List.getElem?_eq_getElem a6R,List.getElem?_eq_getElem hlt] at h3
   exact Option.some.inj h3
  .refine ⟨by unfold aX;omega,_,Φ,k,aL,λw G cx=>cx,⟨i+1,by omega,by omega,rfl,rfl,?_⟩,Nat.lt_succ_self _⟩
   rw [List.take_succ_eq_append_getElem hlt,List.take_succ_eq_append_getElem a6R,List.map_append,htk]
   have:=Decidable.not_not.1 (cS he)
   show _++[log[i].data]=_
   rw [this]
 .have hge:i=l.length:=by have:=cS hge;omega
  subst hge
  rw [List.take_length] at htk
  unfold S1
  rw [decide_eq_true ⟨h,htk⟩]
end
section
variable {W w:World} {S:List Own} {Φ:PW} {L:L9} {G:gP} {N D:Nat} {B:Int} {C:Cl} {g:Gh} {A:Int->Nat->Nat}
theorem GI.sets (h:GI N B D G C g A) (vA:N*(D+90)<=1048576) (hD:D<=2000) [aB Φ] (hJ:JI Φ) (hF:mT Φ L G) {id most} (hm:aX most) (cx:Ctx W w (cR L G++S) Φ) {K} (hk:∀ L' w',L'.gb=L.gb->mT Φ L' (cE G id most).1->Ctx W w' (cR L' (cE G id most).1++S) Φ->K (.returned (.int .i64 ((cE G id most).2:Int))) w'):
  aD F.dP #[.pointer (some ⟨L.gb,0,none⟩),.int .i64 id,.int .i64 most] w K:=by
 refine a7P hJ.off hJ.num hF h.JE hm (λu hid hu=>h.a7V vA hid hu) (λG'=>∃ C' g' A',GI N (B+1) D G' C' g' A') (λG' ⟨C',g',A',h'⟩=>⟨h'.JE,λp hp=>h'.pkt vA hD hp⟩) (λG' ⟨C',g',A',h'⟩=>(h'.EG vA 0).gi) (h.tick vA id).gi cx λL' w hgb hg cx=>hk L' w hgb (hg Φ hF) cx
set_option maxHeartbeats 1000000 in
theorem aQD [aB Φ] (hJ:JI Φ) (hF:mT Φ L G) (h:GI N B D G C g A) (vA:(N+1)*(D+90)<=1048576) (hD:D<=2000) {o} (ho:o.Ok) (hd:o.data.size<=D) (aWV:o.keep.length<=1000000) {p c} (kZ:∀ M w,Φ M w->Sl M w p o.keep) (cx:Ctx W w (cR L G++S) Φ) {K} (hk:∀ L' Ψ w',L'.gb=L.gb->aB Ψ->(∀ M w,Ψ M w->Φ M w)->mT Ψ L' (opG G o).1->Ctx W w' (cR L' (opG G o).1++S) Ψ->K (.returned (.tuple #[.int .i64 (opG G o).2.1,.int .i64 (opG G o).2.2])) w'):
  aD F.xK #[.pointer (some ⟨L.gb,0,none⟩),.agg #[.int .i64 o.kind,.int .i64 o.id,.int .i64 o.n,.string o.data,.slice p o.keep.length c]] w K:=by
 have aAK:N*(D+90)<=1048576:=Nat.le_trans (Nat.mul_le_mul_right _ (Nat.le_succ N)) vA
 have aI1:=hF.U3
 refine fW (LC L.gb 0 o.kind o.id o.n o.data p o.keep.length c (J:=K∘.returned) cx λb=>⟨[],VI,aL,λw Y cx=>bX cx (List.nil_sublist _),λw Y cx=>?_⟩)
 rw [b9] at cx
 refine S0 cx λw cx=>⟨_,rfl,cR L G++S,Φ,aL,by rw [b9];exact cx,λw Y cx=>bX cx (List.nil_sublist _),λw Y cx=>(aAZ (by unfold aX;omega)).use cx λw cx=>⟨_,rfl,cR L G++S,Φ,aL,cx,λw Y cx=>(aAZ (by unfold aX;omega)).use cx λw cx=>⟨_,rfl,cR L G++S,Φ,aL,cx,?_⟩⟩⟩
 have eo:opG G o=opK G o (oF o.n G.eX.aM.length) (oF o.kind 14):=rfl
 rw [eo] at hk
 clear eo cx
 generalize oF o.n (G.eX.aM.length:Int)=i at hk ⊢
 generalize oF o.kind 14=k at hk ⊢
 unfold opK at hk
 refine Br.intro (λh0=>λw Y cx=>?_) (λh0=>Br.intro (λh1=>λw Y cx=>?_) (λh1=>?_))
 .rw [if_pos (eC h0)] at hk
  rw [b9] at cx
  refine a3g hJ.off hJ.tab hF h.JE (λu hid hu=>h.a7V aAK hid hu) cx λL' w hgb hg cx=>⟨_,rfl,cR L' (yF G o.id).1++S,Φ,aL,by rw [b9];exact cx,λw Y cx=>hk L' Φ w hgb aL (λ_ _ h=>h) (hg Φ hF) cx.left⟩
 .rw [if_neg (cS h0),if_pos (eC h1)] at hk
  rw [b9] at cx
  refine EP hJ.off hJ.tab hF h.JE (λu hid hu=>h.a0M vA hd hid hu) (λu hne=>UE hne) cx λL' w hgb hg cx=>⟨_,_,rfl,cR L' (dN G o.id o.data).1++S,Φ,aL,by rw [b9];exact cx,λw Y cx=>hk L' Φ w hgb aL (λ_ _ h=>h) (hg Φ hF) cx.left⟩
 rw [if_neg (cS h0),if_neg (cS h1)] at hk
 have del:(k=2\/k=3\/k=4)->∀ (w:World) (Y:List Own),Ctx W w ((cR L G++S)++Y) Φ->aD F.eP #[.pointer (some ⟨L.gb,0,none⟩),.int .i64 i] w λe w'=>∃ n,e=.returned (.int .i64 n)/\∃ R' aV,aB aV/\Ctx W w' (R'++Y) aV/\∀ (w3:World) (R:List Own),Ctx W w3 (R'++R) aV->K (.returned (.tuple #[.int .i64 0,.int .i64 n])) w3:=λh2 w Y cx=>by
  rw [if_pos h2] at hk
  rw [b9] at cx
  exact RZ hJ.off hJ.num hF h.JE (λp hp=>h.pkt aAK hD hp) cx λL' w hgb hg cx=>⟨_,rfl,cR L' (gF G i).1++S,Φ,aL,by rw [b9];exact cx,λw Y cx=>hk L' Φ w hgb aL (λ_ _ h=>h) (hg Φ hF) cx.left⟩
 refine Br.intro (λh2=>Br.intro (λ_=>del (.inl (eC h2))) (λh=>absurd (eC h2) (cS h))) (λh2=>Br.intro (λh3=>Br.intro (λ_=>del (.inr (.inl (eC h3)))) (λh=>absurd (eC h3) (cS h))) (λh3=>Br.intro (λh4=>del (.inr (.inr (eC h4)))) (λh4=>?_)))
 have n2:¬ (k=2\/k=3\/k=4):=by
  have:=cS h2
  have:=cS h3
  have:=cS h4
  omega
 rw [if_neg n2] at hk
 refine Br.intro (λh5=>λw Y cx=>?_) (λh5=>Br.intro (λh6=>λw Y cx=>?_) (λh6=>Br.intro (λh7=>λw Y cx=>?_) (λh7=>Br.intro (λh8=>λw Y cx=>?_) (λh8=>Br.intro (λh9=>λw Y cx=>?_) (λh9=>Br.intro (λh10=>λw Y cx=>?_) (λh10=>Br.intro (λh11=>λw Y cx=>?_) (λh11=>Br.intro (λh12=>λw Y cx=>?_) (λh12=>?_))))))))
 .rw [if_pos (eC h5)] at hk
  rw [b9] at cx
  exact aEs hF cx λw hg cx=>⟨_,rfl,cR L (F0 G i).1++S,Φ,aL,by rw [b9];exact cx,λw Y cx=>hk L Φ w rfl aL (λ_ _ h=>h) (hg Φ hF) cx.left⟩
 .rw [if_neg (cS h5),if_pos (eC h6)] at hk
  rw [b9] at cx
  exact a7S hF cx λL' w hgb hg cx=>⟨_,rfl,cR L' (pP G i).1++S,Φ,aL,by rw [b9];exact cx,λw Y cx=>hk L' Φ w hgb aL (λ_ _ h=>h) (hg Φ hF) cx.left⟩
 .rw [if_neg (cS h5),if_neg (cS h6),if_pos (eC h7)] at hk
  rw [b9] at cx
  exact aAN cx λw hg cx=>⟨rfl,cR L (TQ G o.n)++S,Φ,aL,by rw [b9];exact cx,λw Y cx=>hk L Φ w rfl aL (λ_ _ h=>h) (hg Φ hF) cx.left⟩
 .rw [if_neg (cS h5),if_neg (cS h6),if_neg (cS h7),if_pos (eC h8)] at hk
  rw [b9] at cx
  exact aEt cx λw hg cx=>⟨rfl,cR L (a2H G)++S,Φ,aL,by rw [b9];exact cx,λw Y cx=>hk L Φ w rfl aL (λ_ _ h=>h) (hg Φ hF) cx.left⟩
 .rw [if_neg (cS h5),if_neg (cS h6),if_neg (cS h7),if_neg (cS h8),if_pos (eC h9)] at hk
  rw [b9] at cx
  exact aAL hF h.JE aWV kZ cx λL' Ψ w hgb hst hw hg cx=>⟨_,rfl,cR L' (E9 G o.id o.keep).1++S,Ψ,hst,by rw [b9];exact cx,λw Y cx=>by haveI:=hst;exact hk L' Ψ w hgb hst hw hg cx.left⟩
 .rw [if_neg (cS h5),if_neg (cS h6),if_neg (cS h7),if_neg (cS h8),if_neg (cS h9),if_pos (eC h10)] at hk
  rw [b9] at cx
  exact aAM hJ.off hJ.num hF h.JE (λi hi=>h.sta hi) cx λL' Ψ w hgb hst hw hg cx=>⟨_,rfl,cR L' (BH G o.id).1++S,Ψ,hst,by rw [b9];exact cx,λw Y cx=>by haveI:=hst;exact hk L' Ψ w hgb hst hw hg cx.left⟩
 .rw [if_neg (cS h5),if_neg (cS h6),if_neg (cS h7),if_neg (cS h8),if_neg (cS h9),if_neg (cS h10),if_pos (eC h11)] at hk
  rw [b9] at cx
  exact aEp hF h.JE ho.n cx λL' Ψ w hgb hst hw hg cx=>⟨_,rfl,cR L' (RD G o.id o.n).1++S,Ψ,hst,by rw [b9];exact cx,λw Y cx=>by haveI:=hst;exact hk L' Ψ w hgb hst hw hg cx.left⟩
 .rw [if_neg (cS h5),if_neg (cS h6),if_neg (cS h7),if_neg (cS h8),if_neg (cS h9),if_neg (cS h10),if_neg (cS h11),if_pos (eC h12)] at hk
  rw [b9] at cx
  exact aIH hF h.JE ho.n aWV kZ cx λL' Ψ w hgb hst hw hg cx=>⟨_,rfl,cR L' (a4t G o.id o.n o.keep).1++S,Ψ,hst,by rw [b9];exact cx,λw Y cx=>by haveI:=hst;exact hk L' Ψ w hgb hst hw hg cx.left⟩
 .rw [if_neg (cS h5),if_neg (cS h6),if_neg (cS h7),if_neg (cS h8),if_neg (cS h9),if_neg (cS h10),if_neg (cS h11),if_neg (cS h12)] at hk
  refine ⟨[],VI,aL,λw Y cx=>bX cx (List.nil_sublist _),λw Y cx=>(aAZ (by unfold aX;omega)).use cx λw cx=>⟨_,rfl,cR L G++S,Φ,aL,cx,λw Y cx=>bX cx (List.nil_sublist _),λw Y cx=>?_⟩⟩
  have hp:=aH2 (n:=o.n) (m:=100) (by decide)
  rw [b9] at cx
  exact h.sets aAK hD hJ hF (by unfold aX;omega) cx λL' w hgb hg cx=>⟨_,rfl,cR L' (cE G o.id (oF o.n 100)).1++S,Φ,aL,by rw [b9];exact cx,λw Y cx=>hk L' Φ w hgb aL (λ_ _ h=>h) hg cx.left⟩
end
section
variable {r:dX} {m:bR}
end
theorem aI2 {D}:∃ P,gS 0 0 D J1 P/\(∀ j,P.r j=dR j 0 (-1) [])/\P.fl=[]/\P.sp=0:=by
 obtain ⟨P,f1,f2,f3⟩:=GI.BG (D:=D) aIE (λi _=>by
  obtain ⟨u,h1,_⟩:=EO i
  exact ⟨u,h1⟩) (λi _=>(EO i).choose_spec.2.2.2)
 refine ⟨P,f1,λj=>f2 j,?_,f3⟩
 have:=f1.eX
 have h:P.fl.map CY=[]:=this.symm
 exact List.map_eq_nil_iff.1 h
section
variable {sp:Int} {a o c:Nat}
end
def pg0:O4:=⟨λj=>dR j 0 (-1) [],[],0,[]⟩
abbrev sA:ByteArray:=ByteArray.mk #[97]
abbrev sB:ByteArray:=ByteArray.mk #[98]
def pg1:O4 × Nat:=a71 pg0 1 99
def pg2:O4:=aAU pg1.1 1 sA
def pg3:O4 × Nat:=a71 pg2 1 99
theorem a77:pg1.2=8/\(pg1.1.r 1).role=2/\(pg1.1.r 0).term=1/\(aK (pg1.1.r 1) sA).2.1=1/\(aK (pg1.1.r 1) sA).2.2.1=0/\pg3.2=8/\(pg3.1.r 0).role≠2/\pg3.1.fV.length=1/\(pg3.1.fV.map ByteArray.size)=[1]/\(pg3.1.fV.map λs=>s.data.toList)=[[97]]:=by decide +kernel
theorem aI3 {D}:gS 0 0 D J1 pg0:=by
 obtain ⟨P,f,h1,h2,h3⟩:=aI2 (D:=D)
 have hc:=f.fV
 obtain ⟨r,fl,sp,fV⟩:=P
 have h2:fl=[]:=h2
 have h3:sp=0:=h3
 have hc:[]=fV:=hc
 have h1:r=λj=>dR j 0 (-1) []:=funext h1
 rw [h1,h2,h3,<-hc] at f
 exact f
theorem aMg:pg3.1.fV=[sA]:=by
 have h:=a77.2.2.2.2.2.2.2.2.2
 generalize pg3.1.fV=l at h
 cases l with
 | nil=>cases h
 | cons a l =>
  cases l with
  | nil =>
   simp only [List.map_cons,List.map_nil,List.cons.injEq,and_true] at h
   have:a=sA:=ByteArray.ext (Array.toList_inj.1 h)
   rw [this]
  | cons b l=>simp at h
theorem aEE {G:gP} {i} (hi:i<3) {u} (hu:(G.mem i).up=some u) (hr:u.r.role≠2) (data):dN G i data=(G,0,24):=by
 unfold dN
 rw [if_neg (by omega),toN,hu]
 simp only
 rw [AB hr,if_pos (show (24:Int)≠0 by decide)]
section
variable {W w:World} {S:List Own} {Φ:PW} {L:L9} {G:gP} {N D:Nat} {B:Int} {P:O4}
theorem gS.gi (h:gS N B D G P):∃ C g A,GI N B D G C g A:=by
 obtain ⟨C,g,A,h,_⟩:=h
 exact ⟨C,g,A,h⟩
theorem aEF [aB Φ] (hJ:JI Φ):bY Φ prog F.r6 #[] (.bool true):=by
 obtain ⟨e1,e2,e3,e4,e5,e6,e7,_,_,_⟩:=a77
 have f0:gS 0 0 1 J1 pg0:=aI3
 obtain ⟨C0,g0,A0,h0⟩:=f0.gi
 obtain ⟨f1,c1⟩:=f0.settle (i:=1) (by decide) (by decide) 99
 have f1:gS 0 1 1 (cE J1 1 99).1 pg1.1:=f1
 obtain ⟨C1,g1,A1,h1⟩:=f1.gi
 obtain ⟨f2,c2⟩:=f1.a4T (i:=1) (data:=sA) (by decide) (by decide) (by decide) e5
 have f2:gS 1 1 1 (dN (cE J1 1 99).1 1 sA).1 pg2:=f2
 obtain ⟨C2,g2,A2,h2⟩:=f2.gi
 obtain ⟨f3,c3⟩:=f2.settle (i:=1) (by decide) (by decide) 99
 have f3:gS 1 2 1 (cE (dN (cE J1 1 99).1 1 sA).1 1 99).1 pg3.1:=f3
 obtain ⟨C3,g3,A3,h3⟩:=f3.gi
 have n1:((cE J1 1 99).2:Int)=8:=by
  have:(cE J1 1 99).2=pg1.2:=c1
  rw [this,e1];rfl
 have n3:((cE (dN (cE J1 1 99).1 1 sA).1 1 99).2:Int)=8:=by
  have:(cE (dN (cE J1 1 99).1 1 sA).1 1 99).2=pg3.2:=c3
  rw [this,e6];rfl
 have r1:yH (cE J1 1 99).1 1=2:=by
  have:=(f1.role (i:=1) (by decide)).1
  exact this.trans e2
 have t1:wD (cE J1 1 99).1 0=1:=by
  have:=(f1.role (i:=0) (by decide)).2.1
  exact this.trans e3
 have p1:(dN (cE J1 1 99).1 1 sA).2=(1,0):=by
  have c2:(dN (cE J1 1 99).1 1 sA).2=((aK (pg1.1.r 1) sA).2.1,0):=c2
  rw [c2,e4]
 have p4:dN (cE (dN (cE J1 1 99).1 1 sA).1 1 99).1 0 sB=((cE (dN (cE J1 1 99).1 1 sA).1 1 99).1,0,24):=by
  obtain ⟨u,hu,hr,_⟩:=f3.upS (i:=0) (by decide)
  exact aEE (i:=0) (by decide) hu (by rw [hr];exact e7) sB
 have k3:(cE (dN (cE J1 1 99).1 1 sA).1 1 99).1.fV=[sA]:=by rw [f3.fV,aMg]
 refine iD ET λW R=>λw Y cx=>?_
 refine a7Y (S:=R++Y) hJ.off hJ.num cx λL0 Ψ w hst hw hF cx=>?_
 haveI:=hst
 have hJ1:JI Ψ:=hJ.weak hw
 refine ⟨_,rfl,cR L0 J1++R,Ψ,hst,by rw [b9];exact cx,Br.intro (λh=>by cases h) (λ_=>λw Y cx=>?_)⟩
 rw [b9] at cx
 refine h0.sets (by decide) (by decide) hJ1 hF (by unfold aX;decide) cx λL1 w aQo hF1 cx=>⟨_,rfl,cR L1 (cE J1 1 99).1++R,Ψ,hst,by rw [b9];exact cx,λw Y cx=>?_⟩
 rw [n1,<-aQo]
 rw [b9] at cx
 generalize cE J1 1 99=s1 at *
 refine a3i cx λw cx=>⟨_,rfl,cR L1 s1.1++R,Ψ,hst,by rw [b9];exact cx,Br.intro (λ_=>λw Y cx=>?_) (λh=>absurd r1 (cS h))⟩
 rw [b9] at cx
 refine UD cx λw cx=>⟨_,rfl,cR L1 s1.1++R,Ψ,hst,by rw [b9];exact cx,λw Y cx=>?_⟩
 rw [t1]
 rw [b9] at cx
 refine EP hJ1.off hJ1.tab hF1 h1.JE (λu hid hu=>h1.a0M (by decide) (by decide) hid hu) (λu hne=>UE hne) cx λL2 w aEu hg cx=>⟨_,_,rfl,cR L2 (dN s1.1 1 sA).1++R,Ψ,hst,by rw [b9];exact cx,λw Y cx=>?_⟩
 rw [p1,<-aEu]
 have hF2:=hg Ψ hF1
 rw [b9] at cx
 generalize dN s1.1 1 sA=s2 at *
 refine h2.sets (by decide) (by decide) hJ1 hF2 (by unfold aX;decide) cx λL3 w b12 hF3 cx=>⟨_,rfl,cR L3 (cE s2.1 1 99).1++R,Ψ,hst,by rw [b9];exact cx,λw Y cx=>?_⟩
 rw [n3,<-b12]
 rw [b9] at cx
 generalize cE s2.1 1 99=s3 at *
 refine EP hJ1.off hJ1.tab hF3 h3.JE (λu hid hu=>h3.a0M (by decide) (by decide) hid hu) (λu hne=>UE hne) cx λL4 w b13 hg cx=>?_
 rw [p4] at hg cx ⊢
 have hF4:=hg Ψ hF3
 refine ⟨_,_,rfl,cR L4 s3.1++R,Ψ,hst,by rw [b9];exact cx,?_⟩
 refine Br.intro (λ_=>Br.intro (λ_=>Br.intro (λ_=>Br.intro (λ_=>Br.intro (λ_=>Br.intro (λ_=>λw Y cx=>?_) (λh=>absurd rfl (cS h))) (λh=>absurd rfl (cS h))) (λh=>absurd rfl (cS h))) (λh=>absurd rfl (cS h))) (λh=>absurd rfl (cS h))) (λh=>absurd rfl (cS h))
 rw [b9,<-b13] at *
 refine yP (λs hs=>by rw [k3] at hs;rw [List.mem_singleton.1 hs];decide) (by rw [k3];decide) cx λp c w hc cx=>?_
 rw [k3] at hc cx ⊢
 refine ⟨_,_,_,rfl,cR L4 s3.1++R,_,dM Ψ (λM w=>Sl M w p [sA]),by rw [b9];exact cx,λk w Y cx=>?_⟩
 obtain ⟨BK,hs⟩:=Ctx.CJ (α:=ByteArray) (l:=[sA]) cx (yK (l:=[sA]) λx hx=>by rw [List.mem_singleton.1 hx];decide)
 have WW:=BK.add (Ψ:=λM w=>Sl M w (some ⟨k,0,none⟩) [sA]) hs
 have hsame:bY (λM w=>(Ψ M w/\Sl M w p [sA])/\Sl M w (some ⟨k,0,none⟩) [sA]) prog F.gD #[.slice p 1 c,.slice (some ⟨k,0,none⟩) 1 1] (.bool (decide ([sA]=[sA]))):=aB4 (a:=[sA]) (b:=[sA]) (λM w h=>h.1.2) (λM w h=>h.2) (by decide)
 refine hsame.use WW λw cx=>⟨_,rfl,cR L4 s3.1++R,_,aL,cx,λw Y cx=>⟨?_,?_⟩⟩
 .rw [decide_eq_true rfl]
 .exact (Ctx.right (S:=cR L4 s3.1) cx.left).weak λM w h=>hw M w h.1.1
end
abbrev aQE (l:List Int):List Value:=l.map (Value.int .i64)
abbrev lW (p:Option Addr) (c:Nat) (l:List Int):Own:=.buf p l.length c (aQE l) 3 1
theorem vW (a b) (X R Y:List Own):((a :: b :: (X++R))++Y).Perm (X++(a :: b :: (R++Y))):=by
 have e:(a :: b :: (X++R))++Y=[a,b]++(X++(R++Y)):=by simp
 rw [e]
 exact List.perm_append_comm_assoc _ _ _
theorem aI4 (l x):aQE l++[Value.int .i64 x]=aQE (l++[x]):=by simp
def AtB (p:Option Addr) (l:List Int):Prop:=0<l.length->∃ g,p=some ⟨g,0,none⟩
section
variable {W w:World} {S R Y:List Own} {Φ:PW}
theorem aI5 {p c l} (cx:Ctx W w (lW p c l :: S) Φ) {g} (hp:p=some ⟨g,0,none⟩) {k} (hk:k<l.length):w.cell? ⟨g,k,none⟩=some (.int .i64 l[k]):=by
 refine cx.a9w 0 rfl hp ?_
 rw [List.getElem?_map,List.getElem?_eq_getElem hk]
 rfl
theorem a78 [aB Φ] {b p c l x} (hl:l.length<1000000) (cx:Ctx W w (.blk b [.int .i64 x] 3 :: lW p c l :: S) Φ):
  ∃ p' c' w',Sem.run prog (builtin Builtin.append #[37,37] 37 #[false,false] #[.slice p l.length c,.slice (some ⟨b,0,none⟩) 1 1]) w=.ok (.value (.slice p' (l++[x]).length c')) w'/\AtB p' (l++[x])/\Ctx W w' (lW p' c' (l++[x]) :: S) Φ:=by
 obtain ⟨p',c',w',h1,h2,h3⟩:=cx.Z9 (P:=prog) (ts:=37) (ty:=37) (kb:=#[false,false]) (bytes:=8) (by kernel_rfl) (by decide) rfl rfl (by omega) (by omega)
 have e:(l++[x]).length=l.length+1:=by simp
 refine ⟨p',c',w',by rw [e];exact h1,λ_=>h2,?_⟩
 unfold lW
 rw [e,<-aI4]
 exact h3
set_option maxHeartbeats 4000000 in
theorem aA0 [aB Φ] (hJ:JI Φ) {lp lc} {l:List OpG} {b o cs} (hlp:0<l.length->lp=some ⟨b,o,none⟩) (aDn:∀ M w,Φ M w->Pin b o cs l M w) (hll:l.length<=9223372036854775807):
  bY Φ prog F.jX #[.slice lp l.length lc] (.bool true):=by
 refine iD (vV lp l.length lc) λW R=>λw Y cx=>(aEF hJ).use cx λw cx=>⟨true,rfl,R,Φ,aL,cx,λw Y cx=>(aMd hlp aDn hll).use cx λw cx=>⟨aAY l 80,rfl,R,Φ,aL,cx,Br.intro (λh=>λw Y cx=>⟨rfl,cx.left⟩) (λaI1=>λw Y cx=>?_)⟩⟩
 have aI1:=aI0 (by simpa using aI1)
 have b50:l.length<=80:=by have:=aI1.2;omega
 refine a7Y (S:=R++Y) hJ.off hJ.num cx λL0 Ψ w hst hw0 hF0 cx=>?_
 haveI:=hst
 refine ⟨_,rfl,cR L0 J1++R,Ψ,hst,by rw [b9];exact cx,Br.intro (λh=>by cases h) (λ_=>λw Y cx=>?_)⟩
 rw [b9] at cx
 refine yP (G:=J1) (λs hs=>by cases hs) (by decide) cx λp0 c0 w _ cx=>?_
 refine ⟨p0,_,c0,rfl,cR L0 J1++R,λM w=>Ψ M w/\Sl M w p0 J1.fV,dM Ψ (λM w=>Sl M w p0 J1.fV),by rw [b9];exact cx,?_⟩
 clear cx
 refine dF (λpk nk ck pt nt ct pl nl cl nI R' aV κ=>∃ (i:Nat) (L:L9) (G:gP) (C:Cl) (g:Gh) (A:Int->Nat->Nat) (ts ls:List Int),nI=i/\i<=l.length/\κ=l.length - i/\nk=G.fV.length/\nt=ts.length/\nl=ls.length/\R'=lW pt ct ts :: lW pl cl ls :: (cR L G++R)/\L.gb=L0.gb/\(∀ M w,aV M w->Φ M w)/\(∀ M w,aV M w->Sl M w pk G.fV)/\mT aV L G/\GI i i 50 G C g A/\vB g ts ls/\ts.length<=3*i/\AtB pt ts/\AtB pl ls)
  ⟨⟨lW none 0 [] :: lW none 0 [] :: (cR L0 J1++R),λM w=>Ψ M w/\Sl M w p0 J1.fV,_,dM Ψ (λM w=>Sl M w p0 J1.fV),λw Y cx=>(cx.EW 3 1).EW 3 1,0,L0,J1,cl0,gh0,_,[],[],rfl,Nat.zero_le _,rfl,rfl,rfl,rfl,rfl,rfl,λM w h=>hw0 M w h.1,λM w h=>h.2,hF0.weak λM w h=>h.1,aIE,vB.nil,Nat.le_refl _,λh=>absurd h (Nat.lt_irrefl _),λh=>absurd h (Nat.lt_irrefl _)⟩,?_⟩
 clear hst hw0 hF0
 rintro pk nk ck pt nt ct pl nl cl nI R1 cG κ a8C ⟨i,L,G,C,g,A,ts,ls,rfl,hi,rfl,rfl,rfl,rfl,rfl,hgb,hw1,b14,hF1,hGI,aQe,hts,hpt,hpl⟩
 have hJ1:JI cG:=hJ.weak hw1
 refine Br.intro (λhlt=>?_) (λhge=>λw Y cx=>⟨rfl,?_⟩)
 rotate_left 1
 .exact (Ctx.right (S:=cR L G) (Ctx.right (S:=[lW pt ct ts,lW pl cl ls]) (Ctx.left cx))).weak hw1
 have hlt:i<l.length:=by have:=eC hlt;omega
 have hlp:=hlp (by omega)
 refine ⟨by omega,aU b o hlp λw Y cx=>?_⟩
 obtain ⟨p1,c1,he,hok,_⟩:=aCq (aDn _ _ (hw1 _ _ cx.tX)) hlt
 have row:=aCr (aDn _ _ (hw1 _ _ cx.tX)) hlt he
 have hbd:=aI1.1 _ (List.getElem_mem hlt)
 refine ⟨_,_,_,_,_,_,_,by rw [Int.toNat_natCast];exact row,λw Y cx=>?_⟩
 have vA:(i+1)*(50+90)<=1048576:=by omega
 obtain ⟨C',g',A',a79,aQl,s,aQF⟩:=hGI.op vA l[i] (by exact hbd.1)
 rw [<-hgb]
 refine aQD hJ1 hF1 hGI vA (by decide) hok hbd.1 (by omega) (λM w h=>aQC (aDn M w (hw1 M w h)) hlt he) (cx.perm (vW _ _ _ _ _)) λL2 AP w aEu a8I zY hF2 cx=>?_
 haveI:=a8I
 generalize (opG G l[i]).2=rs
 generalize (opG G l[i]).1=G' at a79 aQF hF2 cx
 refine ⟨_,_,rfl,lW pt ct ts :: lW pl cl ls :: (cR L2 G'++R),AP,a8I,cx.perm (vW _ _ _ _ _).symm,λw Y cx=>?_⟩
 rw [<-aEu]
 have rW:=a79.aMb
 have hcz:=a79.aQx
 refine yP (λs hs=>Nat.le_trans (hcz s hs) (by unfold maxLen;omega)) (by omega) (cx.perm (vW _ _ _ _ _)) λp' c' w F5 cx=>?_
 obtain ⟨O6,aI6⟩:∃ O6:PW,O6=λM w=>AP M w/\Sl M w p' G'.fV:=⟨_,rfl⟩
 have wL:aB O6:=by rw [aI6];exact dM AP (λM w=>Sl M w p' G'.fV)
 have hw3:∀ M w,O6 M w->AP M w:=by rw [aI6];exact λM w h=>h.1
 have aMh:∀ M w,O6 M w->Sl M w p' G'.fV:=by rw [aI6];exact λM w h=>h.2
 rw [<-aI6] at cx
 clear aI6
 refine ⟨p',_,c',rfl,lW pt ct ts :: lW pl cl ls :: (cR L2 G'++R),O6,wL,cx.perm (vW _ _ _ _ _).symm,λw Y cx=>?_⟩
 have b15:bY O6 prog F.lI #[.slice pk G.fV.length ck,.slice p' G'.fV.length c'] (.bool true):=by
  rw [aQF] at aMh F5 ⊢
  exact aEC (λM w h=>b14 M w (zY M w (hw3 M w h))) aMh (by have:=congrArg List.length aQF;rw [List.length_append] at this;omega) F5
 refine b15.use cx λw cx=>⟨true,rfl,lW pt ct ts :: lW pl cl ls :: (cR L2 G'++R),O6,wL,cx,Br.intro (λh=>by cases h) (λ_=>?_)⟩
 clear cx row
 have hF3:mT O6 L2 G':=hF2.weak hw3
 have aNu:∀ M w,O6 M w->Φ M w:=λM w h=>hw1 M w (zY M w (hw3 M w h))
 have hJ3:JI O6:=hJ.weak aNu
 have aWY:vB g' ts ls:=aQe.aft aQl
 refine dF (λpt nt ct pl nl cl cI jI R' aV κ=>∃ (j:Nat) (x:List Int × List Int),jI=j/\j<=3/\κ=3 - j/\cI=(ES G' j:Nat)/\x=a0P G' j (ts,ls)/\nt=x.1.length/\nl=x.2.length/\R'=lW pt ct x.1 :: lW pl cl x.2 :: (cR L2 G'++R)/\aV=O6/\x.1.length<=3*i+j/\AtB pt x.1/\AtB pl x.2)
  ⟨⟨lW pt ct ts :: lW pl cl ls :: (cR L2 G'++R),O6,_,wL,λw Y cx=>cx,0,(ts,ls),rfl,Nat.zero_le _,rfl,rfl,rfl,rfl,rfl,rfl,rfl,by omega,hpt,hpl⟩,?_⟩
 clear hpt hpl
 rintro pt nt ct pl nl cl cI jI R1 PN κ _ ⟨j,x,rfl,hj,rfl,rfl,hx,rfl,rfl,rfl,rfl,hxl,hpt,hpl⟩
 have aI7:vB g' x.1 x.2:=by rw [hx];exact vB.note a79.j (x:=(ts,ls)) aWY j hj
 have b52:x.1.length=x.2.length:=aI7.1
 refine Br.intro (λb16=>?_) (λb17=>?_)
 rotate_left 1
 .have hj3:j=3:=by have:=cS b17;omega
  subst hj3
  have h2:=aAW a79.j
  refine Br.intro (λh=>absurd (eC h) (by omega)) (λ_=>⟨by unfold aX;omega,_,PN,_,wL,λw Y cx=>cx,⟨i+1,L2,G',C',g',A',x.1,x.2,by omega,hlt,rfl,rfl,rfl,rfl,rfl,by rw [aEu,hgb],aNu,aMh,hF3,?_,aI7,by omega,hpt,hpl⟩,by omega⟩)
  have e:((i:Int)+1)=((i+1:Nat):Int):=by omega
  rw [<-e]
  exact a79
 have hj3:j<3:=by have:=eC b16;omega
 have b18:∀ k,k<3->aQu (G'.mem k).d:=λk hk=>aQv (a79.j.any hk)
 have hcs:(ES G' j:Int)<=3:=by
  have:∀ k,ES G' k<=k:=λk=>by
   induction k with
   | zero=>exact Nat.le_refl _
   | succ k ih=>show ES G' k+_<=k+1;split<;>omega
  have:=this j
  omega
 refine dF (λcI R' aV=>cI=(ES G' (j+1):Nat)/\R'=lW pt ct x.1 :: lW pl cl x.2 :: (cR L2 G'++R)/\aV=PN) ⟨λw Y cx=>?_,?_⟩
 .refine a7W (id:=(j:Int)) hJ3.off hJ3.num hF3 b18 (cx.perm (vW _ _ _ _ _)) λp2 c2 w cx=>?_
  obtain ⟨st,hst⟩:∃ st,wZ G' j=st:=⟨_,rfl⟩
  rw [hst] at cx ⊢
  haveI:aB (λM w=>PN M w/\Sl M w p2 st):=dM PN (λM w=>Sl M w p2 st)
  refine ⟨p2,_,c2,rfl,lW pt ct x.1 :: lW pl cl x.2 :: (cR L2 G'++R),λM w=>PN M w/\Sl M w p2 st,aL,cx.perm (vW _ _ _ _ _).symm,λw Y cx=>?_⟩
  refine (aED (Φ:=λM w=>PN M w/\Sl M w p2 st) (l:=G'.fV) (log:=st) (λM w h=>aMh M w h.1) (λM w h=>h.2) (by omega)).use cx λw cx=>⟨_,rfl,_,λM w=>PN M w/\Sl M w p2 st,aL,cx,?_⟩
  have eh:S1 G'.fV st=ER G' j:=by rw [<-hst];rfl
  rw [eh]
  refine Br.intro (λh=>⟨by unfold aX;omega,_,PN,wL,λw Y cx=>cx.weak λM w h=>h.1,?_,rfl,rfl⟩) (λh=>⟨_,PN,wL,λw Y cx=>cx.weak λM w h=>h.1,?_,rfl,rfl⟩)
  .show _=((ES G' j+(if ER G' j=true then 1 else 0):Nat):Int)
   rw [if_pos h]
   omega
  .show _=((ES G' j+(if ER G' j=true then 1 else 0):Nat):Int)
   rw [if_neg (by rw [h];simp)]
   omega
 rintro cI R1 Φ5 _ ⟨rfl,rfl,rfl⟩
 intro w Y cx
 refine a3i (id:=(j:Int)) (cx.perm (vW _ _ _ _ _)) λw cx=>⟨_,rfl,lW pt ct x.1 :: lW pl cl x.2 :: (cR L2 G'++R),Φ5,wL,cx.perm (vW _ _ _ _ _).symm,?_⟩
 refine Br.intro (λhr=>⟨by unfold aX;omega,_,Φ5,_,wL,λw Y cx=>cx,⟨j+1,x,by omega,hj3,rfl,rfl,?_,rfl,rfl,rfl,rfl,by omega,hpt,hpl⟩,by omega⟩) (λhr=>?_)
 .show x=if yH G' j=2 then _ else _
  rw [if_neg (eC hr)]
  exact hx
 have hr:yH G' j=2:=Decidable.not_not.1 (cS hr)
 have zJ:=aCn a79.j hj3 hr
 refine dF (λkI R' aV κ=>∃ k:Nat,kI=k/\k<=x.1.length/\κ=x.1.length - k/\R'=lW pt ct x.1 :: lW pl cl x.2 :: (cR L2 G'++R)/\aV=Φ5) ⟨⟨_,Φ5,_,wL,λw Y cx=>cx,0,rfl,Nat.zero_le _,rfl,rfl,rfl⟩,?_⟩
 rintro kI R1 fA κ _ ⟨k,rfl,hk,rfl,rfl,rfl⟩
 refine Br.intro (λaMi=>?_) (λb53=>λw Y cx=>?_)
 .have aMi:k<x.1.length:=by have:=eC aMi;omega
  have aWZ:k<x.2.length:=by omega
  obtain ⟨gt,rfl⟩:=hpt (by omega)
  obtain ⟨gl,rfl⟩:=hpl (by omega)
  refine ⟨[lW (some ⟨gt,0,none⟩) ct x.1],VI,aL,λw Y cx=>bX cx (.cons_cons _ (List.nil_sublist _)),by omega,aU gt 0 rfl ⟨x.1[k],λw Y cx=>⟨_,by rw [Int.toNat_natCast,Nat.zero_add];exact aI5 cx rfl aMi,rfl⟩,λw Y cx=>?_⟩⟩
  refine UD (id:=(j:Int)) (cx.perm (vW _ _ _ _ _)) λw cx=>⟨_,rfl,lW (some ⟨gt,0,none⟩) ct x.1 :: lW (some ⟨gl,0,none⟩) cl x.2 :: (cR L2 G'++R),fA,wL,cx.perm (vW _ _ _ _ _).symm,λw Y cx=>bX cx (.cons_cons _ (List.nil_sublist _)),?_⟩
  refine Br.intro (λheq=>⟨by omega,aU gl 0 rfl λw Y cx=>⟨x.2[k],by rw [Int.toNat_natCast,Nat.zero_add];exact aI5 (cx.perm (.swap _ _ _)) rfl aWZ,Br.intro (λhne=>?_) (λ_=>⟨by unfold aX;omega,_,fA,_,wL,λw Y cx=>cx,⟨k+1,by omega,by omega,rfl,rfl,rfl⟩,by omega⟩)⟩⟩) (λ_=>⟨by unfold aX;omega,_,fA,_,wL,λw Y cx=>cx,⟨k+1,by omega,by omega,rfl,rfl,rfl⟩,by omega⟩)
  exfalso
  have h1:=(aI7.2 k _ _ (List.getElem?_eq_getElem aMi) (List.getElem?_eq_getElem aWZ)).1
  have heq:=eC heq
  rw [heq,zJ] at h1
  exact eC hne h1.symm
 .refine UD (id:=(j:Int)) (cx.perm (vW _ _ _ _ _)) λw cx=>⟨_,rfl,lW pt ct x.1 :: lW pl cl x.2 :: (cR L2 G'++R),fA,wL,cx.perm (vW _ _ _ _ _).symm,λk1 w Y cx=>?_⟩
  obtain ⟨p2,c2,w',h1,h2,c3⟩:=a78 (S:=lW pl cl x.2 :: ((cR L2 G'++R)++Y)) (by omega) cx
  refine ⟨p2,_,c2,w',h1,lW p2 c2 (x.1++[wD G' j]) :: lW pl cl x.2 :: (cR L2 G'++R),fA,wL,c3,λk2 w Y cx=>?_⟩
  obtain ⟨p3,c4,w',h3,h4,c5⟩:=a78 (S:=lW p2 c2 (x.1++[wD G' j]) :: ((cR L2 G'++R)++Y)) (by omega) (cx.perm (.cons _ (.swap _ _ _)))
  refine ⟨p3,_,c4,w',h3,lW p2 c2 (x.1++[wD G' j]) :: lW p3 c4 (x.2++[(j:Int)]) :: (cR L2 G'++R),fA,wL,c5.perm (.swap _ _ _),by unfold aX;omega,_,fA,_,wL,λw Y cx=>cx,⟨j+1,(x.1++[wD G' j],x.2++[(j:Int)]),by omega,hj3,rfl,rfl,?_,rfl,rfl,rfl,rfl,by rw [List.length_append,List.length_singleton];omega,h2,h4⟩,by omega⟩
  show _=if yH G' j=2 then _ else _
  rw [if_pos hr,<-hx]
theorem aEG [aB Φ] (hJ:JI Φ) {lp lc} {l:List OpG} (hl:∀ M w,Φ M w->Sl M w lp l) (hll:l.length<=9223372036854775807):
  bY Φ prog F.jX #[.slice lp l.length lc] (.bool true) :=
 bY.pinned hl λb o cs hp=>aA0 (hJ.weak λM w h=>h.1) hp (λM w h=>h.2) hll
end
end Go.Proofs.YtnlkemjhgdbfkaaGreatDoor
end

section
namespace Go.Proofs.YtnlkemjhgdbfkaaGreatDoor
open Go.Vc Go.RowKit
theorem aQG (u) (h:prog.typeName? 3 u=some "*errors.errorString"):u=476 :=
 typeName_ptr_named (nm := "errors.errorString") (by rw [show "*" ++ "errors.errorString" = "*errors.errorString" by decide];kernel_rfl) (by kernel_rfl) (by decide) u (by rw [show "*" ++ "errors.errorString" = "*errors.errorString" by decide];exact h)
theorem aI8 {n text r W g} (h:laidMet prog ((n,.iface "*errors.errorString" (.ptr (.agg [.lit (.string text)]))) :: r) W) (hg:prog.globalNamed n=some g) (ht:(prog.globals[g]?).map (·.type)=some 209):VC g [] W:=by
 obtain ⟨a,s,hv,_⟩:=laid_sentinel h hg ht underlying209 aQG underlying476 underlying478 rfl rfl underlying9 (by kernel_rfl) (by kernel_rfl)
 exact ⟨by simp,_,by have h0:=World.var?_cell hg hv 0;simpa using h0,.inr ⟨_,_,rfl⟩⟩
abbrev a8a:PW:=λM w=>tM M w/\rM M w
theorem aQH {W} (h:laidMetH prog Rows.groupAgreesRow.laid W):a8a [] W:=by
 rw [MakeChecks.laidMetH_plain prog Rows.groupAgreesRow.laid W (by kernel_rfl)] at h
 have h2:=h.tail.tail
 exact ⟨⟨Tab.start (Lib.tabIs_of_head (k:=.u64) (zs:=Lib.pow10Tab) (g:=1) (t:=464) (e:=383) (n:=20) (by kernel_rfl) (by kernel_rfl) (by kernel_rfl) (by kernel_rfl) (by kernel_rfl) (by kernel_rfl) h2),
  aI8 h2.tail.tail.tail (by kernel_rfl) (by kernel_rfl),aI8 h2.tail.tail (by kernel_rfl) (by kernel_rfl)⟩,
  Tab.start (Lib.tabIs_of_head (k:=.i64) (zs:=[0,64,131072]) (g:=0) (t:=276) (e:=3) (n:=3) (by kernel_rfl) (by kernel_rfl) (by kernel_rfl) (by kernel_rfl) (by kernel_rfl) (by kernel_rfl) h2.tail)⟩
end Go.Proofs.YtnlkemjhgdbfkaaGreatDoor
end

section
namespace Go.Proofs.YtnlkemjhgdbfkaaGreatDoor
open Go.ChangeShapes Go.WideShapes Go.ChangeAt Go.RowKit Go.Vc
theorem aQI:ownKnob prog.godebug=none:=by kernel_rfl
theorem aCs:laidOutB prog=true:=by kernel_rfl
theorem aEH {H} {enc:TypeId × Value->H} {P w base spare held t0 args ds ps} (h:DataW.TrodAll enc P w base spare held [t0] args.toList ds ps):
  ∃ v0 d0 p0,args=#[v0]/\ds=[d0]/\ps=p0/\DataW.Trod enc P w base spare held t0 v0 d0 p0:=by
 obtain ⟨v0,vs0,d0,ds0,p0,q0,hargs,rfl,rfl,h0,h⟩:=trodAll_cons h
 obtain ⟨rfl,rfl,rfl⟩:=trodAll_nil h
 exact ⟨v0,d0,p0,by cases args;simp_all,rfl,by simp,h0⟩
theorem aI9 (os args):laidMetH prog Rows.groupAgreesRow.laid ((World.doorLaid prog 400 os).forCall (λ_ _=>0) ⟨#[],args,[]⟩).memory :=
 laidMetH_of_parts3 (fuel:=8) (laidMet_of_run' 8 (by kernel_rfl) (by kernel_rfl)) (by kernel_rfl) (by kernel_rfl)
set_option maxRecDepth 100000 in
theorem aA1 (os) (started:os.Started) (H) (enc:TypeId × Value->H):
  ReturnsInHanded {} Tryz.checked os 7 .any (λw args=>(Rows.groupAgreesSpec.pre enc prog Tryz.f7 Rows.groupAgreesRow.domain false w args/\laidMetH prog Rows.groupAgreesRow.laid w)/\sizedMet enc prog Tryz.f7 (OpenSpec.ofChange Rows.groupAgreesSpec) false w args) (Rows.groupAgreesSpec.post enc prog Tryz.f7 false true false false):=by
 refine a6w (C:=Tryz.checked) (tb:=4) aQI started (by kernel_rfl) func7 aCs rfl ?_ rfl underlying4 (by kernel_rfl)
  (ChangeSpec.witness_shaped (enc:=enc) (C:=Tryz.checked) (os:=os) (X:=λw _=>laidMetH prog Rows.groupAgreesRow.laid w) false (World.doorLaid prog 400 os) #[.slice none 0 0] 8 rfl (World.shaped_of_RefB (by kernel_rfl) (by kernel_rfl)) (by kernel_rfl) (by kernel_rfl) (by kernel_rfl) (aI9 os _)) ?_
 .intro ds hd
  match ds,hd with
  | [_],_=>exact ⟨rfl,rfl,rfl⟩
 .intro W base args ds p aW0 hA0 _ hL
  have hval:∀ (j:Nat) t v,Tryz.f7.params[j]? = some t->args[j]? = some v->Value.okWide prog W .any base t v:=aW0
  have hA:DataW.TrodAll enc prog W 0 (λ_=>true) true Tryz.f7.params.toList args.toList ds p:=hA0
  rw [Tryz.params7] at hA hval
  obtain ⟨v0,d0,p0,rfl,rfl,rfl,h0⟩:=aEH hA
  obtain ⟨lp,lc,l,rfl,la,lb,s0⟩:=aKT (α:=OpG) 12 underlying25 (hval 0 25 v0 rfl rfl) (by kernel_rfl) h0
  have st0:aB (λM w=>Sl M w lp l):=aL
  have st1:aB (λM w=>a8a M w/\Sl M w lp l):=dM (λM w=>a8a M w) (λM w=>Sl M w lp l)
  have fin:bY (λM w=>a8a M w/\Sl M w lp l) prog 7 _ (.bool true):=aEG (Φ:=(λM w=>a8a M w/\Sl M w lp l)) ⟨λ_ _ h=>h.1.1,λ_ _ h=>h.1.2⟩ (lp:=lp) (lc:=lc) (l:=l) (λ_ _ h=>h.2) (by unfold maxLen at *;omega)
  exact fin.law ⟨aQH hL,s0⟩
theorem jf0:(Rows.groupAgreesRow.wf (OpenSpec.ofChange Rows.groupAgreesSpec))=true:=by kernel_rfl
theorem jf2:(mapsRowed prog)=true:=by kernel_rfl
theorem jf3:(Tryz.f7.params.all (prog.readableRec ·))=true:=by kernel_rfl
theorem jf4:(namedTie prog Rows.groupAgreesRow.named Rows.groupAgreesSpec.vars)=true:=by kernel_rfl
theorem jf5:((Rows.groupAgreesRow.stops == []))=true:=by kernel_rfl
theorem jf6:((prog.stops == []))=true:=by kernel_rfl
theorem jf7:((Rows.groupAgreesRow.knobs == []))=true:=by kernel_rfl
theorem jf8:((prog.stopKnobs == []))=true:=by kernel_rfl
theorem jf9:((Rows.groupAgreesRow.inPlace == prog.inPlace 7))=true:=by kernel_rfl
theorem b19:((Rows.groupAgreesRow.unfollowed == prog.unfollowed 7))=true:=by kernel_rfl
theorem b2a:((Rows.groupAgreesRow.recurses == prog.recurses 7))=true:=by kernel_rfl
theorem b2b:((Rows.groupAgreesRow.named == prog.varsNamed 7))=true:=by kernel_rfl
theorem b2c:((Rows.groupAgreesRow.maps == (Tryz.f7.params.toList++Rows.groupAgreesSpec.plain.varTypes prog).any (prog.mapsRec ·)))=true:=by kernel_rfl
theorem b2d:((Rows.groupAgreesRow.ifaces == (Tryz.f7.params.toList++Rows.groupAgreesSpec.plain.varTypes prog).any (prog.ifacesRec ·)))=true:=by kernel_rfl
theorem b2e:((Rows.groupAgreesRow.mapsOut == prog.mapsAmong Tryz.f7.resultTypes.toList))=true:=by kernel_rfl
theorem b2f:((Rows.groupAgreesRow.loops == (Tryz.f7.params.toList++Rows.groupAgreesSpec.plain.varTypes prog).any (prog.loopsFrom ·)))=true:=by kernel_rfl
theorem b2g:((Rows.groupAgreesRow.wideKeys == (Tryz.f7.params.toList++Rows.groupAgreesSpec.plain.varTypes prog++Tryz.f7.resultTypes.toList).any (prog.wideKeysFrom ·)))=true:=by kernel_rfl
theorem b2h:(Rows.groupAgreesSpec.vars.all (prog.varReadable ·))=true:=by kernel_rfl
theorem b2i:(Tryz.f7.resultTypes.all (λt=>prog.readableRec t&&decide (t<prog.types.size)))=true:=by kernel_rfl
theorem b2j:((Rows.groupAgreesRow.ifacesOut == Tryz.f7.resultTypes.toList.any (prog.ifacesRec ·)))=true:=by kernel_rfl
theorem b2k:((Rows.groupAgreesRow.loopsOut == Tryz.f7.resultTypes.toList.any (prog.loopsFrom ·)))=true:=by kernel_rfl
theorem b2l:((Rows.groupAgreesRow.plainKeys == prog.plainKeys))=true:=by kernel_rfl
theorem b2m:(Rows.groupAgreesRow.shortTexts.isNone)=true:=by kernel_rfl
theorem b2o:(prog.stopsHeard)=true:=by kernel_rfl
theorem b2p:(prog.mayEnter)=true:=by kernel_rfl
theorem b2q:((Rows.groupAgreesRow.lifted == prog.liftsFinal))=true:=by kernel_rfl
theorem b2r:((prog.make == some Rows.groupAgreesRow.make))=true:=by kernel_rfl
theorem b2s:((Rows.groupAgreesRow.pinned == Rows.groupAgreesRow.pinnedBy))=true:=by kernel_rfl
theorem b2t:((Rows.groupAgreesRow.veiled == (Tryz.f7.params.toList++Rows.groupAgreesSpec.plain.varTypes prog++Tryz.f7.resultTypes.toList).any (prog.veiledRec ·)))=true:=by kernel_rfl
theorem b2u:(Rows.groupAgreesRow.veiledFits prog Tryz.f7.params.toList (Tryz.f7.params.toList++Rows.groupAgreesSpec.plain.varTypes prog++Tryz.f7.resultTypes.toList))=true:=by kernel_rfl
theorem fB {a b} (h:a=true) (k:b=true):(a&&b)=true:=by rw [h,k];rfl
theorem aQJ:joinedFacts prog 7 Tryz.f7 Rows.groupAgreesSpec Rows.groupAgreesRow=true:=by
 unfold joinedFacts
 exact (fB (fB (fB (fB (fB (fB (fB (fB (fB (fB (fB (fB (fB (fB (fB (fB (fB (fB (fB (fB (fB (fB (fB (fB (fB (fB (fB (fB (fB (fB (fB jf0 aCs) jf2) jf3) jf4) jf5) jf6) jf7) jf8) jf9) b19) b2a) b2b) b2c) b2d) b2e) b2f) b2g) b2h) b2i) b2j) b2k) b2l) b2m) b2o) b2p) b2q) b2r) (by kernel_rfl)) b2s) b2t) b2u)
theorem aCt:prog.funcNamed Rows.groupAgreesRow.func=some 7:=by kernel_rfl
theorem aMj:prog.mainIs=some (Rows.groupAgreesCard.stood.harness.1,Rows.groupAgreesCard.stood.harness.2.toList):=by kernel_rfl
theorem aJa:Rows.groupAgreesCard.stood.looks=prog.looks []:=by kernel_rfl
theorem aMk:false=Rows.groupAgreesRow.goesBy prog:=by kernel_rfl
theorem aEI:Rows.GroupAgreesSaid :=
 OpenClaim.holds_of_wide 7 Tryz.f7 rfl rfl rfl rfl rfl rfl rfl ⟨rfl,rfl,rfl,rfl,rfl⟩ rfl rfl rfl rfl rfl aCt func7 aQJ
  (eC (by kernel_rfl)) (by unfold Func.isWrapper;first|(rw [if_pos (by decide +kernel)];kernel_rfl)|(rw [if_neg (by decide +kernel)];exact ⟨rfl,rfl⟩))
  (λos started H enc _=>aA1 os started H enc)
theorem agrees_holds:Rows.GroupAgreesCardSaid :=
 Claim7.holds_tied_plain_at .later [] [.data,.data,.data,.data,.sentinel,.sentinel] true Rows.groupAgreesCard.stood.harness true
  aEI (λ_ h=>by cases h) (by kernel_rfl) (λ_ h=>by cases h) groupAgrees_row_tie rfl ⟨rfl,rfl⟩ aMj rfl
  (λf fn hf hfn=>by
   obtain rfl:f=7:=Option.some.inj (aCt.symm.trans hf) |>.symm
   obtain rfl:fn=Tryz.f7:=(Option.some.inj (func7.symm.trans hfn)).symm
   exact ⟨aJa,λj t ht=>by
    rw [Tryz.params7] at ht
    have hm:=Array.mem_of_getElem? ht
    have hall:((Tryz.f7.params.toList).all λu => !prog.wantsStandIn u)=true:=by kernel_rfl
    rw [Tryz.params7] at hall
    exact (show prog.wantsStandIn t=false by simpa using List.all_eq_true.1 hall t (by simpa using hm))⟩)
  aMk
end Go.Proofs.YtnlkemjhgdbfkaaGreatDoor
end

