/-
 A new group,what is committed,what is stored: walked.
-/
import Derived.Test.YtnlkemjhgdbfkaaGreatDoorCs12
import Derived.Test.YtnlkemjhgdbfkaaGreatDoorCs6
import Derived.Test.YtnlkemjhgdbfkaaGreatDoorCs10
import Derived.Test.YtnlkemjhgdbfkaaGreatDoorCs9
import Derived.Test.YtnlkemjhgdbfkaaGreatDoorCards
import Derived.MakeChecks
import Derived.Stop.LaidErr
import Derived.Lib.LaidTab
open Go.Proofs.Tryz
set_option linter.unusedVariables false
set_option linter.unusedSimpArgs false
section
namespace Go.Proofs.YtnlkemjhgdbfkaaGreatDoor
open Go.Vc
theorem aJU(M w cs)(x:ByteArray)(h:Gv.rep M w cs x):(cs.all λu=>nM u)=true:=by
 obtain ⟨rfl,_⟩:=h;rfl
theorem aRz{W w Q Φ M p n c l}(h:Go.Vc.j8 W Q Φ M w)(hm:Own.buf p n c (dS l) 9 1∈Q)(hok:∀ x∈l,x.size<=maxLen):Sl M w p l :=
 wU.sl (α:=ByteArray) (D:=[]) (h.parked hm) (z6 hok)
section
variable {W w:World}{S:List Own}{Φ:PW}{L:GX}{G:gG}{i:Nat}
theorem aBM[aB Φ]{q l c2}(c:Ctx W w S Φ)(mF:∀ M w,Φ M w->Sl M w q l)(hlen:l.length<100000000){K}(hk:∀ p cap w',Ctx W w' (.buf p l.length cap (dS l) 9 1 :: S) Φ->K (.returned (.slice p l.length cap)) w'):aD F.j5 #[.slice q l.length c2] w K:=by
 refine gC (tF q l.length c2 (J:=K∘.returned) c ?_);refine Br.intro (λh=>λw G cx=>?_) (λh=>λk w G cx=>?_)
 .have hq:q=none:=by simpa using h
  have hl:l.length=0:=by
   rcases Nat.eq_zero_or_pos l.length with h0|h0
   .exact h0
   .obtain ⟨b,o,hb⟩:=(mF _ _ cx.uX).there h0;rw [hq] at hb;cases hb
  have hl':l=[]:=List.eq_nil_of_length_eq_zero hl;subst hl';exact hk none 0 w (cx.left.MN 9 1)
 .obtain ⟨p',cap',w',cs,hrun,cx'⟩:=Ctx.a43 (P:=prog) (ts:=40) (ty:=40) (kb:=#[false,false]) (bytes:=16) (c2:=c2) cx (by kernel_rfl) aJU mF hlen (by omega);have hcs:=OX cx'.uX.2;subst hcs;exact ⟨p',l.length,cap',w',hrun,.buf p' l.length cap' (dS l) 9 1 :: S,Φ,aM,cx'.fst,λw G cx=>hk p' cap' w cx.left⟩
theorem zE[aB Φ](hsz:∀ s∈G.fE,s.size<=maxLen)(hlen:G.fE.length<100000000)(cx:Ctx W w (cR L G++S) Φ){K}(hk:∀ p c w',G.fE.length<=c->Ctx W w' (cR L G++S) (λM w=>Φ M w/\Sl M w p G.fE)->K (.returned (.slice p G.fE.length c)) w'):
  aD F.gN #[.pointer (some ⟨L.gb,0,none⟩)] w K:=by
 refine gC (yO L.gb 0 (J:=K∘.returned) cx λw Y cx=>⟨L.cp,G.fE.length,L.cc,cx.get 0 rfl (by rfl),λw Y cx=>?_⟩);have jZ:Ctx W w (S++Y) (Go.Vc.j8 W (cR L G) Φ):=Ctx.aside (cx.re (aX _ _ _));refine aBM jZ (λM w h=>aRz h (n:=G.fE.length) (c:=L.cc) (by unfold cR;simp) hsz) hlen λq cap w cx=>?_;obtain ⟨_,a3l,hcap2⟩:=cx.tT 0 rfl;have CD:Ctx W w (.buf q G.fE.length cap (dS G.fE) 9 1 :: (cR L G++(S++Y))) Φ:=cx.AX.perm List.perm_middle
 obtain ⟨Y0,hs,_⟩:=Ctx.freeze (α:=ByteArray) CD (z6 hsz);have hst:aB (λM w=>Φ M w/\Sl M w q G.fE):=cE Φ (λM w=>Sl M w q G.fE);exact ⟨q,_,cap,rfl,cR L G++S,λM w=>Φ M w/\Sl M w q G.fE,hst,gr (Y0.add hs),λw Y cx=>hk q cap w a3l cx.left⟩
theorem a4d{M w cs}{x:Int × Int}(h:Gv.rep M w cs x):cs=[.int .i64 x.1,.int .i64 x.2]/\(aY x.1/\aY x.2):=by
 obtain ⟨_,_,rfl,⟨rfl,h1⟩,rfl,h2⟩:=h;exact ⟨rfl,h1,h2⟩
theorem aNf(M w cs)(x:Int × Int)(h:Gv.rep M w cs x):(cs.all λu=>nM u)=true:=by
 rw [(a4d h).1];rfl
theorem aFy{M w l}(h:∀ x∈l,aY x.1/\aY x.2):dP M w (lQ l) l:=by
 refine ⟨wA l,λj hj=>?_⟩;rw [show (Gv.ty (Int × Int)).size=2 from rfl,Y5 hj];have:=h _ (List.getElem_mem hj);exact ⟨[_],[_],rfl,⟨rfl,this.1⟩,rfl,this.2⟩
theorem aFz{M w cs l}(h:dP M w cs l):cs=lQ l:=by
 apply List.ext_getElem?;intro i;have hl:=h.1;rw [show (Gv.ty (Int × Int)).size=2 from rfl] at hl;by_cases hi:i<cs.length
 .have hj:i / 2<l.length:=by omega
  have h1:=(a4d (h.2 (i / 2) hj)).1;rw [show (Gv.ty (Int × Int)).size=2 from rfl,<-Y5 hj] at h1;have h2:((cs.drop (i / 2*2)).take 2)[i % 2]? = (((lQ l).drop (i / 2*2)).take 2)[i % 2]? := by rw [h1]
  rw [List.getElem?_take_of_lt (by omega),List.getElem?_take_of_lt (by omega),List.getElem?_drop,List.getElem?_drop] at h2
  rwa [show i / 2*2+i % 2=i by omega] at h2
 .rw [List.getElem?_eq_none (by omega),List.getElem?_eq_none (by rw [wA];omega)]
theorem aBN[aB Φ]{q l c2}(c:Ctx W w S Φ)(mF:∀ M w,Φ M w->Sl M w q l)(hlen:l.length<100000000){K}(hk:∀ p cap w',Ctx W w' (.buf p l.length cap (lQ l) 325 2 :: S) Φ->K (.returned (.slice p l.length cap)) w'):aD F.eW #[.slice q l.length c2] w K:=by
 refine gC (mR q l.length c2 (J:=K∘.returned) c ?_);refine Br.intro (λh=>λw G cx=>?_) (λh=>λk w G cx=>?_)
 .have hq:q=none:=by simpa using h
  have hl:l.length=0:=by
   rcases Nat.eq_zero_or_pos l.length with h0|h0
   .exact h0
   .obtain ⟨b,o,hb⟩:=(mF _ _ cx.uX).there h0;rw [hq] at hb;cases hb
  have hl':l=[]:=List.eq_nil_of_length_eq_zero hl;subst hl';exact hk none 0 w (cx.left.MN 325 2)
 .obtain ⟨p',cap',w',cs,hrun,cx'⟩:=Ctx.a43 (P:=prog) (ts:=254) (ty:=254) (kb:=#[false,false]) (bytes:=16) (c2:=c2) cx (by kernel_rfl) aNf mF hlen (by omega);have hcs:=aFz cx'.uX.2;subst hcs;exact ⟨p',l.length,cap',w',hrun,.buf p' l.length cap' (lQ l) 325 2 :: S,Φ,aM,cx'.fst,λw G cx=>hk p' cap' w cx.left⟩
theorem aJV[aB Φ]{fm es tH}(hm:w.heap[fm]? = some (bR (Value.int .i64) fQ es tH))(cx:Ctx W w S Φ){K}(hk:∀ b w',Ctx W w' (.obj b (bR (Value.int .i64) fQ es tH) :: S) Φ->K (.returned (.map (some b))) w'):aD F.gH #[.map (some fm)] w K :=
 (AnyW.maps_Clone Tryz.mc1 fm _ tH w hm).mono λe w' ⟨he,hw⟩=>by rw [he];exact hk _ _ (cx.newObj hw)
theorem aJW[aB Φ]{sm es tH}(hm:w.heap[sm]? = some (bR iZ Value.bool es tH))(cx:Ctx W w S Φ){K}(hk:∀ b w',Ctx W w' (.obj b (bR iZ Value.bool es tH) :: S) Φ->K (.returned (.map (some b))) w'):aD F.fA #[.map (some sm)] w K :=
 (AnyW.maps_Clone Tryz.mc2 sm _ tH w hm).mono λe w' ⟨he,hw⟩=>by rw [he];exact hk _ _ (cx.newObj hw)
theorem aJX[aB Φ]{q d}(hq:pL q d)(cx:Ctx W w (b8 q d++S) Φ){K}(hk:∀ q' w',q'.kp=q.kp->pL q' d->Ctx W w' (b8 q' d++(b8 q d++S)) Φ->K (.returned (.pointer (some ⟨q'.db,0,none⟩))) w'):aD F.yB #[.pointer (some ⟨q.db,0,none⟩)] w K:=by
 have hqs:∀ x∈d.queue,aY x.1/\aY x.2:=λx hx=>by have:=hq.range x hx;unfold aY;omega
 have hql:=hq.aIK;refine gC (LJ q.db 0 (J:=K∘.returned) cx λw Y cx=>⟨_,_,_,_,_,_,_,_,_,_,_,cx.DV 0 rfl,λk w Y cx=>⟨cx.can 0 rfl (by show 0+7<=7;omega),λw' hw'=>?_⟩⟩);have c0:=cx.FL 0 hw' rfl;refine ⟨.blk k (vG q d) 256 :: (b8 q d++S),Φ,aM,c0,[.blk q.db (vG q d) 256],XN,aM,λw Y cx=>cQ cx (.cons _ (.cons_cons _ (List.nil_sublist _))),some q.fm,λw Y cx=>⟨_,cx.get 0 rfl rfl,rfl⟩,q.qp,d.queue.length,q.qc,λw Y cx=>⟨_,_,_,cx.get 0 rfl rfl,rfl⟩,some q.sm,λw Y cx=>⟨_,cx.get 0 rfl rfl,rfl⟩,λw Y cx=>?_⟩
 refine aJV (cx.own (.obj q.fm (bR (Value.int .i64) fQ q.tE q.cW)) (by simp [b8])) cx λb1 w cx=>⟨_,rfl,.obj b1 (bR (Value.int .i64) fQ q.tE q.cW) :: .blk k (vG q d) 256 :: (b8 q d++S),Φ,aM,cx,λw Y cx=>cQ cx (.cons _ (.cons _ (.cons_cons _ (List.nil_sublist _)))),λw Y cx=>?_⟩;have cA:Ctx W w ((.obj b1 (bR (Value.int .i64) fQ q.tE q.cW) :: .blk k (vG q d) 256 :: S)++Y) (Go.Vc.j8 W (b8 q d) Φ):=Ctx.aside (Q:=b8 q d) (cx.perm (by
  show ((.obj b1 (bR (Value.int .i64) fQ q.tE q.cW) :: .blk k (vG q d) 256 :: (b8 q d++S))++Y).Perm (b8 q d++((.obj b1 (bR (Value.int .i64) fQ q.tE q.cW) :: .blk k (vG q d) 256 :: S)++Y));have:∀ (a b:Own) (D S Y:List Own),((a :: b :: (D++S))++Y).Perm (D++((a :: b :: S)++Y)):=λa b D S Y=>by
   rw [List.cons_append,List.cons_append,aX];exact (List.perm_append_comm_assoc [a,b] D (S++Y))
  exact this _ _ _ _ _))
 refine aBN cA (λM w h=>wU.sl (α:=Int × Int) (D:=[]) (h.parked (o:=.buf q.qp d.queue.length q.qc (lQ d.queue) 325 2) (by simp [b8])) (aFy hqs)) (by omega) λp' c' w cx=>?_;have c1:Ctx W w ((.buf p' d.queue.length c' (lQ d.queue) 325 2 :: .obj b1 (bR (Value.int .i64) fQ q.tE q.cW) :: .blk k (vG q d) 256 :: (b8 q d++S))++Y) Φ:=cx.AX.perm (by
  have:∀ (a b c:Own) (D S Y:List Own),(D++(a :: ((b :: c :: S)++Y))).Perm ((a :: b :: c :: (D++S))++Y):=λa b c D S Y=>by
   have e:(a :: b :: c :: (D++S))++Y=[a,b,c]++(D++(S++Y)):=by simp
   rw [e];exact (List.perm_append_comm_assoc [a,b,c] D (S++Y)).symm
  exact this _ _ _ _ _ _)
 refine ⟨_,_,_,rfl,.buf p' d.queue.length c' (lQ d.queue) 325 2 :: .obj b1 (bR (Value.int .i64) fQ q.tE q.cW) :: .blk k (vG q d) 256 :: (b8 q d++S),Φ,aM,c1,λw Y cx=>cQ cx (.cons _ (.cons _ (.cons _ (.cons_cons _ (List.nil_sublist _))))),λw Y cx=>?_⟩;refine aJW (cx.own (.obj q.sm (bR iZ Value.bool q.ET q.jL)) (by simp [b8])) cx λb2 w cx=>?_
 let X:List Own:=.buf p' d.queue.length c' (lQ d.queue) 325 2 :: .obj b1 (bR (Value.int .i64) fQ q.tE q.cW) :: []
 refine ⟨_,rfl,.obj b2 (bR iZ Value.bool q.ET q.jL) :: .buf p' d.queue.length c' (lQ d.queue) 325 2 :: .obj b1 (bR (Value.int .i64) fQ q.tE q.cW) :: .blk k (vG q d) 256 :: (b8 q d++S),Φ,aM,cx,λw Y cx=>⟨cx.can 3 rfl (by show 0+1<=7;omega),λw' hw'=>⟨.obj b2 (bR iZ Value.bool q.ET q.jL) :: .buf p' d.queue.length c' (lQ d.queue) 325 2 :: .obj b1 (bR (Value.int .i64) fQ q.tE q.cW) :: .blk k ((vG q d).set 0 (.map (some b1))) 256 :: (b8 q d++S),Φ,aM,cx.put 3 hw' rfl,λw Y cx=>⟨cx.can 3 rfl (by show 1+1<=7;omega),λw' hw'=>⟨.obj b2 (bR iZ Value.bool q.ET q.jL) :: .buf p' d.queue.length c' (lQ d.queue) 325 2 :: .obj b1 (bR (Value.int .i64) fQ q.tE q.cW) :: .blk k (((vG q d).set 0 (.map (some b1))).set 1 (.slice p' d.queue.length c')) 256 :: (b8 q d++S),Φ,aM,cx.put 3 hw' rfl,λw Y cx=>⟨cx.can 3 rfl (by show 2+1<=7;omega),λw' hw'=>⟨.obj b2 (bR iZ Value.bool q.ET q.jL) :: .buf p' d.queue.length c' (lQ d.queue) 325 2 :: .obj b1 (bR (Value.int .i64) fQ q.tE q.cW) :: .blk k ((((vG q d).set 0 (.map (some b1))).set 1 (.slice p' d.queue.length c')).set 2 (.map (some b2))) 256 :: (b8 q d++S),Φ,aM,cx.put 3 hw' rfl,λw Y cx=>?_⟩⟩⟩⟩⟩⟩⟩
 refine hk ⟨k,b1,q.tE,q.cW,b2,q.ET,q.jL,p',c',q.kp,q.kc⟩ w rfl ⟨hq.fok,hq.sok,hq.UR,hq.a2p,hq.nodup,hq.range,hq.size,hq.lost,hq.eL⟩ ?_;refine (Ctx.left cx).perm ?_;have:∀ (a b c e:Own) (D:List Own),(a :: b :: c :: e :: D).Perm ([e,c,a,b]++D):=λa b c e D=>by
  show (a :: b :: c :: e :: D).Perm (e :: c :: a :: b :: D);exact (List.perm_middle (a:=e) (l₁:=[a,b,c]) (l₂:=D)).trans (.cons _ (List.perm_middle (a:=c) (l₁:=[a,b]) (l₂:=D)))
 exact this _ _ _ _ _
def aXn(d:iM):Prop:=∀ j,(rI (MR d) 0).2.1=some j->j.list.length<=1000000/\∀ s∈j.list,s.size<=100000000/\(nP s).Ok
theorem aJY{d Q}(h:WL d Q):aXn d:=λj hj=>by
 obtain ⟨hw,H,P,hQ,hC,hL⟩:=h;obtain ⟨c1,c2,c3⟩:=aDb hw;have M6:a8s (MR d) P:=hL.ev (c2 _) (c2 _);have hO:=UO (d:=MR d) (b:=0) (by decide) c1 M6;rcases hO.or with ⟨j',g1,g2,g3,⟨lg,g4,g5,g6⟩,g7,g8⟩|⟨g1,g2,g3⟩
 .rw [g1] at hj;cases hj;have hsz:=g5.size;refine ⟨?_,λs hs=>?_⟩
  .rw [g4];have:=xW (l:=lg.map iK) λx hx=>by
    have:=kN hx;omega
   omega
  .rw [g4] at hs;have:=kN hs;obtain ⟨x,hx,rfl⟩:=List.mem_map.1 hs;have h1:=g5.aBh x hx;refine ⟨by omega,?_⟩;rw [Z6 h1.1 h1.2];exact ⟨h1.1,by unfold maxLen;omega⟩
 .rw [g1] at hj;cases hj
theorem aDo(L G)(hi:i<3)(F):(cR L G++F).Perm (b8 (L.P i).q (G.mem i).d++(kG L.gb (lS L G) :: (aBC (L.P i) (G.mem i)++(AA L G i++F)))):=by
 have h:=zD (L.P i) (G.mem i) L.gb (lS L G) (AA L G i) F;rw [List.cons_append,aX] at h;exact (SM L G hi F).trans h
theorem WV[aB Φ](hoff:∀ M w,Φ M w->sS M w)(hN:∀ M w,Φ M w->uL M w)(hF:mA Φ L G)(hs:∀ i,i<3->aXn (G.mem i).d){id}(cx:Ctx W w (cR L G++S) Φ){K}(hk:∀ p c w',Ctx W w' (cR L G++S) (λM w=>Φ M w/\Sl M w p (xP G id))->K (.returned (.slice p (xP G id).length c)) w'):
  aD F.gR #[.pointer (some ⟨L.gb,0,none⟩),.int .i64 id] w K:=by
 refine gC (D1 L.gb 0 id (J:=K∘.returned) cx λw Y cx=>?_);rw [aX] at cx;refine SY cx λw cx=>⟨_,rfl,cR L G++S,Φ,aM,by rw [aX];exact cx,?_⟩;unfold xP at hk;by_cases hid:id<0\/3<=id
 .have e1:upG G id=1:=by unfold upG;rw [if_pos hid]
  rw [if_pos hid] at hk;rw [e1];exact Br.intro (λ_=>λw Y cx=>hk none 0 w (cx.left.add Sl.nil)) (λh=>absurd rfl (dD h))
 have e1:upG G id≠1:=by unfold upG;rw [if_neg hid];split<;>decide
 rw [if_neg hid] at hk;refine Br.intro (λh=>absurd (eR h) e1) (λ_=>⟨by omega,λw Y cx=>?_⟩);obtain ⟨i,rfl⟩:∃ i:Nat,id=i:=⟨id.toNat,by omega⟩;have hi:i<3:=by omega
 rw [Int.toNat_natCast] at hk ⊢;have hm:=hF.mem i hi;refine ⟨some ⟨(L.P i).q.db,0,none⟩,cx.get 0 rfl (by rw [Nat.zero_add];exact B5 L G hi (k:=0) (by decide)),λw Y cx=>?_⟩;rw [aX] at cx;refine aJX hm.dq (cx.perm (aDo L G hi (S++Y))) λq w _ hq cx=>?_;have pb:∀ (D:List Own) (Y:List Own),(D++(b8 (L.P i).q (G.mem i).d++(kG L.gb (lS L G) :: (aBC (L.P i) (G.mem i)++(AA L G i++(S++Y)))))).Perm ((D++(cR L G++S))++Y):=λD Y=>by
  rw [aX,aX];exact .append_left _ (aDo L G hi (S++Y)).symm
 refine ⟨_,rfl,b8 q (G.mem i).d++(cR L G++S),Φ,aM,cx.perm (pb _ _),λw Y cx=>?_⟩;rw [aX] at cx;refine a78 hq (n:=0) (by unfold aY;decide) cx λw hq cx=>⟨rfl,b8 q (j9 (G.mem i).d 0)++(cR L G++S),Φ,aM,by rw [aX];exact cx,λw Y cx=>?_⟩;rw [aX] at cx;refine aCX hq (n:=0) (p:=none) (cap:=0) (l:=[]) (by unfold aY;decide) (Nat.zero_le _) (λM w h=>Sl.nil) cx λp' c' w hq cx=>?_;obtain ⟨q1,hq1⟩:∃ q1:DkP,q1={ q with kp:=p',kc:=c' }:=⟨_,rfl⟩
 have hdb:q1.db=q.db:=by rw [hq1]
 rw [<-hq1] at hq cx;rw [<-hdb];obtain ⟨Ψ,XT⟩:∃ Ψ:PW,Ψ=λM w=>Φ M w/\dkF q1 (pI (j9 (G.mem i).d 0) 0 []) M w:=⟨_,rfl⟩
 haveI:aB Ψ:=by rw [XT];infer_instance
 have hw1:∀ M w,Ψ M w->Φ M w:=by rw [XT];exact λM w h=>h.1
 have zI:∀ M w,Ψ M w->dkF q1 (pI (j9 (G.mem i).d 0) 0 []) M w:=by rw [XT];exact λM w h=>h.2
 rw [<-XT] at cx;refine ⟨rfl,b8 q1 (pI (j9 (G.mem i).d 0) 0 [])++(cR L G++S),Ψ,aM,by rw [aX];exact cx,λw Y cx=>?_⟩;rw [aX] at cx;refine KQ hq (p:=none) (cap:=0) (keep:=[]) (Nat.zero_le _) (λM w h=>Sl.nil) cx λu w hq cx=>⟨rfl,b8 (q1.mv u) (bV (pI (j9 (G.mem i).d 0) 0 []) [])++(cR L G++S),Ψ,aM,by rw [aX];exact cx,λw Y cx=>?_⟩;rw [aX] at cx;have hk1:JR Ψ (q1.mv u) (bY (bV (pI (j9 (G.mem i).d 0) 0 []) [])):=by
  have h0:JR Ψ q1 (pI (j9 (G.mem i).d 0) 0 []):=⟨Nat.zero_le _,zI⟩;exact h0.of (by show (bV _ _).keep=_;exact EV _ _) u
 refine a3G hq cx λw hq cx=>⟨rfl,b8 (q1.mv u) (bY (bV (pI (j9 (G.mem i).d 0) 0 []) []))++(cR L G++S),Ψ,aM,by rw [aX];exact cx,λw Y cx=>?_⟩;rw [aX] at cx;have hcd:bY (bV (pI (j9 (G.mem i).d 0) 0 []) [])=MR (G.mem i).d:=rfl;rw [hcd] at hq hk1 cx;refine a3N hq hk1 (λM w h=>hoff M w (hw1 M w h)) (λM w h=>hN M w (hw1 M w h)) cx (λu2 d' e w ho rN UY cx=>?_) (λu2 x d' j w ho hsb rN UY cx=>?_)
 .have e2:nL (G.mem i).d=[]:=by unfold nL;rw [ho]
  rw [e2] at hk;have hne:=a0Z ho;have c1:Ctx W w ((cR L G++S)++Y) Ψ:=Ctx.right cx;exact ⟨none,e,rfl,cR L G++S,Ψ,aM,c1,Br.intro (λ_=>λw Y cx=>hk none 0 w ((cx.left.weak hw1).add Sl.nil)) (λh=>absurd (Decidable.not_not.1 (dD h)) hne)⟩
 .have e2:nL (G.mem i).d=j.list.map nP:=by unfold nL;rw [ho]
  rw [e2] at hk;obtain ⟨h1,h2⟩:=hs i hi j (by rw [ho]);have c1:Ctx W w (eJ x (q1.mv u) j++((cR L G++S)++Y)) Ψ:=cx.sub (List.Sublist.append_left (List.sublist_append_right _ _) _);refine ⟨some ⟨x.jb,0,none⟩,0,rfl,eJ x (q1.mv u) j++(cR L G++S),Ψ,aM,by rw [aX];exact c1,Br.intro (λh=>absurd rfl (eR h)) (λ_=>λw Y cx=>?_)⟩;rw [aX] at cx;refine SJ (λM w h=>hN M w (hw1 M w h)) hsb h1 (λs hs=>(h2 s hs).1) (λs hs=>(h2 s hs).2) cx λp c w cx=>⟨_,_,_,rfl,eJ x (q1.mv u) j++(cR L G++S),_,cE Ψ (λM w=>Sl M w p (j.list.map nP)),by rw [aX];exact cx,λw Y cx=>?_⟩
  exact hk p c w ((Ctx.right (S:=eJ x (q1.mv u) j) (Ctx.left cx)).weak λM w h=>⟨hw1 M w h.1,h.2⟩)
abbrev aRA:List Value:=[dJ,dJ,dJ,dJ]
def GN(P:Nat->SL)(N:aI7)(j:Nat):List Value :=
 (if 0<j then F0 (P 0) true else aRA)++((if 1<j then F0 (P 1) true else aRA)++((if 2<j then F0 (P 2) true else aRA)++[.pointer (some ⟨N.nb,0,none⟩),.slice none 0 0]))
def K0(P:Nat->SL):Nat->List Own
 | 0=>[]
 | j+1=>iL (P j) (xQ j)++K0 P j
theorem a1t(P N j):(GN P N j).length=14:=by
 unfold GN;split<;>split<;>split<;>rfl
theorem a8R(P X){k}:∀ j,j<=k->K0 (put P k X) j=K0 P j
 | 0,_=>rfl
 | j+1,h=>by
  show iL (put P k X j) (xQ j)++K0 (put P k X) j=iL (P j) (xQ j)++K0 P j;rw [fR _ _ (by omega),a8R P X j (by omega)]
theorem aFA(P N){j}(hj:j<3)(X):up3 ((GN P N j).set (j*4) (pA X.q.db)) (j*4) X.x.jb X.cb X.rb=GN (put P j X) N (j+1):=by
 match j,hj with
 | 0,_=>rfl
 | 1,_=>rfl
 | 2,_=>rfl
theorem aFB(i):(xQ i).up.isSome=true:=by
 obtain ⟨u,h,_⟩:=B7 i;rw [h];rfl
theorem aNg(gb N P):lS ⟨gb,N,none,0,P⟩ MS=GN P N 3:=by
 have e:∀ i,(MS.mem i).up.isSome=true:=aFB;unfold lS;rw [e,e,e];rfl
theorem aNh(a)(D X Y:List Own):(D++((a :: X)++Y)).Perm ((a :: (D++X))++Y):=by
 rw [List.cons_append,List.cons_append,aX];exact List.perm_middle
theorem aFC(P N):GN P N 0=[dJ,dJ,dJ,dJ,dJ,dJ,dJ,dJ,dJ,dJ,dJ,dJ,.pointer (some ⟨N.nb,0,none⟩),.slice none 0 0]:=rfl
theorem a8S[aB Φ](hoff:∀ M w,Φ M w->sS M w)(hN:∀ M w,Φ M w->uL M w)(cx:Ctx W w S Φ){K}(hk:∀ L Ψ w',aB Ψ->(∀ M w,Ψ M w->Φ M w)->mA Ψ L MS->Ctx W w' (cR L MS++S) Ψ->K (.returned (.pointer (some ⟨L.gb,0,none⟩))) w'):
  aD F.KG #[] w K:=by
 refine gC (a0d (J:=K∘.returned) cx λw Y cx=>aJb (S:=S++Y) cx λN w cx=>⟨_,rfl,fX N ⟨[],0⟩++S,Φ,aM,by rw [aX];exact cx,λgb=>?_⟩);refine dN (λnI R' Ψ κ=>∃ (j:Nat) (P:Nat->SL),nI=j/\j<=3/\κ=3 - j/\R'=kG gb (GN P N j) :: (K0 P j++(fX N ⟨[],0⟩++S))/\(∀ M w,Ψ M w->Φ M w)/\∀ i,i<j->P0 Ψ (P i) (xQ i)) ⟨⟨kG gb (GN (λ_=>⟨⟨0,0,[],0,0,[],0,none,0,none,0⟩,⟨0,0,none,0,.obj 0 (.map #[] 0)⟩,0,0,none,0⟩) N 0) :: ([]++(fX N ⟨[],0⟩++S)),Φ,_,aM,λw Y cx=>by rw [aFC];exact cx,0,_,rfl,Nat.zero_le _,rfl,rfl,λ_ _ h=>h,λi hi=>absurd hi (Nat.not_lt_zero _)⟩,?_⟩
 rintro nI R' Ψ κ hst ⟨j,P,rfl,hj,rfl,rfl,hw,hM⟩;refine Br.intro (λhlt=>?_) (λhge=>λw Y cx=>?_)
 .have hlt:j<3:=by have:=eR hlt;omega
  refine ⟨[],XN,aM,λw Y cx=>cQ cx (List.nil_sublist _),λw Y cx=>?_⟩;refine aIL cx λq w hq cx=>?_;obtain ⟨Ξ,hΞ⟩:∃ Ξ:PW,Ξ=λM w=>Ψ M w/\dkF q o9 M w:=⟨_,rfl⟩
  haveI:aB Ξ:=by rw [hΞ];infer_instance
  have hw1:∀ M w,Ξ M w->Ψ M w:=by rw [hΞ];exact λM w h=>h.1
  have zI:∀ M w,Ξ M w->dkF q o9 M w:=by rw [hΞ];exact λM w h=>h.2
  rw [<-hΞ] at cx;have c1:Ctx W w ((kG gb (GN P N j) :: (b8 q o9++(K0 P j++(fX N ⟨[],0⟩++S))))++Y) Ξ:=cx.perm (aNh _ _ _ _);refine ⟨some ⟨q.db,0,none⟩,rfl,kG gb (GN P N j) :: (b8 q o9++(K0 P j++(fX N ⟨[],0⟩++S))),Ξ,aM,c1,λw Y cx=>cQ cx (List.nil_sublist _),by omega,λw Y cx=>?_⟩;rw [Int.toNat_natCast,Nat.zero_add];refine ⟨cx.can 0 rfl (by rw [a1t];omega),λw' hw'=>⟨kG gb ((GN P N j).set (j*4) (pA q.db)) :: (b8 q o9++(K0 P j++(fX N ⟨[],0⟩++S))),Ξ,aM,cx.put 0 hw' rfl,by omega,λw Y cx=>?_⟩⟩
  have aQQ:((GN P N j).set (j*4) (pA q.db))[j*4]? = some (.pointer (some ⟨q.db,0,none⟩)):=by
   rw [List.getElem?_set_self (by rw [a1t];omega)]
  rw [List.cons_append,aX] at cx;refine a3T (id:=j) (λM w h=>hoff M w (hw M w (hw1 M w h))) (λM w h=>hN M w (hw M w (hw1 M w h))) aQQ (by rw [List.length_set,a1t];omega) hq ⟨Nat.zero_le _,zI⟩ (λup hu=>(aNc hlt up hu).1) cx (λu w ho he hq1 UY cx=>?_) (λu x cb rb rp rc up w ho he hsb hq1 UY cx=>?_)
  .exfalso;obtain ⟨u',h1,_⟩:=B7 j;have h1:(bD j o9).2.1=some u':=h1;rw [ho] at h1;cases h1
  .have e1:=aFA P N hlt ⟨q.mv u,x,cb,rb,rp,rc⟩;have e1:up3 ((GN P N j).set (j*4) (pA q.db)) (j*4) x.jb cb rb=GN (put P j ⟨q.mv u,x,cb,rb,rp,rc⟩) N (j+1):=e1;rw [e1] at cx;have em:xQ j=⟨(bD j o9).1,some up⟩:=by rw [<-ho];rfl
   have e2:K0 (put P j ⟨q.mv u,x,cb,rb,rp,rc⟩) (j+1)=iL ⟨q.mv u,x,cb,rb,rp,rc⟩ ⟨(bD j o9).1,some up⟩++K0 P j:=by
    show iL (put P j _ j) (xQ j)++K0 (put P j _) j=_;rw [cI,a8R P _ j (Nat.le_refl _),em]
   have c2:Ctx W w ((kG gb (GN (put P j ⟨q.mv u,x,cb,rb,rp,rc⟩) N (j+1)) :: (K0 (put P j ⟨q.mv u,x,cb,rb,rp,rc⟩) (j+1)++(fX N ⟨[],0⟩++S)))++Y) Ξ:=by
    rw [e2];refine cx.perm (.cons _ ?_);show (aS rb up.r rp rc++(eJ x q up.j++([eX cb q up.c]++(b8 (q.mv u) (bD j o9).1++((K0 P j++(fX N ⟨[],0⟩++S))++Y))))).Perm (((aS rb up.r rp rc++(eJ x (q.mv u) up.j++(b8 (q.mv u) (bD j o9).1++[eX cb (q.mv u) up.c])))++K0 P j++(fX N ⟨[],0⟩++S))++Y);rw [aX (aS rb up.r rp rc++_) (K0 P j),aX (aS rb up.r rp rc++_),aX (aS rb up.r rp rc),aX (eJ x _ up.j),aX (b8 _ _)]
    exact .append_left _ (.append_left _ (List.perm_append_comm_assoc _ _ _))
   refine ⟨0,rfl,kG gb (GN (put P j ⟨q.mv u,x,cb,rb,rp,rc⟩) N (j+1)) :: (K0 (put P j ⟨q.mv u,x,cb,rb,rp,rc⟩) (j+1)++(fX N ⟨[],0⟩++S)),Ξ,aM,c2,by unfold aY;omega,_,Ξ,_,aM,λw Y cx=>cx,⟨j+1,_,by omega,by omega,rfl,rfl,λM w h=>hw M w (hw1 M w h),λi hi=>?_⟩,by omega⟩;by_cases e:i=j
   .subst e;rw [cI,em];exact ⟨hq1,⟨by rw [UY];exact Nat.zero_le _,λM w h=>by rw [UY];exact zI M w h⟩,λv hv=>by cases hv;exact hsb⟩
   .rw [fR _ _ e];exact (hM i (by omega)).weak hw1
 .have he:j=3:=by have:=dD hge;omega
  subst he;refine hk ⟨gb,N,none,0,P⟩ Ψ w hst hw ⟨hM,Nat.zero_le _⟩ ?_;have c1:=(Ctx.left cx).MN 9 1;refine c1.perm ?_;unfold cR;rw [aNg];show (Own.buf none 0 0 [] 9 1 :: kG gb (GN P N 3) :: ((iL (P 2) (xQ 2)++(iL (P 1) (xQ 1)++(iL (P 0) (xQ 0)++[])))++(fX N ⟨[],0⟩++S))).Perm ((kG gb (GN P N 3) :: (fX N ⟨[],0⟩++(Own.buf none 0 0 [] 9 1 :: (iL (P 0) (xQ 0)++(iL (P 1) (xQ 1)++iL (P 2) (xQ 2))))))++S)
  have key:∀ (a b:Own) (X Y Z N S:List Own),(a :: b :: ((X++(Y++(Z++[])))++(N++S))).Perm ((b :: (N++(a :: (Z++(Y++X)))))++S):=λa b X Y Z N S=>by
   refine (List.Perm.swap _ _ _).trans ?_;rw [List.append_nil,List.cons_append];refine .cons _ ?_;have e:(N++a :: (Z++(Y++X)))++S=N++((a :: (Z++(Y++X)))++S):=aX _ _ _;rw [e];refine List.Perm.trans ?_ (List.perm_append_comm_assoc (a :: (Z++(Y++X))) N S);rw [List.cons_append];refine .cons _ (.append_right _ ?_);refine (List.perm_append_comm_assoc X Y Z).trans ?_;refine (List.Perm.append_left Y List.perm_append_comm).trans ?_
   exact List.perm_append_comm_assoc Y Z X
  exact key _ _ _ _ _ _ _
end
structure P3 where
 r:Nat->dY
 fl:List bQ
 sp:Int
 fE:List ByteArray
def DK(m:bQ):OQ:=⟨m.src,m.to,bs (qQ m)⟩
def pK(P:P3)(i:Nat):P3:=if P.fE.length<(P.r i).aE then { P with fE:=((P.r i).log.take (P.r i).aE).map bT.data } else P
def K3(P:P3):P3:=pK (pK (pK P 0) 1) 2
def aOA(sp:Int)(id:Nat)(m:bQ):Bool:=(DG id&&(DG m.to&&decide ((id:Int)≠m.to)))&&yX sp id m.to
def a4e(sp:Int)(id:Nat)(fl:List bQ)(m:bQ):List bQ:=if (aOA sp id m&&decide (fl.length<500))=true then fl++[m] else fl
def aBO(sp:Int)(id:Nat)(fl l:List bQ):List bQ:=l.foldl (a4e sp id) fl
def a8T(P:P3)(i:Nat)(x:dY × mK):P3:={ P with r:=put P.r i x.1,fl:=aBO P.sp i P.fl x.2.send }
def doP(P:P3)(i:Nat)(x:dY × mK):P3:=K3 (a8T P i x)
def aBP(P:P3)(i:Nat):P3:=doP P i (eA (P.r i))
def aBQ(P:P3)(i:Nat)(data:ByteArray):P3:=doP P i ((aL (P.r i) data).1,(aL (P.r i) data).2.2.2)
def aBR(P:P3):P3:=match P.fl with
 | []=>P
 | m :: rest=>if yX P.sp m.src m.to=false then { P with fl:=rest } else doP { P with fl:=rest } m.to.toNat (cX (P.r m.to.toNat) m)
def a1u:Nat->P3->P3 × Nat
 | 0,P=>(P,0)
 | k+1,P=>if P.fl=[] then (P,0) else
  let x:=a1u k (aBR P)
  (x.1,x.2+1)
def a8U(P:P3)(i:Nat)(most:Int):P3 × Nat:=a1u most.toNat (aBP P i)
theorem K4(P i):(pK P i).r=P.r/\(pK P i).fl=P.fl/\(pK P i).sp=P.sp:=by
 unfold pK;split<;>exact ⟨rfl,rfl,rfl⟩
theorem aNi(P):(K3 P).r=P.r/\(K3 P).fl=P.fl/\(K3 P).sp=P.sp:=by
 unfold K3;obtain ⟨a1,a2,a3⟩:=K4 P 0;obtain ⟨b1,b2,b3⟩:=K4 (pK P 0) 1;obtain ⟨c1,c2,c3⟩:=K4 (pK (pK P 0) 1) 2;exact ⟨by rw [c1,b1,a1],by rw [c2,b2,a2],by rw [c3,b3,a3]⟩
theorem a4f{sp i}:∀ {l fl:List bQ} {a:bQ},a∈aBO sp i fl l->a∈fl\/a∈l
 | [],fl,a,h=>.inl h
 | b :: l,fl,a,h=>by
  rcases a4f (l:=l) (fl:=a4e sp i fl b) h with h|h
  .unfold a4e at h;split at h
   .rcases List.mem_append.1 h with h|h
    .exact .inl h
    .rw [List.mem_singleton.1 h];exact .inr (by simp)
   .exact .inl h
  .exact .inr (by simp [h])
structure aNj(G:gG)(P:P3)(C:Cl):Prop where
 r:∀ j,P.r j=(C.nd j).rep
 up:∀ i,i<3->∃ u,(G.mem i).up=some u
 h:∀ i,i<3->KO (G.mem i).d
 fl:G.dL.aH=P.fl.map DK
 sp:G.dL.split=P.sp
 fE:G.fE=P.fE
 ms:∀ m∈P.fl,m∈C.sent/\UL m/\m.aF.length<=8/\(0<=m.src/\m.src<=2)/\(0<=m.to/\m.to<=2)
theorem a4g(id:Nat):∀ (l:List bQ) (n:JM) (fl:List bQ),(∀ a∈l,a.src=id)->n.aH=fl.map DK->(jK id n l).aH=(aBO n.split id fl l).map DK/\(jK id n l).split=n.split
 | [],n,fl,_,h=>⟨h,rfl⟩
 | a :: l,n,fl,hs,h=>by
  have key:(rJ n id a.to (bs (qQ a))).1.aH=(a4e n.split id fl a).map DK/\(rJ n id a.to (bs (qQ a))).1.split=n.split:=by
   have hl:n.aH.length=fl.length:=by rw [h,List.length_map]
   unfold rJ a4e aOA;by_cases h1:(DG id&&(DG a.to&&decide ((id:Int)≠a.to)))=false
   .rw [if_pos h1,h1];exact ⟨h,rfl⟩
   rw [if_neg h1];have h1:(DG id&&(DG a.to&&decide ((id:Int)≠a.to)))=true:=by simpa using h1
   by_cases h2:yX n.split id a.to=false
   .rw [if_pos h2,h1,h2];exact ⟨h,rfl⟩
   rw [if_neg h2];have h2:yX n.split id a.to=true:=by simpa using h2
   by_cases h3:500<=n.aH.length
   .rw [if_pos h3,if_neg (by rw [h1,h2];simp;omega)];exact ⟨h,rfl⟩
   .rw [if_neg h3,if_pos (by rw [h1,h2];simp;omega)];refine ⟨?_,rfl⟩;show n.aH++[_]=_;rw [h,List.map_append];have:a.src=id:=hs a (by simp);show _=List.map DK fl++[⟨a.src,a.to,bs (qQ a)⟩];rw [this]
  have h2:=a4g id l (rJ n id a.to (bs (qQ a))).1 (a4e n.split id fl a) (λb hb=>hs b (by simp [hb])) key.1;rw [key.2] at h2;exact h2
theorem VC{G P i}(hu:∃ u,(G.mem i).up=some u/\u.r=P.r i)(hc:G.fE=P.fE):(gL G i).fE=(pK P i).fE:=by
 obtain ⟨u,hu,hr⟩:=hu;unfold gL pK;rw [hu];simp only;rw [hr,hc];split
 .rfl
 .exact hc
theorem aJZ{G P}(hu:∀ i,i<3->∃ u,(G.mem i).up=some u/\u.r=P.r i)(hc:G.fE=P.fE):(eM G).fE=(K3 P).fE/\(eM G).mem=G.mem/\(eM G).dL=G.dL:=by
 unfold eM K3;obtain ⟨m0,n0⟩:=jQ G 0;obtain ⟨m1,n1⟩:=jQ (gL G 0) 1;obtain ⟨m2,n2⟩:=jQ (gL (gL G 0) 1) 2;have p0:=(K4 P 0).1;have p1:=(K4 (pK P 0) 1).1;have c0:=VC (hu 0 (by decide)) hc;have c1:=VC (G:=gL G 0) (P:=pK P 0) (i:=1) (by rw [m0,p0];exact hu 1 (by decide)) c0;have c2:=VC (G:=gL (gL G 0) 1) (P:=pK (pK P 0) 1) (i:=2) (by rw [m1,m0,p1,p0];exact hu 2 (by decide)) c1;exact ⟨c2,by rw [m2,m1,m0],by rw [n2,n1,n0]⟩
section
variable {N N' D:Nat}{B B':Int}{G G':gG}{C C':Cl}{g g':Gh}{A A':Int->Nat->Nat}{i:Nat}{P:P3}
theorem GI.doF(h:GI N B D G C g A)(hs:aNj G P C)(hN:N<=N')(hB:B<=B')(wE:N'*(D+90)<=1048576)(hi:i<3){u}(hu:(G.mem i).up=some u){x}(hx:Hap C i x)(hrb:RB N' B' x.1)(hmb:∀ a∈x.2.send,MB N' B' a)(hd:∀ y∈x.1.log,y.data.size<=D)(hg:∀ a∈x.2.send,XP i x.1.log a):
  ∃ C' g' A',GI N' B' D (doG G i u x).1 C' g' A'/\aNj (doG G i u x).1 (doP P i x) C'/\(doG G i u x).2=0:=by
 obtain ⟨hr,hU⟩:=h.j.up i hi u hu;obtain ⟨hw,hf⟩:=hx.fits h.j.s.m.wf hi;have hid:x.1.id=i:=by rw [hf.id];exact (h.j.s.m.wf.rep i hi).2
 have hok:=hw.ok;have hst:=a05 (d:=(G.mem i).d) (u:=u) (r:=(C.nd i).rep) (r':=x.1) (o:=x.2) (by rw [<-hr];exact hU) hf ⟨by have:=hok.mT;have:=hok.jD;unfold aY;omega,by have:=hok.yQ;have:=hok.yR;unfold aY;omega⟩ (SU hok.log hok.jD hrb.len hd wE);have aJ0:=hst.A9 (hs.h i hi);unfold doG;simp only;obtain ⟨⟨d1,u1,e1⟩,hq⟩:∃ y,bW (G.mem i).d { u with r:=x.1 } x.2=y:=⟨_,rfl⟩;rw [hq] at hst aJ0 ⊢;simp only
 have he:e1=0:=aJ0.2;rw [if_pos he];rcases hst.or with ⟨_,g1,g2⟩|⟨e,_⟩
 rotate_left 1
 .have e:e1=9\/e1=10:=e;omega
 have g2:u1.r=x.1:=g2;obtain ⟨g',n,f⟩:=hx.aRo h.j.s hi;have hj:=h.j.set hN hB hi f hw hid hrb hmb hd (λa ha y hy=>hd y ((hg a ha).aF y hy)) (m:=⟨d1,some u1⟩) (λv hv=>by cases hv;exact ⟨g2,g1⟩) (by simp);have hsn:=a1i (C:=WR C i x.1 (C.sent++x.2.send)) i x.2.send G.dL hj.dL hj.V2 (λa ha=>by
  have hga:=hg a ha;exact ⟨List.mem_append_right _ ha,a5L hok hga,hga.len,hga.src,hga.to⟩) hi
 have hgi:=(aDm (G:={ bZ G i ⟨d1,some u1⟩ with dL:=jK i (bZ G i ⟨d1,some u1⟩).dL x.2.send }) ⟨hj.s,hj.b,hj.data,hj.mdata,hj.up,hj.dn,hsn.1,hsn.2,hj.fE⟩).1;obtain ⟨p1,p2,p3⟩:=aNi (a8T P i x);have T8:∀ k,k<3->∃ v,((bZ G i ⟨d1,some u1⟩).mem k).up=some v/\v.r=(a8T P i x).r k:=λk hk=>by
  by_cases e:k=i
  .subst e;refine ⟨u1,by show ((put G.mem k _ k)).up=_;rw [cI],?_⟩;show u1.r=put P.r k x.1 k;rw [cI,g2]
  .obtain ⟨v,hv⟩:=hs.up k hk;refine ⟨v,by show ((put G.mem i _ k)).up=_;rw [fR _ _ e];exact hv,?_⟩;show v.r=put P.r i x.1 k;rw [fR _ _ e,(h.j.up k hk v hv).1,hs.r k]
 obtain ⟨c1,c2,c3⟩:=aJZ (G:={ bZ G i ⟨d1,some u1⟩ with dL:=jK i (bZ G i ⟨d1,some u1⟩).dL x.2.send }) (P:=a8T P i x) T8 hs.fE;have hsd:=a4g i x.2.send G.dL P.fl (λa ha=>(hg a ha).src) hs.fl;refine ⟨_,_,_,hgi,⟨λj=>?_,λk hk=>?_,λk hk=>?_,?_,?_,c1,λm hm=>?_⟩,rfl⟩
 .show (K3 (a8T P i x)).r j=_;rw [p1];show put P.r i x.1 j=((WR C i x.1 (C.sent++x.2.send)).nd j).rep;by_cases e:j=i
  .subst e;rw [cI,KW]
  .rw [fR _ _ e,F8 _ _ _ e,hs.r j]
 .rw [c2];obtain ⟨v,hv,_⟩:=T8 k hk;exact ⟨v,hv⟩
 .rw [c2];show KO (put G.mem i _ k).d;by_cases e:k=i
  .subst e;rw [cI];exact aJ0.1
  .rw [fR _ _ e];exact hs.h k hk
 .rw [c3];show _=(K3 (a8T P i x)).fl.map DK;rw [p2];have:=hsd.1;rw [hs.sp] at this;exact this
 .rw [c3];show _=(K3 (a8T P i x)).sp;rw [p3];exact hsd.2.trans hs.sp
 .have hm:m∈(K3 (a8T P i x)).fl:=hm;rw [p2] at hm;rcases a4f hm with hm|hm
  .obtain ⟨a,b⟩:=hs.ms m hm;exact ⟨List.mem_append_left _ a,b⟩
  .have hga:=hg m hm;refine ⟨List.mem_append_right _ hm,a5L hok hga,hga.len,?_,hga.to⟩;rw [hga.src];omega
def iD(N:Nat)(B:Int)(D:Nat)(G:gG)(P:P3):Prop:=∃ C g A,GI N B D G C g A/\aNj G P C
theorem toN(i):((i:Nat):Int).toNat=i:=Int.toNat_natCast i
theorem iD.tick(h:iD N B D G P)(wE:N*(D+90)<=1048576)(hi:i<3):iD N (B+1) D (x4 G i).1 (aBP P i):=by
 obtain ⟨C,g,A,h,hs⟩:=h;obtain ⟨u,hu⟩:=hs.up i hi;obtain ⟨e,hU⟩:=h.j.up _ hi u hu;have hw:=(h.j.s.m.wf.rep _ hi).1;have hb:=a5J hw (h.j.b.rep _ hi);unfold x4 vY aBP;rw [if_neg (by omega),toN,hu];simp only;rw [hs.r i,e];have hg:=aBx hw.ok;rw [(h.j.s.m.wf.rep _ hi).2] at hg;obtain ⟨C',g',A',a,b,_⟩:=h.doF hs (Nat.le_refl _) (show B<=B+1 by omega) wE hi hu (x:=eA (C.nd i).rep) (.inl rfl) hb.1 hb.2 (by rw [a1g];exact h.j.data _ hi) hg
 exact ⟨C',g',A',a,b⟩
theorem iD.SX(h:iD N B D G P)(wE:(N+1)*(D+90)<=1048576)(hi:i<3){data}(aJN:data.size<=D)(h0:(aL (P.r i) data).2.2.1=0):
  iD (N+1) B D (dF G i data).1 (aBQ P i data)/\(dF G i data).2=((aL (P.r i) data).2.1,0):=by
 obtain ⟨C,g,A,h,hs⟩:=h;obtain ⟨u,hu⟩:=hs.up i hi;obtain ⟨e,hU⟩:=h.j.up _ hi u hu;have hw:=(h.j.s.m.wf.rep _ hi).1;have hb:=a5K hw (h.j.b.rep _ hi) data;rw [hs.r i] at h0;unfold dF aBQ;rw [if_neg (by omega),toN,hu];simp only;rw [hs.r i,e,if_neg (by rw [h0];simp)];have hg:=aBy hw data;rw [(h.j.s.m.wf.rep _ hi).2] at hg;obtain ⟨C',g',A',a,b,c⟩:=h.doF hs (Nat.le_succ _) (Int.le_refl B) wE hi hu (x:=((aL (C.nd i).rep data).1,(aL (C.nd i).rep data).2.2.2)) (.inr (.inr ⟨data,rfl⟩)) hb.1 hb.2 (λy hy=>by
  rcases a1h y hy with a|a
  .exact h.j.data _ hi y a
  .rw [a];exact aJN) hg
 rw [if_neg (by rw [c];simp)];exact ⟨⟨C',g',A',a,b⟩,rfl⟩
theorem iD.vH(h:iD N B D G P)(wE:N*(D+90)<=1048576):iD N B D (eT G 0).1 (aBR P):=by
 obtain ⟨C,g,A,h,hs⟩:=h;have hfl:=hs.fl;unfold eT aBR;rw [if_neg (by decide),show ((0:Int).toNat)=0 from rfl];cases he:P.fl with
 | nil =>
  rw [he] at hfl;rw [hfl];exact ⟨C,g,A,h,hs⟩
 | cons m rest =>
  rw [he] at hfl;obtain ⟨m1,m2,m3,m4,m5⟩:=hs.ms m (by rw [he];simp);rw [hfl];simp only [List.map_cons,List.getElem?_cons_zero];have htk:(takeN G.dL 0).aH=rest.map DK:=by
   show G.dL.aH.eraseIdx 0=_;rw [hfl];rfl
  have h1:=h.takeN 0;have hs1:aNj { G with dL:=takeN G.dL 0 } { P with fl:=rest } C:=⟨hs.r,hs.up,hs.h,htk,hs.sp,hs.fE,λx hx=>hs.ms x (by rw [he];simp [hx])⟩;have e1:(DK m).src=m.src:=rfl;have e2:(DK m).to=m.to:=rfl;rw [e1,e2,hs.sp];by_cases hh:yX P.sp m.src m.to=false
  .rw [if_pos hh,if_pos hh];exact ⟨C,g,A,h1,hs1⟩
  rw [if_neg hh,if_neg hh];have e3:(yU (DK m).body.data.toList).getD S3=m:=by
   show (yU (bs (qQ m)).data.toList).getD S3=m;rw [qI,a0E m2 (by omega)];rfl
  rw [e3];obtain ⟨i,hto⟩:∃ i:Nat,m.to=i:=⟨m.to.toNat,by omega⟩;rw [hto];have hi:i<3:=by omega
  obtain ⟨u,hu⟩:=hs1.up i hi;obtain ⟨e,hU⟩:=h1.j.up _ hi u hu;have hw:=(h1.j.s.m.wf.rep _ hi).1;have hb:=a5I hw (h1.j.b.rep _ hi) (h1.j.b.msg m m1);have hg:=aBz hw m;unfold vY;rw [if_neg (by omega),toN,hu];simp only;rw [hs.r i,e];have hg2:=hg.1;rw [(h1.j.s.m.wf.rep _ hi).2] at hg2;obtain ⟨C',g',A',a,b,_⟩:=h1.doF hs1 (Nat.le_refl _) (Int.le_refl B) wE hi hu (x:=cX (C.nd i).rep m) (.inr (.inl ⟨m,m1,rfl⟩)) hb.1 hb.2 (λy hy=>by
   rcases hg.2 y hy with a|a
   .exact h1.j.data _ hi y a
   .exact h1.j.mdata m m1 y a) hg2
  exact ⟨C',g',A',a,b⟩
theorem iD.drain(wE:N*(D+90)<=1048576):∀ (k:Nat) {G:gG} {P:P3},iD N B D G P->iD N B D (qU k G).1 (a1u k P).1/\(qU k G).2=(a1u k P).2
 | 0,_,_,h=>⟨h,rfl⟩
 | k+1,G,P,h=>by
  have hfl:(G.dL.aH=[]) ↔ (P.fl=[]):=by
   obtain ⟨C,g,A,_,hs⟩:=h;rw [hs.fl];exact List.map_eq_nil_iff
  unfold qU a1u;by_cases he:P.fl=[]
  .rw [if_pos he,if_pos (hfl.2 he)];exact ⟨h,rfl⟩
  .rw [if_neg he,if_neg (λe=>he (hfl.1 e))];have ih:=iD.drain wE k (h.vH wE);exact ⟨ih.1,by show _+1=_+1;rw [ih.2]⟩
theorem iD.settle(h:iD N B D G P)(wE:N*(D+90)<=1048576)(hi:i<3)(most):iD N (B+1) D (cJ G i most).1 (a8U P i most).1/\(cJ G i most).2=(a8U P i most).2:=by
 unfold cJ a8U;exact iD.drain wE _ (h.tick wE hi)
theorem iD.fE(h:iD N B D G P):G.fE=P.fE:=by
 obtain ⟨C,g,A,h,hs⟩:=h;exact hs.fE
theorem iD.dL(h:iD N B D G P):G.dL.aH=P.fl.map DK:=by
 obtain ⟨C,g,A,h,hs⟩:=h;exact hs.fl
theorem iD.upS(h:iD N B D G P)(hi:i<3):∃ u,(G.mem i).up=some u/\u.r=P.r i/\MU (G.mem i).d u:=by
 obtain ⟨C,g,A,h,hs⟩:=h;obtain ⟨u,hu⟩:=hs.up i hi;obtain ⟨e,hU⟩:=h.j.up _ hi u hu;exact ⟨u,hu,by rw [e,hs.r i],hU⟩
theorem iD.role(h:iD N B D G P)(hi:i<3):MQ G i=(P.r i).role/\WE G i=(P.r i).term/\qV G i=(P.r i).log/\xP G i=(P.r i).log:=by
 obtain ⟨u,hu,e,hU⟩:=h.upS hi;have hid:¬ ((i:Int)<0\/3<=(i:Int)):=by omega
 refine ⟨?_,?_,?_,?_⟩
 .unfold MQ;rw [if_neg hid,toN,hu];show u.r.role=_;rw [e]
 .unfold WE;rw [if_neg hid,toN,hu];show u.r.term=_;rw [e]
 .unfold qV;rw [if_neg hid,toN,hu];show u.r.log=_;rw [e]
 .unfold xP;rw [if_neg hid,toN,EZ hU,e]
theorem GI.A9(h:GI N B D G C g A)(T8:∀ i,i<3->∃ u,(G.mem i).up=some u)(hh:∀ i,i<3->KO (G.mem i).d):∃ P,iD N B D G P/\(∀ j,P.r j=(C.nd j).rep)/\P.sp=G.dL.split:=by
 have key:∀ l:List OQ,(∀ p∈l,WS C p)->∃ fl:List bQ,l=fl.map DK/\∀ m∈fl,m∈C.sent/\UL m/\m.aF.length<=8/\(0<=m.src/\m.src<=2)/\(0<=m.to/\m.to<=2):=by
  intro l
  induction l with
  | nil=>intro _;exact ⟨[],rfl,λm hm=>by cases hm⟩
  | cons p l ih =>
   intro hp;obtain ⟨fl,e,hf⟩:=ih λq hq=>hp q (by simp [hq]);obtain ⟨m,a,b,c,d,f,rfl⟩:=hp p (by simp);refine ⟨m :: fl,by rw [e];rfl,λx hx=>?_⟩;rcases List.mem_cons.1 hx with rfl|hx
   .exact ⟨a,b,c,d,f⟩
   .exact hf x hx
 obtain ⟨fl,e,hf⟩:=key G.dL.aH h.j.dL;exact ⟨⟨λj=>(C.nd j).rep,fl,G.dL.split,G.fE⟩,⟨C,g,A,h,⟨λj=>rfl,T8,hh,e,rfl,rfl,hf⟩⟩,λj=>rfl,rfl⟩
end
def aFD(l:List bT)(m:bQ):Bool:=decide ((l.length:Int)<m.index)||decide (bE l m.index.toNat≠m.prev)
inductive HK(r:dY)(m:bQ):dY->List bQ->Prop
 | aO (v:Int) (y:Bool):m.kind=0->HK r m { cC r m with aO:=v } [⟨1,(cC r m).id,m.src,(cC r m).term,0,0,0,y,[]⟩]
 | mute (vs:Nat->Bool):(m.kind=1\/(m.kind=3/\((cC r m).role≠2\/m.term≠(cC r m).term\/(m.yes=true/\(r.log.length:Int)<m.index))))->HK r m { cC r m with cK:=vs } []
 | lead:m.kind=1->r.role=1->m.term=r.term->HK r m (DA r m) (cU (DA r m))
 | old:m.kind=2->m.term<r.term->HK r m r [r6 r 3 m.src]
 | deaf:m.kind=2->r.role=2->m.term=r.term->HK r m r []
 | gap:m.kind=2->r.term<=m.term->(cC r m).role≠2->aFD r.log m=true->HK r m (wV (cC r m)) [a5f (cC r m) m]
 | done:m.kind=2->r.term<=m.term->(cC r m).role≠2->aFD r.log m=false->gF r m<m.aF.length->m.index.toNat+gF r m+1<=r.aE->HK r m (wV (cC r m)) []
 | ack (r2:dY):m.kind=2->r.term<=m.term->(cC r m).role≠2->aFD r.log m=false->r2.role=0->r2.term=m.term->HK r m r2 [pU (cC r m) m]
 | back:m.kind=3->r.role=2->m.term=r.term->m.yes=false->HK r m (AZ r m) [entriesOf (AZ r m) m.src.toNat]
 | fwd (s:List bQ):m.kind=3->r.role=2->m.term=r.term->m.yes=true->m.index<=(r.log.length:Int) ->
   ((max (r.gJ m.src.toNat) m.index.toNat+1<=r.log.length/\s=[entriesOf (b9 (pW r m)) m.src.toNat])\/(r.log.length<max (r.gJ m.src.toNat) m.index.toNat+1/\s=[]))->HK r m (b9 (pW r m)) s
theorem VD{r m}(h:(cC r m).role≠0):cC r m=r/\¬ r.term<m.term:=by
 by_cases hu:r.term<m.term
 .rw [aDg hu] at h;exact absurd rfl h
 .exact ⟨a5H hu,hu⟩
theorem aRB{r m}(hm:m.sO r.id):HK r m (cX r m).1 (cX r m).2.send:=by
 obtain ⟨e1,e2⟩:=a1e hm;rw [e1,e2];obtain ⟨t1,t2,t3,t4,t5,t6⟩:=KY r m;have t7:=a34 r m;have hk:=hm.kind;have a1f:m.kind=0\/m.kind=1\/m.kind=2\/m.kind=3:=by omega
 rcases a1f with hk|hk|hk|hk
 .rw [aDi hk];unfold dI;split
  .exact .aO m.src true hk
  .exact .aO (cC r m).aO false hk
 .rw [aDj hk];by_cases hc:(decide ((cC r m).role≠1)||decide (m.term≠(cC r m).term) || !m.yes)=true
  .rw [D9 hc];exact .mute (cC r m).cK (.inl hk)
  have hc:(decide ((cC r m).role≠1)||decide (m.term≠(cC r m).term) || !m.yes)=false:=by simpa using hc
  by_cases h2:pG (gU (cC r m) m).cK<2
  .rw [xV hc h2];exact .mute (gU (cC r m) m).cK (.inl hk)
  .rw [uH hc h2];have MO:=hc;simp only [Bool.or_eq_false_iff,decide_eq_false_iff_not] at MO;have h3:(cC r m).role=1:=Decidable.not_not.1 MO.1.1;have h4:m.term=(cC r m).term:=Decidable.not_not.1 MO.1.2;obtain ⟨e,_⟩:=VD (r:=r) (m:=m) (by rw [h3];decide);rw [e] at h3 h4 ⊢;exact .lead hk h3 h4
 .rw [aDk hk];by_cases h2:m.term<(cC r m).term
  .have h3:m.term<r.term:=by omega
   rw [uI h2,a5H (show ¬ r.term<m.term by omega)];exact .old hk h3
  have h2':r.term<=m.term:=by omega
  by_cases h3:(cC r m).role=2
  .rw [rA h2 h3];obtain ⟨e,hn⟩:=VD (r:=r) (m:=m) (by rw [h3];decide);rw [e] at h3 ⊢;exact .deaf hk h3 (by omega)
  by_cases h4:(decide (((cC r m).log.length:Int)<m.index)||decide (bE (cC r m).log m.index.toNat≠m.prev))=true
  .rw [uJ h2 h3 h4];exact .gap hk h2' h3 (by unfold aFD;rw [<-t2];exact h4)
  have h4:(decide (((cC r m).log.length:Int)<m.index)||decide (bE (cC r m).log m.index.toNat≠m.prev))=false:=by simpa using h4
  have h4':aFD r.log m=false:=by unfold aFD;rw [<-t2];exact h4
  have ea:gF (cC r m) m=gF r m:=by unfold gF;rw [t2]
  by_cases h5:gF (cC r m) m<m.aF.length
  .by_cases h6:m.index.toNat+gF (cC r m) m+1<=(cC r m).aE
   .rw [rD h2 h3 h4 h5 h6];rw [ea] at h5 h6;rw [t3] at h6;exact .done hk h2' h3 h4' h5 h6
   .rw [uK h2 h3 h4 h5 h6];exact .ack _ hk h2' h3 h4' rfl (by show (cC r m).term=_;omega)
  .rw [rC h2 h3 h4 h5];exact .ack _ hk h2' h3 h4' rfl (by show (cC r m).term=_;omega)
 .rw [aDl hk];by_cases hc:(decide ((cC r m).role≠2)||decide (m.term≠(cC r m).term)||m.yes&&decide (((cC r m).log.length:Int)<m.index))=true
  .rw [r8 hc];refine .mute (cC r m).cK (.inr ⟨hk,?_⟩);rw [t2] at hc;simp only [Bool.or_eq_true,Bool.and_eq_true,decide_eq_true_eq] at hc;rcases hc with (h|h)|h
   .exact .inl h
   .exact .inr (.inl h)
   .exact .inr (.inr h)
  have hc:(decide ((cC r m).role≠2)||decide (m.term≠(cC r m).term)||m.yes&&decide (((cC r m).log.length:Int)<m.index))=false:=by simpa using hc
  have MO:=hc;simp only [Bool.or_eq_false_iff,decide_eq_false_iff_not] at MO;have h3:(cC r m).role=2:=Decidable.not_not.1 MO.1.1;have h4:m.term=(cC r m).term:=Decidable.not_not.1 MO.1.2;obtain ⟨e,_⟩:=VD (r:=r) (m:=m) (by rw [h3];decide);rw [e] at h3 h4 hc MO ⊢;cases hyes:m.yes with
  | false =>
   rw [mX hc hyes];exact .back hk h3 h4 hyes
  | true =>
   rw [oM hc hyes];have h5:=MO.2;rw [hyes,Bool.true_and] at h5;have h5:¬ (r.log.length:Int)<m.index:=dD h5;split
   .rename_i h6;exact .fwd _ hk h3 h4 hyes (by omega) (.inl ⟨h6,rfl⟩)
   .rename_i h6;exact .fwd _ hk h3 h4 hyes (by omega) (.inr ⟨by omega,rfl⟩)
section
variable {r r':dY}{m:bQ}{s:List bQ}
def mW(r:dY):Nat:=if r.role=1 then 1 else 0
theorem aBS(r m):(cC r m).role=0\/((cC r m).role=r.role/\cC r m=r):=by
 by_cases hu:r.term<m.term
 .rw [aDg hu];exact .inl rfl
 .rw [a5H hu];exact .inr ⟨rfl,rfl⟩
theorem aJ1(r m):mW (cC r m)<=mW r:=by
 rcases aBS r m with h|h
 .unfold mW;rw [h,if_neg (by decide)];exact Nat.zero_le _
 .rw [h.2];exact Nat.le_refl _
theorem HK.cnt(h:HK r m r' s):s.length+mW r'<=mW r+1:=by
 have ht:=aJ1 r m;have ha:=a09 (pW r m);cases h with
 | aO v y _=>show 1+mW (cC r m)<=_;omega
 | mute vs _=>show 0+mW (cC r m)<=_;omega
 | lead _ h1 _ =>
  rw [show (cU (DA r m)).length=2 by unfold cU;rw [List.length_map];unfold aT;split<;>(try split)<;>rfl];have e1:mW (DA r m)=0:=rfl;have e2:mW r=1:=if_pos h1;omega
 | old _ _=>show 1+mW r<=_;omega
 | deaf _ _ _=>show 0+mW r<=_;omega
 | gap _ _ _ _=>show 1+0<=_;omega
 | done _ _ _ _ _ _=>show 0+0<=_;omega
 | ack r2 _ _ _ _ h2 _ =>
  have:mW r'=0:=if_neg (by omega);show 1+mW r'<=_;omega
 | back _ h1 _ _=>show 1+mW r<=_;omega
 | fwd s _ h1 _ _ _ h =>
  have e1:mW (b9 (pW r m))=0:=if_neg (by rw [ha.1];show ¬ r.role=1;omega);rcases h with ⟨_,rfl⟩|⟨_,rfl⟩
  .show 1+_<=_;omega
  .show 0+_<=_;omega
end
section
variable {r r':dY}{m x:bQ}{s:List bQ}
end
section
variable {P P':P3}{m:bQ}{rest:List bQ}{j:Nat}
end
def Rel(i:Nat)(T:Int)(k:Nat)(m:bQ):Prop :=
 (m.kind=2/\m.src=i/\m.term=T/\m.sO k)\/(m.kind=3/\m.src=k/\T<=m.term/\m.sO i)
section
variable {i a b:Nat}{T:Int}{P P':P3}{m:bQ}{rest:List bQ}{j:Nat}
end
section
variable {i:Nat}{T:Int}{L:List bT}{P P':P3}{m:bQ}{rest:List bQ}{j:Nat}
end
theorem aRC{d f}(h:¬ qR d f≠0):d.down=false:=by
 cases hd:d.down with
 | false=>rfl
 | true =>
  exfalso;apply h;unfold qR;rw [if_pos hd];decide
theorem aNk{d f}(h:(bH d f).2=0):(bH d f).1.down=false:=by
 unfold bH JB at h ⊢;by_cases hm:qR (lZ d) f≠0
 .rw [if_pos hm] at h;exact absurd h hm
 rw [if_neg hm] at h ⊢;by_cases hl:0<(lZ d).lost
 .rw [if_pos hl] at h;simp at h
 rw [if_neg hl];exact aRC hm
theorem a8V{d c s k}(h:(DD d c s k).2.2=0):(DD d c s k).1.down=false:=by
 unfold DD at h ⊢;by_cases h1:(bX d c.file (iJ k) s).2≠0
 .rw [if_pos h1] at h;exact absurd h h1
 rw [if_neg h1] at h ⊢;by_cases h2:(bH (bX d c.file (iJ k) s).1 c.file).2≠0
 .rw [if_pos h2] at h;exact absurd h h2
 rw [if_neg h2] at h ⊢;by_cases h3:(bX (bH (bX d c.file (iJ k) s).1 c.file).1 c.file 0 (jJ k s.length)).2≠0
 .rw [if_pos h3] at h;exact absurd h h3
 rw [if_neg h3] at h ⊢;exact aNk h
theorem a5R{d c s}(h:(uN d c s).2.2=0):(uN d c s).1.down=false:=by
 unfold uN at h ⊢;by_cases h1:65536<s.length
 .rw [if_pos h1] at h;simp at h
 rw [if_neg h1] at h ⊢;by_cases h2:c.sure=false/\0<c.slot
 .rw [if_pos h2] at h ⊢;by_cases h3:(bH d c.file).2≠0
  .rw [if_pos h3] at h;exact absurd h h3
  rw [if_neg h3] at h ⊢;exact a8V h
 .rw [if_neg h2] at h ⊢;exact a8V h
theorem aJ2{j l n r}(hr:r.2.2=0->r.1.down=false)(h:(DF j l n r).2.2=0):(DF j l n r).1.down=false:=by
 unfold DF at h ⊢;by_cases h1:r.2.2≠0
 .rw [if_pos h1] at h;exact absurd h h1
 .rw [if_neg h1];exact hr (Decidable.not_not.1 h1)
theorem aFE{d j l}(hd:d.down=false)(h:(dK d j l).2.2=0):(dK d j l).1.down=false:=by
 unfold dK at h ⊢;by_cases h1:j.broken=true
 .rw [if_pos h1] at h;simp at h
 rw [if_neg h1] at h ⊢;by_cases h2:l=[]
 .rw [if_pos h2];exact hd
 rw [if_neg h2] at h ⊢;by_cases h3:1048576<j.bytes+(aQ l).length
 .rw [if_pos h3] at h;simp at h
 rw [if_neg h3] at h ⊢;by_cases h4:(JH d j l).2≠0
 .rw [if_pos h4] at h;exact absurd h h4
 rw [if_neg h4] at h ⊢;exact aJ2 (λh=>a5R h) h
theorem aRD{d j n}(hd:d.down=false)(h:(iX d j n).2.2=0):(iX d j n).1.down=false:=by
 unfold iX at h ⊢;by_cases h1:j.broken=true
 .rw [if_pos h1] at h;simp at h
 rw [if_neg h1] at h ⊢;by_cases h2:n<0\/(j.list.length:Int)<n
 .rw [if_pos h2] at h;simp at h
 rw [if_neg h2] at h ⊢;by_cases h3:n=(j.list.length:Int)
 .rw [if_pos h3];exact hd
 rw [if_neg h3] at h ⊢;exact aJ2 (λh=>a5R h) h
theorem aNl{d u o}(hd:d.down=false)(h:(nK d u o).2.2=0):(nK d u o).1.down=false:=by
 unfold nK at h ⊢;by_cases h1:o.save=true
 .rw [if_pos h1] at h ⊢;exact a5R h
 .rw [if_neg h1];exact hd
theorem aNm{d u o}(hd:d.down=false)(h:(pZ d u o).2.2=0):(pZ d u o).1.down=false:=by
 unfold pZ at h ⊢;by_cases h1:0<o.src
 .rw [if_pos h1] at h ⊢;simp only at h ⊢;by_cases h2:(iX d u.j (min (o.src - 1) (u.j.list.length:Int))).2.2≠0
  .rw [if_pos h2] at h;exact absurd h h2
  .rw [if_neg h2] at h ⊢;exact aFE (aRD hd (Decidable.not_not.1 h2)) h
 .rw [if_neg h1];exact hd
theorem aJ3{d u o}(hd:d.down=false)(h:(bW d u o).2.2=0):(bW d u o).1.down=false:=by
 unfold bW at h ⊢;simp only at h ⊢;by_cases h1:(nK d u o).2.2≠0
 .rw [if_pos h1] at h;exact absurd h h1
 .rw [if_neg h1] at h ⊢;exact aNm (aNl hd (Decidable.not_not.1 h1)) h
theorem aNn(d u o):(bW d u o).2.1.r=u.r:=by
 unfold bW;simp only;split<;>rfl
theorem a8W{id d u}(h:(bD id d).2.1=some u):(bD id d).1.down=false:=by
 unfold bD at h ⊢;by_cases h1:(bH d 2).2≠0
 .rw [if_pos h1] at h;cases h
 rw [if_neg h1] at h ⊢;unfold OU at h ⊢;split at h
 .cases h
 .unfold OS at h ⊢;split at h
  .cases h
  .rename_i ho;exact a04 ho
def On(G:gG):Prop:=∀ i,i<3->∀ u,(G.mem i).up=some u->(G.mem i).d.down=false
def qX(m:OR):Nat:=match m.up with
 | none=>0
 | some u=>mW u.r
def CA(G:gG):Nat:=qX (G.mem 0)+qX (G.mem 1)+qX (G.mem 2)
def cG(G:gG):Nat:=G.dL.aH.length+CA G
theorem uS(G):(eM G).mem=G.mem/\(eM G).dL=G.dL:=by
 unfold eM;obtain ⟨m0,n0⟩:=jQ G 0;obtain ⟨m1,n1⟩:=jQ (gL G 0) 1;obtain ⟨m2,n2⟩:=jQ (gL (gL G 0) 1) 2;exact ⟨by rw [m2,m1,m0],by rw [n2,n1,n0]⟩
theorem L8(G):cG (eM G)=cG G:=by
 unfold cG CA;rw [(uS G).1,(uS G).2]
theorem FA{G}(h:On G):On (eM G):=λi hi u hu=>by
 rw [(uS G).1] at hu ⊢;exact h i hi u hu
theorem On.aBT{G}(h:On G){i m}(hm:∀ u,m.up=some u->m.d.down=false):On (bZ G i m):=λj hj u hu=>by
 have hu:(put G.mem i m j).up=some u:=hu;show (put G.mem i m j).d.down=false;by_cases e:j=i
 .subst e;rw [cI] at hu ⊢;exact hm u hu
 .rw [fR _ _ e] at hu ⊢;exact h j hj u hu
theorem K5(G){i}(hi:i<3)(m):CA (bZ G i m)+qX (G.mem i)=CA G+qX m:=by
 unfold CA
 match i,hi with
 | 0,_=>show (qX m+qX (G.mem 1)+qX (G.mem 2))+qX (G.mem 0)=_;omega
 | 1,_=>show (qX (G.mem 0)+qX m+qX (G.mem 2))+qX (G.mem 1)=_;omega
 | 2,_=>show (qX (G.mem 0)+qX (G.mem 1)+qX m)+qX (G.mem 2)=_;omega
theorem a1v(id):∀ (l:List bQ) (n:JM),(jK id n l).aH.length<=n.aH.length+l.length
 | [],n=>Nat.le_refl _
 | a :: l,n=>by
  have h1:=a1v id l (rJ n id a.to (bs (qQ a))).1;have h2:(rJ n id a.to (bs (qQ a))).1.aH.length<=n.aH.length+1:=by
   unfold rJ;split
   .simp
   split
   .simp
   split
   .simp
   .simp
  show (jK id (rJ n id a.to (bs (qQ a))).1 l).aH.length<=_;rw [List.length_cons];omega
section
variable {G:gG}{i:Nat}
theorem aJ4(hi:i<3){u}(hu:(G.mem i).up=some u)(x):cG (doG G i u x).1+mW u.r<=cG G+x.2.send.length+mW x.1:=by
 have e1:qX (G.mem i)=mW u.r:=by unfold qX;rw [hu]
 have hr:=aNn (G.mem i).d { u with r:=x.1 } x.2;unfold doG;simp only;split
 .rw [L8];have h1:=K5 G hi ⟨(bW (G.mem i).d { u with r:=x.1 } x.2).1,some (bW (G.mem i).d { u with r:=x.1 } x.2).2.1⟩;have h2:=a1v i x.2.send G.dL;have h3:qX ⟨(bW (G.mem i).d { u with r:=x.1 } x.2).1,some (bW (G.mem i).d { u with r:=x.1 } x.2).2.1⟩=mW x.1:=by
   show mW (bW (G.mem i).d { u with r:=x.1 } x.2).2.1.r=_;rw [hr]
  show (jK i G.dL x.2.send).aH.length+CA (bZ G i _)+_<=G.dL.aH.length+CA G+_+_;omega
 .rw [L8];have h1:=K5 G hi ⟨(bW (G.mem i).d { u with r:=x.1 } x.2).1,none⟩;have h3:qX ⟨(bW (G.mem i).d { u with r:=x.1 } x.2).1,none⟩=0:=rfl;show G.dL.aH.length+CA (bZ G i _)+_<=G.dL.aH.length+CA G+_+_;omega
theorem On.do(h:On G)(hi:i<3){u}(hu:(G.mem i).up=some u)(x):On (doG G i u x).1:=by
 unfold doG;simp only;split
 .rename_i he;exact FA (G:={ bZ G i ⟨_,some _⟩ with dL:=_ }) λj hj v hv=>(h.aBT (i:=i) (m:=⟨(bW (G.mem i).d { u with r:=x.1 } x.2).1,some (bW (G.mem i).d { u with r:=x.1 } x.2).2.1⟩) λw _=>aJ3 (h i hi u hu) he) j hj v hv
 .exact FA (h.aBT λw hw=>by cases hw)
theorem aJ5(r m):(cX r m).2.send.length+mW (cX r m).1<=mW r+1:=by
 cases hy:iV r.id m with
 | true=>exact (aRB (lK.1 hy)).cnt
 | false=>rw [vF hy];show 0+mW r<=_;omega
theorem a8X{id f K}(hf:∀ r,(f r).2.send.length+mW (f r).1<=mW r+K):cG (vY G id f).1<=cG G+K:=by
 unfold vY;split
 .exact Nat.le_add_right _ _
 rename_i hid;split
 .exact Nat.le_add_right _ _
 .rename_i u hu;have:=aJ4 (qD hid) hu (f u.r);have:=hf u.r;omega
theorem On.turn(h:On G)(id f):On (vY G id f).1:=by
 unfold vY;split
 .exact h
 rename_i hid;split
 .exact h
 .rename_i u hu;exact h.do (qD hid) hu _
theorem aNo(r):mW r<=1:=by unfold mW;split<;>omega
theorem a8Y(id):cG (x4 G id).1<=cG G+3:=a8X λr=>by
 have h1:=(aBg r).send;have h2:=aNo (eA r).1;omega
theorem aJ6(r data):(aL r data).2.2.2.send.length+mW (aL r data).1<=mW r+2:=by
 by_cases h1:r.role≠2
 .rw [xN h1];show 0+mW r<=_;omega
 by_cases h2:2000<(data.size:Int)
 .rw [vW h1 h2];show 0+mW r<=_;omega
 by_cases h3:r.log.length=4000
 .rw [r9 h1 h2 h3];show 0+mW r<=_;omega
 rw [B0 h1 h2 h3];have:(cU (tM r data)).length<=2:=by
  unfold cU;rw [List.length_map];unfold aT;split<;>(try split)<;>simp
 show (cU (tM r data)).length+mW r<=_;omega
theorem a8Z(id data):cG (dF G id data).1<=cG G+2:=by
 unfold dF;split
 .exact Nat.le_add_right _ _
 rename_i hid;split
 .exact Nat.le_add_right _ _
 .rename_i u hu;simp only;have h1:=aJ4 (qD hid) hu ((aL u.r data).1,(aL u.r data).2.2.2);have h2:=aJ6 u.r data;have h1:cG (doG G id.toNat u ((aL u.r data).1,(aL u.r data).2.2.2)).1+mW u.r<=cG G+(aL u.r data).2.2.2.send.length+mW (aL u.r data).1:=h1;split
  .exact Nat.le_add_right _ _
  split
  .show cG (doG _ _ _ _).1<=_;omega
  .show cG (doG _ _ _ _).1<=_;omega
theorem On.SX(h:On G)(id data):On (dF G id data).1:=by
 unfold dF;split
 .exact h
 rename_i hid;split
 .exact h
 .rename_i u hu;simp only;have h1:=h.do (qD hid) hu ((aL u.r data).1,(aL u.r data).2.2.2);split
  .exact h
  split<;>exact h1
theorem aFF(n){i p}(h:n.aH[i]? = some p):(takeN n i).aH.length+1=n.aH.length:=by
 have hl:i<n.aH.length:=by
  rcases Nat.lt_or_ge i n.aH.length with h1|h1
  .exact h1
  .rw [List.getElem?_eq_none h1] at h;cases h
 show (n.aH.eraseIdx i).length+1=_;rw [List.length_eraseIdx,if_pos hl];omega
theorem WW(k):cG (eT G k).1<=cG G:=by
 unfold eT;split
 .exact Nat.le_refl _
 split
 .exact Nat.le_refl _
 .rename_i p hp;have h1:=aFF G.dL hp;have e:cG { G with dL:=takeN G.dL k.toNat }+1=cG G:=by
   show ((takeN G.dL k.toNat).aH.length+CA G)+1=G.dL.aH.length+CA G;omega
  simp only;split
  .show cG { G with dL:=takeN G.dL k.toNat }<=_;omega
  .have:=a8X (G:={ G with dL:=takeN G.dL k.toNat }) (id:=p.to) (f:=λr=>cX r ((yU p.body.data.toList).getD S3)) (K:=1) λr=>aJ5 _ _;omega
theorem On.vH(h:On G)(k):On (eT G k).1:=by
 unfold eT;split
 .exact h
 split
 .exact h
 .have h1:On { G with dL:=takeN G.dL k.toNat }:=h;simp only;split
  .exact h1
  .exact h1.turn _ _
theorem a4h:∀ (k:Nat) {G:gG},cG (qU k G).1<=cG G
 | 0,_=>Nat.le_refl _
 | k+1,G=>by
  unfold qU;split
  .exact Nat.le_refl _
  .exact Nat.le_trans (a4h k) (WW 0)
theorem On.drain:∀ (k:Nat) {G:gG},On G->On (qU k G).1
 | 0,_,h=>h
 | k+1,G,h=>by
  unfold qU;split
  .exact h
  .exact On.drain k (h.vH 0)
theorem aFG(id):cG (kP G id).1<=cG G:=by
 unfold kP;split
 .exact Nat.le_refl _
 rename_i hid;split
 .rw [L8];exact Nat.le_refl _
 .rename_i hn;simp only;rw [L8];have hi:=qD hid;have h1:=K5 G hi ⟨(bD id.toNat (bY (G.mem id.toNat).d)).1,(bD id.toNat (bY (G.mem id.toNat).d)).2.1⟩;have h2:qX ⟨(bD id.toNat (bY (G.mem id.toNat).d)).1,(bD id.toNat (bY (G.mem id.toNat).d)).2.1⟩=0:=by
   unfold qX;cases ho:(bD id.toNat (bY (G.mem id.toNat).d)).2.1 with
   | none=>rfl
   | some u =>
    show mW u.r=0;have:u.r.role=0:=by
     unfold bD at ho;split at ho
     .cases ho
     unfold OU at ho;split at ho
     .cases ho
     unfold OS at ho;split at ho
     .cases ho
     .injection ho with ho;rw [<-ho];rfl
    exact if_neg (by omega)
  show G.dL.aH.length+CA (bZ G id.toNat _)<=G.dL.aH.length+CA G;omega
theorem On.start(h:On G)(id):On (kP G id).1:=by
 unfold kP;split
 .exact h
 split
 .exact FA h
 .exact FA (h.aBT λu hu=>a8W hu)
theorem aDp(hi:i<3)(d):cG (eM (bZ G i { G.mem i with d:=d }))=cG G:=by
 rw [L8];have h1:=K5 G hi { G.mem i with d:=d };have h2:qX { G.mem i with d:=d }=qX (G.mem i):=rfl;show G.dL.aH.length+CA (bZ G i _)=G.dL.aH.length+CA G;omega
theorem aRE(o):cG (opG G o).1<=cG G+3:=by
 unfold opG;generalize lR o.n (G.dL.aH.length:Int)=i;generalize lR o.kind 14=k;unfold opK;by_cases e0:k=0
 .rw [if_pos e0];exact a8Y _
 rw [if_neg e0];by_cases e1:k=1
 .rw [if_pos e1];exact Nat.le_trans (a8Z _ _) (by omega)
 rw [if_neg e1];by_cases e2:k=2\/k=3\/k=4
 .rw [if_pos e2];exact Nat.le_trans (WW _) (by omega)
 rw [if_neg e2];by_cases e3:k=5
 .rw [if_pos e3];show cG (x5 G i).1<=_;unfold x5;split
  .exact Nat.le_add_right _ _
  .have:=(JY G.dL i.toNat).2;show (takeN G.dL i.toNat).aH.length+CA G<=G.dL.aH.length+CA G+3;omega
 rw [if_neg e3];by_cases e4:k=6
 .rw [if_pos e4];show cG (kW G i).1<=_;unfold kW;split
  .exact Nat.le_add_right _ _
  split
  .exact Nat.le_add_right _ _
  split
  .exact Nat.le_add_right _ _
  .rename_i p _ _;show (G.dL.aH++[p]).length+CA G<=G.dL.aH.length+CA G+3;rw [List.length_append,List.length_singleton];omega
 rw [if_neg e4];by_cases e5:k=7
 .rw [if_pos e5];exact Nat.le_add_right _ _
 rw [if_neg e5];by_cases e6:k=8
 .rw [if_pos e6];exact Nat.le_add_right _ _
 rw [if_neg e6];by_cases e7:k=9
 .rw [if_pos e7];show cG (mM G o.id o.keep).1<=_;unfold mM;split
  .exact Nat.le_add_right _ _
  .rename_i hid;rw [L8];have h1:=K5 G (qD hid) ⟨bV (G.mem o.id.toNat).d o.keep,none⟩;have h2:qX ⟨bV (G.mem o.id.toNat).d o.keep,none⟩=0:=rfl;show G.dL.aH.length+CA (bZ G o.id.toNat _)<=G.dL.aH.length+CA G+3;omega
 rw [if_neg e7];by_cases e8:k=10
 .rw [if_pos e8];exact Nat.le_trans (aFG _) (by omega)
 rw [if_neg e8];by_cases e9:k=11
 .rw [if_pos e9];show cG (gV G o.id o.n).1<=_;unfold gV;split
  .exact Nat.le_add_right _ _
  .rename_i hid;show cG (eM _)<=_;rw [aDp (qD hid)];exact Nat.le_add_right _ _
 rw [if_neg e9];by_cases e10:k=12
 .rw [if_pos e10];show cG (M5 G o.id o.n o.keep).1<=_;unfold M5;split
  .exact Nat.le_add_right _ _
  .rename_i hid;show cG (eM _)<=_;rw [aDp (qD hid)];exact Nat.le_add_right _ _
 rw [if_neg e10];show cG (cJ G o.id (lR o.n 100)).1<=_;unfold cJ;exact Nat.le_trans (a4h _) (a8Y _)
theorem On.lose(h:On G)(id n):On (gV G id n).1:=by
 unfold gV;split
 .exact h
 .rename_i hid;exact FA (h.aBT λu hu=>h _ (qD hid) u hu)
theorem On.arm(h:On G)(id n keep):On (M5 G id n keep).1:=by
 unfold M5;split
 .exact h
 .rename_i hid;exact FA (h.aBT λu hu=>h _ (qD hid) u hu)
theorem On.op(h:On G)(o):On (opG G o).1:=by
 unfold opG;generalize lR o.n (G.dL.aH.length:Int)=i;generalize lR o.kind 14=k;unfold opK;by_cases e0:k=0
 .rw [if_pos e0];exact h.turn _ _
 rw [if_neg e0];by_cases e1:k=1
 .rw [if_pos e1];exact h.SX _ _
 rw [if_neg e1];by_cases e2:k=2\/k=3\/k=4
 .rw [if_pos e2];exact h.vH _
 rw [if_neg e2];by_cases e3:k=5
 .rw [if_pos e3];show On (x5 G i).1;unfold x5;split<;>exact h
 rw [if_neg e3];by_cases e4:k=6
 .rw [if_pos e4];show On (kW G i).1;unfold kW;split
  .exact h
  split
  .exact h
  split<;>exact h
 rw [if_neg e4];by_cases e5:k=7
 .rw [if_pos e5];exact h
 rw [if_neg e5];by_cases e6:k=8
 .rw [if_pos e6];exact h
 rw [if_neg e6];by_cases e7:k=9
 .rw [if_pos e7];show On (mM G o.id o.keep).1;unfold mM;split
  .exact h
  .exact FA (h.aBT λu hu=>by cases hu)
 rw [if_neg e7];by_cases e8:k=10
 .rw [if_pos e8];exact h.start _
 rw [if_neg e8];by_cases e9:k=11
 .rw [if_pos e9];exact h.lose _ _
 rw [if_neg e9];by_cases e10:k=12
 .rw [if_pos e10];exact h.arm _ _ _
 rw [if_neg e10];exact On.drain _ (h.turn _ _)
end
theorem aRF:On MS:=λi hi u hu=>a8W hu
theorem aRG:cG MS=0:=by
 have h:∀ i,qX (xQ i)=0:=λi=>by
  obtain ⟨u,h1,_,h3,_⟩:=B7 i;unfold qX;rw [h1];show mW u.r=0;rw [h3];rfl
 show 0+(qX (xQ 0)+qX (xQ 1)+qX (xQ 2))=0;rw [h,h,h]
def eY(G:gG)(i:Nat):gG:=(M5 (gV G i 0).1 i 0 []).1
section
variable {N N' D:Nat}{B B':Int}{G G':gG}{C C':Cl}{g g':Gh}{A A':Int->Nat->Nat}{i:Nat}{P:P3}
theorem aBU(hi:i<3):(eY G i).mem i={ G.mem i with d:=pI (j9 (G.mem i).d 0) 0 [] }/\(∀ j,j≠i->(eY G i).mem j=G.mem j)/\(eY G i).dL=G.dL:=by
 have hid:¬ ((i:Int)<0\/3<=(i:Int)):=by omega
 have e1:(gV G i 0).1=eM (bZ G i { G.mem i with d:=j9 (G.mem i).d 0 }):=by unfold gV;rw [if_neg hid,toN]
 have m1:(gV G i 0).1.mem=put G.mem i { G.mem i with d:=j9 (G.mem i).d 0 }:=by rw [e1,(uS _).1];rfl
 have n1:(gV G i 0).1.dL=G.dL:=by rw [e1,(uS _).2];rfl
 have e2:eY G i=eM (bZ (gV G i 0).1 i { (gV G i 0).1.mem i with d:=pI ((gV G i 0).1.mem i).d 0 [] }):=by unfold eY M5;rw [if_neg hid,toN]
 have m2:(eY G i).mem=put (gV G i 0).1.mem i { (gV G i 0).1.mem i with d:=pI ((gV G i 0).1.mem i).d 0 [] }:=by rw [e2,(uS _).1];rfl
 have n2:(eY G i).dL=(gV G i 0).1.dL:=by rw [e2,(uS _).2];rfl
 refine ⟨?_,λj hj=>?_,by rw [n2,n1]⟩
 .rw [m2,cI,m1,cI]
 .rw [m2,fR _ _ hj,m1,fR _ _ hj]
theorem AE.gi(h:AE N B D G g A G'):∃ C' g' A',GI N B D G' C' g' A':=by
 obtain ⟨C',g',A',a,_⟩:=h;exact ⟨C',g',A',a⟩
end
section
variable {N N' D:Nat}{B B':Int}{G G':gG}{C C':Cl}{g g':Gh}{A A':Int->Nat->Nat}{i:Nat}
def fT(G:gG)(i:Nat)(keep:List Int):gG:=(mM (eY G i) i keep).1
def oD(G:gG)(i:Nat)(keep:List Int):gG:=(kP (fT G i keep) i).1
structure aXo(N:Nat)(B:Int)(D:Nat)(G:gG)(i:Nat)(keep:List Int):Prop where
 inv:∃ C g A,GI N B D (oD G i keep) C g A
 on:On (oD G i keep)
 ok:(kP (fT G i keep) i).2=0
 role:MQ (oD G i keep) i=0
 fE:(oD G i keep).fE=G.fE
 st0:upG (eY G i) i=0->xP (eY G i) i=qV (eY G i) i
 log:upG (eY G i) i=0->qV (oD G i keep) i=qV (eY G i) i
 st1:xP (oD G i keep) i=qV (oD G i keep) i
theorem T7(h:SW G){i m}(hm:∀ u,m.up=some u->u.r.aE<=G.fE.length):SW (bZ G i m):=λj hj u hu=>by
 have hu:(put G.mem i m j).up=some u:=hu;show u.r.aE<=G.fE.length;by_cases e:j=i
 .subst e;rw [cI] at hu;exact hm u hu
 .rw [fR _ _ e] at hu;exact h j hj u hu
theorem a81(h:GI N B D G C g A)(hon:On G)(hi:i<3)(keep):aXo N B D G i keep:=by
 have hid:¬ ((i:Int)<0\/3<=(i:Int)):=by omega
 obtain ⟨r1,r2,r3⟩:=aBU (G:=G) hi;have b2R:On (eY G i):=(hon.lose _ _).arm _ _ _;obtain ⟨C1,g1,A1,h1,_⟩:AE N B D G g A (eY G i):=(h.lose i 0).then λC' g' A' h'=>h'.arm i 0 []
 have aXp:(eY G i).fE=G.fE:=by
  have e1:(gV G i 0).1=eM (bZ G i { G.mem i with d:=j9 (G.mem i).d 0 }):=by unfold gV;rw [if_neg hid,toN]
  have n1:SW (bZ G i { G.mem i with d:=j9 (G.mem i).d 0 }):=T7 h.a35 λu hu=>h.a35 i hi u hu;rw [L6 n1] at e1;have e2:eY G i=eM (bZ (gV G i 0).1 i { (gV G i 0).1.mem i with d:=pI ((gV G i 0).1.mem i).d 0 [] }):=by unfold eY M5;rw [if_neg hid,toN]
  have n0:SW (gV G i 0).1:=by rw [e1];exact n1
  have n2:SW (bZ (gV G i 0).1 i { (gV G i 0).1.mem i with d:=pI ((gV G i 0).1.mem i).d 0 [] }):=T7 n0 λu hu=>n0 i hi u hu;rw [L6 n2] at e2;rw [e2];show (gV G i 0).1.fE=_;rw [e1];rfl
 have e3:fT G i keep=eM (bZ (eY G i) i ⟨bV ((eY G i).mem i).d keep,none⟩):=by unfold fT mM;rw [if_neg hid,toN]
 have n3:SW (bZ (eY G i) i ⟨bV ((eY G i).mem i).d keep,none⟩):=T7 h1.a35 λu hu=>by cases hu
 rw [L6 n3] at e3;obtain ⟨C2,g2,A2,h2,_⟩:=h1.a0H i keep;have h2:GI N B D (fT G i keep) C2 g2 A2:=h2;have m3:(fT G i keep).mem i=⟨bV ((eY G i).mem i).d keep,none⟩:=by rw [e3];exact cI _ _ _
 have aXq:(fT G i keep).fE=G.fE:=by rw [e3];exact aXp
 have b2S:On (fT G i keep):=by
  rw [e3];exact b2R.aBT λu hu=>by cases hu
 have hn:((fT G i keep).mem i).up=none:=by rw [m3]
 have hd:WL (bY ((fT G i keep).mem i).d) (B6 N B D C2 i):=(h2.j.dn i hi hn).frame rfl rfl;have hh:KO (bY ((fT G i keep).mem i).d):=by
  rw [m3,r1];exact aBG keep
 obtain ⟨u,ho,hU,hd2,hnew,_⟩:=a1l h2.j hi hd hh;have es:kP (fT G i keep) i=(eM (bZ (fT G i keep) i ⟨(bD i (bY ((fT G i keep).mem i).d)).1,(bD i (bY ((fT G i keep).mem i).d)).2.1⟩),(bD i (bY ((fT G i keep).mem i).d)).2.2):=by
  unfold kP;rw [if_neg hid,toN,hn]
 have h20:(bD i (bY ((fT G i keep).mem i).d)).2.1=some u:=by rw [ho]
 have n4:SW (bZ (fT G i keep) i ⟨(bD i (bY ((fT G i keep).mem i).d)).1,(bD i (bY ((fT G i keep).mem i).d)).2.1⟩):=T7 h2.a35 λv hv=>by
  have hv:(bD i (bY ((fT G i keep).mem i).d)).2.1=some v:=hv;rw [h20] at hv;cases hv;rw [hnew];exact Nat.zero_le _
 have e4:oD G i keep=bZ (fT G i keep) i ⟨(bD i (bY ((fT G i keep).mem i).d)).1,(bD i (bY ((fT G i keep).mem i).d)).2.1⟩:=by
  show (kP (fT G i keep) i).1=_;rw [es];exact L6 n4
 have m4:(oD G i keep).mem i=⟨(bD i (bY ((fT G i keep).mem i).d)).1,some u⟩:=by
  rw [e4,<-h20];exact cI _ _ _
 have hl4:qV (oD G i keep) i=u.r.log:=by
  unfold qV;rw [if_neg hid,toN,m4]
 refine ⟨(h2.start i).gi,b2S.start i,?_,?_,?_,λhu=>?_,λhu=>?_,?_⟩
 .rw [es];show (bD i (bY ((fT G i keep).mem i).d)).2.2=0;rw [ho]
 .unfold MQ;rw [if_neg hid,toN,m4];show u.r.role=0;rw [hnew];rfl
 .rw [e4];exact aXq
 .unfold xP qV;rw [if_neg hid,if_neg hid,toN];unfold upG at hu;rw [if_neg hid,toN] at hu;cases hm:((eY G i).mem i).up with
  | none=>rw [hm] at hu;exact absurd hu (by decide)
  | some v=>exact EZ (h1.j.up i hi v hm).2
 .rw [hl4];unfold qV;rw [if_neg hid,toN];unfold upG at hu;rw [if_neg hid,toN] at hu;cases hm:((eY G i).mem i).up with
  | none=>rw [hm] at hu;exact absurd hu (by decide)
  | some v =>
   have hUv:=(h1.j.up i hi v hm).2;have hdq:WL (bY ((fT G i keep).mem i).d) λt w l=>l=v.r.log:=by
    have:=(hUv.dn (Q:=λt w l=>l=v.r.log) rfl).ev (SA hUv.w keep) (λF=>DE hUv.w keep F);rw [m3];exact this.frame rfl rfl
   obtain ⟨u',ho',_,_,_,hq⟩:=a1l h2.j hi hdq hh;have:some u=some u':=by
    have a:=congrArg (λx=>x.2.1) ho;have b:=congrArg (λx=>x.2.1) ho';exact a.symm.trans b
   cases this;exact hq
 .rw [hl4];unfold xP;rw [if_neg hid,toN,m4];exact EZ hU
theorem GI.aJ7(h:GI N B D G C g A):∀ s∈G.fE,s.size<=2000:=by
 obtain ⟨K,t,e,hK⟩:=h.j.fE;rcases hK with h0|⟨t',p,hch,_,hn,hk⟩
 .rw [e,List.eq_nil_of_length_eq_zero h0];intro s hs;cases hs
 .intro s hs;rw [e] at hs;obtain ⟨x,hx,rfl⟩:=List.mem_map.1 hs;have h2:=hk.2;rw [List.take_length] at h2;rw [h2] at hx;exact (h.j.s.W8 t').data x (List.mem_of_mem_take hx)
theorem GI.aNp(h:GI N B D G C g A):G.fE.length<=8000:=by
 obtain ⟨a,b,ha,hb,hab,hst⟩:=aBA h.j;have h1:=(hst a (.inl rfl)).1;have h2:(nL (G.mem a).d).length<=4000:=by
  obtain ⟨t,v,hq⟩:=OZ (h.j.any ha);obtain ⟨C',g',A',bk⟩:=KX h.j.s ha hq.1;have:=(bk.s.m.wf.rep a ha).1.ok.len;rw [bk.rep] at this;exact this
 omega
end
end Go.Proofs.YtnlkemjhgdbfkaaGreatDoor
end

section
namespace Go.Proofs.YtnlkemjhgdbfkaaGreatDoor
set_option maxRecDepth 100000
open Go.Vc
def zF(lP:Option Addr)(lN lC:Nat)(nJ:Option Addr)(gI o8:Nat):aR:=λW R Φ J=>
 Zc W R Φ F.rZ #[] λe2 q=>∃ c4,e2=.returned (.bool c4)/\q λR5 fJ=>Zc W R5 fJ F.wH #[.slice lP lN lC,aA 60] λe9 q=>∃ c11,e9=.returned (.bool c11)/\q λzJ qN=>Br (!c11) (Zr W zJ qN J (.bool c4)) (Br (decide (20<(↑gI:Int))) (Zr W zJ qN J (.bool c4)) (Zc W zJ qN F.KG #[] λe20 q=>∃ XY,e20=.returned (.pointer XY)/\q λR23 HJ=>Br XY.isNone (Zr W R23 HJ J (.bool false)) (zG λ(I27:Int->List Own->PW->Nat->Prop)=>(Zs W R23 HJ (I27 0))/\∀ n33 LB I35 k36,aB I35->I27 n33 LB I35 k36->Br (decide (n33<(↑lN:Int))) (Zi n33 lN lP λk37 k38=>Zd W LB I35 λw39=>∃ n41 n42 n43 s44 p45 k46 k47,bM w39 k37 (k38+n33.toNat*5) [aA n41,aA n42,aA n43,.string s44,.slice p45 k46 k47]/\Zc W LB I35 F.sD #[.pointer XY,Value.agg #[aA n41,aA n42,aA n43,.string s44,.slice p45 k46 k47]] λe50 q=>∃ n52 n53,e50=.returned (Value.tuple #[aA n52,aA n53])/\q λR54 NR=>aY (n33+1)/\Zb W R54 NR k36 (I27 (n33+1))) (Zc W LB I35 F.gN #[.pointer XY] λe63 q=>∃ p65 k66 k67,e63=.returned (.slice p65 k66 k67)/\q λR68 EA=>zG λ(I70:Int->List Own->PW->Nat->Prop)=>(Zs W R68 EA (I70 0))/\∀ FD R77 I78 k79,aB I78->I70 FD R77 I78 k79->Br (decide (FD<3)) (Zc W R77 I78 F.iY #[.pointer XY,aA FD,aA 0] λe82 q=>∃ n84,e82=.returned (aA n84)/\q λR85 aRH=>Zc W R85 aRH F.jM #[.pointer XY,aA FD,aA 0,.slice none 0 0] λe89 q=>∃ n91,e89=.returned (aA n91)/\q λR92 aQb=>Zc W R92 aQb F.kZ #[.pointer XY,aA FD] λe96 q=>∃ c98,e96=.returned (.bool c98)/\q λR99 wZ=>Zc W R99 wZ F.iG #[.pointer XY,aA FD] λa4O q=>∃ aRI aDR aRJ,a4O=.returned (.slice aRI aDR aRJ)/\q λaXt aOB=>zG λ(aRK:List Own->PW->Prop)=>Br c98 (Zc W aXt aOB F.gR #[.pointer XY,aA FD] λb2V q=>∃ a7n a7o QC,b2V=.returned (.slice a7n a7o QC)/\q λb2W aXu=>∀ aXv a7l,Ctx W aXv (b2W++a7l) aXu->aD F.eH #[.slice a7n a7o QC,.slice aRI aDR aRJ] aXv λb2X a2b=>∃ c124,b2X=.returned (.bool c124)/\∃ a4T WX,aB WX /\ Ctx W a2b (a4T++a7l) WX/\Br (!c124) (Zr W a4T WX J (.bool false)) (∃ ZE a2R,aB a2R/\Wk W a4T WX ZE a2R/\aRK ZE a2R)) (∃ aH6 aJ8,aB aJ8/\Wk W aXt aOB aH6 aJ8/\aRK aH6 aJ8)/\∀ (QX:List Own) (aRL:List Nat->World->Prop),aB aRL->aRK QX aRL->Zc W QX aRL F.iC #[.pointer XY,aA FD,.slice nJ gI o8] λb2Y q=>∃ n143,b2Y=.returned (aA n143)/\q λa7h a3f=>Zc W a7h a3f F.iB #[.pointer XY,aA FD] λb2Z q=>∃ n150,b2Z=.returned (aA n150)/\q λaHU a3c=>Br (decide (n150≠0)) (Zr W aHU a3c J (.bool false)) (Zc W aHU a3c F.oH #[.pointer XY,aA FD] λaHK q=>∃ n159,aHK=.returned (aA n159)/\q λZM FE=>Br (decide (n159≠0)) (Zr W ZM FE J (.bool false)) (Br c98 (Zc W ZM FE F.iG #[.pointer XY,aA FD] λaP7 q=>∃ aXw aHg aXx,aP7=.returned (.slice aXw aHg aXx)/\q λX3 HH=>Zc W X3 HH F.eH #[.slice aXw aHg aXx,.slice aRI aDR aRJ] λb20 q=>∃ aG6,b20=.returned (.bool aG6)/\q λaNq aDq=>Br (!aG6) (Zr W aNq aDq J (.bool false)) (Zc W aNq aDq F.iG #[.pointer XY,aA FD] λaRM q=>∃ aXy aXz aXA,aRM=.returned (.slice aXy aXz aXA)/\q λb21 aXB=>Zc W b21 aXB F.gR #[.pointer XY,aA FD] λb22 q=>∃ aXC aHy aXD,b22=.returned (.slice aXC aHy aXD)/\q λb23 aXE=>Zc W b23 aXE F.eH #[.slice aXy aXz aXA,.slice aXC aHy aXD] λaHl q=>∃ aHm,aHl=.returned (.bool aHm)/\q λaXF aOC=>Br (!aHm) (∀ aXG b24,Ctx W aXG (aXF++b24) aOC -> J (.bool false) aXG) (aY (FD+1)/\Zb W aXF aOC k79 (I70 (FD+1))))) (Zc W ZM FE F.iG #[.pointer XY,aA FD] λb25 q=>∃ aXH aXI aXJ,b25=.returned (.slice aXH aXI aXJ)/\q λaHB a2Y=>Zc W aHB a2Y F.gR #[.pointer XY,aA FD] λb26 q=>∃ aXK aXL aJ9,b26=.returned (.slice aXK aXL aJ9)/\q λaHC a2Z=>∀ aXM aXN,Ctx W aXM (aHC++aXN) a2Z->aD F.eH #[.slice aXH aXI aXJ,.slice aXK aXL aJ9] aXM λb27 b28=>∃ c236,b27=.returned (.bool c236)/\∃ a7a MM,aB MM/\Ctx W b28 (a7a ++ aXN) MM/\Br (!c236) (Zr W a7a MM J (.bool false)) (aY (FD+1)/\Zb W a7a MM k79 (I70 (FD+1))))))) (Br c4 (Zc W R77 I78 F.gN #[.pointer XY] λb29 q=>∃ aXO aD0 aXP,b29=.returned (.slice aXO aD0 aXP)/\q λaRN aKa=>Zc W aRN aKa F.gP #[.slice p65 k66 k67,.slice aXO aD0 aXP] λb3a q=>∃ aHE,b3a=.returned (.bool aHE)/\q λb3b aXQ=>Zr W b3b aXQ J (.bool aHE)) (Zr W R77 I78 J (.bool false)))))))
theorem uT(lP lN lC nJ gI o8):bG F.jF #[.slice lP lN lC,.slice nJ gI o8] (zF lP lN lC nJ gI o8):=bJ { keep:=some [0,1,4,5,6,7,8,9,10,11,20,24,28,40,63,77,96],split:=[2,19,22,24,26],loops:=[(13,[(9,.one (.int .i64))],[]),(8,[(7,.one (.int .i64))],[])],a6o:=[(21,[],[])] } λ_ _ _ _=>by kernel_rfl
def P4:aR:=λW R Φ J=>
 Zc W R Φ F.KG #[] λe2 q=>∃ p4,e2=.returned (.pointer p4)/\q λR5 fJ=>Br p4.isNone (Zr W R5 fJ J (.bool false)) (Zc W R5 fJ F.dV #[.pointer p4,aA 1,aA 99] λe11 q=>∃ NK,e11=.returned (aA NK)/\q λP5 u7=>Zc W P5 u7 F.oH #[.pointer p4,aA 1] λe18 q=>∃ n20,e18=.returned (aA n20)/\q λTW uB=>Br (decide (n20=2)) (∀ w23 ML,Ctx W w23 (TW++ML) uB->aD F.tZ #[.pointer p4,aA 0] w23 λe25 w26=>∃ n27,e25=.returned (aA n27)/\∃ R28 ZH,aB ZH/\Ctx W w26 (R28 ++ ML) ZH/\Zc W R28 ZH F.eU #[.pointer p4,aA 1,Value.string (ByteArray.mk #[OfNat.ofNat 97])] λe32 q=>∃ n34 n35,e32=.returned (Value.tuple #[aA n34,aA n35])/\q λHM uE=>Zc W HM uE F.dV #[.pointer p4,aA 1,aA 99] λe40 q=>∃ n42,e40=.returned (aA n42)/\q λR43 a19=>Zc W R43 a19 F.eU #[.pointer p4,aA 0,Value.string (ByteArray.mk #[OfNat.ofNat 98])] λe47 q=>∃ n49 n50,e47=.returned (Value.tuple #[aA n49,aA n50])/\q λQH yG=>Br (decide (NK=8)) (Br (decide (n27=1)) (Br (decide (n34=1)) (Br (decide (n35=0)) (Br (decide (n42=8)) (Br (decide (n50=24)) (Zc W QH yG F.gN #[.pointer p4] λe55 q=>∃ p57 k58 k59,e55=.returned (.slice p57 k58 k59)/\q λR60 QY=>∀ (k62:Nat) (w63:World) (R64:List Own),Ctx W w63 (Own.blk k62 [Value.string (ByteArray.mk #[OfNat.ofNat 97])] 9 :: R60++R64) QY->aD F.gP #[.slice p57 k58 k59,.slice (aK k62 0) 1 1] w63 λe65 w66=>∃ c67,e65=.returned (.bool c67)/\∃ R68 EA,aB EA/\Ctx W w66 (R68++R64) EA/\Zr W R68 EA J (.bool c67)) (Zr W QH yG J (.bool false))) (Zr W QH yG J (.bool false))) (Zr W QH yG J (.bool false))) (Zr W QH yG J (.bool false))) (Zr W QH yG J (.bool false))) (Zr W QH yG J (.bool false))) (Zc W TW uB F.eU #[.pointer p4,aA 1,Value.string (ByteArray.mk #[OfNat.ofNat 97])] λe86 q=>∃ n88 n89,e86=.returned (Value.tuple #[aA n88,aA n89])/\q λR90 aDL=>Zc W R90 aDL F.dV #[.pointer p4,aA 1,aA 99] λe94 q=>∃ n96,e94=.returned (aA n96)/\q λR97 QA=>Zc W R97 QA F.eU #[.pointer p4,aA 0,Value.string (ByteArray.mk #[OfNat.ofNat 98])] λb3d q=>∃ n103 n104,b3d=.returned (Value.tuple #[aA n103,aA n104])/\q λaAm W6=>Br (decide (NK=8)) (Zr W aAm W6 J (.bool false)) (Zr W aAm W6 J (.bool false))))
theorem FB:bG F.rZ #[] P4:=bJ { keep:=some [0,1,2,3,4,5,6,8,11],split:=[5,9] } λ_ _ _ _=>by kernel_rfl
def VE(lP:Option Addr)(lN lC:Nat)(n:Int):aR:=λW R Φ J=>
 zG λ(I0:Int->List Own->PW->Nat->Prop)=>(Zs W R Φ (I0 0))/\∀ n6 R7 I8 k9,aB I8->I0 n6 R7 I8 k9->Br (decide (n6<(↑lN:Int))) (Zd W R7 I8 λw10=>Zi n6 lN lP λk12 HQ=>∃ s14,w10.cell? (aJ k12 (HQ+n6.toNat*5+3))=some (.string s14)/\((!decide (50<(↑s14.size:Int)))=true->0<=n6/\n6<(↑lN:Int))/\vJ (some !decide (50<(↑s14.size:Int))) lP λE8 X2=>∃ (p17:Option Addr) (XX TQ:Nat),((!decide (50<(↑s14.size:Int)))=true->w10.cell? (aJ E8 (X2+n6.toNat*5+4))=some (.slice p17 XX TQ))/\Br (decide (50<(↑s14.size:Int))||decide (20<(↑XX:Int))) (Zr W R7 I8 J (.bool false)) (aY (n6+1)/\Zb W R7 I8 k9 (I0 (n6+1)))) (Zr W R7 I8 J (.bool (decide ((↑lN:Int)<=n))))
theorem K6(lP lN lC n):bG F.wH #[.slice lP lN lC,.int .i64 n] (VE lP lN lC n):=bJ { keep:=some [0,1,4,5,9,27],loops:=[(2,[(5,.one (.int .i64))],[])] } λ_ _ _ _=>by kernel_rfl
def XQ(gB gO:Nat)(o0:Int)(o1:Int)(o2:Int)(o3:ByteArray)(o4P:Option Addr)(o4N o4C:Nat):aR:=λW R Φ J=>
 ∀ (b:Nat),∃ R0 cF,aB cF/\Wk W R Φ R0 cF/\Zc W R Φ F.kU #[.pointer (aK gB gO)] λe6 q=>∃ n8,e6=.returned (aA n8)/\q λR9 jH=>Wk W R9 jH R0 cF/\Zc W R9 jH F.iH #[aA o2,aA n8] λe15 q=>∃ n17,e15=.returned (aA n17)/\q λTV U4=>Zc W TV U4 F.iH #[aA o0,aA 14] λe22 q=>∃ n24,e22=.returned (aA n24)/\q λvR kK=>Br (decide (n24=0)) (∀ w27 R28,Ctx W w27 (vR++R28) kK->aD F.oI #[.pointer (aK gB gO),aA o1] w27 λe29 w30=>∃ n31,e29 = .returned (aA n31)/\∃ R32 aRO,aB aRO/\Ctx W w30 (R32++R28) aRO/\Zr W R32 aRO J (Value.tuple #[aA 0,aA n31])) (Br (decide (n24=1)) (Zc W vR kK F.eU #[.pointer (aK gB gO),aA o1,.string o3] λe38 q=>∃ n40 n41,e38=.returned (Value.tuple #[aA n40,aA n41])/\q λR42 a62=>Zr W R42 a62 J (Value.tuple #[aA n40,aA n41])) (Br (decide (n24=2)) (Br (decide (n24=2)) (Zc W vR kK F.eV #[.pointer (aK gB gO),aA n17] λe48 q=>∃ n50,e48=.returned (aA n50)/\q λQH yG=>Zr W QH yG J (Value.tuple #[aA 0,aA n50])) (Br (decide (n24=5)) (Zc W vR kK F.l8 #[.pointer (aK gB gO),aA n17] λe57 q=>∃ n59,e57=.returned (aA n59)/\q λR60 QY=>Zr W R60 QY J (Value.tuple #[aA 0,aA n59])) (Br (decide (n24=6)) (Zc W vR kK F.j4 #[.pointer (aK gB gO),aA n17] λe66 q=>∃ n68,e66=.returned (aA n68)/\q λR69 LA=>Zr W R69 LA J (Value.tuple #[aA 0,aA n68])) (Br (decide (n24=7)) (Zc W vR kK F.jU #[.pointer (aK gB gO),aA o2] λe75 q=>e75=.returned (Value.tuple #[])/\q λR77 a98=>Zr W R77 a98 J (Value.tuple #[aA 0,aA 0])) (Br (decide (n24=8)) (Zc W vR kK F.kY #[.pointer (aK gB gO)] λe83 q=>e83=.returned (Value.tuple #[])/\q λR85 aRH=>Zr W R85 aRH J (Value.tuple #[aA 0,aA 0])) (Br (decide (n24=9)) (Zc W vR kK F.iC #[.pointer (aK gB gO),aA o1,.slice o4P o4N o4C] λe91 q=>∃ n93,e91=.returned (aA n93)/\q λR94 b3e=>Zr W R94 b3e J (Value.tuple #[aA 0,aA n93])) (Br (decide (n24=10)) (Zc W vR kK F.iB #[.pointer (aK gB gO),aA o1] λb3f q=>∃ n102,b3f=.returned (aA n102)/\q λaEo a0i=>Zr W aEo a0i J (Value.tuple #[aA 0,aA n102])) (Br (decide (n24=11)) (Zc W vR kK F.iY #[.pointer (aK gB gO),aA o1,aA o2] λb3g q=>∃ n111,b3g=.returned (aA n111)/\q λaLX a7e=>Zr W aLX a7e J (Value.tuple #[aA 0,aA n111])) (Br (decide (n24=12)) (∀ aXS aLT,Ctx W aXS (vR++aLT) kK -> aD F.jM #[.pointer (aK gB gO),aA o1,aA o2,.slice o4P o4N o4C] aXS λaQm a7f=>∃ n120,aQm=.returned (aA n120)/\∃ a7l a3e,aB a3e/\Ctx W a7f (a7l++aLT) a3e/\Zr W a7l a3e J (Value.tuple #[aA 0,aA n120])) (∃ a4T WX,aB WX/\Wk W vR kK a4T WX/\Zc W vR kK F.iH #[aA o2,aA 100] λb3h q=>∃ n133,b3h=.returned (aA n133)/\q λa6M aOD=>Wk W a6M aOD a4T WX/\∀ aXT aXU,Ctx W aXT (a6M++aXU) aOD->aD F.dV #[.pointer (aK gB gO),aA o1,aA n133] aXT λb3i a7m=>∃ n142,b3i=.returned (aA n142)/\∃ aXV aKb, aB aKb/\Ctx W a7m (aXV++aXU) aKb/\Zr W aXV aKb J (Value.tuple #[aA n142,aA 0]))))))))))) (Br (decide (n24=3)) (Br (decide (n24=3)) (Zc W vR kK F.eV #[.pointer (aK gB gO),aA n17] λb3j q=>∃ n151,b3j=.returned (aA n151)/\q λaLi aXW=>Zr W aLi aXW J (Value.tuple #[aA 0,aA n151])) (Br (decide (n24=5)) (Zc W vR kK F.l8 #[.pointer (aK gB gO),aA n17] λb3k q=>∃ n160,b3k=.returned (aA n160)/\q λa4F ZF=>Zr W a4F ZF J (Value.tuple #[aA 0,aA n160])) (Br (decide (n24=6)) (Zc W vR kK F.j4 #[.pointer (aK gB gO),aA n17] λb3l q=>∃ n169,b3l=.returned (aA n169)/\q λb3m aXX=>Zr W b3m aXX J (Value.tuple #[aA 0,aA n169])) (Br (decide (n24=7)) (Zc W vR kK F.jU #[.pointer (aK gB gO),aA o2] λb3n q=>b3n=.returned (Value.tuple #[])/\q λaNq aDq=>Zr W aNq aDq J (Value.tuple #[aA 0,aA 0])) (Br (decide (n24=8)) (Zc W vR kK F.kY #[.pointer (aK gB gO)] λaRM q=>aRM=.returned (Value.tuple #[])/\q λb3o aXY=>Zr W b3o aXY J (Value.tuple #[aA 0,aA 0])) (Br (decide (n24=9)) (Zc W vR kK F.iC #[.pointer (aK gB gO),aA o1,.slice o4P o4N o4C] λb3p q=>∃ n194,b3p=.returned (aA n194)/\q λb3q aXZ=>Zr W b3q aXZ J (Value.tuple #[aA 0,aA n194])) (Br (decide (n24=10)) (∀ aX0 aX1,Ctx W aX0 (vR++aX1) kK->aD F.iB #[.pointer (aK gB gO),aA o1] aX0 λb3r b3s=>∃ n203,b3r=.returned (aA n203) /\ ∃ aHz a2X,aB a2X/\Ctx W b3s (aHz++aX1) a2X/\Zr W aHz a2X J (Value.tuple #[aA 0,aA n203])) (Br (decide (n24=11)) (Zc W vR kK F.iY #[.pointer (aK gB gO),aA o1,aA o2] λb3t q=>∃ n212,b3t=.returned (aA n212)/\q λb3u aX2=>Zr W b3u aX2 J (Value.tuple #[aA 0,aA n212])) (Br (decide (n24=12)) (Zc W vR kK F.jM #[.pointer (aK gB gO),aA o1,aA o2,.slice o4P o4N o4C] λb3v q=>∃ n221,b3v=.returned (aA n221)/\q λb3w aX3=>Zr W b3w aX3 J (Value.tuple #[aA 0,aA n221])) (∃ aX4 aKc,aB aKc/\Wk W vR kK aX4 aKc/\Zc W vR kK F.iH #[aA o2,aA 100] λb3x q=>∃ n234,b3x=.returned (aA n234)/\q λaHD aOE=>Wk W aHD aOE aX4 aKc/\Zc W aHD aOE F.dV #[.pointer (aK gB gO),aA o1,aA n234] λb3y q=>∃ n243,b3y=.returned (aA n243)/\q λb3z aX5=>Zr W b3z aX5 J (Value.tuple #[aA n243,aA 0]))))))))))) (Br (decide (n24=4)) (Zc W vR kK F.eV #[.pointer (aK gB gO),aA n17] λb3A q=>∃ n252,b3A=.returned (aA n252)/\q λaRN aKa=>Zr W aRN aKa J (Value.tuple #[aA 0,aA n252])) (Br (decide (n24=5)) (Zc W vR kK F.l8 #[.pointer (aK gB gO),aA n17] λb3B q=>∃ n261,b3B=.returned (aA n261)/\q λb3C aX6=>Zr W b3C aX6 J (Value.tuple #[aA 0,aA n261])) (Br (decide (n24=6)) (∀ aX7 aX8,Ctx W aX7 (vR++aX8) kK->aD F.j4 #[.pointer (aK gB gO),aA n17] aX7 λb3D b3E=>∃ n270,b3D=.returned (aA n270)/\∃ aHG aKd,aB aKd /\ Ctx W b3E (aHG++aX8) aKd/\Zr W aHG aKd J (Value.tuple #[aA 0,aA n270])) (Br (decide (n24=7)) (Zc W vR kK F.jU #[.pointer (aK gB gO),aA o2] λb3F q=>b3F=.returned (Value.tuple #[])/\q λb3G aX9=>Zr W b3G aX9 J (Value.tuple #[aA 0,aA 0])) (Br (decide (n24=8)) (Zc W vR kK F.kY #[.pointer (aK gB gO)] λb3H q=>b3H=.returned (Value.tuple #[])/\q λb3I aYa=>Zr W b3I aYa J (Value.tuple #[aA 0,aA 0])) (Br (decide (n24=9)) (∀ aYb aYc, Ctx W aYb (vR++aYc) kK->aD F.iC #[.pointer (aK gB gO),aA o1,.slice o4P o4N o4C] aYb λb3J b3K=>∃ n295,b3J=.returned (aA n295)/\∃ a9U QG,aB QG/\Ctx W b3K (a9U++aYc) QG/\Zr W a9U QG J (Value.tuple #[aA 0,aA n295])) (Br (decide (n24=10)) (Zc W vR kK F.iB #[.pointer (aK gB gO),aA o1] λb3L q=>∃ n304,b3L=.returned (aA n304)/\q λb3M aYd=>Zr W b3M aYd J (Value.tuple #[aA 0,aA n304])) (Br (decide (n24=11)) (Zc W vR kK F.iY #[.pointer (aK gB gO),aA o1,aA o2] λb3N q=>∃ n313,b3N=.returned (aA n313)/\q λb3O aYe=>Zr W b3O aYe J (Value.tuple #[aA 0,aA n313])) (Br (decide (n24=12)) (Zc W vR kK F.jM #[.pointer (aK gB gO),aA o1,aA o2,.slice o4P o4N o4C] λb3P q=>∃ n322,b3P=.returned (aA n322)/\q λb3Q aYf=>Zr W b3Q aYf J (Value.tuple #[aA 0,aA n322])) (∃ aYg aKe,aB aKe/\Wk W vR kK aYg aKe/\Zc W vR kK F.iH #[aA o2,aA 100] λb3R q=>∃ n335,b3R=.returned (aA n335)/\q λaYh aOF=>Wk W aYh aOF aYg aKe/\Zc W aYh aOF F.dV #[.pointer (aK gB gO),aA o1,aA n335] λb3S q=>∃ n344,b3S=.returned (aA n344)/\q λb3T aYi=>Zr W b3T aYi J (Value.tuple #[aA n344,aA 0]))))))))))))))
theorem M9(gB gO o0 o1 o2 o3 o4P o4N o4C):bG F.sD #[.pointer (aK gB gO),.agg #[.int .i64 o0,.int .i64 o1,.int .i64 o2,.string o3,.slice o4P o4N o4C]] (XQ gB gO o0 o1 o2 o3 o4P o4N o4C):=bJ { keep:=some [0,3,4,5,6,14,22,28,38,45,50,55,61,65,73,79,87],gM:=[3],eP:=[(1,[.held [(0,true),(2,true),(1,true),(3,false)],.bF [] (some 4),.bF [5] none]),(3,[.held [(0,true),(1,true),(3,true),(2,true),(4,true),(5,false)],.bF [] (some 6),.bF [7,8] none])] } λ_ _ _ _=>by kernel_rfl
def VF(n:Int)(m:Int):aR:=λW R Φ J=>
 Br (decide (m<1)) (Zr W R Φ J (aA 0)) ((m=0->False)/\Br (decide (n.tmod m<0)) (aY (n.tmod m+m)/\Zr W R Φ J (aA (n.tmod m+m))) (Zr W R Φ J (aA (n.tmod m))))
theorem K7(n m):bG F.iH #[.int .i64 n,.int .i64 m] (VF n m):=bJ { keep:=some [0,1,4,6,11] } λ_ _ _ _=>by kernel_rfl
end Go.Proofs.YtnlkemjhgdbfkaaGreatDoor
end

section
namespace Go.Proofs.YtnlkemjhgdbfkaaGreatDoor
open Go.Vc
instance:Gv OpG:=Gv.via (β:=Int × Int × Int × ByteArray × List Int) (λx=>(x.kind,x.id,x.n,x.data,x.keep)) (λy=>⟨y.1,y.2.1,y.2.2.1,y.2.2.2.1,y.2.2.2.2⟩) (λ_=>rfl)
abbrev OpG.cells(x:OpG)(p:Option Addr)(c:Nat):List Value:=[.int .i64 x.kind,.int .i64 x.id,.int .i64 x.n,.string x.data,.slice p x.keep.length c]
structure OpG.Ok(x:OpG):Prop where
 kind:aY x.kind
 id:aY x.id
 n:aY x.n
theorem a4i{M w cs}{x:OpG}(h:Gv.rep M w cs x):∃ p c,cs=x.cells p c/\x.Ok/\x.keep.length<=9223372036854775807/\Sl M w p x.keep:=by
 obtain ⟨c1,c2,rfl,⟨rfl,h1⟩,h2⟩:=h;obtain ⟨c3,c4,rfl,⟨rfl,h3⟩,h4⟩:=h2;obtain ⟨c5,c6,rfl,⟨rfl,h5⟩,h6⟩:=h4;obtain ⟨c7,c8,rfl,⟨rfl,h7⟩,h8⟩:=h6;obtain ⟨q,e,rfl,g4,g5,g6⟩:=a6t.1 h8;unfold maxLen at g5;have g4:x.keep.length<=e:=g4;exact ⟨q,e,rfl,⟨h1,h3,h5⟩,by omega,g6⟩
def aBV(l:List OpG)(n:Int):Bool:=decide (∀ x∈l,x.data.size<=50/\x.keep.length<=20)&&decide ((l.length:Int)<=n)
theorem aKf{l n}(h:aBV l n=true):(∀ x∈l,x.data.size<=50/\x.keep.length<=20)/\(l.length:Int)<=n:=by
 unfold aBV at h;rw [Bool.and_eq_true] at h;exact ⟨eR h.1,eR h.2⟩
theorem aDr{M w b o cs}{l:List OpG}(h:Pin b o cs l M w){j}(hj:j<l.length):∃ p c,cs.getD j []=l[j].cells p c/\l[j].Ok/\l[j].keep.length<=9223372036854775807:=by
 obtain ⟨p,c,h1,h2,h3,_⟩:=a4i (h j hj).2.2;exact ⟨p,c,h1,h2,h3⟩
theorem aDs{M w b o cs}{l:List OpG}(h:Pin b o cs l M w){j}(hj:j<l.length){p c}(he:cs.getD j []=l[j].cells p c):bM w b (o+j*5) (l[j].cells p c):=by
 have:=(h j hj).2.1;rw [he] at this;exact this
theorem aRP{M w b o cs}{l:List OpG}(h:Pin b o cs l M w){j}(hj:j<l.length){p c}(he:cs.getD j []=l[j].cells p c):Sl M w p l[j].keep:=by
 have:=(h j hj).2.2;rw [he] at this;obtain ⟨p',c',h1,_,_,h2⟩:=a4i this;simp only [OpG.cells,List.cons.injEq,Value.slice.injEq,and_true,true_and] at h1;rw [h1.1];exact h2
theorem a82{w b o}{x:OpG}{p c}(h:bM w b o (x.cells p c)){i v}(hv:(x.cells p c)[i]? = some v):w.cell? ⟨b,o+i,none⟩=some v:=by
 obtain ⟨hi,he⟩:=List.getElem?_eq_some_iff.1 hv;rw [h i hi,he]
section
variable {W w:World}{S R Y:List Own}{Φ:PW}
theorem aNr[aB Φ]{p cap l n b o cs}(hp:0<l.length->p=some ⟨b,o,none⟩)(nS:∀ M w,Φ M w->Pin b o cs l M w)(hlen:l.length<=9223372036854775807):cS Φ prog F.wH #[.slice p l.length cap,.int .i64 n] (.bool (aBV l n)):=by
 refine j7 (K6 p l.length cap n) λW R=>?_;refine dN (λnI R' aU k=>∃ i:Nat,nI=i/\i+k=l.length/\R'=R/\aU=Φ/\∀ x∈l.take i,x.data.size<=50/\x.keep.length<=20) ⟨⟨_,Φ,l.length,aM,λw G cx=>cx,0,rfl,by omega,rfl,rfl,by simp⟩,?_⟩;rintro nI R1 Φ k _ ⟨i,rfl,hik,rfl,rfl,hall⟩;refine Br.intro (λhlt=>λw G cx=>?_) (λhge=>λw G cx=>⟨?_,cx.left⟩)
 .have hlt:i<l.length:=by have:=eR hlt;omega
  obtain ⟨k,rfl⟩:∃ m,k=m+1:=⟨k - 1,by omega⟩;have hp:=hp (by omega);have bad:(¬ (l[i].data.size<=50/\l[i].keep.length<=20))->aBV l n=false:=λh=>by
   unfold aBV;rw [decide_eq_false λh2=>h (h2 _ (List.getElem_mem hlt))];rfl
  obtain ⟨q,qc,he,_,_⟩:=aDr (nS _ _ cx.uX) hlt;have row:=aDs (nS _ _ cx.uX) hlt he;refine ⟨⟨by omega,by omega⟩,aW b o hp ⟨l[i].data,by rw [Int.toNat_natCast];exact a82 (i:=3) row rfl,λ_=>⟨by omega,by omega⟩,aW b o hp ⟨q,l[i].keep.length,qc,λ_=>by rw [Int.toNat_natCast];exact a82 (i:=4) row rfl,Br.intro (λaYj=>λw G cx=>⟨?_,cx.left⟩) (λhok=>⟨by unfold aY;omega,_,Φ,k,aM,λw G cx=>cx,⟨i+1,by omega,by omega,rfl,rfl,λx hx=>?_⟩,Nat.lt_succ_self _⟩)⟩⟩⟩
  .rw [bad λh=>by
    rw [Bool.or_eq_true] at aYj;rcases aYj with h1|h1
    .have:=eR h1;omega
    .have:=eR h1;omega]
  .rw [List.take_succ_eq_append_getElem hlt] at hx;rw [Bool.or_eq_false_iff] at hok;have h1:=dD hok.1;have h2:=dD hok.2;rcases List.mem_append.1 hx with hx|hx
   .exact hall x hx
   .rw [List.mem_singleton.1 hx];exact ⟨by omega,by omega⟩
 .have hge:i=l.length:=by have:=dD hge;omega
  subst hge;rw [List.take_length] at hall;unfold aBV;rw [decide_eq_true hall,Bool.true_and]
theorem aBW[aB Φ]{n m}(hm:aY m):cS Φ prog F.iH #[.int .i64 n,.int .i64 m] (.int .i64 (lR n m)):=by
 refine j7 (K7 n m) λW R=>Br.intro (λh=>λw G cx=>⟨?_,cx.left⟩) (λh=>⟨λh0=>?_,Br.intro (λh2=>⟨?_,λw G cx=>⟨?_,cx.left⟩⟩) (λh2=>λw G cx=>⟨?_,cx.left⟩)⟩)
 .have h:=eR h;unfold lR;rw [if_pos h]
 .have h:=dD h;omega
 .have h:=dD h;have h2:=eR h2;have hp:=UZ (n:=n) (m:=m) (by omega);rw [if_pos h2] at hp;have h3:=Int.emod_nonneg n (show m≠0 by omega);have h4:=Int.emod_lt_of_pos n (show 0<m by omega);rw [hp];unfold aY at hm ⊢;have e:n % m=n.emod m:=rfl;omega
 .have h:=dD h;have h2:=eR h2;have hp:=UZ (n:=n) (m:=m) (by omega);rw [if_pos h2] at hp;unfold lR;rw [if_neg h,hp]
 .have h:=dD h;have h2:=dD h2;have hp:=UZ (n:=n) (m:=m) (by omega);rw [if_neg h2] at hp;unfold lR;rw [if_neg h,hp]
theorem aRQ:tI prog 216=true:=by kernel_rfl
theorem K8[aB Φ](p q cap cap2)(a b:List bT)(nS:∀ M w,Φ M w->Sl M w p a)(XT:∀ M w,Φ M w->Sl M w q b)(hlen:a.length<=1000000):
  cS Φ prog F.eH #[.slice p a.length cap,.slice q b.length cap2] (.bool (decide (a=b))):=by
 refine .there (λM w h=>(nS M w h).there) λhth=>.there (λM w h=>(XT M w h).there) λb3U=>?_;refine j7 (zU p a.length cap q b.length cap2) λW R=>?_;refine Br.intro (λh=>λw G cx=>⟨?_,cx.left⟩) (λh=>?_)
 .rw [decide_eq_false];intro e;have:=eR h;rw [e] at this;exact this rfl
 have hl:a.length=b.length:=by have:=dD h;omega
 refine dN (λiI R' aU k=>∃ i:Nat,iI=i/\i<=a.length/\R'=R/\aU=Φ/\k=a.length - i/\a.take i=b.take i) ⟨⟨R,Φ,_,aM,λw F c=>c,0,rfl,Nat.zero_le _,rfl,rfl,rfl,rfl⟩,?_⟩;rintro iI R1 cF k _ ⟨i,rfl,hi,rfl,rfl,rfl,hs⟩;refine Br.intro (λhlt=>λw G cx=>?_) (λhge=>λw F cx=>⟨?_,cx.left⟩)
 .have hlt:i<a.length:=by simpa using hlt
  have aYk:i<b.length:=by omega
  obtain ⟨b1,o1,rfl⟩:=hth (by omega);obtain ⟨b2,o2,rfl⟩:=b3U (by omega);refine ⟨by omega,aW b1 o1 rfl ⟨a[i].term,a[i].data,by rw [Int.toNat_natCast];exact OC (nS _ _ cx.uX) hlt,by omega,aW b2 o2 rfl ⟨b[i].term,b[i].data,by rw [Int.toNat_natCast];exact OC (XT _ _ cx.uX) aYk,aRQ,Br.intro (λh=>λw G cx=>⟨?_,cx.left⟩) (λh=>⟨by unfold aY;omega,R1,cF,a.length - (i+1),aM,λw F c=>c,⟨i+1,rfl,hlt,rfl,rfl,rfl,?_⟩,by omega⟩)⟩⟩⟩
  .rw [decide_eq_false];intro e;subst e;simp at h
  .have he:a[i]=b[i]:=by
    simp only [Bool.not_eq_false',Bool.and_true,Bool.and_eq_true,decide_eq_true_eq] at h;exact aCE.2 h
   rw [List.take_succ_eq_append_getElem hlt,List.take_succ_eq_append_getElem aYk,hs,he]
 .have hge:i=a.length:=Nat.le_antisymm hi (by simpa using hge);rw [decide_eq_true];rw [hge,List.take_length,hl,List.take_length] at hs;exact hs
end
section
variable {W w:World}{S:List Own}{Φ:PW}{L:GX}{G:gG}{N D:Nat}{B:Int}{C:Cl}{g:Gh}{A:Int->Nat->Nat}
theorem GI.sets(h:GI N B D G C g A)(wE:N*(D+90)<=1048576)(hD:D<=2000)[aB Φ](hJ:JI Φ)(hF:mA Φ L G){id most}(hm:aY most)(cx:Ctx W w (cR L G++S) Φ){K}(hk:∀ L' w',L'.gb=L.gb->mA Φ L' (cJ G id most).1->Ctx W w' (cR L' (cJ G id most).1++S) Φ->K (.returned (.int .i64 ((cJ G id most).2:Int))) w'):
  aD F.dV #[.pointer (some ⟨L.gb,0,none⟩),.int .i64 id,.int .i64 most] w K:=by
 refine a8L hJ.off hJ.num hF h.rM hm (λu hid hu=>h.a8Q wE hid hu) (λG'=>∃ C' g' A',GI N (B+1) D G' C' g' A') (λG' ⟨C',g',A',h'⟩=>⟨h'.rM,λp hp=>h'.pkt wE hD hp⟩) (λG' ⟨C',g',A',h'⟩=>(h'.vH wE 0).gi) (h.tick wE id).gi cx λL' w hgb hg cx=>hk L' w hgb (hg Φ hF) cx
set_option maxHeartbeats 1000000 in
theorem aRR[aB Φ](hJ:JI Φ)(hF:mA Φ L G)(h:GI N B D G C g A)(wE:(N+1)*(D+90)<=1048576)(hD:D<=2000){o}(ho:o.Ok)(hd:o.data.size<=D)(aRS:o.keep.length<=1000000){p c}(mF:∀ M w,Φ M w->Sl M w p o.keep)(cx:Ctx W w (cR L G++S) Φ){K}(hk:∀ L' Ψ w',L'.gb=L.gb->aB Ψ->(∀ M w,Ψ M w->Φ M w)->mA Ψ L' (opG G o).1->Ctx W w' (cR L' (opG G o).1++S) Ψ->K (.returned (.tuple #[.int .i64 (opG G o).2.1,.int .i64 (opG G o).2.2])) w'):
  aD F.sD #[.pointer (some ⟨L.gb,0,none⟩),.agg #[.int .i64 o.kind,.int .i64 o.id,.int .i64 o.n,.string o.data,.slice p o.keep.length c]] w K:=by
 have aBF:N*(D+90)<=1048576:=Nat.le_trans (Nat.mul_le_mul_right _ (Nat.le_succ N)) wE;have aBX:=hF.V2;refine gC (M9 L.gb 0 o.kind o.id o.n o.data p o.keep.length c (J:=K∘.returned) cx λb=>⟨[],XN,aM,λw Y cx=>cQ cx (List.nil_sublist _),λw Y cx=>?_⟩);rw [aX] at cx;refine T4 cx λw cx=>⟨_,rfl,cR L G++S,Φ,aM,by rw [aX];exact cx,λw Y cx=>cQ cx (List.nil_sublist _),λw Y cx=>(aBW (by unfold aY;omega)).use cx λw cx=>⟨_,rfl,cR L G++S,Φ,aM,cx,λw Y cx=>(aBW (by unfold aY;omega)).use cx λw cx=>⟨_,rfl,cR L G++S,Φ,aM,cx,?_⟩⟩⟩
 have eo:opG G o=opK G o (lR o.n G.dL.aH.length) (lR o.kind 14):=rfl;rw [eo] at hk;clear eo cx;generalize lR o.n (G.dL.aH.length:Int)=i at hk ⊢;generalize lR o.kind 14=k at hk ⊢;unfold opK at hk;refine Br.intro (λh0=>λw Y cx=>?_) (λh0=>Br.intro (λh1=>λw Y cx=>?_) (λh1=>?_))
 .rw [if_pos (eR h0)] at hk;rw [aX] at cx;refine a39 hJ.off hJ.tab hF h.rM (λu hid hu=>h.a8Q aBF hid hu) cx λL' w hgb hg cx=>⟨_,rfl,cR L' (x4 G o.id).1++S,Φ,aM,by rw [aX];exact cx,λw Y cx=>hk L' Φ w hgb aM (λ_ _ h=>h) (hg Φ hF) cx.left⟩
 .rw [if_neg (dD h0),if_pos (eR h1)] at hk;rw [aX] at cx;refine F9 hJ.off hJ.tab hF h.rM (λu hid hu=>h.a1s wE hd hid hu) (λu hne=>VB hne) cx λL' w hgb hg cx=>⟨_,_,rfl,cR L' (dF G o.id o.data).1++S,Φ,aM,by rw [aX];exact cx,λw Y cx=>hk L' Φ w hgb aM (λ_ _ h=>h) (hg Φ hF) cx.left⟩
 rw [if_neg (dD h0),if_neg (dD h1)] at hk;have del:(k=2\/k=3\/k=4)->∀ (w:World) (Y:List Own),Ctx W w ((cR L G++S)++Y) Φ->aD F.eV #[.pointer (some ⟨L.gb,0,none⟩),.int .i64 i] w λe w'=>∃ n,e=.returned (.int .i64 n)/\∃ R' aU,aB aU/\Ctx W w' (R'++Y) aU/\∀ (w3:World) (R:List Own),Ctx W w3 (R'++R) aU->K (.returned (.tuple #[.int .i64 0,.int .i64 n])) w3:=λh2 w Y cx=>by
  rw [if_pos h2] at hk;rw [aX] at cx;exact T3 hJ.off hJ.num hF h.rM (λp hp=>h.pkt aBF hD hp) cx λL' w hgb hg cx=>⟨_,rfl,cR L' (eT G i).1++S,Φ,aM,by rw [aX];exact cx,λw Y cx=>hk L' Φ w hgb aM (λ_ _ h=>h) (hg Φ hF) cx.left⟩
 refine Br.intro (λh2=>Br.intro (λ_=>del (.inl (eR h2))) (λh=>absurd (eR h2) (dD h))) (λh2=>Br.intro (λh3=>Br.intro (λ_=>del (.inr (.inl (eR h3)))) (λh=>absurd (eR h3) (dD h))) (λh3=>Br.intro (λh4=>del (.inr (.inr (eR h4)))) (λh4=>?_)));have n2:¬ (k=2\/k=3\/k=4):=by
  have:=dD h2;have:=dD h3;have:=dD h4;omega
 rw [if_neg n2] at hk;refine Br.intro (λh5=>λw Y cx=>?_) (λh5=>Br.intro (λh6=>λw Y cx=>?_) (λh6=>Br.intro (λh7=>λw Y cx=>?_) (λh7=>Br.intro (λh8=>λw Y cx=>?_) (λh8=>Br.intro (λh9=>λw Y cx=>?_) (λh9=>Br.intro (λh10=>λw Y cx=>?_) (λh10=>Br.intro (λh11=>λw Y cx=>?_) (λh11=>Br.intro (λh12=>λw Y cx=>?_) (λh12=>?_))))))))
 .rw [if_pos (eR h5)] at hk;rw [aX] at cx;exact aFt hF cx λw hg cx=>⟨_,rfl,cR L (x5 G i).1++S,Φ,aM,by rw [aX];exact cx,λw Y cx=>hk L Φ w rfl aM (λ_ _ h=>h) (hg Φ hF) cx.left⟩
 .rw [if_neg (dD h5),if_pos (eR h6)] at hk;rw [aX] at cx;exact a8N hF cx λL' w hgb hg cx=>⟨_,rfl,cR L' (kW G i).1++S,Φ,aM,by rw [aX];exact cx,λw Y cx=>hk L' Φ w hgb aM (λ_ _ h=>h) (hg Φ hF) cx.left⟩
 .rw [if_neg (dD h5),if_neg (dD h6),if_pos (eR h7)] at hk;rw [aX] at cx;exact aBH cx λw hg cx=>⟨rfl,cR L (UP G o.n)++S,Φ,aM,by rw [aX];exact cx,λw Y cx=>hk L Φ w rfl aM (λ_ _ h=>h) (hg Φ hF) cx.left⟩
 .rw [if_neg (dD h5),if_neg (dD h6),if_neg (dD h7),if_pos (eR h8)] at hk;rw [aX] at cx;exact aFu cx λw hg cx=>⟨rfl,cR L (a3D G)++S,Φ,aM,by rw [aX];exact cx,λw Y cx=>hk L Φ w rfl aM (λ_ _ h=>h) (hg Φ hF) cx.left⟩
 .rw [if_neg (dD h5),if_neg (dD h6),if_neg (dD h7),if_neg (dD h8),if_pos (eR h9)] at hk;rw [aX] at cx;exact a1m hF h.rM aRS mF cx λL' Ψ w hgb hst hw hg cx=>⟨_,rfl,cR L' (mM G o.id o.keep).1++S,Ψ,hst,by rw [aX];exact cx,λw Y cx=>by haveI:=hst;exact hk L' Ψ w hgb hst hw hg cx.left⟩
 .rw [if_neg (dD h5),if_neg (dD h6),if_neg (dD h7),if_neg (dD h8),if_neg (dD h9),if_pos (eR h10)] at hk;rw [aX] at cx;exact a1n hJ.off hJ.num hF h.rM (λi hi=>h.sta hi) cx λL' Ψ w hgb hst hw hg cx=>⟨_,rfl,cR L' (kP G o.id).1++S,Ψ,hst,by rw [aX];exact cx,λw Y cx=>by haveI:=hst;exact hk L' Ψ w hgb hst hw hg cx.left⟩
 .rw [if_neg (dD h5),if_neg (dD h6),if_neg (dD h7),if_neg (dD h8),if_neg (dD h9),if_neg (dD h10),if_pos (eR h11)] at hk;rw [aX] at cx;exact a4b hF h.rM ho.n cx λL' Ψ w hgb hst hw hg cx=>⟨_,rfl,cR L' (gV G o.id o.n).1++S,Ψ,hst,by rw [aX];exact cx,λw Y cx=>by haveI:=hst;exact hk L' Ψ w hgb hst hw hg cx.left⟩
 .rw [if_neg (dD h5),if_neg (dD h6),if_neg (dD h7),if_neg (dD h8),if_neg (dD h9),if_neg (dD h10),if_neg (dD h11),if_pos (eR h12)] at hk;rw [aX] at cx;exact a8I hF h.rM ho.n aRS mF cx λL' Ψ w hgb hst hw hg cx=>⟨_,rfl,cR L' (M5 G o.id o.n o.keep).1++S,Ψ,hst,by rw [aX];exact cx,λw Y cx=>by haveI:=hst;exact hk L' Ψ w hgb hst hw hg cx.left⟩
 .rw [if_neg (dD h5),if_neg (dD h6),if_neg (dD h7),if_neg (dD h8),if_neg (dD h9),if_neg (dD h10),if_neg (dD h11),if_neg (dD h12)] at hk;refine ⟨[],XN,aM,λw Y cx=>cQ cx (List.nil_sublist _),λw Y cx=>(aBW (by unfold aY;omega)).use cx λw cx=>⟨_,rfl,cR L G++S,Φ,aM,cx,λw Y cx=>cQ cx (List.nil_sublist _),λw Y cx=>?_⟩⟩;have hp:=aJg (n:=o.n) (m:=100) (by decide);rw [aX] at cx;exact h.sets aBF hD hJ hF (by unfold aY;omega) cx λL' w hgb hg cx=>⟨_,rfl,cR L' (cJ G o.id (lR o.n 100)).1++S,Φ,aM,by rw [aX];exact cx,λw Y cx=>hk L' Φ w hgb aM (λ_ _ h=>h) hg cx.left⟩
end
section
variable {r:dY}{m:bQ}
end
theorem aKg{D}:∃ P,iD 0 0 D MS P/\(∀ j,P.r j=dU j 0 (-1) [])/\P.fl=[]/\P.sp=0:=by
 obtain ⟨P,f1,f2,f3⟩:=GI.A9 (D:=D) aJO (λi _=>by
  obtain ⟨u,h1,_⟩:=B7 i;exact ⟨u,h1⟩) (λi _=>(B7 i).choose_spec.2.2.2)
 refine ⟨P,f1,λj=>f2 j,?_,f3⟩;have:=f1.dL;have h:P.fl.map DK=[]:=this.symm;exact List.map_eq_nil_iff.1 h
section
variable {sp:Int}{a o c:Nat}
end
def pg0:P3:=⟨λj=>dU j 0 (-1) [],[],0,[]⟩
abbrev sA:ByteArray:=ByteArray.mk #[97]
abbrev sB:ByteArray:=ByteArray.mk #[98]
def pg1:P3 × Nat:=a8U pg0 1 99
def pg2:P3:=aBQ pg1.1 1 sA
def pg3:P3 × Nat:=a8U pg2 1 99
theorem a83:pg1.2=8/\(pg1.1.r 1).role=2/\(pg1.1.r 0).term=1/\(aL (pg1.1.r 1) sA).2.1=1/\(aL (pg1.1.r 1) sA).2.2.1=0/\pg3.2=8/\(pg3.1.r 0).role≠2/\pg3.1.fE.length=1/\(pg3.1.fE.map ByteArray.size)=[1]/\(pg3.1.fE.map λs=>s.data.toList)=[[97]]:=by decide +kernel
theorem aKh{D}:iD 0 0 D MS pg0:=by
 obtain ⟨P,f,h1,h2,h3⟩:=aKg (D:=D);have hc:=f.fE;obtain ⟨r,fl,sp,fE⟩:=P;have h2:fl=[]:=h2;have h3:sp=0:=h3;have hc:[]=fE:=hc;have h1:r=λj=>dU j 0 (-1) []:=funext h1;rw [h1,h2,h3,<-hc] at f;exact f
theorem aNu:pg3.1.fE=[sA]:=by
 have h:=a83.2.2.2.2.2.2.2.2.2;generalize pg3.1.fE=l at h;cases l with
 | nil=>cases h
 | cons a l =>
  cases l with
  | nil =>
   simp only [List.map_cons,List.map_nil,List.cons.injEq,and_true] at h;have:a=sA:=ByteArray.ext (Array.toList_inj.1 h);rw [this]
  | cons b l=>simp at h
theorem aFH{G:gG}{i}(hi:i<3){u}(hu:(G.mem i).up=some u)(hr:u.r.role≠2)(data):dF G i data=(G,0,24):=by
 unfold dF;rw [if_neg (by omega),toN,hu];simp only;rw [xN hr,if_pos (show (24:Int)≠0 by decide)]
section
variable {W w:World}{S:List Own}{Φ:PW}{L:GX}{G:gG}{N D:Nat}{B:Int}{P:P3}
theorem iD.gi(h:iD N B D G P):∃ C g A,GI N B D G C g A:=by
 obtain ⟨C,g,A,h,_⟩:=h;exact ⟨C,g,A,h⟩
theorem aFI[aB Φ](hJ:JI Φ):cS Φ prog F.rZ #[] (.bool true):=by
 obtain ⟨e1,e2,e3,e4,e5,e6,e7,_,_,_⟩:=a83;have f0:iD 0 0 1 MS pg0:=aKh;obtain ⟨C0,g0,A0,h0⟩:=f0.gi;obtain ⟨f1,c1⟩:=f0.settle (i:=1) (by decide) (by decide) 99;have f1:iD 0 1 1 (cJ MS 1 99).1 pg1.1:=f1;obtain ⟨C1,g1,A1,h1⟩:=f1.gi;obtain ⟨f2,c2⟩:=f1.SX (i:=1) (data:=sA) (by decide) (by decide) (by decide) e5;have f2:iD 1 1 1 (dF (cJ MS 1 99).1 1 sA).1 pg2:=f2;obtain ⟨C2,g2,A2,h2⟩:=f2.gi;obtain ⟨f3,c3⟩:=f2.settle (i:=1) (by decide) (by decide) 99
 have f3:iD 1 2 1 (cJ (dF (cJ MS 1 99).1 1 sA).1 1 99).1 pg3.1:=f3;obtain ⟨C3,g3,A3,h3⟩:=f3.gi;have n1:((cJ MS 1 99).2:Int)=8:=by
  have:(cJ MS 1 99).2=pg1.2:=c1;rw [this,e1];rfl
 have n3:((cJ (dF (cJ MS 1 99).1 1 sA).1 1 99).2:Int)=8:=by
  have:(cJ (dF (cJ MS 1 99).1 1 sA).1 1 99).2=pg3.2:=c3;rw [this,e6];rfl
 have r1:MQ (cJ MS 1 99).1 1=2:=by
  have:=(f1.role (i:=1) (by decide)).1;exact this.trans e2
 have t1:WE (cJ MS 1 99).1 0=1:=by
  have:=(f1.role (i:=0) (by decide)).2.1;exact this.trans e3
 have p1:(dF (cJ MS 1 99).1 1 sA).2=(1,0):=by
  have c2:(dF (cJ MS 1 99).1 1 sA).2=((aL (pg1.1.r 1) sA).2.1,0):=c2;rw [c2,e4]
 have p4:dF (cJ (dF (cJ MS 1 99).1 1 sA).1 1 99).1 0 sB=((cJ (dF (cJ MS 1 99).1 1 sA).1 1 99).1,0,24):=by
  obtain ⟨u,hu,hr,_⟩:=f3.upS (i:=0) (by decide);exact aFH (i:=0) (by decide) hu (by rw [hr];exact e7) sB
 have k3:(cJ (dF (cJ MS 1 99).1 1 sA).1 1 99).1.fE=[sA]:=by rw [f3.fE,aNu]
 refine j7 FB λW R=>λw Y cx=>?_;refine a8S (S:=R++Y) hJ.off hJ.num cx λL0 Ψ w hst hw hF cx=>?_
 haveI:=hst
 have hJ1:JI Ψ:=hJ.weak hw;refine ⟨_,rfl,cR L0 MS++R,Ψ,hst,by rw [aX];exact cx,Br.intro (λh=>by cases h) (λ_=>λw Y cx=>?_)⟩;rw [aX] at cx;refine h0.sets (by decide) (by decide) hJ1 hF (by unfold aY;decide) cx λL1 w aRt hF1 cx=>⟨_,rfl,cR L1 (cJ MS 1 99).1++R,Ψ,hst,by rw [aX];exact cx,λw Y cx=>?_⟩;rw [n1,<-aRt];rw [aX] at cx;generalize cJ MS 1 99=s1 at *;refine a4c cx λw cx=>⟨_,rfl,cR L1 s1.1++R,Ψ,hst,by rw [aX];exact cx,Br.intro (λ_=>λw Y cx=>?_) (λh=>absurd r1 (dD h))⟩
 rw [aX] at cx;refine aFw cx λw cx=>⟨_,rfl,cR L1 s1.1++R,Ψ,hst,by rw [aX];exact cx,λw Y cx=>?_⟩;rw [t1];rw [aX] at cx;refine F9 hJ1.off hJ1.tab hF1 h1.rM (λu hid hu=>h1.a1s (by decide) (by decide) hid hu) (λu hne=>VB hne) cx λL2 w aBI hg cx=>⟨_,_,rfl,cR L2 (dF s1.1 1 sA).1++R,Ψ,hst,by rw [aX];exact cx,λw Y cx=>?_⟩;rw [p1,<-aBI];have hF2:=hg Ψ hF1;rw [aX] at cx;generalize dF s1.1 1 sA=s2 at *;refine h2.sets (by decide) (by decide) hJ1 hF2 (by unfold aY;decide) cx λL3 w aRT hF3 cx=>⟨_,rfl,cR L3 (cJ s2.1 1 99).1++R,Ψ,hst,by rw [aX];exact cx,λw Y cx=>?_⟩
 rw [n3,<-aRT];rw [aX] at cx;generalize cJ s2.1 1 99=s3 at *;refine F9 hJ1.off hJ1.tab hF3 h3.rM (λu hid hu=>h3.a1s (by decide) (by decide) hid hu) (λu hne=>VB hne) cx λL4 w b3W hg cx=>?_;rw [p4] at hg cx ⊢;have hF4:=hg Ψ hF3;refine ⟨_,_,rfl,cR L4 s3.1++R,Ψ,hst,by rw [aX];exact cx,?_⟩;refine Br.intro (λ_=>Br.intro (λ_=>Br.intro (λ_=>Br.intro (λ_=>Br.intro (λ_=>Br.intro (λ_=>λw Y cx=>?_) (λh=>absurd rfl (dD h))) (λh=>absurd rfl (dD h))) (λh=>absurd rfl (dD h))) (λh=>absurd rfl (dD h))) (λh=>absurd rfl (dD h))) (λh=>absurd rfl (dD h))
 rw [aX,<-b3W] at *;refine zE (λs hs=>by rw [k3] at hs;rw [List.mem_singleton.1 hs];decide) (by rw [k3];decide) cx λp c w hc cx=>?_;rw [k3] at hc cx ⊢;refine ⟨_,_,_,rfl,cR L4 s3.1++R,_,cE Ψ (λM w=>Sl M w p [sA]),by rw [aX];exact cx,λk w Y cx=>?_⟩;obtain ⟨CD,hs⟩:=Ctx.D5 (α:=ByteArray) (l:=[sA]) cx (z6 (l:=[sA]) λx hx=>by rw [List.mem_singleton.1 hx];decide);have Y0:=CD.add (Ψ:=λM w=>Sl M w (some ⟨k,0,none⟩) [sA]) hs
 have hsame:cS (λM w=>(Ψ M w/\Sl M w p [sA])/\Sl M w (some ⟨k,0,none⟩) [sA]) prog F.gP #[.slice p 1 c,.slice (some ⟨k,0,none⟩) 1 1] (.bool (decide ([sA]=[sA]))):=aC1 (a:=[sA]) (b:=[sA]) (λM w h=>h.1.2) (λM w h=>h.2) (by decide);refine hsame.use Y0 λw cx=>⟨_,rfl,cR L4 s3.1++R,_,aM,cx,λw Y cx=>⟨?_,?_⟩⟩
 .rw [decide_eq_true rfl]
 .exact (Ctx.right (S:=cR L4 s3.1) cx.left).weak λM w h=>hw M w h.1.1
end
section
variable {W w:World}{S R Y:List Own}{Φ:PW}
set_option maxHeartbeats 1000000 in
theorem aKi[aB Φ](hJ:JI Φ){lp}{l:List OpG}{b o cs}(hlp:0<l.length->lp=some ⟨b,o,none⟩)(a7s:∀ M w,Φ M w->Pin b o cs l M w)(aBX:∀ x∈l,x.data.size<=50/\x.keep.length<=20)(hll:l.length<=60){L0}{Ψ:PW}[aB Ψ](hw0:∀ M w,Ψ M w->Φ M w)(hF0:mA Ψ L0 MS){aYm:List Own->PW->Prop}(hk:∀ (L:GX) (G:gG) (C:Cl) (g:Gh) (A:Int->Nat->Nat) (aU:PW),aB aU->L.gb=L0.gb->(∀ M w,aU M w->Φ M w)->mA aU L G->GI l.length l.length 50 G C g A->On G->cG G<=3*l.length->aYm (cR L G++R) aU):
  zG λ(I24:Int->List Own->PW->Nat->Prop)=>(∃ (vR:List Own),∃ (kK:PW),∃ (k27:Nat),aB kK/\(∀ (w28:World) (TB:List Own),Ctx W w28 ((cR L0 MS++R)++TB) Ψ->Ctx W w28 (vR++TB) kK)/\I24 0 vR kK k27)/\∀ (n30:Int) (ZI:List Own)
   (I32:List Nat->World->Prop) (k33:Nat),aB I32->I24 n30 ZI I32 k33->Br (decide (n30<((l.length:Nat):Int))) ((0<=n30/\n30<((l.length:Nat):Int))/\vJ none lp λ(k34 k35:Nat)=>∀ (w36:World) (R37:List Own),Ctx W w36 (ZI++R37) I32->∃ (n38:Int),∃ (n39:Int),∃ (n40:Int),∃ (s41:ByteArray),∃ (p42:Option Addr),∃ (k43:Nat),∃ (k44:Nat),bM w36 k34
    (k35+n30.toNat*5) [Value.int IntKind.i64 n38,Value.int IntKind.i64 n39,Value.int IntKind.i64 n40,Value.string s41,Value.slice p42 k43 k44]/\∀ (w45:World) (XV:List Own),Ctx W
    w45 (ZI++XV) I32->aD F.sD #[Value.pointer (some ⟨L0.gb,0,none⟩),Value.agg #[Value.int IntKind.i64 n38,Value.int IntKind.i64 n39,Value.int IntKind.i64 n40,Value.string s41,
    Value.slice p42 k43 k44]] w45 λ(e47:Ending) (w48:World)=>∃ (n49:Int),∃ (n50:Int),e47=Ending.returned (Value.tuple #[Value.int IntKind.i64 n49,Value.int IntKind.i64 n50]) /\
    ∃ (QH:List Own),∃ (yG:PW),aB yG/\Ctx W w48 (QH++XV) yG/\aY (n30+1)/\∃ (W5:List Own),∃ (pE:PW),∃ (k55:Nat),aB pE/\(∀ (w56:World) (R57:List Own),
    Ctx W w56 (QH++R57) yG->Ctx W w56 (W5++R57) pE)/\I24 (n30+1) W5 pE k55/\k55<k33) (aYm ZI I32):=by
 refine dN (λnI R' aU κ=>∃ (i:Nat) (L:GX) (G:gG) (C:Cl) (g:Gh) (A:Int->Nat->Nat),nI=i/\i<=l.length/\κ=l.length - i/\R'=cR L G++R/\L.gb=L0.gb/\(∀ M w,aU M w->Φ M w)/\mA aU L G/\GI i i 50 G C g A/\On G/\cG G<=3*i)
  ⟨⟨_,Ψ,_,aM,λw Y cx=>cx,0,L0,MS,cl0,gh0,_,rfl,Nat.zero_le _,rfl,rfl,rfl,hw0,hF0,aJO,aRF,by rw [aRG];exact Nat.zero_le _⟩,?_⟩
 clear hw0 hF0;rintro nI R1 cF κ NG ⟨i,L,G,C,g,A,rfl,hi,rfl,rfl,hgb,hw1,hF1,hGI,hon,hcg⟩
 haveI:=NG
 have hJ1:JI cF:=hJ.weak hw1;refine Br.intro (λhlt=>?_) (λhge=>?_)
 rotate_left 1
 .have e:i=l.length:=by have:=dD hge;omega
  subst e;exact hk L G C g A cF NG hgb hw1 hF1 hGI hon hcg
 have hlt:i<l.length:=by have:=eR hlt;omega
 have hlp:=hlp (by omega);refine ⟨⟨by omega,by omega⟩,aW b o hlp λw Y cx=>?_⟩;obtain ⟨p1,c1,he,hok,_⟩:=aDr (a7s _ _ (hw1 _ _ cx.uX)) hlt;have row:=aDs (a7s _ _ (hw1 _ _ cx.uX)) hlt he;have hbd:=aBX _ (List.getElem_mem hlt);refine ⟨_,_,_,_,_,_,_,by rw [Int.toNat_natCast];exact row,λw Y cx=>?_⟩;have wE:(i+1)*(50+90)<=1048576:=by omega
 obtain ⟨C',g',A',aYo,_,s,a5S⟩:=hGI.op wE l[i] (by exact hbd.1);rw [<-hgb];rw [aX] at cx;refine aRR hJ1 hF1 hGI wE (by decide) hok hbd.1 (by omega) (λM w h=>aRP (a7s M w (hw1 M w h)) hlt he) cx λL2 BD w aBI TP zI hF2 cx=>?_;have aYp:=hon.op l[i];have b3Z:=aRE (G:=G) l[i];generalize (opG G l[i]).2=rs;generalize (opG G l[i]).1=G' at aYo a5S hF2 cx aYp b3Z;refine ⟨_,_,rfl,cR L2 G'++R,BD,TP,by rw [aX];exact cx,by unfold aY;omega,_,BD,_,TP,λw Y cx=>cx,⟨i+1,L2,G',C',g',A',by omega,hlt,rfl,rfl,aBI,λM w h=>hw1 M w (zI M w h),hF2,?_,aYp,by omega⟩,by omega⟩
 have e:((i:Int)+1)=((i+1:Nat):Int):=by omega
 rw [<-e];exact aYo
theorem aDt{G}(h:qE G)(id):(qV G id).length<=1000000:=by
 unfold qV;split
 .exact Nat.zero_le _
 .rename_i hid;cases hu:(G.mem id.toNat).up with
  | none=>exact Nat.zero_le _
  | some u=>have:=(h id.toNat (qD hid) u hu).len;show u.r.log.length<=_;omega
end
section
variable {W w:World}{S R Y:List Own}{Φ:PW}
theorem aDu{G id}:upB G id=true ↔ upG G id=0:=by
 unfold upB;exact decide_eq_true_iff
set_option maxHeartbeats 4000000 in
theorem a5T[aB Φ](hJ:JI Φ){lp lc}{l:List OpG}{b o cs}(hlp:0<l.length->lp=some ⟨b,o,none⟩)(a7s:∀ M w,Φ M w->Pin b o cs l M w)(hll:l.length<=9223372036854775807){kp kc}{keep:List Int}(hkeep:∀ M w,Φ M w->Sl M w kp keep):
  cS Φ prog F.jF #[.slice lp l.length lc,.slice kp keep.length kc] (.bool true):=by
 refine j7 (uT lp l.length lc kp keep.length kc) λW R=>λw Y cx=>(aFI hJ).use cx λw cx=>⟨true,rfl,R,Φ,aM,cx,λw Y cx=>(aNr hlp a7s hll).use cx λw cx=>⟨aBV l 60,rfl,R,Φ,aM,cx,Br.intro (λh=>λw Y cx=>⟨rfl,cx.left⟩) (λaBX=>Br.intro (λh=>λw Y cx=>⟨rfl,cx.left⟩) (λhk=>λw Y cx=>?_))⟩⟩;have aRS:keep.length<=20:=by have:=dD hk;omega
 have aBX:=aKf (by simpa using aBX);have b30:l.length<=60:=by have:=aBX.2;omega
 refine a8S (S:=R++Y) hJ.off hJ.num cx λL0 Ψ w hst hw0 hF0 cx=>?_
 haveI:=hst
 refine ⟨_,rfl,cR L0 MS++R,Ψ,hst,by rw [aX];exact cx,Br.intro (λh=>by cases h) (λ_=>?_)⟩;clear cx;refine aKi hJ hlp a7s aBX.1 b30 hw0 hF0 λL G C g A cL tX aYq hw1 hF hGI hon _=>λw Y cx=>?_;clear hst hw0 hF0;have tC:=hGI.aNp;have hcz:=hGI.aJ7;rw [<-aYq];rw [aX] at cx;refine zE (λs hs=>Nat.le_trans (hcz s hs) (by unfold maxLen;omega)) (by omega) cx λp0 c0 w _ cx=>?_;obtain ⟨fE,a5S⟩:∃ fE,G.fE=fE:=⟨_,rfl⟩
 rw [a5S] at cx ⊢ tC;have NG:aB (λM w=>cL M w/\Sl M w p0 fE):=cE cL (λM w=>Sl M w p0 fE);refine ⟨p0,_,c0,rfl,cR L G++R,λM w=>cL M w/\Sl M w p0 fE,NG,by rw [aX];exact cx,?_⟩;clear cx;refine dN (λjI R' aU κ=>∃ (j:Nat) (L1:GX) (G:gG) (C:Cl) (g:Gh) (A:Int->Nat->Nat),jI=j/\j<=3/\κ=3 - j/\R'=cR L1 G++R/\L1.gb=L.gb/\(∀ M w,aU M w->Φ M w)/\(∀ M w,aU M w->Sl M w p0 fE)/\mA aU L1 G/\GI l.length l.length 50 G C g A/\On G/\G.fE=fE)
  ⟨⟨_,_,_,NG,λw Y cx=>cx,0,L,G,C,g,A,rfl,Nat.zero_le _,rfl,rfl,rfl,λM w h=>hw1 M w h.1,λM w h=>h.2,hF.weak λM w h=>h.1,hGI,hon,a5S⟩,?_⟩
 clear NG hw1 hF hGI hon a5S hcz tX aYq A g C;rintro jI R1 cF κ NG ⟨j,L1,G,C,g,A,rfl,hj,rfl,rfl,hgb,hw1,aYr,hF1,hGI,hon,a5S⟩
 haveI:=NG
 have hJ1:JI cF:=hJ.weak hw1;refine Br.intro (λhlt=>λw Y cx=>?_) (λhge=>?_)
 rotate_left 1
 .refine Br.intro (λ_=>λw Y cx=>?_) (λh=>by cases h);have hcz:=hGI.aJ7;rw [<-hgb];rw [aX] at cx;refine zE (λs hs=>Nat.le_trans (hcz s hs) (by unfold maxLen;omega)) (by rw [a5S];omega) cx λp2 c2 w _ cx=>?_;rw [a5S] at cx ⊢;have TP:aB (λM w=>cF M w/\Sl M w p2 fE):=cE cF (λM w=>Sl M w p2 fE);refine ⟨p2,_,c2,rfl,cR L1 G++R,λM w=>cF M w/\Sl M w p2 fE,TP,by rw [aX];exact cx,λw Y cx=>?_⟩;refine (aC1 (Φ:=λM w=>cF M w/\Sl M w p2 fE) (λM w h=>aYr M w h.1) (λM w h=>h.2) (by omega)).use cx λw cx=>⟨_,rfl,cR L1 G++R,λM w=>cF M w/\Sl M w p2 fE,TP,cx,λw Y cx=>⟨?_,(Ctx.right (S:=cR L1 G) cx.left).weak λM w h=>hw1 M w h.1⟩⟩
  rw [decide_eq_true rfl]
 have hlt:j<3:=by have:=eR hlt;omega
 have hid:¬ ((j:Int)<0\/3<=(j:Int)):=by omega
 obtain ⟨⟨C4,g4,A4,aFK⟩,aYs,aYt,cY,aOG,tX,aOH,aYu⟩:=a81 hGI hon hlt keep;obtain ⟨C2,g2,A2,aYv⟩:=(hGI.lose j 0).gi;obtain ⟨C3,g3,A3,aBY⟩:=(aYv.arm j 0 []).gi;have aBY:GI l.length l.length 50 (eY G j) C3 g3 A3:=aBY;obtain ⟨C5,g5,A5,aKj⟩:=(aBY.a0H j keep).gi;have aKj:GI l.length l.length 50 (fT G j keep) C5 g5 A5:=aKj;rw [show fT G j keep=(mM (eY G j) j keep).1 from rfl] at aKj aYt;rw [show oD G j keep=(kP (mM (eY G j) j keep).1 j).1 from rfl] at aFK aYs cY aOG aOH aYu
 rw [<-hgb];rw [aX] at cx;refine a4b hF1 hGI.rM (by unfold aY;decide) cx λL2 BD w aBI TP zI hF2 cx=>?_
 haveI:=TP
 refine ⟨_,rfl,cR L2 (gV G j 0).1++R,BD,TP,by rw [aX];exact cx,λw Y cx=>?_⟩;rw [<-aBI];rw [aX] at cx;refine a8I (l:=[]) (p:=none) (c:=0) hF2 aYv.rM (by unfold aY;decide) (by decide) (λM w h=>Sl.nil) cx λL3 XU w aRT ZB hw3 hF3 cx=>?_
 haveI:=ZB
 have hF3:mA XU L3 (eY G j):=hF3;have cx:Ctx W w (cR L3 (eY G j)++(R++Y)) XU:=cx;refine ⟨_,rfl,cR L3 (eY G j)++R,XU,ZB,by rw [aX];exact cx,λw Y cx=>?_⟩;rw [<-aRT];rw [aX] at cx;refine T6 cx λw cx=>⟨_,rfl,cR L3 (eY G j)++R,XU,ZB,by rw [aX];exact cx,λw Y cx=>?_⟩;rw [aX] at cx;refine a1p aBY.rM cx λp4 c4 w cx=>?_;have hlen:=aDt aBY.rM (j:Int);generalize eY G j=G3 at *;generalize hlg:qV G3 j=log at *;obtain ⟨FF,aKk⟩:∃ FF:PW,FF=λM w=>XU M w/\Sl M w p4 log:=⟨_,rfl⟩
 have aKl:aB FF:=by rw [aKk];exact cE XU (λM w=>Sl M w p4 log)
 have hw4:∀ M w,FF M w->XU M w:=by rw [aKk];exact λM w h=>h.1
 have aYw:∀ M w,FF M w->Sl M w p4 log:=by rw [aKk];exact λM w h=>h.2
 rw [<-aKk] at cx;clear aKk;have hF4:mA FF L3 G3:=hF3.weak hw4;have aYx:∀ M w,FF M w->cF M w:=λM w h=>zI M w (hw3 M w (hw4 M w h));have hJ4:JI FF:=hJ1.weak aYx;refine ⟨p4,_,c4,rfl,cR L3 G3++R,FF,aKl,by rw [aX];exact cx,?_⟩;clear cx;refine dN (λR' aU=>R'=cR L3 G3++R/\aB aU/\∀ M w,aU M w->FF M w) ⟨Br.intro (λT8=>λw Y cx=>?_) (λ_=>⟨_,FF,aKl,λw Y cx=>cx,rfl,aKl,λ_ _ h=>h⟩),?_⟩
 .have T8:=tX (aDu.1 T8);rw [aX] at cx;refine WV (id:=(j:Int)) hJ4.off hJ4.num hF4 (λk hk=>aJY (aBY.j.any hk)) cx λp5 c5 w cx=>?_;rw [T8] at cx ⊢;have aNv:aB (λM w=>FF M w/\Sl M w p5 log):=cE FF (λM w=>Sl M w p5 log);refine ⟨p5,_,c5,rfl,cR L3 G3++R,λM w=>FF M w/\Sl M w p5 log,aNv,by rw [aX];exact cx,λw Y cx=>?_⟩;refine (K8 (Φ:=λM w=>FF M w/\Sl M w p5 log) p5 p4 c5 c4 log log (λM w h=>h.2) (λM w h=>aYw M w h.1) hlen).use cx λw cx=>⟨_,rfl,cR L3 G3++R,λM w=>FF M w/\Sl M w p5 log,aNv,cx,?_⟩
  rw [decide_eq_true rfl];exact Br.intro (λh=>by cases h) (λ_=>⟨_,FF,aKl,λw Y cx=>cx.weak λM w h=>h.1,rfl,aKl,λ_ _ h=>h⟩)
 rintro R1 Φ5 aNv ⟨rfl,_,hw5⟩
 haveI:=aNv
 intro w Y cx;have aYy:∀ M w,Φ5 M w->cF M w:=λM w h=>aYx M w (hw5 M w h);rw [aX] at cx;refine a1m (l:=keep) (hF4.weak hw5) aBY.rM (by omega) (λM w h=>hkeep M w (hw1 M w (aYy M w h))) cx λL5 fJ w b32 aYz hw6 hF6 cx=>?_
 haveI:=aYz
 have hF6:mA fJ L5 (mM G3 j keep).1:=hF6;generalize hgc:(mM G3 j keep).1=G5 at *;refine ⟨_,rfl,cR L5 G5++R,fJ,aYz,by rw [aX];exact cx,λw Y cx=>?_⟩;have aYA:∀ M w,fJ M w->cF M w:=λM w h=>aYy M w (hw6 M w h);have hJ6:JI fJ:=hJ1.weak aYA;rw [<-b32];rw [aX] at cx;refine a1n hJ6.off hJ6.num hF6 aKj.rM (λi hi=>aKj.sta hi) cx λL7 uC w b34 aRU hw7 hF7 cx=>?_
 haveI:=aRU
 rw [aYt];generalize (kP G5 j).1=G7 at *;refine ⟨_,rfl,cR L7 G7++R,uC,aRU,by rw [aX];exact cx,Br.intro (λh=>by cases h) (λ_=>λw Y cx=>?_)⟩;have aRV:∀ M w,uC M w->cF M w:=λM w h=>aYA M w (hw7 M w h);have b35:∀ M w,uC M w->FF M w:=λM w h=>hw5 M w (hw6 M w (hw7 M w h));have hJ7:JI uC:=hJ1.weak aRV;rw [<-b34];rw [aX] at cx;refine a4c cx λw cx=>⟨_,rfl,cR L7 G7++R,uC,aRU,by rw [aX];exact cx,?_⟩;rw [cY];clear cx
 have aYB:=aDt aFK.rM (j:Int);have fin:∀ (w:World) (Y:List Own),Ctx W w ((cR L7 G7++R)++Y) uC->aD F.iG #[.pointer (some ⟨L7.gb,0,none⟩),.int .i64 j] w λaHl aPh=>∃ aFL aFM aFN,aHl=Ending.returned (Value.slice aFL aFM aFN)/\∃ aFO a1w,aB a1w/\Ctx W aPh (aFO++Y) a1w/\∀ aYC aYD,Ctx W aYC (aFO++aYD) a1w->aD F.gR #[.pointer (some ⟨L7.gb,0,none⟩),.int .i64 j] aYC λb36 b37=>∃ aFP aFQ aFR,b36=Ending.returned (Value.slice aFP aFQ aFR)/\∃ aFS a1x,aB a1x/\Ctx W b37 (aFS++aYD) a1x/\∀ aEa aHA,Ctx W aEa (aFS++aHA) a1x->aD F.eH #[.slice aFL aFM aFN,.slice aFP aFQ aFR] aEa λb38 b39=>∃ c222,b38=Ending.returned (Value.bool c222)/\∃ X4 yL,aB yL/\Ctx W b39 (X4++aHA) yL/\c222=true/\X4=cR L7 G7++R/\∀ M w,yL M w->uC M w:=λw Y cx=>by
  rw [aX] at cx;refine a1p aFK.rM cx λp8 c8 w cx=>?_;have aNw:aB (λM w=>uC M w/\Sl M w p8 (qV G7 j)):=cE uC (λM w=>Sl M w p8 (qV G7 j));refine ⟨p8,_,c8,rfl,cR L7 G7++R,λM w=>uC M w/\Sl M w p8 (qV G7 j),aNw,by rw [aX];exact cx,λw Y cx=>?_⟩;rw [aX] at cx;refine WV (Φ:=λM w=>uC M w/\Sl M w p8 (qV G7 j)) (id:=(j:Int)) (λM w h=>hJ7.off M w h.1) (λM w h=>hJ7.num M w h.1) (hF7.weak λM w h=>h.1) (λk hk=>aJY (aFK.j.any hk)) cx λp9 c9 w cx=>?_
  rw [aYu] at cx ⊢;have aOI:aB (λM w=>(uC M w/\Sl M w p8 (qV G7 j))/\Sl M w p9 (qV G7 j)):=cE (λM w=>uC M w/\Sl M w p8 (qV G7 j)) (λM w=>Sl M w p9 (qV G7 j));refine ⟨p9,_,c9,rfl,cR L7 G7++R,_,aOI,by rw [aX];exact cx,λw Y cx=>?_⟩;refine (K8 (Φ:=λM w=>(uC M w/\Sl M w p8 (qV G7 j))/\Sl M w p9 (qV G7 j)) p8 p9 c8 c9 (qV G7 j) (qV G7 j) (λM w h=>h.1.2) (λM w h=>h.2) aYB).use cx λw cx=>⟨_,rfl,cR L7 G7++R,_,aOI,cx,?_,rfl,λM w h=>h.1.1⟩
  rw [decide_eq_true rfl]
 refine Br.intro (λh=>by cases h) (λ_=>?_);have nxt:∀ {X4:List Own} {yL:PW},aB yL->X4=cR L7 G7++R->(∀ M w,yL M w->uC M w)->aY ((j:Int)+1)/\∃ (aYE:List Own),∃ (a84:PW),∃ (aJ9:Nat),aB a84/\(∀ (aYF:World) (aYG:List Own),Ctx W aYF (X4++aYG) yL->Ctx W aYF (aYE++aYG) a84)/\(∃ (j1:Nat) (L1:GX) (G:gG) (C:Cl) (g:Gh) (A:Int->Nat->Nat),(j:Int)+1=j1/\j1<=3/\aJ9=3 - j1/\aYE=cR L1 G++R/\L1.gb=L7.gb/\(∀ M w,a84 M w->Φ M w)/\(∀ M w,a84 M w->Sl M w p0 fE)/\mA a84 L1 G/\GI l.length l.length 50 G C g A/\On G/\G.fE=fE)/\aJ9<3 - j:=λhst e hw=>by
  subst e;exact ⟨by unfold aY;omega,_,_,_,hst,λw Y cx=>cx,⟨j+1,L7,G7,C4,g4,A4,by omega,hlt,rfl,rfl,rfl,λM w h=>hw1 M w (aRV M w (hw M w h)),λM w h=>aYr M w (aRV M w (hw M w h)),hF7.weak hw,aFK,aYs,by rw [aOG];exact a5S⟩,by omega⟩
 refine Br.intro (λT8=>λw Y cx=>?_) (λ_=>λw Y cx=>?_)
 .rw [aX] at cx;refine a1p aFK.rM cx λp8 c8 w cx=>?_;rw [aOH (aDu.1 T8)] at cx ⊢;have aNw:aB (λM w=>uC M w/\Sl M w p8 log):=cE uC (λM w=>Sl M w p8 log);refine ⟨p8,_,c8,rfl,cR L7 G7++R,_,aNw,by rw [aX];exact cx,λw Y cx=>?_⟩;refine (K8 (Φ:=λM w=>uC M w/\Sl M w p8 log) p8 p4 c8 c4 log log (λM w h=>h.2) (λM w h=>aYw M w (b35 M w h.1)) hlen).use cx λw cx=>⟨_,rfl,cR L7 G7++R,_,aNw,cx,?_⟩;rw [decide_eq_true rfl]
  refine Br.intro (λh=>by cases h) (λ_=>λw Y cx=>?_);refine (fin w Y (cx.weak λM w h=>h.1)).mono λe w' ⟨aFL,aFM,aFN,e1,aFO,a1w,s1,c1,h1⟩=>⟨aFL,aFM,aFN,e1,aFO,a1w,s1,c1,λw Y cx=>(h1 w Y cx).mono λe w' ⟨aFP,aFQ,aFR,e2,aFS,a1x,s2,c2,h2⟩=>⟨aFP,aFQ,aFR,e2,aFS,a1x,s2,c2,λw Y cx=>(h2 w Y cx).mono λe w' ⟨c222,e3,X4,yL,s3,c3,hc,hR,hw⟩=>⟨c222,e3,X4,yL,s3,c3,?_⟩⟩⟩;subst hc;exact Br.intro (λh=>by cases h) (λ_=>nxt s3 hR hw)
 .refine (fin w Y cx).mono λe w' ⟨aFL,aFM,aFN,e1,aFO,a1w,s1,c1,h1⟩=>⟨aFL,aFM,aFN,e1,aFO,a1w,s1,c1,λw Y cx=>(h1 w Y cx).mono λe w' ⟨aFP,aFQ,aFR,e2,aFS,a1x,s2,c2,h2⟩=>⟨aFP,aFQ,aFR,e2,aFS,a1x,s2,c2,λw Y cx=>(h2 w Y cx).mono λe w' ⟨c222,e3,X4,yL,s3,c3,hc,hR,hw⟩=>⟨c222,e3,X4,yL,s3,c3,?_⟩⟩⟩;subst hc;exact Br.intro (λh=>by cases h) (λ_=>nxt s3 hR hw)
theorem a86[aB Φ](hJ:JI Φ){lp lc}{l:List OpG}(hl:∀ M w,Φ M w->Sl M w lp l)(hll:l.length<=9223372036854775807){kp kc}{keep:List Int}(hkeep:∀ M w,Φ M w->Sl M w kp keep):
  cS Φ prog F.jF #[.slice lp l.length lc,.slice kp keep.length kc] (.bool true) :=
 cS.pinned hl λb o cs hp=>a5T (hJ.weak λM w h=>h.1) hp (λM w h=>h.2) hll (λM w h=>hkeep M w h.1)
end
end Go.Proofs.YtnlkemjhgdbfkaaGreatDoor
end

section
namespace Go.Proofs.YtnlkemjhgdbfkaaGreatDoor
open Go.Vc Go.RowKit
theorem aRW(u)(h:prog.typeName? 3 u=some "*errors.errorString"):u=476 :=
 typeName_ptr_named (nm := "errors.errorString") (by rw [show "*" ++ "errors.errorString" = "*errors.errorString" by decide];kernel_rfl) (by kernel_rfl) (by decide) u (by rw [show "*" ++ "errors.errorString" = "*errors.errorString" by decide];exact h)
theorem aKm{n text r W g}(h:laidMet prog ((n,.iface "*errors.errorString" (.ptr (.agg [.lit (.string text)]))) :: r) W)(hg:prog.globalNamed n=some g)(ht:(prog.globals[g]?).map (·.type)=some 209):WA g [] W:=by
 obtain ⟨a,s,hv,_⟩:=laid_sentinel h hg ht underlying209 aRW underlying476 underlying478 rfl rfl underlying9 (by kernel_rfl) (by kernel_rfl);exact ⟨by simp,_,by have h0:=World.var?_cell hg hv 0;simpa using h0,.inr ⟨_,_,rfl⟩⟩
abbrev a88:PW:=λM w=>uL M w/\sS M w
theorem aRX{W}(h:laidMetH prog Rows.groupAgreesRow.laid W):a88 [] W:=by
 rw [MakeChecks.laidMetH_plain prog Rows.groupAgreesRow.laid W (by kernel_rfl)] at h;have h2:=h.tail.tail;exact ⟨⟨Tab.start (Lib.tabIs_of_head (k:=.u64) (zs:=Lib.pow10Tab) (g:=1) (t:=464) (e:=383) (n:=20) (by kernel_rfl) (by kernel_rfl) (by kernel_rfl) (by kernel_rfl) (by kernel_rfl) (by kernel_rfl) h2),
  aKm h2.tail.tail.tail (by kernel_rfl) (by kernel_rfl),aKm h2.tail.tail (by kernel_rfl) (by kernel_rfl)⟩,
  Tab.start (Lib.tabIs_of_head (k:=.i64) (zs:=[0,64,131072]) (g:=0) (t:=276) (e:=3) (n:=3) (by kernel_rfl) (by kernel_rfl) (by kernel_rfl) (by kernel_rfl) (by kernel_rfl) (by kernel_rfl) h2.tail)⟩
end Go.Proofs.YtnlkemjhgdbfkaaGreatDoor
end

