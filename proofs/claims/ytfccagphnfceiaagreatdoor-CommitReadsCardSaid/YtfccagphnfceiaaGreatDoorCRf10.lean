/-
 A copy of lines;the reading of a state: walked.
-/
import Derived.Test.YtfccagphnfceiaaGreatDoorCRf9
import Derived.Test.YtfccagphnfceiaaGreatDoorCRf7
import Derived.Test.YtfccagphnfceiaaGreatDoorCRf6
import Derived.Test.YtfccagphnfceiaaGreatDoorCRf8

set_option linter.unusedVariables false
set_option linter.unusedSimpArgs false
section
namespace Go.Proofs.YtfccagphnfceiaaGreatDoor
open Go.Vc
theorem a7L {b:Int} {st:iK} {acc:List aM}:iM b 0 st acc=some (acc,st):=rfl
theorem ZN {b:Int} {k:Nat} {st:iK} {acc:List aM} (h:st.1=[]):iM b k st acc=some (acc,st):=by
 cases k with
 | zero=>rfl
 | succ k=>unfold iM;rw [if_pos h]
theorem VD {b:Int} {k:Nat} {st:iK} {acc:List aM} (h:st.1≠[]) (hl:r8 (aL st).1 b (aL st).2=none):iM b (k+1) st acc=none:=by
 unfold iM;rw [if_neg h,hl];rfl
theorem ZO {b:Int} {k:Nat} {st:iK} {acc:List aM} {y:aM × iK} (h:st.1≠[]) (hl:r8 (aL st).1 b (aL st).2=some y) (hr:eD y.1.row=false):iM b (k+1) st acc=none:=by
 unfold iM;rw [if_neg h,hl];simp only [Option.bind];rw [if_neg (by rw [hr];simp)]
theorem VE {b:Int} {k:Nat} {st:iK} {acc:List aM} {y:aM × iK} (h:st.1≠[]) (hl:r8 (aL st).1 b (aL st).2=some y) (hr:eD y.1.row=true):iM b (k+1) st acc=iM b k y.2 (acc++[y.1]):=by
 rw [iM,if_neg h,hl];simp only [Option.bind];rw [if_pos hr]
theorem a1p {s:Bs} {x:rI} {st:iK}:KG s x st=if J2 x st=true/\kY x=s then some x else none:=by
 unfold KG
 simp only [Bool.and_eq_true,decide_eq_true_eq]
section
variable {W w:World} {S R G:List Own} {Φ:PW} {p:Option Addr} {cap b:Nat} {l:List aM} {cs:List Value} {st:iK}
set_option maxHeartbeats 1000000 in
theorem a56 [aA Φ] (src:Src S Φ p l cs) (hlen:l.length<=1000000) (hrow:∀ x∈l,x.row.length<=1000000) (c:Ctx W w S Φ) :
  Calls Tryz.prog F.mL #[.slice p l.length cap] w λe w'=>∃ p' c' cs',e=.returned (.slice p' l.length c')/\Ctx W w' (cR p' l.length c' cs' :: S) (λM w=>Φ M w/\aQ M w cs' l):=by
 refine (KJ p l.length cap (J:=λv w'=>∃ p' c' cs',v=.slice p' l.length c'/\Ctx W w' (cR p' l.length c' cs' :: S) (λM w=>Φ M w/\aQ M w cs' l)) c ?_).mono λe w' ⟨v,he,p',c',cs',hv,rest⟩=>⟨p',c',cs',by rw [he,hv],rest⟩
 clear c
 refine λw G c=>(D2 (S:=S++G) src.app hlen c).mono λe w' ⟨p1,c1,cs1,he,cx⟩=>⟨p1,l.length,c1,he,cR p1 l.length c1 cs1 :: S,(λM w=>Φ M w/\aQ M w cs1 l),inferInstance,cx,?_⟩
 clear c
 have hel:=cx.gW.2
 have hpt:0<l.length->∃ g,p1=some ⟨g,0,none⟩:=λh0=>aHT cx (by rw [qO hel];omega)
 clear cx hel
 refine bY (λiI R' aF m=>∃ i UE,iI=(i:Nat)/\i<=l.length/\R'=cR p1 l.length c1 UE :: S/\aF=(λM w=>Φ M w/\aQ M w UE l)/\m=l.length - i) ⟨⟨_,_,_,cU Φ (λM w=>aQ M w cs1 l),λw G cx=>cx,0,cs1,rfl,Nat.zero_le _,rfl,rfl,rfl⟩,?_⟩
 rintro iI R1 bH m _ ⟨i,UE,rfl,hi,rfl,rfl,rfl⟩
 refine Br.intro (λhlt=>?_) (λhge=>λw G cx=>⟨p1,c1,UE,rfl,cx.left⟩)
 have hlt:i<l.length:=by have:=of_decide_eq_true hlt;omega
 obtain ⟨g,rfl⟩:=hpt (by omega)
 have hst:aA (λM w=>Φ M w/\aQ M w UE l):=cU Φ (λM w=>aQ M w UE l)
 refine ⟨by omega,aJ g 0 rfl λw G cx=>?_⟩
 obtain ⟨p0,c0,hp,_,_,_,_⟩:=a8J cx.gW.2 hlt
 refine ⟨p0,l[i].row.length,c0,?_,λw G cx=>?_⟩
 ·have:=aOM (W:=W) (w:=w) (Φ:=λM w=>Φ M w/\aQ M w UE l) (S:=S++G) cx hp
  rw [show 0+(i:Int).toNat*7+3=i*7+3 by omega]
  exact this 3 (by show 3<7;decide)
 have hrd:∀ M w,(Φ M w/\aQ M w UE l)->Sl M w p0 l[i].row:=λM w h=>by
  have:=h.2.2 i hlt
  rw [show (Gv.ty aM).size=7 from rfl,hp] at this
  exact U8 this
 have hh:Has (λM w=>Φ M w/\aQ M w UE l) (λM w=>Sl M w p0 l[i].row):=⟨hrd⟩
 refine (YM (r:=l[i].row) (hrow _ (List.getElem_mem _))).to cx λp3 c3 f1 f2 st3=>?_
 clear cx
 refine ⟨by omega,aJ g 0 rfl λw G cx=>⟨?_,λw2 F3=>?_⟩⟩
 ·have hl:=qO cx.gW.1.2
  exact aHU (S:=S++G) cx (by omega)
 ·have cx2:Ctx W w (cR (some ⟨g,0,none⟩) l.length c1 UE :: (S++G)) (λM w=>(Φ M w/\Sl M w p3 l[i].row)/\aQ M w UE l):=cx.weak λM w h=>⟨⟨h.1.1,h.2⟩,h.1.2⟩
  have st5:aA (λM w=>Sl M w p3 l[i].row):=LR p3 l[i].row
  have st4:aA (λM w=>Φ M w/\Sl M w p3 l[i].row):=@cU Φ (λM w=>Sl M w p3 l[i].row) _ st5
  obtain ⟨UF,cx3⟩:=aHV (w':=w2) (Φ:=λM w=>Φ M w/\Sl M w p3 l[i].row) cx2 hlt f1 f2 (λM w h=>h.2) (by rw [F3];congr 2;omega)
  exact ⟨cR (some ⟨g,0,none⟩) l.length c1 UF :: S,_,cU Φ (λM w=>aQ M w UF l),cx3.weak λM w h=>⟨h.1.1,h.2⟩,by unfold aR;omega,_,_,l.length - (i+1),cU Φ (λM w=>aQ M w UF l),λw G cx=>cx,⟨i+1,UF,rfl,hlt,rfl,rfl,rfl⟩,by omega⟩
theorem ZP [aA Φ] [eT:Has Φ (λM w=>Sl M w p l)] (hlen:l.length<=1000000) (hrow:∀ x∈l,x.row.length<=1000000):jP Φ Tryz.prog F.mL #[.slice p l.length cap] l id :=
 .there (λM w h=>(eT.go M w h).there) λK4=>⟨λW w S c=>by
  obtain ⟨cs,c1⟩:=QC c (eT.go _ _ c.gW)
  refine (a56 (S:=S) (Φ:=λM w=>Φ M w/\yV p l cs M w) (uU (Φ:=λM w=>Φ M w/\yV p l cs M w) K4 (λM w h=>h.2)).app hlen hrow c1).mono λe w' ⟨p',c',cs',he,cx⟩=>?_
  obtain ⟨c2,hs,_,h2,h3⟩:=Ctx.freeze (α:=aM) cx cx.gW.2
  exact ⟨p',c',he,h2,h3,(c2.add hs).weak λM w h=>⟨h.1.1.1,h.2⟩⟩⟩
theorem aDS [aA Φ] (eT:∀ M w,Φ M w->EH M w) (hl:st.1.length<=1000000000) {n:Int} {s1:iK} (e:dW st=(n,s1)) (c:Ctx W w (rd b st :: S++G) Φ) {K:Int->List Own->PW->Prop}
  (hk:K n (rd b s1 :: S) Φ) :
  Calls Tryz.prog F.jB #[.pointer (some ⟨b,0,none⟩)] w λe w'=>∃ n,e=.returned (.int .i64 n)/\∃ R' aF,aA aF/\Ctx W w' (R'++G) aF/\K n R' aF :=
 a7l eT (by omega) c (by rw [e];exact hk)
theorem VF [aA Φ] (eT:∀ M w,Φ M w->EH M w) (hl:st.1.length<=1000000000) {n:ByteArray} {s1:iK} (e:stepT st=(n,s1)) (c:Ctx W w (rd b st :: S++G) Φ) {K:ByteArray->List Own->PW->Prop}
  (hk:K n (rd b s1 :: S) Φ) :
  Calls Tryz.prog F.fM #[.pointer (some ⟨b,0,none⟩)] w λe w'=>∃ n,e=.returned (.string n)/\∃ R' aF,aA aF/\Ctx W w' (R'++G) aF/\K n R' aF :=
 a7o eT (by omega) c (by rw [e];exact hk)
theorem aJm [aA Φ] {o:Own} {kb:Nat} {a0 a1 a2 b3 b4 b5 b6 v3 v4 v5 v6:Value} {K:List Own->PW->Prop} (cx:Ctx W w ((o :: .blk kb [a0,a1,a2,b3,b4,b5,b6] 31 :: R)++G) Φ) (hk:K (o :: .blk kb [a0,a1,a2,v3,v4,v5,v6] 31 :: R) Φ) :
  aE w kb (0+3) 1/\∀ w',w'=w.setCell ⟨kb,0+3,none⟩ v3->∃ R1 bH,aA bH/\Ctx W w' (R1++G) bH/\∀ w G,Ctx W w (R1++G) bH ->
   aE w kb (0+4) 1/\∀ w',w'=w.setCell ⟨kb,0+4,none⟩ v4->∃ R2 pI,aA pI/\Ctx W w' (R2++G) pI/\∀ w G,Ctx W w (R2++G) pI ->
    aE w kb (0+5) 1/\∀ w',w'=w.setCell ⟨kb,0+5,none⟩ v5->∃ R3 Φ3,aA Φ3/\Ctx W w' (R3++G) Φ3/\∀ w G,Ctx W w (R3++G) Φ3 ->
     aE w kb (0+6) 1/\∀ w',w'=w.setCell ⟨kb,0+6,none⟩ v6->∃ R4 Φ4,aA Φ4/\Ctx W w' (R4++G) Φ4/\K R4 Φ4 :=
 ⟨cx.can 1 rfl (by simp),λw1 h1=>⟨o :: .blk kb [a0,a1,a2,v3,b4,b5,b6] 31 :: R,Φ,inferInstance,cx.put 1 h1 rfl,λw G cx =>
  ⟨cx.can 1 rfl (by simp),λw1 h1=>⟨o :: .blk kb [a0,a1,a2,v3,v4,b5,b6] 31 :: R,Φ,inferInstance,cx.put 1 h1 rfl,λw G cx =>
   ⟨cx.can 1 rfl (by simp),λw1 h1=>⟨o :: .blk kb [a0,a1,a2,v3,v4,v5,b6] 31 :: R,Φ,inferInstance,cx.put 1 h1 rfl,λw G cx =>
    ⟨cx.can 1 rfl (by simp),λw1 h1=>⟨o :: .blk kb [a0,a1,a2,v3,v4,v5,v6] 31 :: R,Φ,inferInstance,cx.put 1 h1 rfl,hk⟩⟩⟩⟩⟩⟩⟩⟩
abbrev A6 (k:Nat):Own:=.blk k (aG3 D6 none 0) 100
set_option maxHeartbeats 4000000 in
theorem a9E [aA Φ] (hN:∀ M w,Φ M w->EH M w) {s:Bs} (hs:s.length<=1000000) (cx:Ctx W w S Φ) {K:Ending->World->Prop}
  (h0:∀ (y:rI) (p:Option Addr) (n c:Nat) w',tF s=none->Ctx W w' S Φ->K (.returned (.tuple #[.agg #[.int .i64 y.last,.int .i64 y.phase,.string y.check,.int .i64 y.batch,.int .i64 y.mark,.string y.next,.slice p n c],.bool false])) w')
  (h1:∀ x p c w',tF s=some x->StF x->(∀ y∈x.lines,y.batch=x.batch/\eD y.row=true)->x.lines.length<=s.length->x.lines.length<=c->c<=maxLen->Ctx W w' S (λM w=>Φ M w/\Sl M w p x.lines)->K (.returned (.tuple #[stV x p c,.bool true])) w') :
  Calls Tryz.prog F.zM #[.string (bs s)] w K:=by
 have hT:∀ M w,Φ M w->RI M w:=λM w h=>(hN M w h).1
 refine (P2 (bs s) (J:=λu w'=>K (.returned u) w') cx λk0 w G cx=>?_).mono λe w' ⟨v,he,hj⟩=>by rw [he];exact hj
 refine a26 s cx λb w cx=>⟨_,rfl,rd b (s,false) :: (A6 k0 :: S),Φ,inferInstance,cx,λw G cx=>?_⟩
 obtain ⟨⟨n1,s1⟩,e1⟩:∃ x,aL (s,false)=x:=⟨_,rfl⟩
 obtain ⟨⟨n2,s2⟩,e2⟩:∃ x,aL s1=x:=⟨_,rfl⟩
 obtain ⟨⟨t3,s3⟩,e3⟩:∃ x,stepT s2=x:=⟨_,rfl⟩
 have hread:tF s=if n2=0 then KG s ⟨n1,n2,t3,0,0,.empty,[]⟩ s3 else V1 s n1 n2 t3 s3:=by
  unfold tF
  rw [e1];simp only
  rw [e2];simp only
  rw [e3]
 have l1:=dM (s,false)
 have l2:=dM s1
 obtain ⟨l3,l3t⟩:=r7 s2
 have i1:=gJ (s,false)
 have i2:=gJ s1
 rw [e1] at l1 i1
 rw [e2] at l2 i2
 rw [e3] at l3 l3t
 simp only at l1 l2 l3 l3t i1 i2
 refine iZ (S:=A6 k0 :: S) hN (by show s.length<=_;omega) e1 cx (λw G cx=>iZ (S:=A6 k0 :: S) hN (by omega) e2 cx (λw G cx=>VF (S:=A6 k0 :: S) hN (by omega) e3 cx (λ_=>?_)))
 clear cx
 refine bY (λlast phase check batch mark next p k c R' aF=>∃ (st:iK) (acc:List aM) (ds:List Value),k=acc.length/\R'=cR p acc.length c ds :: rd b st :: (A6 k0 :: S)/\aF=(λM w=>Φ M w/\aQ M w ds acc)/\tF s=KG s ⟨last,phase,check,batch,mark,next,acc⟩ st/\acc.length<=s.length/\(∀ x∈acc,x.batch=batch/\eD x.row=true)/\(aR last/\aR phase/\aR batch/\aR mark)/\check.size<=s.length/\next.size<=s.length) ⟨Br.intro (λhp=>?_) (λhp=>?_),?_⟩
 ·-- a batch
  have hp:n2≠0:=of_decide_eq_true hp
  rw [if_neg hp] at hread
  obtain ⟨⟨n4,s4⟩,e4⟩:∃ x,aL s3=x:=⟨_,rfl⟩
  obtain ⟨⟨n5,s5⟩,e5⟩:∃ x,aL s4=x:=⟨_,rfl⟩
  obtain ⟨⟨t6,s6⟩,e6⟩:∃ x,stepT s5=x:=⟨_,rfl⟩
  obtain ⟨⟨n7,s7⟩,e7⟩:∃ x,dW s6=x:=⟨_,rfl⟩
  have hread:tF s=(iM n4 n7.toNat s7 []).bind λy=>KG s ⟨n1,n2,t3,n4,n5,t6,y.1⟩ y.2:=by
   rw [hread]
   unfold V1
   rw [e4];simp only
   rw [e5];simp only
   rw [e6];simp only
   rw [e7]
  have l4:=dM s3
  have l5:=dM s4
  obtain ⟨l6,l6t⟩:=r7 s5
  have l7:(dW s6).2.1.length<=s6.1.length:=iG 59 0 s6
  have i4:=gJ s3
  have i5:=gJ s4
  have i7:0<=(dW s6).1/\(dW s6).1<=9223372036854775807:=lM (e:=59) (.inr (.inl rfl)) s6
  rw [e4] at l4 i4
  rw [e5] at l5 i5
  rw [e6] at l6 l6t
  rw [e7] at l7 i7
  simp only at l4 l5 l6 l6t l7 i4 i5 i7
  refine λw G cx=>iZ (S:=A6 k0 :: S) hN (by omega) e4 cx (λw G cx=>iZ (S:=A6 k0 :: S) hN (by omega) e5 cx (λw G cx=>VF (S:=A6 k0 :: S) hN (by omega) e6 cx (λw G cx=>aDS (S:=A6 k0 :: S) hN (by omega) e7 cx ?_)))
  clear cx
  refine bY (λn last phase check batch mark next p k c R' aF m=>∃ (sl:iK) (acc:List aM) (ds:List Value),(last=n1/\phase=n2/\check=t3/\batch=n4/\mark=n5/\next=t6)/\k=acc.length/\R'=cR p acc.length c ds :: rd b sl :: (A6 k0 :: S)/\aF=(λM w=>Φ M w/\aQ M w ds acc)/\m=n.toNat/\acc.length*7+sl.1.length<=s.length/\(∀ x∈acc,x.batch=n4/\eD x.row=true)/\(0<=n/\n<=9223372036854775807)/\iM n4 n7.toNat s7 []=iM n4 n.toNat sl acc)
   ⟨⟨cR none 0 0 [] :: rd b s7 :: (A6 k0 :: S),λM w=>Φ M w/\aQ M w [] ([]:List aM),n7.toNat,inferInstance,λw G cx=>(cx.yC 31 7).weak λM w h=>⟨h,aQ.nil⟩,s7,[],[],⟨rfl,rfl,rfl,rfl,rfl,rfl⟩,rfl,rfl,rfl,rfl,by simp only [List.length_nil];omega,by simp,i7,rfl⟩,?_⟩
  rintro n last phase check batch mark next p k c R1 bH m _ ⟨sl,acc,ds,⟨rfl,rfl,rfl,rfl,rfl,rfl⟩,rfl,rfl,rfl,rfl,hal,har,hn,hlr⟩
  have wR:aA (λM w=>Φ M w/\aQ M w ds acc):=inferInstance
  have hT1:∀ M w,(Φ M w/\aQ M w ds acc)->EH M w:=λM w h=>hN M w h.1
  have done:iM batch n.toNat sl acc=some (acc,sl)->tF s=KG s ⟨last,phase,check,batch,mark,next,acc⟩ sl:=λh=>by rw [hread,hlr,h];rfl
  refine Br.intro (λhpos=>λw G cx=>?_) (λhneg=>?_)
  rotate_left 1
  ·have hneg:=of_decide_eq_false hneg
   exact ⟨_,_,wR,λw G cx=>cx,sl,acc,ds,rfl,rfl,rfl,done (by rw [show n.toNat=0 by omega];exact a7L),by omega,har,⟨i1,i2,i4,i5⟩,by omega,by omega⟩
  have hpos:=of_decide_eq_true hpos
  refine a7m (S:=cR p acc.length c ds :: (A6 k0 :: S)) cx.swap (Br.intro (λhl=>?_) (λhl=>?_))
  rotate_left 1
  ·have hl:sl.1=[]:=List.eq_nil_of_length_eq_zero (by have:=of_decide_eq_false hl;omega)
   exact ⟨cR p acc.length c ds :: rd b sl :: (A6 k0 :: S),_,wR,λw G cx=>cx.swap,sl,acc,ds,rfl,rfl,rfl,done (ZN hl),by omega,har,⟨i1,i2,i4,i5⟩,by omega,by omega⟩
  have hl:sl.1≠[]:=λe=>by have:=of_decide_eq_true hl;rw [e] at this;simp at this
  clear cx
  obtain ⟨⟨m1,u1⟩,f1⟩:∃ x,aL sl=x:=⟨_,rfl⟩
  obtain ⟨⟨m2,u2⟩,f2⟩:∃ x,aL u1=x:=⟨_,rfl⟩
  obtain ⟨⟨t4,u3⟩,f3⟩:∃ x,stepT u2=x:=⟨_,rfl⟩
  obtain ⟨⟨m5,u4⟩,f4⟩:∃ x,aL u3=x:=⟨_,rfl⟩
  obtain ⟨⟨m6,u5⟩,f5⟩:∃ x,aL u4=x:=⟨_,rfl⟩
  obtain ⟨⟨m7,u6⟩,f6⟩:∃ x,aL u5=x:=⟨_,rfl⟩
  have q0:=dM sl
  have q1:=dM u1
  obtain ⟨q2,q3⟩:=r7 u2
  have q4:=dM u3
  have q5:=dM u4
  have q6:=dM u5
  have j1:=gJ sl
  rw [f1] at q0 j1
  rw [f2] at q1
  rw [f3] at q2 q3
  rw [f4] at q4
  rw [f5] at q5
  rw [f6] at q6
  simp only at q0 q1 q2 q3 q4 q5 q6 j1
  have hkk:n.toNat=(n - 1).toNat+1:=by omega
  have aMe:∀ {r:List cG},cV t4.data.toList=some r->r8 (aL sl).1 batch (aL sl).2=some (⟨m1,batch,m2,r,m5,m6,m7⟩,u6):=fun {r} hr=>by
   rw [f1]
   simp only
   rw [D5 (r:=r) (by rw [f2];simp only;rw [f3];exact hr)]
   unfold rdL
   rw [f2];simp only
   rw [f3];simp only
   rw [f4];simp only
   rw [f5];simp only
   rw [f6]
  refine bY (λkb ko R' aF=>ko=0/\R'=.blk kb [.int .i64 m1,.int .i64 batch,.int .i64 m2,.slice none 0 0,.int .i64 0,.int .i64 0,.int .i64 0] 31 :: rd b u2 :: (cR p acc.length c ds :: (A6 k0 :: S))/\aF=(λM w=>Φ M w/\aQ M w ds acc)) ⟨⟨[],tru,inferInstance,λw G cx=>fL cx (List.nil_sublist _),?_,?_,trivial⟩,?_⟩
  ·refine λw G cx=>iZ (S:=cR p acc.length c ds :: (A6 k0 :: S)) hT1 (by omega) f1 cx ⟨λw G cx=>fL cx (List.nil_sublist _),?_,?_,trivial⟩
   ·refine λw G cx=>iZ (S:=cR p acc.length c ds :: (A6 k0 :: S)) hT1 (by omega) f2 cx ⟨λw G cx=>fL cx (List.nil_sublist _),?_,trivial⟩
    refine λkb=>⟨λw G cx=>fL cx (List.nil_sublist _),λw G cx=>⟨cx.can 0 rfl (by simp),λw' hw'=>⟨.blk kb [.int .i64 m1,.int .i64 batch,.int .i64 m2,.slice none 0 0,.int .i64 0,.int .i64 0,.int .i64 0] 31 :: rd b u2 :: (cR p acc.length c ds :: (A6 k0 :: S)),_,wR,cx.EY 0 hw' rfl,.blk kb [.int .i64 m1,.int .i64 batch,.int .i64 m2,.slice none 0 0,.int .i64 0,.int .i64 0,.int .i64 0] 31 :: rd b u2 :: (cR p acc.length c ds :: (A6 k0 :: S)),_,wR,λw G cx=>cx,rfl,rfl,rfl⟩⟩⟩
   ·refine λkb=>⟨λw G cx=>fL cx (List.nil_sublist _),λw G cx=>?_,trivial⟩
    refine iZ (S:=.blk kb [.int .i64 0,.int .i64 0,.int .i64 0,.slice none 0 0,.int .i64 0,.int .i64 0,.int .i64 0] 31 :: cR p acc.length c ds :: (A6 k0 :: S)) hT1 (by omega) f2 cx.swap ⟨λw G cx=>fL cx (List.nil_sublist _),λw G cx=>⟨cx.can 1 rfl (by simp),λw' hw'=>⟨rd b u2 :: .blk kb [.int .i64 m1,.int .i64 batch,.int .i64 m2,.slice none 0 0,.int .i64 0,.int .i64 0,.int .i64 0] 31 :: (cR p acc.length c ds :: (A6 k0 :: S)),_,wR,cx.EY 1 hw' rfl,.blk kb [.int .i64 m1,.int .i64 batch,.int .i64 m2,.slice none 0 0,.int .i64 0,.int .i64 0,.int .i64 0] 31 :: rd b u2 :: (cR p acc.length c ds :: (A6 k0 :: S)),_,wR,λw G cx=>cx.swap,rfl,rfl,rfl⟩⟩⟩
  ·refine λkb=>⟨λw G cx=>fL cx (List.nil_sublist _),λw G cx=>?_,trivial⟩
   refine iZ (S:=.blk kb [.int .i64 0,.int .i64 0,.int .i64 0,.slice none 0 0,.int .i64 0,.int .i64 0,.int .i64 0] 31 :: cR p acc.length c ds :: (A6 k0 :: S)) hT1 (by omega) f1 cx.swap ⟨λw G cx=>fL cx (List.nil_sublist _),λw G cx=>?_,trivial⟩
   refine iZ (S:=.blk kb [.int .i64 0,.int .i64 0,.int .i64 0,.slice none 0 0,.int .i64 0,.int .i64 0,.int .i64 0] 31 :: cR p acc.length c ds :: (A6 k0 :: S)) hT1 (by omega) f2 cx ⟨λw G cx=>fL cx (List.nil_sublist _),λw G cx=>⟨cx.can 1 rfl (by simp),λw' hw'=>⟨rd b u2 :: .blk kb [.int .i64 m1,.int .i64 batch,.int .i64 m2,.slice none 0 0,.int .i64 0,.int .i64 0,.int .i64 0] 31 :: (cR p acc.length c ds :: (A6 k0 :: S)),_,wR,cx.EY 1 hw' rfl,.blk kb [.int .i64 m1,.int .i64 batch,.int .i64 m2,.slice none 0 0,.int .i64 0,.int .i64 0,.int .i64 0] 31 :: rd b u2 :: (cR p acc.length c ds :: (A6 k0 :: S)),_,wR,λw G cx=>cx.swap,rfl,rfl,rfl⟩⟩⟩
  rintro kb ko R1 bH _ ⟨rfl,rfl,rfl⟩
  have bad:iM batch n.toNat sl acc=none->tF s=none:=λh=>by rw [hread,hlr,h];rfl
  refine λw G cx=>VF (S:=.blk kb [.int .i64 m1,.int .i64 batch,.int .i64 m2,.slice none 0 0,.int .i64 0,.int .i64 0,.int .i64 0] 31 :: (cR p acc.length c ds :: (A6 k0 :: S))) hT1 (by omega) f3 cx.swap ?_
  clear cx
  refine λw G cx=>a3a (R:=rd b u3 :: .blk kb [.int .i64 m1,.int .i64 batch,.int .i64 m2,.slice none 0 0,.int .i64 0,.int .i64 0,.int .i64 0] 31 :: (cR p acc.length c ds :: (A6 k0 :: S))) hT1 t4 (by omega) cx (λhn=>?_) (λr rp rc hr g1 g2 aVg=>?_)
  ·clear cx
   refine λw G cx=>iZ (S:=.blk kb [.int .i64 m1,.int .i64 batch,.int .i64 m2,.slice none 0 0,.int .i64 0,.int .i64 0,.int .i64 0] 31 :: (cR p acc.length c ds :: (A6 k0 :: S))) hT1 (by omega) f4 cx (λw G cx=>iZ (S:=.blk kb [.int .i64 m1,.int .i64 batch,.int .i64 m2,.slice none 0 0,.int .i64 0,.int .i64 0,.int .i64 0] 31 :: (cR p acc.length c ds :: (A6 k0 :: S))) hT1 (by omega) f5 cx (λw G cx=>iZ (S:=.blk kb [.int .i64 m1,.int .i64 batch,.int .i64 m2,.slice none 0 0,.int .i64 0,.int .i64 0,.int .i64 0] 31 :: (cR p acc.length c ds :: (A6 k0 :: S))) hT1 (by omega) f6 cx (λw G cx=>?_)))
   refine aJm cx (Br.intro (λ_=>λw G cx=>⟨cx.can 3 rfl (by simp),λw' hw'=>⟨rd b u6 :: .blk kb [.int .i64 m1,.int .i64 batch,.int .i64 m2,.slice none 0 0,.int .i64 m5,.int .i64 m6,.int .i64 m7] 31 :: (cR p acc.length c ds :: (A6 k0 :: S)),_,wR,cx.EY 3 hw' rfl,λw G cx=>⟨_,_,_,_,_,_,_,_,_,cx.LO 3 rfl,λw G cx=>?_⟩⟩⟩) (λh=>by cases h))
   refine h0 D6 none 0 0 w (bad (by rw [hkk];exact VD hl (by rw [f1];exact UY (by rw [f2];simp only;rw [f3];exact hn)))) ?_
   exact ((((cx.drop1).drop1).drop1).drop1).left.weak λM w h=>h.1
  ·clear cx
   have hT6:∀ M w,((Φ M w/\aQ M w ds acc)/\Sl M w rp r)->EH M w:=λM w h=>hN M w h.1.1
   refine λw G cx=>iZ (S:=.blk kb [.int .i64 m1,.int .i64 batch,.int .i64 m2,.slice none 0 0,.int .i64 0,.int .i64 0,.int .i64 0] 31 :: (cR p acc.length c ds :: (A6 k0 :: S))) hT6 (by omega) f4 cx (λw G cx=>iZ (S:=.blk kb [.int .i64 m1,.int .i64 batch,.int .i64 m2,.slice none 0 0,.int .i64 0,.int .i64 0,.int .i64 0] 31 :: (cR p acc.length c ds :: (A6 k0 :: S))) hT6 (by omega) f5 cx (λw G cx=>iZ (S:=.blk kb [.int .i64 m1,.int .i64 batch,.int .i64 m2,.slice none 0 0,.int .i64 0,.int .i64 0,.int .i64 0] 31 :: (cR p acc.length c ds :: (A6 k0 :: S))) hT6 (by omega) f6 cx (λw G cx=>?_)))
   obtain ⟨y,hy⟩:∃ y:aM,(⟨m1,batch,m2,r,m5,m6,m7⟩:aM)=y:=⟨_,rfl⟩
   have hyc:y.cells rp rc=[.int .i64 m1,.int .i64 batch,.int .i64 m2,.slice rp r.length rc,.int .i64 m5,.int .i64 m6,.int .i64 m7]:=by rw [<-hy]
   have hyr:y.row=r:=by rw [<-hy]
   have hyb:y.batch=batch:=by rw [<-hy]
   have hli:=aMe hr
   rw [hy] at hli
   obtain ⟨z1,z2,z3,z4,z5,z6,z7,z8,z9⟩:=YY (by rw [f1] at hli;exact hli)
   have z1:u6.1.length+7<=u1.1.length:=z1
   have hin:y.In:=⟨by rw [z8];exact j1,by rw [hyb];exact i4,z4,z5,z6,z7⟩
   have q7:u6.1.length+7<=sl.1.length:=by omega
   refine aJm cx (Br.intro (λh=>by cases h) (λ_=>λw G cx=>?_))
   rw [<-hyc] at cx
   have hh:Has (λM w=>(Φ M w/\aQ M w ds acc)/\Sl M w rp r) (λM w=>Sl M w rp r):=⟨λM w h=>h.2⟩
   refine (G8 (r:=r)).toB cx (Br.intro (λhb=>λw G cx=>?_) (λhb=>λw G cx=>?_))
   ·refine ⟨cx.can 3 rfl (by simp),λw' hw'=>⟨rd b u6 :: .blk kb (y.cells rp rc) 31 :: (cR p acc.length c ds :: (A6 k0 :: S)),_,aVg,cx.EY 3 hw' rfl,λw G cx=>⟨_,_,_,_,_,_,_,_,_,cx.LO 3 rfl,λw G cx=>?_⟩⟩⟩
    refine h0 D6 none 0 0 w (bad (by rw [hkk];exact ZO hl hli (by rw [hyr];simpa using hb))) ?_
    exact ((((cx.drop1).drop1).drop1).drop1).left.weak λM w h=>h.1.1
   have hb:eD r=true:=by simpa using hb
   refine ⟨m1,batch,m2,rp,r.length,rc,m5,m6,m7,by rw [<-hyc];exact cx.LO 1 rfl,λkb2 w G cx=>?_⟩
   rw [<-hyc] at cx
   have J1:Ctx W w (.blk kb2 (y.cells rp rc) 31 :: .buf p acc.length c ds 31 7 :: (rd b u6 :: .blk kb (y.cells rp rc) 31 :: (A6 k0 :: S))++G) (λM w=>(Φ M w/\Sl M w rp r)/\aQ M w ds acc):=(cx.perm (List.Perm.cons _ (by
    show (rd b u6 :: Own.blk kb (y.cells rp rc) 31 :: cR p acc.length c ds :: ((A6 k0 :: S)++G)).Perm (cR p acc.length c ds :: rd b u6 :: Own.blk kb (y.cells rp rc) 31 :: ((A6 k0 :: S)++G))
    exact ((List.Perm.swap _ _ _).cons _).trans (List.Perm.swap _ _ _)))).weak λM w h=>⟨⟨h.1.1,h.2⟩,h.1.2⟩
   obtain ⟨p',c',w',hrun,cx'⟩:=aJh (PS:=λM w=>Φ M w/\Sl M w rp r) (λM w h=>MK (by rw [hyr];exact g1) g2 hin (by rw [hyr];exact h.2)) (by omega) J1
   have a9F:aA (λM w=>Φ M w/\aQ M w (ds++y.cells rp rc) (acc++[y])):=inferInstance
   refine ⟨p',_,c',w',hrun,cR p' (acc++[y]).length c' (ds++y.cells rp rc) :: rd b u6 :: .blk kb (y.cells rp rc) 31 :: (A6 k0 :: S),_,a9F,cx'.weak λM w h=>⟨h.1.1,h.2⟩,by unfold aR;omega,cR p' (acc++[y]).length c' (ds++y.cells rp rc) :: rd b u6 :: (A6 k0 :: S),_,(n - 1).toNat,a9F,λw G cx=>cx.sub ((((List.sublist_cons_self _ _).cons_cons _).cons_cons _)),⟨u6,acc++[y],ds++y.cells rp rc,⟨rfl,rfl,rfl,rfl,rfl,rfl⟩,rfl,rfl,rfl,rfl,by rw [List.length_append,List.length_singleton];omega,λz hz=>?_,⟨by omega,by omega⟩,by rw [hlr,hkk];exact VE hl hli (by rw [hyr];exact hb)⟩,by omega⟩
   rcases List.mem_append.1 hz with hz|hz
   ·exact har z hz
   ·rw [List.mem_singleton.1 hz];exact ⟨hyb,by rw [hyr];exact hb⟩
 ·-- no batch
  have hp:n2=0:=Decidable.not_not.1 (of_decide_eq_false hp)
  rw [if_pos hp] at hread
  exact ⟨cR none 0 0 [] :: rd b s3 :: (A6 k0 :: S),λM w=>Φ M w/\aQ M w [] ([]:List aM),inferInstance,λw G cx=>(cx.yC 31 7).weak λM w h=>⟨h,aQ.nil⟩,s3,[],[],rfl,rfl,rfl,hread,Nat.zero_le _,(λx hx=>by cases hx),⟨i1,i2,by unfold aR;decide,by unfold aR;decide⟩,by omega,Nat.zero_le _⟩
 clear hread
 rintro last phase check batch mark next p k c R1 bH _ ⟨st,acc,ds,rfl,rfl,rfl,hread,hal,har,hi,hck,hnx⟩
 have wR:aA (λM w=>Φ M w/\aQ M w ds acc):=inferInstance
 obtain ⟨x,hx⟩:∃ x:rI,(⟨last,phase,check,batch,mark,next,acc⟩:rI)=x:=⟨_,rfl⟩
 rw [hx] at hread
 have a3U:J2 x st=(eJ st&&(decide (0<=last)&&(decide (0<=phase)&&(decide (phase<=2)&&(decide (phase=0)||decide (last<batch)))))):=by rw [<-hx];rfl
 refine bY (λcc R' aF=>cc=J2 x st/\R'=rd b st :: cR p acc.length c ds :: (A6 k0 :: S)/\aF=(λM w=>Φ M w/\aQ M w ds acc)) ⟨λw G cx=>?_,?_⟩
 ·refine a7n (S:=cR p acc.length c ds :: (A6 k0 :: S)) cx.swap (Br.intro (λa1=>Br.intro (λa2=>Br.intro (λa3=>Br.intro (λa4=>Br.intro (λa5=>?_) (λa5=>?_)) (λa4=>?_)) (λa3=>?_)) (λa2=>?_)) (λa1=>?_))
  all_goals refine ⟨_,_,wR,λw G cx=>cx,?_,rfl,rfl⟩
  all_goals rw [a3U]
  ·rw [a1,a2,a3,a4,a5];rfl
  ·rw [a1,a2,a3,a4,a5];rfl
  ·rw [a1,a2,a3,a4];rfl
  ·rw [a1,a2,a3];rfl
  ·rw [a1,a2];rfl
  ·rw [a1];rfl
 rintro cc R1 bH _ ⟨rfl,rfl,rfl⟩
 refine ⟨[],tru,inferInstance,λw G cx=>fL cx (List.nil_sublist _),Br.intro (λhf=>λw G cx=>?_) (λhf=>λw G cx=>?_)⟩
 ·have hlw:=a2Z cx.gW.2 λy hy=>(har y hy).2
  have hF:StF x:=by rw [<-hx];exact ⟨hi,by show check.size<=_;omega,by show next.size<=_;omega,hlw,by show acc.length<=_;omega⟩
  have hbl:=cx.xM 1 rfl
  obtain ⟨c2,NQ,_,hcap,hmx⟩:=Ctx.freeze (α:=aM) cx.swap cx.swap.gW.2
  have c3:=(c2.add NQ).weak (Ψ:=λM w=>Φ M w/\Sl M w p acc) λM w h=>⟨h.1.1,h.2⟩
  have tU:aA (λM w=>Φ M w/\Sl M w p acc):=inferInstance
  have hTa:Has (λM w=>Φ M w/\Sl M w p acc) RI:=⟨λM w h=>hT M w h.1⟩
  have hxl:x.lines=acc:=by rw [<-hx]
  have hv:stV x p c=.agg #[.int .i64 last,.int .i64 phase,.string check,.int .i64 batch,.int .i64 mark,.string next,.slice p acc.length c]:=by rw [<-hx]
  have hfo:=a3T (Φ:=λM w=>Φ M w/\Sl M w p acc) (p:=p) (cap:=c) (x:=x) (λM w h=>by rw [hxl];exact h.2) hF
  rw [hv] at hfo
  refine hfo.use c3 λw cx=>⟨_,rfl,rd b st :: (A6 k0 :: S),_,tU,cx,λw G cx=>fL cx (List.nil_sublist _),λw G cx=>⟨cx.can 1 rfl (by simp),λw' hw'=>⟨rd b st :: .blk k0 [.int .i64 last,.int .i64 phase,.string check,.int .i64 batch,.int .i64 mark,.string next,.slice p acc.length c] 100 :: S,_,tU,cx.EY 1 hw' rfl,λw G cx=>fL cx (List.nil_sublist _),λw G cx=>⟨last,phase,check,batch,mark,next,p,acc.length,c,cx.LO 1 rfl,λw G cx=>?_⟩⟩⟩⟩
  have cE:Ctx W w S (λM w=>Φ M w/\Sl M w p acc):=(cx.drop1.drop1).left
  by_cases hfm:kY x=s
  ·rw [decide_eq_true (by rw [hfm])]
   have hr:tF s=some x:=by rw [hread,a1p,if_pos ⟨hf,hfm⟩]
   have:=h1 x p c w hr hF (by rw [<-hx];exact har) (by rw [hxl];exact hal) (by rw [hxl];exact hbl.2.1) hbl.2.2 (by rw [hxl];exact cE)
   rw [hv] at this
   exact this
  ·rw [decide_eq_false (λe=>hfm (a08.1 e))]
   have hr:tF s=none:=by rw [hread,a1p,if_neg λh=>hfm h.2]
   exact h0 ⟨last,phase,check,batch,mark,next,acc⟩ p acc.length c w hr (cE.weak λM w h=>h.1)
 ·refine ⟨cx.can 2 rfl (by simp),λw' hw'=>⟨rd b st :: cR p acc.length c ds :: .blk k0 [.int .i64 last,.int .i64 phase,.string check,.int .i64 batch,.int .i64 mark,.string next,.slice p acc.length c] 100 :: S,_,wR,cx.EY 2 hw' rfl,λw G cx=>fL cx (List.nil_sublist _),λw G cx=>⟨last,phase,check,batch,mark,next,p,acc.length,c,cx.LO 2 rfl,λw G cx=>?_⟩⟩⟩
  have hr:tF s=none:=by rw [hread,a1p,if_neg λh=>by rw [h.1] at hf;cases hf]
  exact h0 ⟨last,phase,check,batch,mark,next,acc⟩ p acc.length c w hr ((cx.drop1.drop1.drop1).left.weak λM w h=>h.1)
end
end Go.Proofs.YtfccagphnfceiaaGreatDoor
end

section
namespace Go.Proofs.YtfccagphnfceiaaGreatDoor
open Go.Vc
def oA:Int := -9223372036854775808
theorem aG4 {e:UInt8} (he:e.toNat=58\/e.toNat=59\/e.toNat=91) {n:Int}:e ∉ Lib.itoa n:=λh=>by have:=UU h;omega
theorem VG {e:UInt8} (he:e.toNat=58\/e.toNat=59\/e.toNat=91) {l:List UInt8} {j:Nat} (h1:e ∉ l.take j) (h2:l.length<=j\/21<=j):q8 e oA l=none:=by
 cases hn:q8 e oA l with
 | none=>rfl
 | some x =>
  obtain ⟨n,r⟩:=x
  obtain ⟨⟨g1,_⟩,g2⟩:=(iL he).1 hn
  have hl:=(yG g1).2
  refine absurd ?_ h1
  rw [g2]
  refine List.mem_of_getElem? (i:=(Lib.itoa n).length) ?_
  have hlt:(Lib.itoa n).length<j:=by
   rcases h2 with h2|h2
   ·rw [g2,List.length_append,List.length_cons] at h2;omega
   ·omega
  rw [List.getElem?_take_of_lt hlt,List.getElem?_append_right (Nat.le_refl _),Nat.sub_self]
  rfl
theorem a57 {e:UInt8} (he:e.toNat=58\/e.toNat=59\/e.toNat=91) {l:List UInt8} {j:Nat} (hj:l[j]? = some e) {n:Int} (hn:aR n) (h:l.take j=Lib.itoa n):q8 e oA l=some (n,l.drop (j+1)):=by
 refine (iL he).2 ⟨⟨hn,hn.1⟩,?_⟩
 obtain ⟨hl,he2⟩:=List.getElem?_eq_some_iff.1 hj
 rw [<-h,<-he2,<-List.drop_eq_getElem_cons hl,List.take_append_drop]
theorem a9G {e:UInt8} (he:e.toNat=58\/e.toNat=59\/e.toNat=91) {l:List UInt8} {j:Nat} (h1:e ∉ l.take j) (hj:l[j]? = some e) (h:∀ n,aR n->l.take j≠Lib.itoa n):q8 e oA l=none:=by
 cases hn:q8 e oA l with
 | none=>rfl
 | some x =>
  obtain ⟨n,r⟩:=x
  obtain ⟨⟨g1,_⟩,g2⟩:=(iL he).1 hn
  refine absurd ?_ (h n g1)
  have hjl:=(List.getElem?_eq_some_iff.1 hj).1
  rcases Nat.lt_trichotomy j (Lib.itoa n).length with hlt|heq|hgt
  ·rw [g2,List.getElem?_append_left hlt] at hj
   exact absurd (List.mem_of_getElem? hj) (aG4 he)
  ·rw [g2,heq,List.take_left]
  ·refine absurd ?_ h1
   rw [g2]
   refine List.mem_of_getElem? (i:=(Lib.itoa n).length) ?_
   rw [List.getElem?_take_of_lt hgt,List.getElem?_append_right (Nat.le_refl _),Nat.sub_self]
   rfl
theorem a9H {e:UInt8} (he:e.toNat=58\/e.toNat=59\/e.toNat=91) (l:List UInt8):q8 e 0 l=(q8 e oA l).bind λx=>if x.1<0 then none else some x:=by
 cases hn:q8 e oA l with
 | none =>
  cases h0:q8 e 0 l with
  | none=>rfl
  | some x =>
   obtain ⟨n,r⟩:=x
   obtain ⟨⟨g1,g2⟩,g3⟩:=(iL he).1 h0
   have:=(iL he (least:=oA)).2 ⟨⟨g1,g1.1⟩,g3⟩
   rw [hn] at this
   cases this
 | some x =>
  obtain ⟨n,r⟩:=x
  obtain ⟨⟨g1,_⟩,g3⟩:=(iL he).1 hn
  simp only [Option.bind_some]
  split
  ·rename_i hneg
   cases h0:q8 e 0 l with
   | none=>rfl
   | some y =>
    obtain ⟨m,q⟩:=y
    obtain ⟨⟨k1,k2⟩,k3⟩:=(iL he).1 h0
    have:=(iL he (least:=oA)).2 ⟨⟨k1,k1.1⟩,k3⟩
    rw [hn] at this
    cases this
    omega
  ·exact (iL he).2 ⟨⟨g1,by omega⟩,g3⟩
theorem a58 {e:UInt8} (he:e.toNat=58\/e.toNat=59\/e.toNat=91) (st:iK):bR e 0 st=if (bR e oA st).1<0 then (0,([],true)) else bR e oA st:=by
 unfold bR
 rw [a9H he]
 cases hn:q8 e oA st.1 with
 | none=>simp
 | some x =>
  obtain ⟨n,r⟩:=x
  simp only [Option.bind_some]
  by_cases h:n<0
  ·rw [if_pos h,if_pos h]
  ·rw [if_neg h,if_neg h]
section
variable {W w:World} {R G S:List Own} {Φ:PW} {b:Nat} {st:iK}
abbrev rq (b:Nat) (st:iK):Own:=.blk b [.string (bs st.1),.bool st.2] 193
theorem ZQ [aA Φ] (l:List UInt8) (c:Ctx W w (S++G) Φ) {K:Option Addr->List Own->PW->Prop} (hk:∀ b,K (some ⟨b,0,none⟩) (rq b (l,false) :: S) Φ) :
  Calls Tryz.prog F.kT #[.string (bs l)] w λe w'=>∃ p,e=.returned (.pointer p)/\∃ R' aF,aA aF/\Ctx W w' (R'++G) aF/\K p R' aF:=by
 refine (EG (bs l) (J:=λu w'=>∃ p,(Ending.returned u)=.returned (.pointer p)/\∃ R' aF,aA aF/\Ctx W w' (R'++G) aF/\K p R' aF) c ?_).mono λe w' ⟨v,he,hj⟩=>by rw [he];exact hj
 exact λb w G2 cx=>⟨_,rfl,rq b (l,false) :: S,Φ,inferInstance,Ctx.left (S:=rq b (l,false) :: (S++G)) cx,hk b⟩
theorem HF [aA Φ] (c:Ctx W w (rq b st :: S++G) Φ) {K:Int->List Own->PW->Prop} (hk:K 0 (rq b ([],true) :: S) Φ) :
  Calls Tryz.prog F.b8 #[.pointer (some ⟨b,0,none⟩)] w λe w'=>∃ n,e=.returned (.int .i64 n)/\∃ R' aF,aA aF/\Ctx W w' (R'++G) aF/\K n R' aF:=by
 refine (vR b 0 (J:=λu w'=>∃ n,(Ending.returned u)=.returned (.int .i64 n)/\∃ R' aF,aA aF/\Ctx W w' (R'++G) aF/\K n R' aF) (R:=rq b st :: (S++G)) c ?_).mono λe w' ⟨v,he,hj⟩=>by rw [he];exact hj
 refine λw G2 cx=>⟨cx.can 0 rfl (by simp),λw' hw'=>⟨.blk b [.string (bs []),.bool st.2] 193 :: (S++G),Φ,inferInstance,cx.put 0 hw' rfl,λw G2 cx=>⟨cx.can 0 rfl (by simp),λw' hw'=>⟨rq b ([],true) :: (S++G),Φ,inferInstance,cx.put 0 hw' rfl,λw G2 cx=>⟨0,rfl,rq b ([],true) :: S,Φ,inferInstance,cx.left,hk⟩⟩⟩⟩⟩
set_option maxHeartbeats 1000000 in
theorem a3V [aA Φ] {e:Int} (he:e=58\/e=59\/e=91) (hl:st.1.length<=1000000000) (c:Ctx W w (rq b st :: S++G) Φ) {K:Int->List Own->PW->Prop}
  (hk:K (bR e.toNat.toUInt8 oA st).1 (rq b (bR e.toNat.toUInt8 oA st).2 :: S) Φ) :
  Calls Tryz.prog F.fD #[.pointer (some ⟨b,0,none⟩),.int .u8 e] w λe w'=>∃ n,e=.returned (.int .i64 n)/\∃ R' aF,aA aF/\Ctx W w' (R'++G) aF/\K n R' aF:=by
 refine (uW b 0 e (J:=λu w'=>∃ n,(Ending.returned u)=.returned (.int .i64 n)/\∃ R' aF,aA aF/\Ctx W w' (R'++G) aF/\K n R' aF) (R:=rq b st :: (S++G)) c ?_).mono λe w' ⟨v,he,hj⟩=>by rw [he];exact hj
 clear c
 obtain ⟨l,bad⟩:=st
 have hl:l.length<=1000000000:=hl
 obtain ⟨c,hc⟩:∃ c:UInt8,e.toNat.toUInt8=c:=⟨_,rfl⟩
 have hce:(c.toNat:Int)=e/\(c.toNat=58\/c.toNat=59\/c.toNat=91):=by
  rcases he with rfl|rfl|rfl<;>subst hc<;>decide
 obtain ⟨hce,hc3⟩:=hce
 rw [hc] at hk
 have hsz:(bs l).size=l.length:=aT l
 have none_:q8 c oA l=none->∀ {w:World} {G2:List Own},Ctx W w (rq b (l,bad) :: (S++G)++G2) Φ->Calls Tryz.prog F.b8 #[.pointer (some ⟨b,0,none⟩)] w λe25 JR=>∃ n27,e25=.returned (.int .i64 n27)/\∃ OA sK,aA sK/\Ctx W JR (OA++G2) sK/\∀ (TM:World) (HZ:List Own),Ctx W TM (OA++HZ) sK->∃ n,(Ending.returned (Value.int .i64 n27))=.returned (.int .i64 n)/\∃ R' aF,aA aF/\Ctx W TM (R'++G) aF/\K n R' aF:=λh {w G2} cx=>by
  rw [uC h] at hk
  exact HF (S:=S++G) (G:=G2) cx λw G3 cx=>⟨0,rfl,rq b ([],true) :: S,Φ,inferInstance,Ctx.left (S:=rq b ([],true) :: (S++G)) cx,hk⟩
 refine bY (λjI R' aF k=>∃ j:Nat,jI=j/\j<=l.length/\j<=21/\c ∉ l.take j/\R'=rq b (l,bad) :: (S++G)/\aF=Φ/\k=l.length - j) ⟨⟨_,_,_,inferInstance,λw G cx=>cx,0,rfl,Nat.zero_le _,by omega,by simp,rfl,rfl,rfl⟩,?_⟩
 rintro jI R1 bH k _ ⟨j,rfl,hj,b8i,hn,rfl,rfl,rfl⟩
 have cell:∀ {w:World} {G2:List Own},Ctx W w (rq b (l,bad) :: (S++G)++G2) bH->w.cell? ⟨b,0,none⟩=some (.string (bs l)):=λcx=>cx.get 0 rfl rfl
 have hbyte:∀ {i:Nat},i<l.length->(bs l).data.toList.get?Internal ((i:Int)).toNat=some (l[i]?.getD 0)/\l[i]? = some (l[i]?.getD 0):=fun {i} hi=>by
  rw [wY,a9C,Int.toNat_natCast,List.getElem?_eq_getElem hi]
  exact ⟨rfl,rfl⟩
 refine λw G2 cx=>⟨bs l,cell cx,bs l,λ_=>cell cx,l[j]?.getD 0,λh=>?_,?_⟩
 ·rw [Bool.and_eq_true,hsz] at h
  have h:=of_decide_eq_true h.1
  exact ⟨by omega,(hbyte (by omega)).1⟩
 clear cx
 rw [hsz]
 refine Br.intro (λh=>?_) (λh=>λw G2 cx=>⟨bs l,cell cx,?_⟩)
 ·rw [Bool.and_eq_true,Bool.and_eq_true] at h
  have h1:=of_decide_eq_true h.1.1
  have h2:=of_decide_eq_true h.1.2
  have h3:=of_decide_eq_true h.2
  have hjl:j<l.length:=by omega
  refine ⟨by unfold aR;omega,_,_,l.length - (j+1),inferInstance,λw G cx=>cx,⟨j+1,by omega,hjl,by omega,λhm=>?_,rfl,rfl,rfl⟩,by omega⟩
  rw [List.take_succ_eq_append_getElem hjl] at hm
  rcases List.mem_append.1 hm with hm|hm
  ·exact hn hm
  ·rw [List.getElem?_eq_getElem hjl] at h3
   rw [<-List.mem_singleton.1 hm] at h3
   exact h3 (by simpa using hce)
 ·clear cx
  rw [hsz]
  refine Br.intro (λh1=>λw G2 cx=>none_ (VG hc3 hn (.inl (by have:=of_decide_eq_true h1;omega))) cx) (λh1=>λw G2 cx=>⟨bs l,cell cx,?_⟩)
  clear cx
  have hjl:j<l.length:=by have:=of_decide_eq_false h1;omega
  obtain ⟨hb1,hb2⟩:=hbyte hjl
  refine ⟨_,⟨by omega,hb1⟩,Br.intro (λh2=>λw G2 cx=>none_ (VG hc3 hn (.inr ?_)) cx) (λh2=>λw G2 cx=>⟨bs l,cell cx,⟨by omega,by rw [hsz];omega⟩,λw G2 cx=>?_⟩)⟩
  ·rw [Bool.and_eq_false_iff,Bool.and_eq_false_iff] at h
   rcases h with (h|h)|h
   ·have:=of_decide_eq_false h;omega
   ·have:=of_decide_eq_false h;omega
   ·exact absurd (of_decide_eq_true h2) (of_decide_eq_false h)
  ·have h2:((l[j]?.getD 0).toNat:Int)=e:=Decidable.not_not.1 (of_decide_eq_false h2)
   have hje:l[j]? = some c:=by
    rw [hb2]
    congr 1
    apply UInt8.toNat_inj.1
    omega
   rw [AQ,Int.toNat_natCast,List.drop_zero,Nat.sub_zero]
   refine aG0 (R:=rq b (l,bad) :: (S++G)) (l.take j) (by rw [List.length_take];omega) cx (λn hnI hnE=>?_) (λaDV m=>?_)
   ·refine Br.intro (λh=>by cases h) (λ_=>λw G2 cx=>⟨bs l,cell cx,by unfold aR;omega,⟨by omega,by rw [hsz];omega,Nat.le_refl _⟩,λw G2 cx=>⟨cx.can 0 rfl (by simp),λw' hw'=>?_⟩⟩)
    rw [D4 (a57 hc3 hje hnI hnE)] at hk
    have c2:=cx.put 0 hw' rfl
    have e1:(bs l).extract ((j:Int)+1).toNat (bs l).size=bs (l.drop (j+1)):=by
     rw [AQ,hsz,show ((j:Int)+1).toNat=j+1 by omega,List.take_of_length_le (by rw [List.length_drop];omega)]
    rw [e1] at c2
    exact ⟨rq b (l.drop (j+1),bad) :: (S++G),bH,inferInstance,c2,λw G2 cx=>⟨n,rfl,rq b (l.drop (j+1),bad) :: S,bH,inferInstance,Ctx.left (S:=rq b (l.drop (j+1),bad) :: (S++G)) cx,hk⟩⟩
   ·exact Br.intro (λ_=>λw G2 cx=>none_ (a9G hc3 hn hje aDV) cx) (λh=>by cases h)
theorem QL [aA Φ] {e:Int} (he:e=58\/e=59\/e=91) (hl:st.1.length<=1000000000) (c:Ctx W w (rq b st :: S++G) Φ) {K:Int->List Own->PW->Prop}
  (hk:K (bR e.toNat.toUInt8 0 st).1 (rq b (bR e.toNat.toUInt8 0 st).2 :: S) Φ) :
  Calls Tryz.prog F.eV #[.pointer (some ⟨b,0,none⟩),.int .u8 e] w λe w'=>∃ n,e=.returned (.int .i64 n)/\∃ R' aF,aA aF/\Ctx W w' (R'++G) aF/\K n R' aF:=by
 refine (uB b 0 e (J:=λu w'=>∃ n,(Ending.returned u)=.returned (.int .i64 n)/\∃ R' aF,aA aF/\Ctx W w' (R'++G) aF/\K n R' aF) (R:=rq b st :: (S++G)) c ?_).mono λe w' ⟨v,he,hj⟩=>by rw [he];exact hj
 clear c
 have hc3:(e.toNat.toUInt8).toNat=58\/(e.toNat.toUInt8).toNat=59\/(e.toNat.toUInt8).toNat=91:=by rcases he with rfl|rfl|rfl<;>decide
 rw [a58 hc3] at hk
 refine λw G2 cx=>a3V (S:=S++G) he hl cx ?_
 clear cx
 refine Br.intro (λh=>λw G2 cx=>?_) (λh=>λw G2 cx=>?_)
 ·rw [if_pos (of_decide_eq_true h)] at hk
  exact HF (S:=S++G) cx λw G2 cx=>⟨0,rfl,rq b ([],true) :: S,Φ,inferInstance,Ctx.left (S:=rq b ([],true) :: (S++G)) cx,hk⟩
 ·rw [if_neg (of_decide_eq_false h)] at hk
  exact ⟨_,rfl,rq b (bR e.toNat.toUInt8 oA st).2 :: S,Φ,inferInstance,Ctx.left (S:=rq b (bR e.toNat.toUInt8 oA st).2 :: (S++G)) cx,hk⟩
theorem P6 [aA Φ] (hl:st.1.length<=1000000000) (c:Ctx W w (rq b st :: S++G) Φ) {K:Int->List Own->PW->Prop} (hk:K (aL st).1 (rq b (aL st).2 :: S) Φ) :
  Calls Tryz.prog F.aK #[.pointer (some ⟨b,0,none⟩)] w λe w'=>∃ n,e=.returned (.int .i64 n)/\∃ R' aF,aA aF/\Ctx W w' (R'++G) aF/\K n R' aF:=by
 refine (wW b 0 (J:=λu w'=>∃ n,(Ending.returned u)=.returned (.int .i64 n)/\∃ R' aF,aA aF/\Ctx W w' (R'++G) aF/\K n R' aF) (R:=rq b st :: (S++G)) c ?_).mono λe w' ⟨v,he,hj⟩=>by rw [he];exact hj
 exact λw G2 cx=>a3V (S:=S++G) (.inr (.inl rfl)) hl cx λw G2 cx=>⟨_,rfl,rq b (aL st).2 :: S,Φ,inferInstance,Ctx.left (S:=rq b (aL st).2 :: (S++G)) cx,hk⟩
theorem ZR [aA Φ] (hl:st.1.length<=1000000000) (c:Ctx W w (rq b st :: S++G) Φ) {K:Int->List Own->PW->Prop} (hk:K (dW st).1 (rq b (dW st).2 :: S) Φ) :
  Calls Tryz.prog F.eM #[.pointer (some ⟨b,0,none⟩)] w λe w'=>∃ n,e=.returned (.int .i64 n)/\∃ R' aF,aA aF/\Ctx W w' (R'++G) aF/\K n R' aF:=by
 refine (wX b 0 (J:=λu w'=>∃ n,(Ending.returned u)=.returned (.int .i64 n)/\∃ R' aF,aA aF/\Ctx W w' (R'++G) aF/\K n R' aF) (R:=rq b st :: (S++G)) c ?_).mono λe w' ⟨v,he,hj⟩=>by rw [he];exact hj
 exact λw G2 cx=>QL (S:=S++G) (.inr (.inl rfl)) hl cx λw G2 cx=>⟨_,rfl,rq b (dW st).2 :: S,Φ,inferInstance,Ctx.left (S:=rq b (dW st).2 :: (S++G)) cx,hk⟩
theorem a9I [aA Φ] (c:Ctx W w (rq b st :: S++G) Φ) {K:Int->List Own->PW->Prop} (hk:K st.1.length (rq b st :: S) Φ) :
  Calls Tryz.prog F.iE #[.pointer (some ⟨b,0,none⟩)] w λe w'=>∃ n,e=.returned (.int .i64 n)/\∃ R' aF,aA aF/\Ctx W w' (R'++G) aF/\K n R' aF:=by
 refine (vQ b 0 (J:=λu w'=>∃ n,(Ending.returned u)=.returned (.int .i64 n)/\∃ R' aF,aA aF/\Ctx W w' (R'++G) aF/\K n R' aF) (R:=rq b st :: (S++G)) c ?_).mono λe w' ⟨v,he,hj⟩=>by rw [he];exact hj
 exact λw F1 cx=>⟨bs st.1,cx.get 0 rfl rfl,λw F1 cx=>⟨st.1.length,by rw [aT],rq b st :: S,Φ,inferInstance,cx.left,hk⟩⟩
theorem aMf {l:List UInt8}:(bs l=ByteArray.mk #[]) ↔ l=[]:=by
 constructor
 ·intro h
  have:=congrArg (λx=>x.data.toList) h
  exact this
 ·intro h;rw [h];rfl
theorem HG [aA Φ] (c:Ctx W w (rq b st :: S++G) Φ) {K:Bool->List Own->PW->Prop} (hk:K (eJ st) (rq b st :: S) Φ) :
  Calls Tryz.prog F.dL #[.pointer (some ⟨b,0,none⟩)] w λe w'=>∃ c,e=.returned (.bool c)/\∃ R' aF,aA aF/\Ctx W w' (R'++G) aF/\K c R' aF:=by
 refine (vP b 0 (J:=λu w'=>∃ c,(Ending.returned u)=.returned (.bool c)/\∃ R' aF,aA aF/\Ctx W w' (R'++G) aF/\K c R' aF) (R:=rq b st :: (S++G)) c ?_).mono λe w' ⟨v,he,hj⟩=>by rw [he];exact hj
 refine λw F1 cx=>⟨st.2,cx.get 0 rfl rfl,bs st.1,λ_=>cx.get 0 rfl rfl,λw F1 cx=>⟨eJ st,?_,rq b st :: S,Φ,inferInstance,cx.left,hk⟩⟩
 unfold eJ
 rw [decide_eq_decide.2 (aMf (l:=st.1))]
theorem a6a [aA Φ] {e:Int} (he:0<=e/\e<=255) (hok:jX st) (c:Ctx W w (rq b st :: S++G) Φ) {K:Bool->List Own->PW->Prop}
  (hk:K (!(oT e.toNat.toUInt8 st).2) (rq b (oT e.toNat.toUInt8 st) :: S) Φ) :
  Calls Tryz.prog F.gT #[.pointer (some ⟨b,0,none⟩),.int .u8 e] w λe w'=>∃ c,e=.returned (.bool c)/\∃ R' aF,aA aF/\Ctx W w' (R'++G) aF/\K c R' aF:=by
 refine (uX b 0 e (J:=λu w'=>∃ c,(Ending.returned u)=.returned (.bool c)/\∃ R' aF,aA aF/\Ctx W w' (R'++G) aF/\K c R' aF) (R:=rq b st :: (S++G)) c ?_).mono λe w' ⟨v,he,hj⟩=>by rw [he];exact hj
 clear c
 obtain ⟨l,bad⟩:=st
 obtain ⟨c,hc⟩:∃ c:UInt8,e.toNat.toUInt8=c:=⟨_,rfl⟩
 have hce:(c.toNat:Int)=e:=by
  subst hc
  have:e.toNat.toUInt8.toNat=e.toNat % 256:=by simp [Nat.toUInt8]
  omega
 rw [hc] at hk
 have hsz:(bs l).size=l.length:=aT l
 have cell:∀ {w:World} {G2:List Own},Ctx W w (rq b (l,bad) :: (S++G)++G2) Φ->w.cell? ⟨b,0,none⟩=some (.string (bs l)):=λcx=>cx.get 0 rfl rfl
 have none_:oT c (l,bad)=([],true)->∀ {w:World} {G2:List Own},Ctx W w (rq b (l,bad) :: (S++G)++G2) Φ->Calls Tryz.prog F.b8 #[.pointer (some ⟨b,0,none⟩)] w λe25 JR=>∃ n27,e25=.returned (.int .i64 n27)/\∃ OA sK,aA sK/\Ctx W JR (OA++G2) sK/\∀ (TM:World) (HZ:List Own),Ctx W TM (OA++HZ) sK->∃ c,(Ending.returned (Value.bool false))=.returned (.bool c)/\∃ R' aF,aA aF/\Ctx W TM (R'++G) aF/\K c R' aF:=λh {w G2} cx=>by
  rw [h] at hk
  exact HF (S:=S++G) (G:=G2) cx λw G3 cx=>⟨false,rfl,rq b ([],true) :: S,Φ,inferInstance,Ctx.left (S:=rq b ([],true) :: (S++G)) cx,hk⟩
 refine λw G2 cx=>⟨bs l,cell cx,?_⟩
 clear cx
 rw [hsz]
 cases l with
 | nil=>exact Br.intro (λ_=>λw G2 cx=>none_ rfl cx) (λh=>absurd rfl (of_decide_eq_false h))
 | cons x r =>
  refine Br.intro (λh=>by have:=of_decide_eq_true h;rw [List.length_cons] at this;omega) (λ_=>λw G2 cx=>⟨_,cell cx,x,⟨by decide,rfl⟩,?_⟩)
  clear cx
  refine Br.intro (λh=>λw G2 cx=>none_ (by unfold oT;simp only;rw [if_neg λe=>of_decide_eq_true h (by rw [e];exact hce)]) cx) (λh=>λw G2 cx=>⟨_,cell cx,⟨by decide,by rw [hsz,List.length_cons];omega,Nat.le_refl _⟩,λw G2 cx=>⟨cx.can 0 rfl (by simp),λw' hw'=>?_⟩⟩)
  have hxc:x=c:=by
   have:=Decidable.not_not.1 (of_decide_eq_false h)
   apply UInt8.toNat_inj.1
   omega
  have hst:oT c (x :: r,bad)=(r,bad):=by unfold oT;simp only;rw [if_pos hxc]
  rw [hst] at hk
  have aDV:bad=false:=by
   cases hb:bad with
   | false=>rfl
   | true=>have:=hok hb;cases this
  have c2:=cx.put 0 hw' rfl
  have e1:(bs (x :: r)).extract 1 (bs (x :: r)).size=bs r:=by
   rw [AQ,hsz,List.drop_succ_cons,List.drop_zero,List.length_cons,List.take_of_length_le (by omega)]
  rw [e1] at c2
  rw [aDV] at hk c2
  exact ⟨rq b (r,false) :: (S++G),Φ,inferInstance,c2,λw G2 cx=>⟨true,rfl,rq b (r,false) :: S,Φ,inferInstance,Ctx.left (S:=rq b (r,false) :: (S++G)) cx,hk⟩⟩
theorem a6b {st:iK} (h:jX (bR 58 0 st).2) (hb:(bR 58 0 st).2.2=true\/((bR 58 0 st).2.1.length:Int)<=(bR 58 0 st).1):stepT st=(ByteArray.mk #[],([],true)):=by
 unfold stepT
 simp only
 have hn:=lM (e:=58) (.inl rfl) st
 split
 ·rfl
 ·rename_i hlt
  have hd:(bR 58 0 st).2.1.drop (bR 58 0 st).1.toNat=[]:=by
   rcases hb with hb|hb
   ·rw [h hb,List.drop_nil]
   ·exact List.drop_of_length_le (by omega)
  rw [hd]
  rfl
set_option maxHeartbeats 1000000 in
theorem VH [aA Φ] (hok:jX st) (hl:st.1.length<=1000000000) (c:Ctx W w (rq b st :: S++G) Φ) {K:ByteArray->List Own->PW->Prop} (hk:K (stepT st).1 (rq b (stepT st).2 :: S) Φ) :
  Calls Tryz.prog F.bU #[.pointer (some ⟨b,0,none⟩)] w λe w'=>∃ s,e=.returned (.string s)/\∃ R' aF,aA aF/\Ctx W w' (R'++G) aF/\K s R' aF:=by
 refine (vO b 0 (J:=λu w'=>∃ s,(Ending.returned u)=.returned (.string s)/\∃ R' aF,aA aF/\Ctx W w' (R'++G) aF/\K s R' aF) (R:=rq b st :: (S++G)) c ?_).mono λe w' ⟨v,he,hj⟩=>by rw [he];exact hj
 clear c
 refine λw G2 cx=>QL (S:=S++G) (.inl rfl) hl cx ?_
 clear cx
 rw [show ((58:Int).toNat.toUInt8)=(58:UInt8) from rfl]
 have a9J:=NB (e:=58) (least:=0) hok
 have hbd:=a6b (st:=st) a9J
 have hn:=lM (e:=58) (.inl rfl) st
 have hlen:=iG 58 0 st
 have hT:stepT st=if ((bR 58 0 st).2.1.length:Int)<(bR 58 0 st).1 then (ByteArray.mk #[],([],true)) else (if (oT 44 ((bR 58 0 st).2.1.drop (bR 58 0 st).1.toNat,(bR 58 0 st).2.2)).2 then ByteArray.mk #[] else bs ((bR 58 0 st).2.1.take (bR 58 0 st).1.toNat),oT 44 ((bR 58 0 st).2.1.drop (bR 58 0 st).1.toNat,(bR 58 0 st).2.2)):=rfl
 obtain ⟨⟨n,l,bad⟩,ha⟩:∃ a,bR 58 0 st=a:=⟨_,rfl⟩
 rw [ha] at a9J hbd hn hlen hT ⊢
 simp only at a9J hbd hn hlen hT ⊢
 have hsz:(bs l).size=l.length:=aT l
 have cell:∀ {w:World} {G2:List Own},Ctx W w (rq b (l,bad) :: (S++G)++G2) Φ->w.cell? ⟨b,0,none⟩=some (.string (bs l)):=λcx=>cx.get 0 rfl rfl
 refine λw G2 cx=>⟨bad,cx.get 0 rfl rfl,bs l,λ_=>cell cx,?_⟩
 clear cx
 rw [hsz]
 refine Br.intro (λh=>λw G2 cx=>HF (S:=S++G) cx λw G2 cx=>?_) (λh=>λw G2 cx=>⟨bs l,cell cx,?_,λw G2 cx=>⟨bs l,cell cx,?_,λw G2 cx=>⟨cx.can 0 rfl (by simp),λw' hw'=>?_⟩⟩⟩)
 ·rw [Bool.or_eq_true] at h
  rw [hbd (h.elim .inl λh=>.inr (of_decide_eq_true h))] at hk
  exact ⟨_,rfl,rq b ([],true) :: S,Φ,inferInstance,Ctx.left (S:=rq b ([],true) :: (S++G)) cx,hk⟩
 all_goals rw [Bool.or_eq_false_iff] at h
 all_goals have h1:=of_decide_eq_false h.2
 ·rw [hsz];omega
 ·rw [hsz];exact ⟨by omega,by omega,Nat.le_refl _⟩
 ·have c2:=cx.put 0 hw' rfl
  have e1:(bs l).extract n.toNat (bs l).size=bs (l.drop n.toNat):=by
   rw [AQ,hsz,List.take_of_length_le (by rw [List.length_drop];omega)]
  rw [e1] at c2
  have b3b:jX (l.drop n.toNat,bad):=λhb=>by
   have:bad=true:=hb
   rw [h.1] at this;cases this
  rw [if_neg (by omega)] at hT
  rw [hT] at hk
  refine ⟨rq b (l.drop n.toNat,bad) :: (S++G),Φ,inferInstance,c2,λw G2 cx=>a6a (S:=S++G) (st:=(l.drop n.toNat,bad)) (e:=44) (by decide) b3b cx ?_⟩
  clear cx c2
  rw [show ((44:Int).toNat.toUInt8)=(44:UInt8) from rfl]
  obtain ⟨c,hcq⟩:∃ c,oT 44 (l.drop n.toNat,bad)=c:=⟨_,rfl⟩
  rw [hcq] at hk ⊢
  refine Br.intro (λh2=>λw G2 cx=>⟨_,rfl,rq b c :: S,Φ,inferInstance,Ctx.left (S:=rq b c :: (S++G)) cx,?_⟩) (λh2=>λw G2 cx=>⟨_,rfl,rq b c :: S,Φ,inferInstance,Ctx.left (S:=rq b c :: (S++G)) cx,?_⟩)
  ·have h2:c.2=true:=by simpa using h2
   simp only [h2,if_true] at hk
   exact hk
  ·have h2:c.2=false:=by simpa using h2
   have e2:(bs l).extract 0 n.toNat=bs (l.take n.toNat):=by rw [AQ,List.drop_zero,Nat.sub_zero]
   rw [e2]
   simp only [h2] at hk
   exact hk
end
end Go.Proofs.YtfccagphnfceiaaGreatDoor
end

section
namespace Go.Proofs.YtfccagphnfceiaaGreatDoor
open Go.Vc
theorem VI (st:iK):(aL st).2.1.length<=st.1.length:=iG 59 (-9223372036854775808) st
def C7:Nat->iK->List cG->List cG × iK
 | 0,st,acc=>(acc,st)
 | n+1,st,acc=>C7 n (dA st).2 (acc++[(dA st).1])
theorem ZS (b:Bool):(dA ([],b)).2=([],true):=by
 have h1:∀ b,aL ([],b)=(0,([],true)):=λb=>uC (V9 _ _)
 have h2:∀ b,bR 58 0 (([]:List UInt8),b)=(0,([],true)):=λb=>uC (V9 _ _)
 unfold dA
 rw [h1,h1]
 unfold stepT
 rw [h2]
 rfl
theorem ZT:∀ (n:Nat) (acc:List cG),(C7 n ([],true) acc).2=([],true)
 | 0,acc=>rfl
 | n+1,acc=>by
  show (C7 n (dA ([],true)).2 _).2=_
  rw [ZS]
  exact ZT n _
theorem ZU:∀ (n:Nat) (st:iK) (acc:List cG),(∀ a s',eN n st acc=some (a,s')->C7 n st acc=(a,s'))/\(eN n st acc=none->eJ (C7 n st acc).2=false)
 | 0,st,acc=>⟨λa s' h=>by unfold eN at h;exact Option.some.inj h,λh=>by unfold eN at h;cases h⟩
 | n+1,st,acc=>by
  have ih:=ZU n (dA st).2 (acc++[(dA st).1])
  unfold eN C7
  split
  ·rename_i hnil
   refine ⟨λa s' h=>(by cases h),λ_=>?_⟩
   obtain ⟨l,b⟩:=st
   have hnil:l=[]:=hnil
   rw [hnil,ZS,ZT]
   rfl
  ·exact ih
theorem ZV:∀ (n:Nat) (st:iK) (acc:List cG),(C7 n st acc).1.length=acc.length+n
 | 0,st,acc=>rfl
 | n+1,st,acc=>by
  show (C7 n (dA st).2 (acc++[(dA st).1])).1.length=_
  rw [ZV n,List.length_append,List.length_singleton];omega
theorem NF:∀ (n:Nat) (st:iK) (acc:List cG),st.1.length<n->eN n st acc=none
 | 0,st,acc,h=>by omega
 | n+1,st,acc,h=>by
  unfold eN
  split
  ·rfl
  ·rename_i hne
   exact NF n _ _ (by have:=(HB st).2.1 hne;omega)
theorem aDW {l:List UInt8} {n:Int} {s0:iK} (h0:dW (l,false)=(n,s0)) (hn:0<=n):cV l=(let x:=C7 (min n.toNat l.length) s0 [];if eJ x.2=true/\(x.1.length:Int)=n then some x.1 else none):=by
 have hlen:s0.1.length<=l.length:=by
  have h:=iG 59 0 (l,false)
  have e:bR 59 0 (l,false)=(n,s0):=h0
  rw [e] at h
  exact h
 have hP:cV l=match eN n.toNat s0 [] with
  | some (acc,st)=>if eJ st then some acc else none
  | none=>none:=by
  show (match eN (dW (l,false)).1.toNat (dW (l,false)).2 [] with
   | some (acc,st)=>if eJ st then some acc else none
   | none=>none)=_
  rw [h0]
 rw [hP]
 simp only
 have hL:=ZV (min n.toNat l.length) s0 []
 rw [List.length_nil,Nat.zero_add] at hL
 rcases Nat.lt_or_ge l.length n.toNat with hlt|hge
 ·rw [NF _ _ _ (by omega)]
  rw [if_neg λh=>by have:=h.2;omega]
 ·have hm:min n.toNat l.length=n.toNat:=Nat.min_eq_left hge
  rw [hm] at hL ⊢
  obtain ⟨k1,k2⟩:=ZU n.toNat s0 []
  cases hr:eN n.toNat s0 [] with
  | none=>simp only;rw [if_neg λh=>by rw [k2 hr] at h;cases h.1]
  | some x =>
   obtain ⟨a,s'⟩:=x
   have hv:=k1 a s' hr
   rw [hv] at hL ⊢
   simp only at hL ⊢
   by_cases hd:eJ s'=true
   ·rw [if_pos hd,if_pos ⟨hd,by omega⟩]
   ·rw [if_neg hd,if_neg λh=>hd h.1]
section
variable {W w:World} {R G S:List Own} {Φ:PW} {b:Nat} {st:iK}
set_option maxHeartbeats 1000000 in
theorem a1q [aA Φ] (l:List UInt8) (hl:l.length<=10000000) (c:Ctx W w (R++G) Φ) {K:Option Addr->Nat->Nat->Bool->List Own->PW->Prop}
  (h0:cV l=none->K none 0 0 false R Φ)
  (h1:∀ r p cap,cV l=some r->r.length<=cap->cap<=maxLen->aA (λM w=>Φ M w/\Sl M w p r)->K p r.length cap true R (λM w=>Φ M w/\Sl M w p r)) :
  Calls Tryz.prog F.fX #[.string (bs l)] w λe w'=>∃ p n c ok,e=.returned (.tuple #[.slice p n c,.bool ok])/\∃ R' aF,aA aF/\Ctx W w' (R'++G) aF/\K p n c ok R' aF:=by
 refine (AP (bs l) (J:=λu w'=>∃ p n c ok,(Ending.returned u)=.returned (.tuple #[.slice p n c,.bool ok])/\∃ R' aF,aA aF/\Ctx W w' (R'++G) aF/\K p n c ok R' aF) (R:=R++G) c ?_).mono λe w' ⟨v,he,hj⟩=>by rw [he];exact hj
 clear c
 have hsz:(bs l).size=l.length:=aT l
 refine λw G2 cx=>ZQ (S:=R++G) l cx λb=>?_
 clear cx
 refine λw G2 cx=>ZR (S:=R++G) (by show l.length<=_;omega) cx ?_
 clear cx
 have hok:jX (dW (l,false)).2:=a3P (aJk l)
 have hlen:(dW (l,false)).2.1.length<=l.length:=iG 59 0 (l,false)
 have hnn:0<=(dW (l,false)).1/\(dW (l,false)).1<=9223372036854775807:=lM (e:=59) (.inr (.inl rfl)) (l,false)
 obtain ⟨⟨n0,YX⟩,hst⟩:∃ x,dW (l,false)=x:=⟨_,rfl⟩
 have hsame:=aDW hst (by rw [hst] at hnn;exact hnn.1)
 rw [hst] at hok hlen hnn ⊢
 simp only at hok hlen hnn ⊢
 obtain ⟨m,hm⟩:∃ m,min n0.toNat l.length=m:=⟨_,rfl⟩
 rw [hm] at hsame
 refine bY (λp n c iI R' aF k=>∃ (i:Nat) (sl:iK) (acc:List cG) (ds:List Value),iI=i/\i<=m/\acc.length=i/\n=acc.length/\R'=.buf p n c ds 147 3 :: rq b sl :: (R++G)/\aF=(λM w=>Φ M w/\aQ M w ds acc)/\k=m - i/\jX sl/\sl.1.length<=l.length/\C7 m YX []=C7 (m - i) sl acc)
  ⟨⟨.buf none 0 0 [] 147 3 :: rq b YX :: (R++G),λM w=>Φ M w/\aQ M w [] ([]:List cG),_,inferInstance,λw G cx=>(cx.yC 147 3).weak λM w h=>⟨h,aQ.nil⟩,0,YX,[],[],rfl,Nat.zero_le _,rfl,rfl,rfl,rfl,rfl,hok,hlen,rfl⟩,?_⟩
 rintro p n c iI R1 bH k _ ⟨i,sl,acc,ds,rfl,him,hacc,rfl,rfl,rfl,rfl,a9J,b59,hvl⟩
 have st1:aA (λM w=>Φ M w/\aQ M w ds acc):=inferInstance
 refine λw G2 cx=>?_
 clear cx
 rw [hsz]
 refine Br.intro (λCI=>λ_ w G2 cx=>?_) (λtU=>λw G2 cx=>?_)
 ·rw [Bool.and_eq_true] at CI
  have g1:=of_decide_eq_true CI.1
  have g2:=of_decide_eq_true CI.2
  have him:i<m:=by omega
  rw [show m - i=(m - (i+1))+1 by omega] at hvl
  have hvl:C7 m YX []=C7 (m - (i+1)) (dA sl).2 (acc++[(dA sl).1]):=hvl
  have q1:=VI sl
  have q2:=VI (aL sl).2
  obtain ⟨q3,q4⟩:=r7 (aL (aL sl).2).2
  refine P6 (S:=.buf p acc.length c ds 147 3 :: (R++G)) (by omega) cx.swap ?_
  clear cx
  refine λw G2 cx=>P6 (S:=.buf p acc.length c ds 147 3 :: (R++G)) (by omega) cx ?_
  clear cx
  refine λw G2 cx=>VH (S:=.buf p acc.length c ds 147 3 :: (R++G)) (kZ (kZ a9J)) (by omega) cx ?_
  clear cx
  refine λkb w G2 cx=>?_
  have b3c:∀ M w,Gv.rep M w [.int .i64 (dA sl).1.kind,.int .i64 (dA sl).1.num,.string (dA sl).1.text] (dA sl).1:=λM w=>aCj (gJ _) (gJ _) (by show (stepT (aL (aL sl).2).2).1.size<=maxLen;unfold maxLen;omega)
  have J1:Ctx W w (.blk kb [.int .i64 (dA sl).1.kind,.int .i64 (dA sl).1.num,.string (dA sl).1.text] 147 :: .buf p acc.length c ds 147 3 :: (rq b (dA sl).2 :: (R++G))++G2) (λM w=>Φ M w/\aQ M w ds acc):=cx.perm ((List.Perm.swap _ _ _).cons _)
  obtain ⟨p',cap',w',hrun,_,cx'⟩:=Ctx.a2t (P:=Tryz.prog) (ts:=29) (ty:=29) (kb:=#[false,false]) (size:=3) (bytes:=32) J1 (by kernel_rfl) (by omega) rfl rfl (by omega) (by omega)
  have e:acc.length+1=(acc++[(dA sl).1]).length:=by simp
  rw [e] at hrun cx'
  refine ⟨p',_,cap',w',hrun,_,_,inferInstance,cx'.weak λM w h=>(⟨h.1,h.2.snoc (b3c M w)⟩:Φ M w/\aQ M w _ (acc++[(dA sl).1])),by unfold aR;omega,_,_,m - (i+1),inferInstance,λw G cx=>cx,⟨i+1,(dA sl).2,_,_,by omega,by omega,by rw [<-e];omega,rfl,rfl,rfl,rfl,NC (kZ (kZ a9J)),?_,hvl⟩,by omega⟩
  have:=(HB sl).1
  omega
 ·have him:i=m:=by
   rcases Bool.and_eq_false_iff.1 tU with h|h
   ·have:=of_decide_eq_false h;omega
   ·have:=of_decide_eq_false h;omega
  rw [him,Nat.sub_self] at hvl
  rw [hvl] at hsame
  have hsame:cV l=if eJ sl=true/\(acc.length:Int)=n0 then some acc else none:=hsame
  refine HG (S:=.buf p acc.length c ds 147 3 :: (R++G)) cx.swap ?_
  clear cx
  have drop:∀ {w:World} {G2:List Own},Ctx W w (rq b sl :: (.buf p acc.length c ds 147 3 :: (R++G))++G2) (λM w=>Φ M w/\aQ M w ds acc)->Ctx W w (R++G) Φ:=fun {w G2} cx=>(Ctx.drop1 (Ctx.drop1 (Ctx.left (S:=rq b sl :: .buf p acc.length c ds 147 3 :: (R++G)) cx))).fst
  refine Br.intro (λh=>λw G2 cx=>⟨none,0,0,false,rfl,R,Φ,inferInstance,drop cx,h0 (by rw [hsame,if_neg λh2=>by rw [h2.1] at h;cases h])⟩) (λh=>Br.intro (λh2=>λw G2 cx=>⟨none,0,0,false,rfl,R,Φ,inferInstance,drop cx,h0 (by rw [hsame,if_neg λh3=>absurd h3.2 (of_decide_eq_true h2)])⟩) (λh2=>λw G2 cx=>?_))
  have hd:eJ sl=true:=by simpa using h
  have cx2:Ctx W w (.buf p acc.length c ds 147 3 :: (R++G)) (λM w=>Φ M w/\aQ M w ds acc):=Ctx.drop1 (Ctx.left (S:=rq b sl :: .buf p acc.length c ds 147 3 :: (R++G)) cx)
  obtain ⟨cx3,hs,_,k1,k2⟩:=Ctx.freeze (α:=cG) cx2 cx2.gW.2
  exact ⟨p,_,c,true,rfl,R,_,inferInstance,(cx3.add hs).weak λM w h=>⟨h.1.1,h.2⟩,h1 acc p c (by rw [hsame,if_pos ⟨hd,Decidable.not_not.1 (of_decide_eq_false h2)⟩]) k1 k2 inferInstance⟩
theorem XC [aA Φ] (s:ByteArray) (hl:s.size<=10000000) (c:Ctx W w (R++G) Φ) {K:Option Addr->Nat->Nat->Bool->List Own->PW->Prop}
  (h0:cV s.data.toList=none->K none 0 0 false R Φ)
  (h1:∀ r p cap,cV s.data.toList=some r->r.length<=cap->cap<=maxLen->aA (λM w=>Φ M w/\Sl M w p r)->K p r.length cap true R (λM w=>Φ M w/\Sl M w p r)) :
  Calls Tryz.prog F.fX #[.string s] w λe w'=>∃ p n c ok,e=.returned (.tuple #[.slice p n c,.bool ok])/\∃ R' aF,aA aF/\Ctx W w' (R'++G) aF/\K p n c ok R' aF:=by
 have:=a1q (l:=s.data.toList) (by rw [fB];exact hl) c h0 h1
 rw [aH0] at this
 exact this
end
end Go.Proofs.YtfccagphnfceiaaGreatDoor
end

section
namespace Go.Proofs.YtfccagphnfceiaaGreatDoor
set_option maxRecDepth 100000
open Go.Vc
end Go.Proofs.YtfccagphnfceiaaGreatDoor
end

section
namespace Go.Proofs.YtfccagphnfceiaaGreatDoor
set_option maxRecDepth 100000
open Go.Vc
def qC (value:ByteArray) (W:World) (R:List Own) (Φ:PW) (J:Value->World->Prop):Prop :=
 Zc W R Φ Tryz.prog F.mT #[] λe2 q=>∃ c4,e2=.returned (.bool c4)/\q λR5 iQ=>Br (decide (600<(↑value.size:Int))) (Zr W R5 iQ J (.bool c4)) (Zc W R5 iQ Tryz.prog F.F4 #[] λe11 q=>∃ WL,e11=.returned (.pointer WL)/\q λR14 M8=>Zc W R14 M8 Tryz.prog F.qG #[] λe18 q=>∃ RZ,e18=.returned (.pointer RZ)/\q λL3 uA=>Br WL.isNone (Zr W L3 uA J (.bool false)) (Zc W L3 uA Tryz.prog F.BB #[.pointer WL,.int .i64 3] λe27 q=>∃ p29 W0,e27=.returned (Value.tuple #[.pointer p29,.int .i64 W0])/\q λHZ wV=>Zc W HZ wV Tryz.prog F.kL #[.pointer RZ,.int .i64 3] λe35 q=>∃ p37 n38,e35=.returned (Value.tuple #[.pointer p37,.int .i64 n38])/\q λR39 TJ=>vZ λ(I41:List Own->PW->Prop)=>(Zd W R39 TJ λw42=>Br (p29.isNone||p37.isNone) (Zr W R39 TJ J (.bool false)) (∃ R46 CU,aA CU/\Wk W R39 TJ R46 CU/\I41 R46 CU))/\∀ (R50:List Own) (I51:List Nat->World->Prop),aA I51->I41 R50 I51->Zc W R50 I51 Tryz.prog F.pN #[.pointer p29,.string value] λe54 q=>∃ n56,e54=.returned (.int .i64 n56)/\q λR57 BP=>Zc W R57 BP Tryz.prog F.jK #[.pointer p37,.string value] λe61 q=>∃ n63,e61=.returned (.int .i64 n63)/\q λR64 O5=>Zc W R64 O5 Tryz.prog F.nM #[.pointer WL,.int .i64 3] λe68 q=>∃ p70 n71,e68=.returned (Value.tuple #[.pointer p70,.int .i64 n71])/\q λR72 FB=>Zc W R72 FB Tryz.prog F.oD #[.pointer RZ,.int .i64 3] λe76 q=>∃ p78 n79,e76=.returned (Value.tuple #[.pointer p78,.int .i64 n79])/\q λR80 X6=>vZ λ(I82:List Own->PW->Prop)=>(Zd W R80 X6 λw83=>Br (decide (n71≠n79)||p70.isNone != p78.isNone) (Zr W R80 X6 J (.bool false)) (∃ R87 a0N,aA a0N/\Wk W R80 X6 R87 a0N/\I82 R87 a0N))/\∀ (R91:List Own) (I92:List Nat->World->Prop),aA I92->I82 R91 I92->vZ λ(I93:List Own->PW->Prop)=>(Zd W R91 I92 λw94=>Br (p70.isNone||p78.isNone) (Zr W R91 I92 J (.bool c4)) (∃ R98 aBe,aA aBe/\Wk W R91 I92 R98 aBe/\I93 R98 aBe))/\∀ (aVk:List Own) (aMg:List Nat->World->Prop),aA aMg->I93 aVk aMg->Zc W aVk aMg Tryz.prog F.gP #[.pointer p70] λb3f q=>∃ n108 n109 aVl aG7 aG8,b3f=.returned (Value.tuple #[.int .i64 n108,.int .i64 n109,.slice aVl aG7 aG8])/\q λE6 sZ=>∃ X3 BU,aA BU/\Wk W E6 sZ X3 BU/\Br c4 (jD none p78 λa5D b3g=>∃ (n121:Int),(Zd W X3 BU λaF2=>∃ n124,aF2.cell? (Addr.mk a5D (b3g+2) none)=some (.int .i64 n124)/\Value.int IntKind.i64 n124=Value.int IntKind.i64 n121)/\Zc W E6 sZ Tryz.prog F.aS #[.pointer p70] λaKP q=>∃ n129,aKP=.returned (.int .i64 n129)/\q λa03 MP=>Wk W a03 MP X3 BU/\∃ a01 QI,aA QI/\Wk W a03 MP a01 QI/\Br (decide (n129=n121)) (jD none p78 λb3h GH=>∃ (n140:Int),(Zd W a01 QI λa2P=>∃ n143,a2P.cell? (Addr.mk b3h (GH+1) none)=some (.int .i64 n143)/\Value.int IntKind.i64 n143=Value.int IntKind.i64 n140)/\∀ ON UJ,Ctx W ON (a03++UJ) MP->Calls Tryz.prog F.bF #[.pointer p70] ON λb3i b3j=>∃ n148,b3i=.returned (.int .i64 n148)/\∃ IB wE,aA wE/\Ctx W b3j (IB ++ UJ) wE/\Wk W IB wE a01 QI/\∃ aVm aDY,aA aDY/\Wk W IB wE aVm aDY/\Br (decide (n148=n140)) (Zc W IB wE Tryz.prog F.dD #[.pointer p70] λb3k q=>∃ aVn,b3k=.returned (.string aVn)/\q λaDa aJn=>Wk W aDa aJn aVm aDY/\Zc W aDa aJn Tryz.prog F.eZ #[.pointer p78] λaMh q=>∃ aVo,aMh=.returned (.string aVo)/\q λa2Q MQ=>∃ a9K VJ,aA VJ/\Wk W a2Q MQ a9K VJ/\Br (decide (aVn=aVo)) (jD none p78 λaGy b3l=>∃ (n179:Int),(Zd W a9K VJ λb3m=>∃ n182,b3m.cell? (Addr.mk aGy (b3l+4) none)=some (.int .i64 n182)/\Value.int IntKind.i64 n182 = Value.int IntKind.i64 n179)/\Br (decide (n108=n179)) (jD none p78 λb3n b3o=>∃ (n185:Int),(Zd W a9K VJ λb3p=>∃ n188,b3p.cell? (Addr.mk b3n (b3o+5) none)=some (.int .i64 n188)/\Value.int IntKind.i64 n188=Value.int IntKind.i64 n185)/\Br (decide (n109=n185)) (jD none p78 λb3q b3r=>∃ (aCF:Option Addr) (aVp aVq:Nat),(Zd W a9K VJ λb3s=>∃ aVr aVs aVt,b3s.cell? (Addr.mk b3q (b3r+7) none)=some (.slice aVr aVs aVt)/\Value.slice aVr aVs aVt=Value.slice aCF aVp aVq)/\Zc W a2Q MQ Tryz.prog F.fA #[.slice aVl aG7 aG8,.slice aCF aVp aVq] λb3t q=>∃ c203,b3t=.returned (.bool c203)/\q λb3u aVu=>Zr W b3u aVu J (.bool c203)) (Zr W a2Q MQ J (.bool false))) (Zr W a2Q MQ J (.bool false))) (Zr W a2Q MQ J (.bool false))) (∃ b3v aJo,aA aJo/\Wk W IB wE b3v aJo/\Zr W IB wE J (.bool false))) (∃ a5F ZB,aA ZB/\Wk W a03 MP a5F ZB/\∃ a6c NG,aA NG/\Wk W a03 MP a6c NG/\Zr W a03 MP J (.bool false))) (∃ aDh V5,aA V5/\Wk W E6 sZ aDh V5/\∃ b3w aJp,aA aJp/\Wk W E6 sZ b3w aJp/\∃ aLf a7v,aA a7v/\Wk W E6 sZ aLf a7v/\Zr W E6 sZ J (.bool false))))
theorem vW (value:ByteArray) {W w:World} {R:List Own} {Φ:PW} [aA Φ] {J:Value->World->Prop} (c:Ctx W w R Φ) (h:qC value W R Φ J):Calls Tryz.prog F.kK #[.string value] w λe w'=>∃ v,e=.returned v/\J v w' :=
 aB (H:={ keep:=some [0,2,3,4,5,6,8,10,11,12,13,14,15,16,20,25,41,67,73],cF:=[(21,[.held [(0,true),(1,true),(2,true),(4,true),(5,true),(6,true),(7,true),(3,false)],.held [(8,true),(9,true),(10,true),(11,true),(13,true),(14,true),(15,true),(16,true),(12,false)],.held [(17,true),(18,true),(19,true),(20,true),(22,true),(21,false)],.aO [] (some 23),.held [(24,true),(25,true),(26,true),(27,true),(28,true),(29,true),(30,true),(31,true),(32,true),(33,true),(34,true),(35,true),(36,true),(37,true),(38,true),(39,true),(40,true),(41,true),(42,true),(43,true),(44,true),(45,true),(46,true),(47,true)],.aO [] (some 48),.aO [49,50] none])],QW:=[(12,[],[]),(18,[],[]),(20,[],[])] }) (by rw [show aW Tryz.prog W { keep:=some [0,2,3,4,5,6,8,10,11,12,13,14,15,16,20,25,41,67,73],cF:=[(21,[.held [(0,true),(1,true),(2,true),(4,true),(5,true),(6,true),(7,true),(3,false)],.held [(8,true),(9,true),(10,true),(11,true),(13,true),(14,true),(15,true),(16,true),(12,false)],.held [(17,true),(18,true),(19,true),(20,true),(22,true),(21,false)],.aO [] (some 23),.held [(24,true),(25,true),(26,true),(27,true),(28,true),(29,true),(30,true),(31,true),(32,true),(33,true),(34,true),(35,true),(36,true),(37,true),(38,true),(39,true),(40,true),(41,true),(42,true),(43,true),(44,true),(45,true),(46,true),(47,true)],.aO [] (some 48),.aO [49,50] none])],QW:=[(12,[],[]),(18,[],[]),(20,[],[])] } F.kK #[.string value] R Φ J=qC value W R Φ J by kernel_rfl];exact h) c
def C8  (W:World) (R:List Own) (Φ:PW) (J:Value->World->Prop):Prop :=
 ∀ (k0:Nat) (w1:World) (R2:List Own),Ctx W w1 (Own.blk k0 [.slice none 0 0,.slice none 0 0,.int .i64 0,.bool false,.int .i64 0,.slice none 0 0] 117 :: R++R2) Φ->J (.pointer (some (Addr.mk k0 0 none))) w1
theorem GI  {W w:World} {R:List Own} {Φ:PW} [aA Φ] {J:Value->World->Prop} (c:Ctx W w R Φ) (h:C8  W R Φ J):Calls Tryz.prog F.qG #[] w λe w'=>∃ v,e=.returned v/\J v w' :=
 aB (H:={ keep:=some [0] }) (by rw [show aW Tryz.prog W { keep:=some [0] } F.qG #[] R Φ J=C8  W R Φ J by kernel_rfl];exact h) c
def A7 (dB dO:Nat) (file:Int) (W:World) (R:List Own) (Φ:PW) (J:Value->World->Prop):Prop :=
 Zc W R Φ Tryz.prog F.gD #[.pointer (some (Addr.mk dB dO none)),.int .i64 file,.int .i64 0,.int .i64 5] λe2 q=>∃ s4 n5,e2=.returned (Value.tuple #[.string s4,.int .i64 n5])/\q λR6 Y6=>Br (decide (n5≠0)) (Zr W R6 Y6 J (Value.tuple #[.pointer none,.int .i64 n5])) (∀ (xD:Nat),Br (decide (s4=ByteArray.mk #[])) (Zr W (Own.blk xD [Value.pointer (some (Addr.mk dB dO none)),Value.int IntKind.i64 file,Value.int IntKind.i64 0,Value.string (ByteArray.mk #[]),Value.bool false] 125 :: R6) Y6 J (Value.tuple #[.pointer (some (Addr.mk xD 0 none)),.int .i64 0])) (∃ (u13:UInt8),((0:Int)<=0/\s4.data.toList.get?Internal 0=some u13)/\Br (decide ((↑u13.toNat:Int)=0)) (Zr W (Own.blk xD [Value.pointer (some (Addr.mk dB dO none)),Value.int IntKind.i64 file,Value.int IntKind.i64 0,Value.string (ByteArray.mk #[]),Value.bool false] 125 :: R6) Y6 J (Value.tuple #[.pointer (some (Addr.mk xD 0 none)),.int .i64 0])) (Br (decide ((↑s4.size:Int)<5)) (Zr W (Own.blk xD [Value.pointer (some (Addr.mk dB dO none)),Value.int IntKind.i64 file,Value.int IntKind.i64 0,Value.string (ByteArray.mk #[]),Value.bool false] 125 :: R6) Y6 J (Value.tuple #[.pointer none,.int .i64 2])) (Zd W (Own.blk xD [Value.pointer (some (Addr.mk dB dO none)),Value.int IntKind.i64 file,Value.int IntKind.i64 0,Value.string (ByteArray.mk #[]),Value.bool false] 125 :: R6) Y6 λw18=>∃ (u20:UInt8),((0:Int)<=1/\s4.data.toList.get?Internal 1=some u20)/\∃ (u21:UInt8),((0:Int)<=2/\s4.data.toList.get?Internal 2=some u21)/\aR (256 * IntKind.i64.wrap (↑u21.toNat:Int))/\aR (IntKind.i64.wrap (↑u20.toNat:Int)+256*IntKind.i64.wrap (↑u21.toNat:Int))/\∃ (u22:UInt8),((0:Int)<=3/\s4.data.toList.get?Internal 3=some u22)/\aR (65536*IntKind.i64.wrap (↑u22.toNat:Int))/\aR (IntKind.i64.wrap (↑u20.toNat:Int)+256*IntKind.i64.wrap (↑u21.toNat:Int)+65536*IntKind.i64.wrap (↑u22.toNat:Int))/\∃ (u23:UInt8),((0:Int)<=4/\s4.data.toList.get?Internal 4=some u23)/\aR (16777216*IntKind.i64.wrap (↑u23.toNat:Int))/\aR (IntKind.i64.wrap (↑u20.toNat:Int)+256*IntKind.i64.wrap (↑u21.toNat:Int)+65536*IntKind.i64.wrap (↑u22.toNat:Int)+16777216*IntKind.i64.wrap (↑u23.toNat:Int))/\Zd W (Own.blk xD [Value.pointer (some (Addr.mk dB dO none)),Value.int IntKind.i64 file,Value.int IntKind.i64 0,Value.string (ByteArray.mk #[]),Value.bool false] 125 :: R6) Y6 λTC=>∃ (u26:UInt8),((0:Int)<=0/\s4.data.toList.get?Internal 0=some u26)/\∃ (u27:UInt8),(decide ((↑u26.toNat:Int)≠1)=true->(0:Int)<=0/\s4.data.toList.get?Internal 0=some u27)/\Br (decide ((↑u26.toNat:Int)≠1)&&decide ((↑u27.toNat:Int)≠2)||decide (65536<IntKind.i64.wrap (↑u20.toNat:Int)+256*IntKind.i64.wrap (↑u21.toNat:Int)+65536*IntKind.i64.wrap (↑u22.toNat:Int)+16777216*IntKind.i64.wrap (↑u23.toNat:Int))) (Zr W (Own.blk xD [Value.pointer (some (Addr.mk dB dO none)),Value.int IntKind.i64 file,Value.int IntKind.i64 0,Value.string (ByteArray.mk #[]),Value.bool false] 125 :: R6) Y6 J (Value.tuple #[.pointer none,.int .i64 2])) (∃ (u30:UInt8),((0:Int)<=0/\s4.data.toList.get?Internal 0=some u30)/\∀ w31 R32,Ctx W w31 (Own.blk xD [Value.pointer (some (Addr.mk dB dO none)), Value.int IntKind.i64 file,Value.int IntKind.i64 0,Value.string (ByteArray.mk #[]),Value.bool false] 125 :: R6++R32) Y6->aE w31 xD 2 1/\∀ (w33:World),w33=w31.setCell (Addr.mk xD 2 none) (Value.int IntKind.i64 (IntKind.i64.wrap (↑u30.toNat:Int)))->∃ S1 yU,aA yU/\Ctx W w33 (S1++R32) yU/\Zd W S1 yU λw36=>∃ n38,w36.cell? (Addr.mk xD 2 none)=some (.int .i64 n38)/\Zc W S1 yU Tryz.prog F.jL #[.int .i64 n38] λe41 q=>∃ n43,e41=.returned (.int .i64 n43)/\q λR44 b3y=>Zc W R44 b3y Tryz.prog F.gD #[.pointer (some (Addr.mk dB dO none)),.int .i64 file,.int .i64 n43,.int .i64 (IntKind.i64.wrap (↑u20.toNat:Int)+256*IntKind.i64.wrap (↑u21.toNat:Int)+65536 * IntKind.i64.wrap (↑u22.toNat:Int)+16777216*IntKind.i64.wrap (↑u23.toNat:Int))] λe48 q=>∃ s50 n51,e48=.returned (Value.tuple #[.string s50,.int .i64 n51])/\q λR52 JT=>∀ w54 R55,Ctx W w54 (R52++R55) JT->aE w54 xD 3 1/\∀ (w56:World),w56=w54.setCell (Addr.mk xD 3 none) (Value.string s50)->∃ R57 BP,aA BP/\Ctx W w56 (R57++R55) BP/\Br (decide (n51≠0)) (Zr W R57 BP J (Value.tuple #[.pointer none,.int .i64 n51])) (Zd W R57 BP λw61=>∃ s63,w61.cell? (Addr.mk xD 3 none)=some (.string s63)/\Br (decide ((↑s63.size:Int)≠IntKind.i64.wrap (↑u20.toNat:Int)+256*IntKind.i64.wrap (↑u21.toNat:Int)+65536*IntKind.i64.wrap (↑u22.toNat:Int)+16777216*IntKind.i64.wrap (↑u23.toNat:Int))) (Zr W R57 BP J (Value.tuple #[.pointer none,.int .i64 2])) (Zr W R57 BP J (Value.tuple #[.pointer (some (Addr.mk xD 0 none)),.int .i64 0]))))))))
theorem EK (dB dO:Nat) (file:Int) {W w:World} {R:List Own} {Φ:PW} [aA Φ] {J:Value->World->Prop} (c:Ctx W w R Φ) (h:A7 dB dO file W R Φ J):Calls Tryz.prog F.kL #[.pointer (some ⟨dB,dO,none⟩),.int .i64 file] w λe w'=>∃ v,e=.returned v/\J v w' :=
 aB (H:={ keep:=some [0,1,4,5,6,7,8,9,17,24,28,32,62,85,93] }) (by rw [show aW Tryz.prog W { keep:=some [0,1,4,5,6,7,8,9,17,24,28,32,62,85,93] } F.kL #[.pointer (some ⟨dB,dO,none⟩),.int .i64 file] R Φ J=A7 dB dO file W R Φ J by kernel_rfl];exact h) c
def tG (cB cO:Nat) (s:ByteArray) (W:World) (R:List Own) (Φ:PW) (J:Value->World->Prop):Prop :=
 Br (decide (65536<(↑s.size:Int))) (Zr W R Φ J (.int .i64 6)) (vZ λ(I2:List Own->PW->Prop)=>(Zd W R Φ λw3=>∃ c5,w3.cell? (Addr.mk cB (cO+4) none)=some (.bool c5)/\∃ (n6:Int),((!c5)=true->w3.cell? (Addr.mk cB (cO+2) none)=some (.int .i64 n6))/\Br (!c5&&decide (n6≠0)) (∃ R7 E2,aA E2/\Wk W R Φ R7 E2/\∃ (UI:Option Addr),(Zd W R7 E2 λM7=>∃ p14,M7.cell? (Addr.mk cB cO none)=some (.pointer p14)/\Value.pointer p14=Value.pointer UI)/\∃ (nT:Int),(Zd W R7 E2 λY4=>∃ W7,Y4.cell? (Addr.mk cB (cO+1) none)=some (.int .i64 W7)/\Value.int IntKind.i64 W7=Value.int IntKind.i64 nT)/\Zc W R Φ Tryz.prog F.dI #[.pointer UI,.int .i64 nT] λe21 q=>∃ BG,e21=.returned (.int .i64 BG)/\q λxE mQ=>Br (decide (BG≠0)) (Zr W xE mQ J (.int .i64 BG)) (∀ HN X1,Ctx W HN (xE++X1) mQ->aE HN cB (cO+4) 1/\∀ (TM:World),TM=HN.setCell (Addr.mk cB (cO+4) none) (Value.bool true)->∃ HZ wV,aA wV/\Ctx W TM (HZ++X1) wV/\∃ AW mP,aA mP/\Wk W HZ wV AW mP/\I2 AW mP)) (∃ R37 JW,aA JW/\Wk W R Φ R37 JW/\I2 R37 JW))/\∀ (KY:List Own) (I42:List Nat->World->Prop),aA I42->I2 KY I42->vZ λ(I43:Int->List Own->PW->Prop)=>(Zd W KY I42 λS4=>∃ YR,S4.cell? (Addr.mk cB (cO+2) none)=some (.int .i64 YR)/\Br (decide (YR=1)) (∃ KT AM,aA AM/\Wk W KY I42 KT AM/\I43 2 KT AM) (∃ R51 TP,aA TP/\Wk W KY I42 R51 TP/\I43 1 R51 TP))/\∀ (n55:Int) (R56:List Own) (I57:List Nat -> World->Prop),aA I57->I43 n55 R56 I57->∃ GY pO,aA pO/\Wk W R56 I57 GY pO/\∃ (p62:Option Addr),(Zd W GY pO λw63=>∃ p65,w63.cell? (Addr.mk cB cO none)=some (.pointer p65)/\Value.pointer p65=Value.pointer p62)/\∃ (n66:Int),(Zd W GY pO λw67=>∃ n69,w67.cell? (Addr.mk cB (cO+1) none)=some (.int .i64 n69)/\Value.int IntKind.i64 n69=Value.int IntKind.i64 n66)/\Zc W R56 I57 Tryz.prog F.jL #[.int .i64 n55] λe72 q=>∃ n74,e72=.returned (.int .i64 n74)/\q λR75 aVv=>Wk W R75 aVv GY pO/\Zc W R75 aVv Tryz.prog F.eL #[.pointer p62,.int .i64 n66,.int .i64 n74,.string s] λe81 q=>∃ n83,e81=.returned (.int .i64 n83)/\q λR84 V4=>Br (decide (n83≠0)) (Zr W R84 V4 J (.int .i64 n83)) (∃ R88 aG9,aA aG9/\Wk W R84 V4 R88 aG9/\∃ (p92:Option Addr),(Zd W R88 aG9 λw93=>∃ p95,w93.cell? (Addr.mk cB cO none)=some (.pointer p95)/\Value.pointer p95=Value.pointer p92)/\∃ (n96:Int),(Zd W R88 aG9 λw97=>∃ n99,w97.cell? (Addr.mk cB (cO+1) none)=some (.int .i64 n99)/\Value.int IntKind.i64 n99=Value.int IntKind.i64 n96)/\Zc W R84 V4 Tryz.prog F.dI #[.pointer p92,.int .i64 n96] λb3B q=>∃ n104,b3B=.returned (.int .i64 n104)/\q λaHa a7M=>Br (decide (n104≠0)) (Zr W aHa a7M J (.int .i64 n104)) (∃ a4N PZ,aA PZ/\Wk W aHa a7M a4N PZ /\ ((256:Int)=0->False)/\((256:Int)=0->False)/\aR ((↑s.size:Int).tdiv 256)/\((65536:Int)=0->False)/\aR ((↑s.size:Int).tdiv 65536)/\((256:Int)=0->False)/\∃ (aVw:Option Addr),(Zd W a4N PZ λaGc=>∃ aVx,aGc.cell? (Addr.mk cB cO none)=some (.pointer aVx)/\Value.pointer aVx=Value.pointer aVw)/\∃ (n117:Int),(Zd W a4N PZ λb3C=>∃ n120,b3C.cell? (Addr.mk cB (cO+1) none)=some (.int .i64 n120)/\Value.int IntKind.i64 n120=Value.int IntKind.i64 n117)/\∀ (aMj:Nat),Wk W (Own.blk aMj [.int IntKind.u8 (IntKind.u8.wrap n55),.int IntKind.u8 (IntKind.u8.wrap ((↑s.size:Int).tmod 256)),.int IntKind.u8 (IntKind.u8.wrap (((↑s.size:Int).tdiv 256).tmod 256)),.int IntKind.u8 (IntKind.u8.wrap ((↑s.size:Int).tdiv 65536)),.int IntKind.u8 0] 5 :: aHa) a7M (a4N) PZ/\∀ a8p aA1,Ctx W a8p (Own.blk aMj [.int IntKind.u8 (IntKind.u8.wrap n55),.int IntKind.u8 (IntKind.u8.wrap ((↑s.size:Int).tmod 256)),.int IntKind.u8 (IntKind.u8.wrap (((↑s.size:Int).tdiv 256).tmod 256)),.int IntKind.u8 (IntKind.u8.wrap ((↑s.size:Int).tdiv 65536)),.int IntKind.u8 0] 5 :: aHa++aA1) a7M->∃ (aVy:ByteArray) (aHb:World),Sem.run Tryz.prog (convert 129 9 (Value.slice (some (Addr.mk aMj 0 none)) 5 5)) a8p=Result.ok (Value.string aVy) aHb/\∃ aMk a7N,aA a7N/\Ctx W aHb (aMk++aA1) a7N/\Wk W aMk a7N a4N PZ/\Zc W aMk a7N Tryz.prog F.eL #[.pointer aVw,.int .i64 n117,.int .i64 0,.string aVy] λb3D q=>∃ n136,b3D=.returned (.int .i64 n136)/\q λa2O IY=>Br (decide (n136≠0)) (Zr W a2O IY J (.int .i64 n136)) (∀ a2P aBV,Ctx W a2P (a2O++aBV) IY->aE a2P cB (cO+2) 1/\∀ (a8V:World),a8V=a2P.setCell (Addr.mk cB (cO+2) none) (Value.int IntKind.i64 n55)->∃ aBM aDZ,aA aDZ/\Ctx W a8V (aBM++aBV) aDZ/\∀ a04 RJ,Ctx W a04 (aBM++RJ) aDZ->aE a04 cB (cO+3) 1/\∀ (a8W:World),a8W=a04.setCell (Addr.mk cB (cO+3) none) (Value.string s)->∃ IB wE,aA wE/\Ctx W a8W (IB++RJ) wE/\∀ a1i X8,Ctx W a1i (IB++X8) wE->aE a1i cB (cO+4) 1/\∀ (aVz:World),aVz=a1i.setCell (Addr.mk cB (cO+4) none) (Value.bool false)->∃ aMl a7O,aA a7O/\Ctx W aVz (aMl++X8) a7O/\∃ a5M N7,aA N7/\Wk W aMl a7O a5M N7/\∃ (aVA:Option Addr),(Zd W a5M N7 λaC9=>∃ aVB,aC9.cell? (Addr.mk cB cO none)=some (.pointer aVB) /\ Value.pointer aVB=Value.pointer aVA)/\∃ (n164:Int),(Zd W a5M N7 λaF6=>∃ n167,aF6.cell? (Addr.mk cB (cO+1) none)=some (.int .i64 n167)/\Value.int IntKind.i64 n167=Value.int IntKind.i64 n164)/\Zc W aMl a7O Tryz.prog F.dI #[.pointer aVA,.int .i64 n164] λb3E q=>∃ n172,b3E=.returned (.int .i64 n172)/\q λa9K VJ=>∀ aMm aVC,Ctx W aMm (a9K++aVC) VJ->aE aMm cB (cO+4) 1/\∀ (aVD:World),aVD=aMm.setCell (Addr.mk cB (cO+4) none) (Value.bool (decide (n172=0)))->∃ aGz a3k,aA a3k/\Ctx W aVD (aGz++aVC) a3k/\Zr W aGz a3k J (.int .i64 n172)))))
theorem yX (cB cO:Nat) (s:ByteArray) {W w:World} {R:List Own} {Φ:PW} [aA Φ] {J:Value->World->Prop} (c:Ctx W w R Φ) (h:tG cB cO s W R Φ J):Calls Tryz.prog F.jK #[.pointer (some ⟨cB,cO,none⟩),.string s] w λe w'=>∃ v,e=.returned v/\J v w' :=
 aB (H:={ keep:=some [0,1,4,5,6,7,8,11,23,34,43,57,69,97],cF:=[(4,[.held [(0,true),(4,true),(1,true),(5,true),(2,true),(6,true),(3,true),(7,true)],.aO [] (some 8),.aO [9] none]),(11,[.held [(0,true),(4,true),(8,true),(10,true),(1,true),(5,true),(2,true),(6,true),(3,true),(7,true),(9,false)],.aO [] (some 11),.aO [12] none]),(14,[.held [(0,true),(4,true),(1,true),(5,true),(2,true),(6,true),(3,true),(7,true)],.aO [] (some 8),.aO [9] none]),(18,[.held [(0,true),(4,true),(8,true),(10,true),(13,true),(17,true),(1,true),(5,true),(9,true),(11,true),(14,true),(18,true),(2,true),(6,true),(12,true),(15,true),(19,true),(3,true),(7,true),(16,true),(20,false),(21,false)],.aO [] (some 22),.aO [23] none]),(24,[.held [(0,true),(4,true),(1,true),(5,true),(2,true),(6,true),(3,true),(7,true)],.aO [] (some 8),.aO [9] none])],QW:=[(8,[],[]),(11,[(6,.one (.int .i64))],[])] }) (by rw [show aW Tryz.prog W { keep:=some [0,1,4,5,6,7,8,11,23,34,43,57,69,97],cF:=[(4,[.held [(0,true),(4,true),(1,true),(5,true),(2,true),(6,true),(3,true),(7,true)],.aO [] (some 8),.aO [9] none]),(11,[.held [(0,true),(4,true),(8,true),(10,true),(1,true),(5,true),(2,true),(6,true),(3,true),(7,true),(9,false)],.aO [] (some 11),.aO [12] none]),(14,[.held [(0,true),(4,true),(1,true),(5,true),(2,true),(6,true),(3,true),(7,true)],.aO [] (some 8),.aO [9] none]),(18,[.held [(0,true),(4,true),(8,true),(10,true),(13,true),(17,true),(1,true),(5,true),(9,true),(11,true),(14,true),(18,true),(2,true),(6,true),(12,true),(15,true),(19,true),(3,true),(7,true),(16,true),(20,false),(21,false)],.aO [] (some 22),.aO [23] none]),(24,[.held [(0,true),(4,true),(1,true),(5,true),(2,true),(6,true),(3,true),(7,true)],.aO [] (some 8),.aO [9] none])],QW:=[(8,[],[]),(11,[(6,.one (.int .i64))],[])] } F.jK #[.pointer (some ⟨cB,cO,none⟩),.string s] R Φ J=tG cB cO s W R Φ J by kernel_rfl];exact h) c
def A8 (dB dO:Nat) (file:Int) (W:World) (R:List Own) (Φ:PW) (J:Value->World->Prop):Prop :=
 Zc W R Φ Tryz.prog F.dI #[.pointer (some (Addr.mk dB dO none)),.int .i64 file] λe2 q=>∃ n4,e2=.returned (.int .i64 n4)/\q λR5 iQ=>Br (decide (n4≠0)) (Zr W R5 iQ J (Value.tuple #[.pointer none,.int .i64 n4])) (Zc W R5 iQ Tryz.prog F.kL #[.pointer (some (Addr.mk dB dO none)),.int .i64 file] λe11 q=>∃ WL EO,e11=.returned (Value.tuple #[.pointer WL,.int .i64 EO])/\q λNO TH=>Br (decide (EO≠0)) (Zr W NO TH J (Value.tuple #[.pointer none,.int .i64 EO])) (∀ (FG:Nat) (W8:World) (L3:List Own),Ctx W W8 (Own.blk FG [Value.pointer WL,Value.int IntKind.i64 0,Value.int IntKind.i64 0,Value.string (ByteArray.mk #[]), Value.int IntKind.i64 0,Value.int IntKind.i64 0,Value.string (ByteArray.mk #[]),Value.slice none 0 0,Value.bool false,Value.bool false] 77 :: NO++L3) TH->Calls Tryz.prog F.jM #[.pointer WL] W8 λe22 YB=>∃ s24 c25,e22=.returned (Value.tuple #[.string s24,.bool c25])/\∃ R26 O7,aA O7/\Ctx W YB (R26++L3) O7/\Br c25 (Zc W R26 O7 Tryz.prog F.fI #[.pointer (some (Addr.mk FG 0 none)),.string s24] λe30 q=>∃ c32,e30=.returned (.bool c32)/\q λAW mP=>Br (!c32) (Zr W AW mP J (Value.tuple #[.pointer none,.int .i64 2])) (Zr W AW mP J (Value.tuple #[.pointer (some (Addr.mk FG 0 none)),.int .i64 0]))) (Zr W R26 O7 J (Value.tuple #[.pointer (some (Addr.mk FG 0 none)),.int .i64 0]))))
theorem EL (dB dO:Nat) (file:Int) {W w:World} {R:List Own} {Φ:PW} [aA Φ] {J:Value->World->Prop} (c:Ctx W w R Φ) (h:A8 dB dO file W R Φ J):Calls Tryz.prog F.oD #[.pointer (some ⟨dB,dO,none⟩),.int .i64 file] w λe w'=>∃ v,e=.returned v/\J v w' :=
 aB (H:={ keep:=some [0,1,4,5,6,7,8,9,10,15,24,40],split:=[9] }) (by rw [show aW Tryz.prog W { keep:=some [0,1,4,5,6,7,8,9,10,15,24,40],split:=[9] } F.oD #[.pointer (some ⟨dB,dO,none⟩),.int .i64 file] R Φ J=A8 dB dO file W R Φ J by kernel_rfl];exact h) c
def l9 (cB cO:Nat) (W:World) (R:List Own) (Φ:PW) (J:Value->World->Prop):Prop :=
 Zd W R Φ λw0=>∃ n2,w0.cell? (Addr.mk cB (cO+2) none)=some (.int .i64 n2)/\Br (decide (n2=2)) (Zd W R Φ λw3=>∃ s5,w3.cell? (Addr.mk cB (cO+6) none)=some (.string s5)/\Zr W R Φ J (.string s5)) (Zd W R Φ λw8=>∃ s10,w8.cell? (Addr.mk cB (cO+3) none)=some (.string s10)/\Zr W R Φ J (.string s10))
theorem qP (cB cO:Nat) {W w:World} {R:List Own} {Φ:PW} [aA Φ] {J:Value->World->Prop} (c:Ctx W w R Φ) (h:l9 cB cO W R Φ J):Calls Tryz.prog F.eZ #[.pointer (some ⟨cB,cO,none⟩)] w λe w'=>∃ v,e=.returned v/\J v w' :=
 aB (H:={ keep:=some [0,2,7] }) (by rw [show aW Tryz.prog W { keep:=some [0,2,7] } F.eZ #[.pointer (some ⟨cB,cO,none⟩)] R Φ J=l9 cB cO W R Φ J by kernel_rfl];exact h) c
def rA (dB dO:Nat) (r4:Option Addr) (gN tC:Nat) (W:World) (R:List Own) (Φ:PW) (J:Value->World->Prop):Prop :=
 Zd W R Φ λw0=>∃ c2,w0.cell? (Addr.mk dB (dO+3) none)=some (.bool c2)/\Br c2 (Zr W R Φ J (Value.tuple #[])) (∀ w5 R6,Ctx W w5 (R++R6) Φ->aE w5 dB (dO+3) 1/\∀ (w7:World),w7=w5.setCell (Addr.mk dB (dO+3) none) (Value.bool true)->∃ R8 CC,aA CC/\Ctx W w7 (R8++R6) CC/\∀ YC EP,Ctx W YC (R8++EP) CC->aE YC dB (dO+4) 1/\∀ (M7:World),M7=YC.setCell (Addr.mk dB (dO+4) none) (Value.int IntKind.i64 0)->∃ R13 ED,aA ED/\Ctx W M7 (R13++EP) ED/\vZ λ(I15:Int->List Own->PW->Nat->Prop)=>(Zs W R13 ED (I15 0))/\∀ TL zQ I23 W5,aA I23->I15 TL zQ I23 W5->Zd W zQ I23 λw25=>∃ p27 k28 k29,w25.cell? (Addr.mk dB (dO+1) none)=some (.slice p27 k28 k29)/\Br (decide (TL<(↑k28:Int))&&decide (0 < (↑gN:Int))) (((↑gN:Int)=0->False)/\(0<=TL.tmod (↑gN:Int)/\TL.tmod (↑gN:Int)<(↑gN:Int))/\jD none r4 λk30 k31=>Zd W zQ I23 λKX=>∃ n34,KX.cell? (Addr.mk k30 (k31+(TL.tmod (↑gN:Int)).toNat) none)=some (.int .i64 n34)/\∃ (Q4:Int),(∀ (w36:World),Sem.run Tryz.prog (binOp BinOp.and 3 (Value.int IntKind.i64 n34) (Value.int IntKind.i64 1)) w36=Result.ok (Value.int IntKind.i64 Q4) w36)/\Br (decide (Q4=1)) (Zd W zQ I23 λHR=>∃ p39 k40 k41,HR.cell? (Addr.mk dB (dO+1) none)=some (.slice p39 k40 k41)/\Zi TL k40 p39 λk42 k43=>Zd W zQ I23 λS4=>∃ YR n47,dH S4 k42 (k43+TL.toNat*2) [.int .i64 YR,.int .i64 n47]/\Zc W zQ I23 Tryz.prog F.gR #[.pointer (some (Addr.mk dB dO none)),Value.agg #[.int .i64 YR,.int .i64 n47]] λe50 q=>e50=.returned (Value.tuple #[])/\q λR52 JT=>aR (TL+1)/\Zb W R52 JT W5 (I15 (TL+1))) (aR (TL+1)/\Zb W zQ I23 W5 (I15 (TL+1)))) (vZ λ(aR:Option Addr->Nat->Nat->Int->List Own->PW->Nat->Prop)=>(Zs W zQ I23 (aR none 0 0 0))/\∀ p70 k71 k72 n73 R74 I75 k76,aA I75->aR p70 k71 k72 n73 R74 I75 k76->Zd W R74 I75 λw77=>∃ p79 k80 k81,w77.cell? (Addr.mk dB dO none)=some (.slice p79 k80 k81)/\Br (decide (n73<(↑k80:Int))) (∃ Z9 KI,aA KI/\Wk W R74 I75 Z9 KI/\∃ (p86:Option Addr) (k87 k88:Nat),(Zd W Z9 KI λw89=>∃ p91 k92 k93,w89.cell? (Addr.mk dB dO none)=some (.slice p91 k92 k93)/\Value.slice p91 k92 k93=Value.slice p86 k87 k88)/\∃ (p94:Option Addr) (k95 k96:Nat),(Zd W Z9 KI λw97=>∃ p99 aVF aFH,w97.cell? (Addr.mk dB dO none)=some (.slice p99 aVF aFH)/\Value.slice p99 aVF aFH=Value.slice p94 k95 k96)/\∃ (aBZ:Option Addr) (aB0 a84:Nat),(Zd W Z9 KI λa2s=>∃ aVG aGU a4T,a2s.cell? (Addr.mk dB dO none)=some (.slice aVG aGU a4T)/\Value.slice aVG aGU a4T=Value.slice aBZ aB0 a84)/\Zi n73 k87 p86 λaKh aG7=>Zi n73 k95 p94 λaG8 b3F=>Zi n73 aB0 aBZ λaD0 WU=>∃ (n116:Int),(Zd W Z9 KI λaFF=>∃ n119,aFF.cell? (Addr.mk aKh (aG7+n73.toNat*3) none)=some (.int .i64 n119)/\Value.int IntKind.i64 n119=Value.int IntKind.i64 n116)/\∃ (a82:ByteArray),(Zd W Z9 KI λaJ5=>∃ a0H,aJ5.cell? (Addr.mk aG8 (b3F+n73.toNat*3+2) none)=some (.string a0H)/\Value.string a0H=Value.string a82)/\∃ (aMn:ByteArray),(Zd W Z9 KI λaF4=>∃ aVH,aF4.cell? (Addr.mk aD0 (WU+n73.toNat*3+2) none)=some (.string aVH)/\Value.string aVH=Value.string aMn)/\∀ (aMo:Nat),Wk W (Own.blk aMo [.int .i64 n116,.string a82,.string aMn] 142 :: R74) I75 (Z9) KI/\∀ a9s RN,Ctx W a9s (Own.blk aMo [.int .i64 n116,.string a82,.string aMn] 142 :: R74++RN) I75->∃ (aVI:Option Addr) (aVJ aVK:Nat) (aBU:World),Sem.run Tryz.prog (builtin Builtin.append #[114,114] 114 #[false,false] #[.slice p70 k71 k72,.slice (some (Addr.mk aMo 0 none)) 1 1]) a9s=.ok (.value (.slice aVI aVJ aVK)) aBU/\∃ a2O IY,aA IY/\Ctx W aBU (a2O++RN) IY/\Vc.aR (n73+1)/\Zb W a2O IY k76 (aR aVI aVJ aVK (n73+1))) (∀ ON UJ,Ctx W ON (R74++UJ) I75->aE ON dB dO 1/\∀ (a04:World),a04=ON.setCell (Addr.mk dB dO none) (Value.slice p70 k71 k72)->∃ RJ FV,aA FV/\Ctx W a04 (RJ++UJ) FV/\∀ aMp aVL,Ctx W aMp (RJ++aVL) FV->aE aMp dB (dO+1) 1/\∀ (a1i:World),a1i=aMp.setCell (Addr.mk dB (dO+1) none) (Value.slice none 0 0)->∃ X8 a3W,aA a3W/\Ctx W a1i (X8++aVL) a3W/\Zr W X8 a3W J (Value.tuple #[]))))
theorem x8 (dB dO:Nat) (r4:Option Addr) (gN tC:Nat) {W w:World} {R:List Own} {Φ:PW} [aA Φ] {J:Value->World->Prop} (c:Ctx W w R Φ) (h:rA dB dO r4 gN tC W R Φ J):Calls Tryz.prog F.cZ #[.pointer (some ⟨dB,dO,none⟩),.slice r4 gN tC] w λe w'=>∃ v,e=.returned v/\J v w' :=
 aB (H:={ keep:=some [0,1,4,5,6,10,28,39,55],cF:=[(12,[.held [(0,true),(1,true),(5,true),(9,true),(13,true),(17,true),(21,true),(2,true),(10,true),(18,true),(3,true),(11,true),(19,true),(4,true),(12,true),(20,true),(6,true),(14,true),(22,true),(7,true),(15,true),(23,true),(8,true),(16,true),(24,true),(25,true),(26,false)],.aO [] (some 27),.aO [28] none])],loops:=[(10,[(5,.one (.slice)),(6,.one (.int .i64))],[]),(4,[(4,.one (.int .i64))],[])] }) (by rw [show aW Tryz.prog W { keep:=some [0,1,4,5,6,10,28,39,55],cF:=[(12,[.held [(0,true),(1,true),(5,true),(9,true),(13,true),(17,true),(21,true),(2,true),(10,true),(18,true),(3,true),(11,true),(19,true),(4,true),(12,true),(20,true),(6,true),(14,true),(22,true),(7,true),(15,true),(23,true),(8,true),(16,true),(24,true),(25,true),(26,false)],.aO [] (some 27),.aO [28] none])],loops:=[(10,[(5,.one (.slice)),(6,.one (.int .i64))],[]),(4,[(4,.one (.int .i64))],[])] } F.cZ #[.pointer (some ⟨dB,dO,none⟩),.slice r4 gN tC] R Φ J=rA dB dO r4 gN tC W R Φ J by kernel_rfl];exact h) c
def sH (dB dO:Nat) (f:Int) (eK:Int) (size:Int) (W:World) (R:List Own) (Φ:PW) (J:Value->World->Prop):Prop :=
 Zc W R Φ Tryz.prog F.fN #[.pointer (some (Addr.mk dB dO none)),.int .i64 f] λe2 q=>∃ n4,e2=.returned (.int .i64 n4)/\q λR5 iQ=>Br (decide (n4≠0)) (Zr W R5 iQ J (Value.tuple #[.string (ByteArray.mk #[]),Value.int IntKind.i64 n4])) (Zd W R5 iQ λw9=>Br (decide (eK<0)||decide (size<0)) (Zr W R5 iQ J (Value.tuple #[.string (ByteArray.mk #[]),Value.int IntKind.i64 1])) (Zc W R5 iQ Tryz.prog F.eH #[.pointer (some (Addr.mk dB dO none)),.int .i64 f] λe15 q=>∃ KV CW s19,e15=.returned (Value.agg #[.int .i64 KV,.string CW,.string s19])/\q λO6 HQ=>Br (decide ((↑CW.size:Int)<=eK)) (Zr W O6 HQ J (Value.tuple #[.string (ByteArray.mk #[]),Value.int IntKind.i64 0])) (aR ((↑CW.size:Int) - eK)/\aR (eK+min size ((↑CW.size:Int) - eK))/\(0<=eK/\eK<=eK+min size ((↑CW.size:Int) - eK)/\eK+min size ((↑CW.size:Int) - eK)<=(↑CW.size:Int))/\Zr W O6 HQ J (Value.tuple #[.string (CW.extract eK.toNat (eK+min size ((↑CW.size:Int) - eK)).toNat),.int .i64 0]))))
theorem yQ (dB dO:Nat) (f:Int) (eK:Int) (size:Int) {W w:World} {R:List Own} {Φ:PW} [aA Φ] {J:Value->World->Prop} (c:Ctx W w R Φ) (h:sH dB dO f eK size W R Φ J):Calls Tryz.prog F.gD #[.pointer (some ⟨dB,dO,none⟩),.int .i64 f,.int .i64 eK,.int .i64 size] w λe w'=>∃ v,e=.returned v/\J v w' :=
 aB (H:={ keep:=some [0,1,2,3,8,9,10,11,16,23,31] }) (by rw [show aW Tryz.prog W { keep:=some [0,1,2,3,8,9,10,11,16,23,31] } F.gD #[.pointer (some ⟨dB,dO,none⟩),.int .i64 f,.int .i64 eK,.int .i64 size] R Φ J=sH dB dO f eK size W R Φ J by kernel_rfl];exact h) c
def yR (slot:Int) (W:World) (R:List Own) (Φ:PW) (J:Value->World->Prop):Prop :=
 Br (decide (slot=2)) (Zr W R Φ J (.int .i64 131072)) (Zr W R Φ J (.int .i64 64))
theorem DD (slot:Int) {W w:World} {R:List Own} {Φ:PW} [aA Φ] {J:Value->World->Prop} (c:Ctx W w R Φ) (h:yR slot W R Φ J):Calls Tryz.prog F.jL #[.int .i64 slot] w λe w'=>∃ v,e=.returned v/\J v w' :=
 aB (H:={ keep:=some [0,2,4] }) (by rw [show aW Tryz.prog W { keep:=some [0,2,4] } F.jL #[.int .i64 slot] R Φ J=yR slot W R Φ J by kernel_rfl];exact h) c
def sI (dB dO:Nat) (f:Int) (W:World) (R:List Own) (Φ:PW) (J:Value->World->Prop):Prop :=
 Zc W R Φ Tryz.prog F.fT #[.pointer (some (Addr.mk dB dO none)),Value.int IntKind.i64 0,Value.int IntKind.i64 0,Value.string (ByteArray.mk #[])] λe2 q=>e2=.returned (Value.tuple #[])/\q λR4 Φ5=>Zc W R4 Φ5 Tryz.prog F.fN #[.pointer (some (Addr.mk dB dO none)),.int .i64 f] λe8 q=>∃ Q3,e8=.returned (.int .i64 Q3)/\q λEP FC=>Br (decide (Q3≠0)) (Zr W EP FC J (.int .i64 Q3)) (Zd W EP FC λME=>∃ KV,ME.cell? (Addr.mk dB (dO+2) none)=some (.int .i64 KV)/\Br (decide (0<KV)) (Zd W EP FC λw18=>∃ YD,w18.cell? (Addr.mk dB (dO+2) none)=some (.int .i64 YD)/\aR (YD - 1)/\∀ w21 zQ,Ctx W w21 (EP ++ zQ) FC->aE w21 dB (dO+2) 1/\∀ (YB:World),YB=w21.setCell (Addr.mk dB (dO+2) none) (Value.int IntKind.i64 (YD - 1))->∃ xE mQ,aA mQ/\Ctx W YB (xE++zQ) mQ/\Zr W xE mQ J (.int .i64 10)) (Zc W EP FC Tryz.prog F.eH #[.pointer (some (Addr.mk dB dO none)),.int .i64 f] λe30 q=>∃ n32 s33 s34,e30=.returned (Value.agg #[.int .i64 n32,.string s33,.string s34])/\q λR35 O9=>Zc W R35 O9 Tryz.prog F.iD #[.pointer (some (Addr.mk dB dO none)),.int .i64 f,.string s33] λe39 q=>e39=.returned (Value.tuple #[])/\q λKY AK=>Zr W KY AK J (.int .i64 0)))
theorem yS (dB dO:Nat) (f:Int) {W w:World} {R:List Own} {Φ:PW} [aA Φ] {J:Value->World->Prop} (c:Ctx W w R Φ) (h:sI dB dO f W R Φ J):Calls Tryz.prog F.dI #[.pointer (some ⟨dB,dO,none⟩),.int .i64 f] w λe w'=>∃ v,e=.returned v/\J v w' :=
 aB (H:={ keep:=some [0,1,4,5,12,18] }) (by rw [show aW Tryz.prog W { keep:=some [0,1,4,5,12,18] } F.dI #[.pointer (some ⟨dB,dO,none⟩),.int .i64 f] R Φ J=sI dB dO f W R Φ J by kernel_rfl];exact h) c
def rD (dB dO:Nat) (f:Int) (eK:Int) (s:ByteArray) (W:World) (R:List Own) (Φ:PW) (J:Value->World->Prop):Prop :=
 Zc W R Φ Tryz.prog F.fT #[.pointer (some (Addr.mk dB dO none)),.int .i64 f,.int .i64 eK,.string s] λe2 q=>e2=.returned (Value.tuple #[])/\q λR4 Φ5=>Zc W R4 Φ5 Tryz.prog F.fN #[.pointer (some (Addr.mk dB dO none)),.int .i64 f] λe8 q=>∃ Q3,e8=.returned (.int .i64 Q3)/\q λEP FC=>Br (decide (Q3≠0)) (Zr W EP FC J (.int .i64 Q3)) (Br (decide (eK<0)) (Zr W EP FC J (.int .i64 1)) (Zc W EP FC Tryz.prog F.kS #[.int .i64 eK,.string s] λe19 q=>∃ c21,e19=.returned (.bool c21)/\q λzQ lX=>Br (!c21) (Zr W zQ lX J (.int .i64 6)) (Zc W zQ lX Tryz.prog F.gX #[.pointer (some (Addr.mk dB dO none)),.int .i64 f,.int .i64 eK,.string s] λe28 q=>e28=.returned (Value.tuple #[])/\q λTI FE=>Zr W TI FE J (.int .i64 0))))
theorem x9 (dB dO:Nat) (f:Int) (eK:Int) (s:ByteArray) {W w:World} {R:List Own} {Φ:PW} [aA Φ] {J:Value->World->Prop} (c:Ctx W w R Φ) (h:rD dB dO f eK s W R Φ J):Calls Tryz.prog F.eL #[.pointer (some ⟨dB,dO,none⟩),.int .i64 f,.int .i64 eK,.string s] w λe w'=>∃ v,e=.returned v/\J v w' :=
 aB (H:={ keep:=some [0,1,2,3,8,9,19,22,26] }) (by rw [show aW Tryz.prog W { keep:=some [0,1,2,3,8,9,19,22,26] } F.eL #[.pointer (some ⟨dB,dO,none⟩),.int .i64 f,.int .i64 eK,.string s] R Φ J=rD dB dO f eK s W R Φ J by kernel_rfl];exact h) c
def tH (cB cO:Nat) (W:World) (R:List Own) (Φ:PW) (J:Value->World->Prop):Prop :=
 Zd W R Φ λw0=>∃ s2,w0.cell? (Addr.mk cB (cO+3) none)=some (.string s2)/\∃ n3,w0.cell? (Addr.mk cB (cO+2) none)=some (.int .i64 n3)/\Zr W R Φ J (Value.tuple #[.string s2,.bool (decide (n3≠0))])
theorem yY (cB cO:Nat) {W w:World} {R:List Own} {Φ:PW} [aA Φ] {J:Value->World->Prop} (c:Ctx W w R Φ) (h:tH cB cO W R Φ J):Calls Tryz.prog F.jM #[.pointer (some ⟨cB,cO,none⟩)] w λe w'=>∃ v,e=.returned v/\J v w' :=
 aB (H:={ keep:=some [0,2,3] }) (by rw [show aW Tryz.prog W { keep:=some [0,2,3] } F.jM #[.pointer (some ⟨cB,cO,none⟩)] R Φ J=tH cB cO W R Φ J by kernel_rfl];exact h) c
def lF (cB cO:Nat) (s:ByteArray) (W:World) (R:List Own) (Φ:PW) (J:Value->World->Prop):Prop :=
 Zc W R Φ Tryz.prog F.kT #[.string s] λe2 q=>∃ p4,e2=.returned (.pointer p4)/\q λR5 iQ=>Zc W R5 iQ Tryz.prog F.aK #[.pointer p4] λe9 q=>∃ JS,e9=.returned (.int .i64 JS)/\q λuO j3=>∀ MA NO,Ctx W MA (uO++NO) j3->aE MA cB (cO+1) 1/\∀ (Y4:World),Y4=MA.setCell (Addr.mk cB (cO+1) none) (Value.int IntKind.i64 JS)->∃ PU xX,aA xX/\Ctx W Y4 (PU++NO) xX/\Zc W PU xX Tryz.prog F.aK #[.pointer p4] λe21 q=>∃ BG,e21=.returned (.int .i64 BG)/\q λxE mQ=>∀ JR CS,Ctx W JR (xE++CS) mQ->aE JR cB (cO+2) 1/\∀ (HN:World),HN = JR.setCell (Addr.mk cB (cO+2) none) (Value.int IntKind.i64 BG)->∃ X1 IF,aA IF/\Ctx W HN (X1++CS) IF/\Zc W X1 IF Tryz.prog F.bU #[.pointer p4] λe33 q=>∃ s35,e33=.returned (.string s35)/\q λKW FF=>∀ w38 R39,Ctx W w38 (KW++R39) FF->aE w38 cB (cO+3) 1/\∀ (w40:World),w40=w38.setCell (Addr.mk cB (cO+3) none) (Value.string s35)->∃ KY AK,aA AK/\Ctx W w40 (KY++R39) AK/\Zd W KY AK λw43=>∃ n45,w43.cell? (Addr.mk cB (cO+1) none)=some (.int .i64 n45)/\∃ (YR:Int),((!decide (n45<0))=true->w43.cell? (Addr.mk cB (cO+2) none)=some (.int .i64 YR))/\∃ (n47:Int),((!(decide (n45<0)||decide (YR<0)))=true->w43.cell? (Addr.mk cB (cO+2) none)=some (.int .i64 n47))/\Br (decide (n45 < 0)||decide (YR<0)||decide (2<n47)) (Zr W KY AK J (.bool false)) (Zd W KY AK λw50=>∃ n52,w50.cell? (Addr.mk cB (cO+2) none)=some (.int .i64 n52)/\Br (decide (n52=0)) (Zc W KY AK Tryz.prog F.dL #[.pointer p4] λe55 q=>∃ c57,e55=.returned (.bool c57)/\q λGY pO=>Zr W GY pO J (.bool c57)) (Zc W KY AK Tryz.prog F.aK #[.pointer p4] λe64 q=>∃ n66,e64=.returned (.int .i64 n66)/\q λR67 EF=>∀ w69 R70,Ctx W w69 (R67++R70) EF->aE w69 cB (cO+4) 1/\∀ (w71:World),w71=w69.setCell (Addr.mk cB (cO+4) none) (Value.int IntKind.i64 n66)->∃ R72 FB,aA FB /\ Ctx W w71 (R72++R70) FB/\Zc W R72 FB Tryz.prog F.aK #[.pointer p4] λe76 q=>∃ n78,e76=.returned (.int .i64 n78)/\q λR79 JX=>∀ w81 Z9,Ctx W w81 (R79++Z9) JX->aE w81 cB (cO+5) 1/\∀ (w83:World),w83=w81.setCell (Addr.mk cB (cO+5) none) (Value.int IntKind.i64 n78)->∃ R84 V4,aA V4/\Ctx W w83 (R84++Z9) V4/\Zc W R84 V4 Tryz.prog F.bU #[.pointer p4] λe88 q=>∃ s90,e88=.returned (.string s90)/\q λR91 b3G=>∀ w93 R94,Ctx W w93 (R91++R94) b3G->aE w93 cB (cO+6) 1/\∀ (w95:World),w95=w93.setCell (Addr.mk cB (cO+6) none) (Value.string s90)->∃ R96 aMq,aA aMq/\Ctx W w95 (R96++R94) aMq/\Zc W R96 aMq Tryz.prog F.eM #[.pointer p4] λaLG q=>∃ n102,aLG=.returned (.int .i64 n102)/\q λa2r MD=>vZ λ(V6:Int->List Own->PW->Nat->Prop)=>(Zs W a2r MD (V6 0))/\∀ n111 a8S aHd aD0,aA aHd->V6 n111 a8S aHd aD0->Br (decide (n111<n102)) (Zc W a8S aHd Tryz.prog F.iE #[.pointer p4] λb3H q=>∃ n119,b3H=.returned (.int .i64 n119)/\q λG0 yO=>Br (decide (0<n119)) (∃ a9L VK,aA VK/\Wk W G0 yO a9L VK/\∃ (n126:Int),(Zd W a9L VK λaHb=>∃ n129,aHb.cell? (Addr.mk cB (cO+4) none)=some (.int .i64 n129)/\Value.int IntKind.i64 n129=Value.int IntKind.i64 n126)/\(Zc W G0 yO Tryz.prog F.aK #[.pointer p4] λb3I q=>∃ n134,b3I=.returned (.int .i64 n134)/\q λa83 aD1=>Wk W a83 aD1 a9L VK/\(∀ (GH:Nat),Wk W (Own.blk GH [.int .i64 0,.int .i64 0,.int .i64 0,.slice none 0 0,.int .i64 0,.int .i64 0,.int .i64 0] 31 :: a83) aD1 (a9L) VK/\∀ aMr aVM,Ctx W aMr (Own.blk GH [.int .i64 0,.int .i64 0,.int .i64 0,.slice none 0 0,.int .i64 0,.int .i64 0,.int .i64 0] 31 :: a83++aVM) aD1->aE aMr GH 0 7/\∀ (ON:World),ON=aMr.setCells GH 0 [.int .i64 n134,.int .i64 n126,.int .i64 0,.slice none 0 0,.int .i64 0,.int .i64 0,.int .i64 0]->∃ UJ aD2,aA aD2/\Ctx W ON (UJ++aVM) aD2/\Zc W UJ aD2 Tryz.prog F.aK #[.pointer p4] λb3J q=>∃ n151,b3J=.returned (.int .i64 n151)/\q λX8 a3W=>∀ a5i aGx,Ctx W a5i (X8++aGx) a3W->aE a5i GH 2 1/\∀ (aVN:World),aVN=a5i.setCell (Addr.mk GH 2 none) (Value.int IntKind.i64 n151)->∃ aC8 ZA,aA ZA/\Ctx W aVN (aC8++aGx) ZA/\Zc W aC8 ZA Tryz.prog F.bU #[.pointer p4] λb3K q=>∃ aF5,b3K=.returned (.string aF5)/\q λaGE a3r=>Zc W aGE a3r Tryz.prog F.fX #[.string aF5] λaMh q=>∃ a8Y N5 aMs c173,aMh=.returned (Value.tuple #[.slice a8Y N5 aMs,.bool c173])/\q λa5f QD=>∀ aMt aVO,Ctx W aMt (a5f++aVO) QD->aE aMt GH 3 1/\∀ (aVP:World),aVP=aMt.setCell (Addr.mk GH 3 none) (Value.slice a8Y N5 aMs)->∃ aGF a3s,aA a3s/\Ctx W aVP (aGF++aVO) a3s/\Zc W aGF a3s Tryz.prog F.aK #[.pointer p4] λaLI q=>∃ n185,aLI=.returned (.int .i64 n185)/\q λb3L aVQ=>∀ aMu aGG,Ctx W aMu (b3L++aGG) aVQ->aE aMu GH 4 1/\∀ (aVR:World),aVR=aMu.setCell (Addr.mk GH 4 none) (Value.int IntKind.i64 n185)->∃ aVS aD3,aA aD3/\Ctx W aVR (aVS++aGG) aD3/\Zc W aVS aD3 Tryz.prog F.aK #[.pointer p4] λb3M q=>∃ n197,b3M=.returned (.int .i64 n197)/\q λaLe aVT=>∀ aMv aVU,Ctx W aMv (aLe++aVU) aVT->aE aMv GH 5 1/\∀ (aVV:World),aVV=aMv.setCell (Addr.mk GH 5 none) (Value.int IntKind.i64 n197)->∃ aGH a3t,aA a3t/\Ctx W aVV (aGH++aVU) a3t/\Zc W aGH a3t Tryz.prog F.aK #[.pointer p4] λaLM q=>∃ n209,aLM=.returned (.int .i64 n209)/\q λaLN aDb=>∀ a5E aDc,Ctx W a5E (aLN++aDc) aDb->aE a5E GH 6 1/\∀ (aDd:World),aDd=a5E.setCell (Addr.mk GH 6 none) (Value.int IntKind.i64 n209)->∃ a3m J3,aA J3/\Ctx W aDd (a3m++aDc) J3/\Br (!c173) (Zr W a3m J3 J (.bool false)) (∀ aDe a5F,Ctx W aDe (a3m++a5F) J3->Calls Tryz.prog F.gY #[.slice a8Y N5 aMs] aDe λb3N aDf=>∃ aVW,b3N = .returned (.bool aVW)/\∃ a6c NG,aA NG/\Ctx W aDf (a6c++a5F) NG/\Br (!aVW) (Zr W a6c NG J (.bool false)) (∃ a3u ZW,aA ZW/\Wk W a6c NG a3u ZW/\∃ (n232 n233 n234:Int) (a9o:Option Addr) (a9p a9q:Nat) (n238 n239 n240:Int),(Zd W a3u ZW λb3O=>∃ n243 n244 n245 aVX aDi aVY n249 n250 n251,dH b3O GH 0 [.int .i64 n243,.int .i64 n244,.int .i64 n245,.slice aVX aDi aVY,.int .i64 n249,.int .i64 n250,.int .i64 n251]/\Value.agg #[.int .i64 n243,.int .i64 n244,.int .i64 n245,.slice aVX aDi aVY,.int .i64 n249,.int .i64 n250,.int .i64 n251]=Value.agg #[.int .i64 n232,.int .i64 n233,.int .i64 n234,.slice a9o a9p a9q,.int .i64 n238,.int .i64 n239,.int .i64 n240])/\∃ (aVZ:Option Addr) (aV0 aV1:Nat),(∀ aV2 b3P,Ctx W aV2 (a3u++b3P) ZW -> ∃ aV3 aV4 aV5,aV2.cell? (Addr.mk cB (cO+7) none)=some (.slice aV3 aV4 aV5)/\Value.slice aV3 aV4 aV5=Value.slice aVZ aV0 aV1)/\∀ (aMw:Nat),Wk W (Own.blk aMw [.int .i64 n232,.int .i64 n233,.int .i64 n234,.slice a9o a9p a9q,.int .i64 n238,.int .i64 n239,.int .i64 n240] 31 :: a6c) NG (a3u) ZW/\∀ aV6 aV7,Ctx W aV6 (Own.blk aMw [.int .i64 n232,.int .i64 n233,.int .i64 n234,.slice a9o a9p a9q,.int .i64 n238,.int .i64 n239,.int .i64 n240] 31 :: a6c++aV7) NG->∃ (aCJ:Option Addr) (aCK aCL:Nat) (aV8:World),Sem.run Tryz.prog (builtin Builtin.append #[22,22] 22 #[false,false] #[.slice aVZ aV0 aV1,.slice (some (Addr.mk aMw 0 none)) 1 1]) aV6=.ok (.value (.slice aCJ aCK aCL)) aV8/\∃ aMx a7P,aA a7P/\Ctx W aV8 (aMx++aV7) a7P/\Wk W aMx a7P a3u ZW/\∀ aMy aV9,Ctx W aMy (aMx++aV9) a7P -> aE aMy cB (cO+7) 1/\∀ (aGI:World),aGI=aMy.setCell (Addr.mk cB (cO+7) none) (Value.slice aCJ aCK aCL)->∃ aWa aD4,aA aD4/\Ctx W aGI (aWa++aV9) aD4/\aR (n111+1)/\Zb W aWa aD4 aD0 (V6 (n111+1)))))/\True)/\(∀ (KM:Nat),Wk W (Own.blk KM [.int .i64 0,.int .i64 0,.int .i64 0,.slice none 0 0,.int .i64 0,.int .i64 0,.int .i64 0] 31 :: G0) yO (a9L) VK/\(Zc W (Own.blk KM [.int .i64 0,.int .i64 0,.int .i64 0,.slice none 0 0,.int .i64 0,.int .i64 0,.int .i64 0] 31 :: G0) yO Tryz.prog F.aK #[.pointer p4] λb3Q q=>∃ n290,b3Q=.returned (.int .i64 n290)/\q λaWb aJr=>Wk W aWb aJr a9L VK/\∀ aMz aWc,Ctx W aMz (aWb++aWc) aJr -> aE aMz KM 0 7/\∀ (aWd:World),aWd=aMz.setCells KM 0 [.int .i64 n290,.int .i64 n126,.int .i64 0,.slice none 0 0,.int .i64 0,.int .i64 0,.int .i64 0]->∃ aGA a3o,aA a3o/\Ctx W aWd (aGA++aWc) a3o/\Zc W aGA a3o Tryz.prog F.aK #[.pointer p4] λaLi q=>∃ n304,aLi=.returned (.int .i64 n304)/\q λaLj aCN=>∀ aMA aDn,Ctx W aMA (aLj++aDn) aCN->aE aMA KM 2 1/\∀ (aWe:World),aWe=aMA.setCell (Addr.mk KM 2 none) (Value.int IntKind.i64 n304)->∃ aWf aD5,aA aD5/\Ctx W aWe (aWf++aDn) aD5/\∀ aWg a9r,Ctx W aWg (aWf++a9r) aD5->Calls Tryz.prog F.bU #[.pointer p4] aWg λb3R b3S=>∃ aWh,b3R=.returned (.string aWh)/\∃ aWi aD6,aA aD6/\Ctx W b3S (aWi ++ a9r) aD6/\Zc W aWi aD6 Tryz.prog F.fX #[.string aWh] λb3T q=>∃ aMB aMC aMD aWj,b3T=.returned (Value.tuple #[.slice aMB aMC aMD,.bool aWj])/\q λaCP a3p=>∀ aME aWk,Ctx W aME (aCP++aWk) a3p->aE aME KM 3 1/\∀ (aWl:World),aWl=aME.setCell (Addr.mk KM 3 none) (Value.slice aMB aMC aMD)->∃ aWm aD7,aA aD7/\Ctx W aWl (aWm++aWk) aD7/\Zc W aWm aD7 Tryz.prog F.aK #[.pointer p4] λb3U q=>∃ n338,b3U=.returned (.int .i64 n338)/\q λaGO a3v=>∀ aMF aWn,Ctx W aMF (aGO++aWn) a3v->aE aMF KM 4 1/\∀ (aWo:World),aWo=aMF.setCell (Addr.mk KM 4 none) (Value.int IntKind.i64 n338) -> ∃ aWp aD8,aA aD8/\Ctx W aWo (aWp++aWn) aD8/\Zc W aWp aD8 Tryz.prog F.aK #[.pointer p4] λb3V q=>∃ aWq,b3V=.returned (.int .i64 aWq)/\q λaGP a3w=>∀ aMG aWr,Ctx W aMG (aGP++aWr) a3w->aE aMG KM 5 1/\∀ (aWs:World),aWs=aMG.setCell (Addr.mk KM 5 none) (Value.int IntKind.i64 aWq)->∃ a5I aD9,aA aD9/\Ctx W aWs (a5I++aWr) aD9/\Zc W a5I aD9 Tryz.prog F.aK #[.pointer p4] λb3W q=>∃ aWt,b3W=.returned (.int .i64 aWt)/\q λb3X aWu=>∀ aMH aWv,Ctx W aMH (b3X++aWv) aWu->aE aMH KM 6 1/\∀ (aWw:World),aWw=aMH.setCell (Addr.mk KM 6 none) (Value.int IntKind.i64 aWt) -> ∃ aMI a7Q,aA a7Q/\Ctx W aWw (aMI++aWv) a7Q/\Br (!aWj) (Zr W aMI a7Q J (.bool false)) (Zc W aMI a7Q Tryz.prog F.gY #[.slice aMB aMC aMD] λb3Y q=>∃ aWx,b3Y=.returned (.bool aWx)/\q λaHe a7R=>Br (!aWx) (Zr W aHe a7R J (.bool false)) (∃ aEa ZX,aA ZX/\Wk W aHe a7R aEa ZX/\∃ (aMJ aMK aCS:Int) (aML:Option Addr) (aMM aMN:Nat) (aMO aMP aMQ:Int),(Zd W aEa ZX λb3Z=>∃ aWy aWz aWA aWB aCT aWC aWD aDt aDu,dH b3Z KM 0 [.int .i64 aWy,.int .i64 aWz,.int .i64 aWA,.slice aWB aCT aWC,.int .i64 aWD,.int .i64 aDt,.int .i64 aDu]/\Value.agg #[.int .i64 aWy,.int .i64 aWz,.int .i64 aWA,.slice aWB aCT aWC,.int .i64 aWD,.int .i64 aDt,.int .i64 aDu]=Value.agg #[.int .i64 aMJ,.int .i64 aMK,.int .i64 aCS,.slice aML aMM aMN,.int .i64 aMO,.int .i64 aMP,.int .i64 aMQ])/\∃ (aWE:Option Addr) (aWF aDv:Nat),(Zd W aEa ZX λb30=>∃ aWG aWH aWI,b30.cell? (Addr.mk cB (cO+7) none)=some (.slice aWG aWH aWI)/\Value.slice aWG aWH aWI=Value.slice aWE aWF aDv)/\∀ (aMR:Nat),Wk W (Own.blk aMR [.int .i64 aMJ,.int .i64 aMK,.int .i64 aCS,.slice aML aMM aMN,.int .i64 aMO,.int .i64 aMP,.int .i64 aMQ] 31 :: aHe) a7R (aEa) ZX/\∀ aWJ aWK,Ctx W aWJ (Own.blk aMR [.int .i64 aMJ,.int .i64 aMK,.int .i64 aCS,.slice aML aMM aMN,.int .i64 aMO,.int .i64 aMP,.int .i64 aMQ] 31 :: aHe++aWK) a7R->∃ (aWL:Option Addr) (aWM aWN:Nat) (aWO:World),Sem.run Tryz.prog (builtin Builtin.append #[22,22] 22 #[false,false] #[.slice aWE aWF aDv,.slice (some (Addr.mk aMR 0 none)) 1 1]) aWJ=.ok (.value (.slice aWL aWM aWN)) aWO/\∃ aMS a7S,aA a7S/\Ctx W aWO (aMS++aWK) a7S/\Wk W aMS a7S aEa ZX/\∀ aMT aWP,Ctx W aMT (aMS++aWP) a7S->aE aMT cB (cO+7) 1/\∀ (aWQ:World),aWQ=aMT.setCell (Addr.mk cB (cO+7) none) (Value.slice aWL aWM aWN)->∃ aGB a3q,aA a3q/\Ctx W aWQ (aGB++aWP) a3q/\aR (n111+1)/\Zb W aGB a3q aD0 (V6 (n111+1)))))/\True)/\True) (Zc W G0 yO Tryz.prog F.dL #[.pointer p4] λb31 q=>∃ aWR,b31=.returned (.bool aWR)/\q λa9M ZY=>Br aWR (∀ aWS aGC,Ctx W aWS (a9M++aGC) ZY -> ∃ b32 aWT b33,aWS.cell? (Addr.mk cB (cO+7) none)=some (.slice b32 aWT b33)/\Br (decide ((↑aWT:Int)=n102)) (Zd W a9M ZY λb34=>∃ aWU,b34.cell? (Addr.mk cB (cO+4) none)=some (.int .i64 aWU)/\Zd W a9M ZY λb35=>∃ aWV,b35.cell? (Addr.mk cB (cO+1) none)=some (.int .i64 aWV)/\Zr W a9M ZY J (.bool (decide (aWV<aWU)))) (Zr W a9M ZY J (.bool false))) (Zr W a9M ZY J (.bool false)))) (Zc W a8S aHd Tryz.prog F.dL #[.pointer p4] λb36 q=>∃ aWW,b36=.returned (.bool aWW)/\q λa9N ZZ=>Br aWW (Zd W a9N ZZ λb37=>∃ b38 aWX b39,b37.cell? (Addr.mk cB (cO+7) none)=some (.slice b38 aWX b39)/\Br (decide ((↑aWX:Int)=n102)) (Zd W a9N ZZ λb4a=>∃ aWY,b4a.cell? (Addr.mk cB (cO+4) none)=some (.int .i64 aWY)/\Zd W a9N ZZ λb4b=>∃ aWZ,b4b.cell? (Addr.mk cB (cO+1) none)=some (.int .i64 aWZ)/\Zr W a9N ZZ J (.bool (decide (aWZ<aWY)))) (Zr W a9N ZZ J (.bool false))) (Zr W a9N ZZ J (.bool false)))))
theorem rH (cB cO:Nat) (s:ByteArray) {W w:World} {R:List Own} {Φ:PW} [aA Φ] {J:Value->World->Prop} (c:Ctx W w R Φ) (h:lF cB cO s W R Φ J):Calls Tryz.prog F.fI #[.pointer (some ⟨cB,cO,none⟩),.string s] w λe w'=>∃ v,e=.returned v/\J v w' :=
 aB (H:={ keep:=some [0,1,4,5,6,7,8,9,10,46,51,78,114],bW:=[8],cF:=[(16,[.tree (.rd 0 (.rd 2 (.rd 3 (.rd 4 (.rd 5 (.alt 1 (.rd 6 (.alt 7 (.done) (.no))) (.alt 7 (.alt 1 (.rd 6 (.done)) (.no)) (.no)))))))) 8,.aO [] (some 8)]),(25,[.held [(0,true),(1,true),(5,true),(2,true),(3,true),(4,true),(6,false),(7,false)],.aO [8] none,.aO [9] (some 10)]),(26,[.aO [0] (some 1),.aO [2,3,8,4,5,6,7,9,10,11,12,16,13,17,14,18,15,19,20,21,22] none])],split:=[14,23],loops:=[(14,[(7,.one (.int .i64))],[])] }) (by rw [show aW Tryz.prog W { keep:=some [0,1,4,5,6,7,8,9,10,46,51,78,114],bW:=[8],cF:=[(16,[.tree (.rd 0 (.rd 2 (.rd 3 (.rd 4 (.rd 5 (.alt 1 (.rd 6 (.alt 7 (.done) (.no))) (.alt 7 (.alt 1 (.rd 6 (.done)) (.no)) (.no)))))))) 8,.aO [] (some 8)]),(25,[.held [(0,true),(1,true),(5,true),(2,true),(3,true),(4,true),(6,false),(7,false)],.aO [8] none,.aO [9] (some 10)]),(26,[.aO [0] (some 1),.aO [2,3,8,4,5,6,7,9,10,11,12,16,13,17,14,18,15,19,20,21,22] none])],split:=[14,23],loops:=[(14,[(7,.one (.int .i64))],[])] } F.fI #[.pointer (some ⟨cB,cO,none⟩),.string s] R Φ J=lF cB cO s W R Φ J by kernel_rfl];exact h) c
def pE (dB dO:Nat) (x0:Int) (x1:Int) (W:World) (R:List Own) (Φ:PW) (J:Value->World->Prop):Prop :=
 ∀ (b:Nat) (w0:World) (R1:List Own),Ctx W w0 (R++R1) Φ->Calls Tryz.prog F.eH #[.pointer (some (Addr.mk dB dO none)),.int .i64 x0] w0 λe2 w3=>∃ n4 s5 s6,e2=.returned (Value.agg #[.int .i64 n4,.string s5,.string s6])/\∃ R7 E2,aA E2/\Ctx W w3 (R7++R1) E2/\∀ (b:Nat),aR (64*x1)/\Br (decide (64*x1<(↑s5.size:Int))) (∃ R9 uN,aA uN/\Wk W R7 E2 R9 uN/\aR (64*x1)/\aR (64*x1)/\aR (64*x1)/\aR (64*x1+64)/\((0:Int)<=64*x1/\64*x1<=min (64*x1+64) (↑s5.size:Int)/\min (64*x1+64) (↑s5.size:Int)<=(↑s5.size:Int))/\∀ w13 R14,Ctx W w13 (R7++R14) E2->Calls Tryz.prog F.lV #[.string s6,.int .i64 (64*x1),.string (s5.extract (64*x1).toNat (min (64*x1+64) (↑s5.size:Int)).toNat)] w13 λe15 Y4=>∃ s17,e15=.returned (.string s17)/\∃ WN RA,aA RA/\Ctx W Y4 (WN ++ R14) RA/\Zc W WN RA Tryz.prog F.eI #[.pointer (some (Addr.mk dB dO none)),Value.agg #[.int .i64 n4,.string s5,.string s17]] λe22 q=>e22=.returned (Value.tuple #[])/\q λxE mQ=>Zr W xE mQ J (Value.tuple #[])) (Zc W R7 E2 Tryz.prog F.eI #[.pointer (some (Addr.mk dB dO none)),Value.agg #[.int .i64 n4,.string s5,.string s6]] λe30 q=>e30=.returned (Value.tuple #[])/\q λR32 aFx=>Zr W R32 aFx J (Value.tuple #[]))
theorem vD (dB dO:Nat) (x0:Int) (x1:Int) {W w:World} {R:List Own} {Φ:PW} [aA Φ] {J:Value->World->Prop} (c:Ctx W w R Φ) (h:pE dB dO x0 x1 W R Φ J):Calls Tryz.prog F.gR #[.pointer (some ⟨dB,dO,none⟩),.agg #[.int .i64 x0,.int .i64 x1]] w λe w'=>∃ v,e=.returned v/\J v w' :=
 aB (H:={ keep:=some [0,3,4,15],bW:=[3,4],cF:=[(3,[.held [(0,true),(2,true),(5,true),(7,true),(10,true),(14,true),(1,true),(3,true),(6,true),(8,true),(11,true),(15,true),(4,true),(9,true),(12,true),(16,true),(13,true),(17,true),(18,true)],.aO [] (some 19),.aO [20] (some 21)])] }) (by rw [show aW Tryz.prog W { keep:=some [0,3,4,15],bW:=[3,4],cF:=[(3,[.held [(0,true),(2,true),(5,true),(7,true),(10,true),(14,true),(1,true),(3,true),(6,true),(8,true),(11,true),(15,true),(4,true),(9,true),(12,true),(16,true),(13,true),(17,true),(18,true)],.aO [] (some 19),.aO [20] (some 21)])] } F.gR #[.pointer (some ⟨dB,dO,none⟩),.agg #[.int .i64 x0,.int .i64 x1]] R Φ J=pE dB dO x0 x1 W R Φ J by kernel_rfl];exact h) c
def tI (dB dO:Nat) (f:Int) (W:World) (R:List Own) (Φ:PW) (J:Value->World->Prop):Prop :=
 Zd W R Φ λw0=>∃ c2,w0.cell? (Addr.mk dB (dO+3) none)=some (.bool c2)/\Br c2 (Zr W R Φ J (.int .i64 9)) (Zd W R Φ λw5=>Br (decide (f<0)||decide (15<f)) (Zr W R Φ J (.int .i64 1)) (Zr W R Φ J (.int .i64 0)))
theorem yZ (dB dO:Nat) (f:Int) {W w:World} {R:List Own} {Φ:PW} [aA Φ] {J:Value->World->Prop} (c:Ctx W w R Φ) (h:tI dB dO f W R Φ J):Calls Tryz.prog F.fN #[.pointer (some ⟨dB,dO,none⟩),.int .i64 f] w λe w'=>∃ v,e=.returned v/\J v w' :=
 aB (H:={ keep:=some [0,1,4,8,14] }) (by rw [show aW Tryz.prog W { keep:=some [0,1,4,8,14] } F.fN #[.pointer (some ⟨dB,dO,none⟩),.int .i64 f] R Φ J=tI dB dO f W R Φ J by kernel_rfl];exact h) c
def tJ (dB dO:Nat) (f:Int) (W:World) (R:List Own) (Φ:PW) (J:Value->World->Prop):Prop :=
 ∀ (b:Nat),vZ λ(I0:Int->Int->ByteArray->ByteArray->List Own->PW->Nat->Prop)=>(Zs W R Φ (I0 0 0 (ByteArray.mk #[]) (ByteArray.mk #[])))/\∀ n6 n7 s8 s9 pP S3 k12,aA S3->I0 n6 n7 s8 s9 pP S3 k12->Zd W pP S3 λw13=>∃ p15 RB k17,w13.cell? (Addr.mk dB dO none)=some (.slice p15 RB k17)/\Br (decide (n6<(↑RB:Int))) (Zd W pP S3 λw18=>∃ RZ CT E0,w18.cell? (Addr.mk dB dO none)=some (.slice RZ CT E0)/\Zi n6 CT RZ λk23 W5=>Zd W pP S3 λw25=>∃ n27,w25.cell? (Addr.mk k23 (W5+n6.toNat*3) none)=some (.int .i64 n27)/\Br (decide (n27=f)) (Zd W pP S3 λHN=>∃ p30 k31 k32,HN.cell? (Addr.mk dB dO none)=some (.slice p30 k31 k32)/\Zi n6 k31 p30 λW6 Y9=>Zd W pP S3 λKS=>∃ n37 s38 s39,dH KS W6 (Y9+n6.toNat*3) [.int .i64 n37,.string s38,.string s39]/\Zr W pP S3 J (Value.agg #[.int .i64 n37,.string s38,.string s39])) (aR (n6+1)/\Zb W pP S3 k12 (I0 (n6+1) n7 s8 s9))) (Zr W pP S3 J (Value.agg #[.int .i64 f,Value.string (ByteArray.mk #[]),Value.string (ByteArray.mk #[])]))
theorem zA (dB dO:Nat) (f:Int) {W w:World} {R:List Own} {Φ:PW} [aA Φ] {J:Value->World->Prop} (c:Ctx W w R Φ) (h:tJ dB dO f W R Φ J):Calls Tryz.prog F.eH #[.pointer (some ⟨dB,dO,none⟩),.int .i64 f] w λe w'=>∃ v,e=.returned v/\J v w' :=
 aB (H:={ keep:=some [0,1,4,5,12,24],bW:=[4],loops:=[(2,[(5,.one (.int .i64))],[(4,.agg [.int .i64,.str,.str])])] }) (by rw [show aW Tryz.prog W { keep:=some [0,1,4,5,12,24],bW:=[4],loops:=[(2,[(5,.one (.int .i64))],[(4,.agg [.int .i64,.str,.str])])] } F.eH #[.pointer (some ⟨dB,dO,none⟩),.int .i64 f] R Φ J=tJ dB dO f W R Φ J by kernel_rfl];exact h) c
def rE (dB dO:Nat) (f:Int) (eK:Int) (s:ByteArray) (W:World) (R:List Own) (Φ:PW) (J:Value->World->Prop):Prop :=
 Zd W R Φ λw0=>∃ c2,w0.cell? (Addr.mk dB (dO+3) none)=some (.bool c2)/\∃ (n3:Int),((!c2)=true->w0.cell? (Addr.mk dB (dO+4) none)=some (.int .i64 n3))/\Br (c2||decide (n3=0)) (Zr W R Φ J (Value.tuple #[])) (Zd W R Φ λw6=>∃ n8,w6.cell? (Addr.mk dB (dO+4) none)=some (.int .i64 n8)/\aR (n8 - 1)/\∀ w9 pP,Ctx W w9 (R++pP) Φ->aE w9 dB (dO+4) 1/\∀ (QY:World),QY=w9.setCell (Addr.mk dB (dO+4) none) (Value.int IntKind.i64 (n8 - 1))->∃ uO j3,aA j3/\Ctx W QY (uO++pP) j3/\Zd W uO j3 λMA=>∃ MC,MA.cell? (Addr.mk dB (dO+4) none)=some (.int .i64 MC)/\Br (decide (0<MC)) (Zr W uO j3 J (Value.tuple #[])) (Br (decide (0<=f)) (Br (decide (f<=15)) (Zc W uO j3 Tryz.prog F.kS #[.int .i64 eK,.string s] λe21 q=>∃ c23,e21=.returned (.bool c23)/\q λxE mQ=>Br c23 (Zc W xE mQ Tryz.prog F.gX #[.pointer (some (Addr.mk dB dO none)),.int .i64 f,.int .i64 eK,.string s] λe28 q=>e28=.returned (Value.tuple #[])/\q λTI FE=>Zd W TI FE λKX=>∃ p34 k35 k36,KX.cell? (Addr.mk dB (dO+5) none)=some (.slice p34 k35 k36)/\Zc W TI FE Tryz.prog F.cZ #[.pointer (some (Addr.mk dB dO none)),.slice p34 k35 k36] λe39 q=>e39=.returned (Value.tuple #[])/\q λKY AK=>Zr W KY AK J (Value.tuple #[])) (Zd W xE mQ λw45=>∃ p47 k48 k49,w45.cell? (Addr.mk dB (dO+5) none)=some (.slice p47 k48 k49)/\Zc W xE mQ Tryz.prog F.cZ #[.pointer (some (Addr.mk dB dO none)),.slice p47 k48 k49] λe52 q=>e52=.returned (Value.tuple #[])/\q λW4 AJ=>Zr W W4 AJ J (Value.tuple #[]))) (Zd W uO j3 λw58=>∃ p60 k61 k62,w58.cell? (Addr.mk dB (dO+5) none)=some (.slice p60 k61 k62)/\Zc W uO j3 Tryz.prog F.cZ #[.pointer (some (Addr.mk dB dO none)),.slice p60 k61 k62] λe65 q=>e65=.returned (Value.tuple #[])/\q λR67 EF=>Zr W R67 EF J (Value.tuple #[]))) (Zd W uO j3 λw71=>∃ p73 k74 k75,w71.cell? (Addr.mk dB (dO+5) none)=some (.slice p73 k74 k75)/\Zc W uO j3 Tryz.prog F.cZ #[.pointer (some (Addr.mk dB dO none)),.slice p73 k74 k75] λe78 q=>e78=.returned (Value.tuple #[])/\q λR80 X6=>Zr W R80 X6 J (Value.tuple #[]))))
theorem xA (dB dO:Nat) (f:Int) (eK:Int) (s:ByteArray) {W w:World} {R:List Own} {Φ:PW} [aA Φ] {J:Value->World->Prop} (c:Ctx W w R Φ) (h:rE dB dO f eK s W R Φ J):Calls Tryz.prog F.fT #[.pointer (some ⟨dB,dO,none⟩),.int .i64 f,.int .i64 eK,.string s] w λe w'=>∃ v,e=.returned v/\J v w' :=
 aB (H:={ keep:=some [0,1,2,3,18,30,41],split:=[3] }) (by rw [show aW Tryz.prog W { keep:=some [0,1,2,3,18,30,41],split:=[3] } F.fT #[.pointer (some ⟨dB,dO,none⟩),.int .i64 f,.int .i64 eK,.string s] R Φ J=rE dB dO f eK s W R Φ J by kernel_rfl];exact h) c
def qD (dB dO:Nat) (f:Int) (s:ByteArray) (W:World) (R:List Own) (Φ:PW) (J:Value->World->Prop):Prop :=
 Zc W R Φ Tryz.prog F.eI #[.pointer (some (Addr.mk dB dO none)),Value.agg #[.int .i64 f,.string s,.string s]] λe2 q=>e2=.returned (Value.tuple #[])/\q λR4 Φ5=>vZ λ(I6:Option Addr->Nat->Nat->Int->List Own->PW->Nat->Prop)=>(Zs W R4 Φ5 (I6 none 0 0 0))/\∀ p12 JY JV nT E5 W9 ER,aA W9->I6 p12 JY JV nT E5 W9 ER->Zd W E5 W9 λPV=>∃ p21 E0 k23,PV.cell? (Addr.mk dB (dO+1) none)=some (.slice p21 E0 k23)/\Br (decide (nT<(↑E0:Int))) (Zd W E5 W9 λTC=>∃ p26 S0 k28,TC.cell? (Addr.mk dB (dO+1) none)=some (.slice p26 S0 k28)/\Zi nT S0 p26 λk29 k30=>Zd W E5 W9 λw31=>∃ WS,w31.cell? (Addr.mk k29 (k30 + nT.toNat*2) none)=some (.int .i64 WS)/\Br (decide (WS≠f)) (Zd W E5 W9 λw34=>∃ p36 k37 k38,w34.cell? (Addr.mk dB (dO+1) none)=some (.slice p36 k37 k38)/\Zi nT k37 p36 λk39 k40=>Zd W E5 W9 λw41=>∃ n43 n44,dH w41 k39 (k40+nT.toNat*2) [.int .i64 n43,.int .i64 n44]/\∀ (k45:Nat) (VY:World) (KT:List Own),Ctx W VY (Own.blk k45 [.int .i64 n43,.int .i64 n44] 140 :: E5++KT) W9->∃ (p48:Option Addr) (k49 TE:Nat) (w51:World),Sem.run Tryz.prog (builtin Builtin.append #[115,115] 115 #[false,false] #[.slice p12 JY JV,.slice (some (Addr.mk k45 0 none)) 1 1]) VY=.ok (.value (.slice p48 k49 TE)) w51/\∃ R52 JT,aA JT/\Ctx W w51 (R52++KT) JT/\aR (nT+1)/\Zb W R52 JT ER (I6 p48 k49 TE (nT+1))) (aR (nT+1)/\Zb W E5 W9 ER (I6 p12 JY JV (nT+1)))) (∀ CD R65,Ctx W CD (E5++R65) W9->aE CD dB (dO+1) 1/\∀ (w66:World),w66=CD.setCell (Addr.mk dB (dO+1) none) (Value.slice p12 JY JV)->∃ R67 EF,aA EF/\Ctx W w66 (R67++R65) EF/\Zr W R67 EF J (Value.tuple #[]))
theorem vX (dB dO:Nat) (f:Int) (s:ByteArray) {W w:World} {R:List Own} {Φ:PW} [aA Φ] {J:Value->World->Prop} (c:Ctx W w R Φ) (h:qD dB dO f s W R Φ J):Calls Tryz.prog F.iD #[.pointer (some ⟨dB,dO,none⟩),.int .i64 f,.string s] w λe w'=>∃ v,e=.returned v/\J v w' :=
 aB (H:={ keep:=some [0,1,6,7,20,32],loops:=[(3,[(6,.one (.slice)),(7,.one (.int .i64))],[])] }) (by rw [show aW Tryz.prog W { keep:=some [0,1,6,7,20,32],loops:=[(3,[(6,.one (.slice)),(7,.one (.int .i64))],[])] } F.iD #[.pointer (some ⟨dB,dO,none⟩),.int .i64 f,.string s] R Φ J=qD dB dO f s W R Φ J by kernel_rfl];exact h) c
def A9 (eK:Int) (s:ByteArray) (W:World) (R:List Own) (Φ:PW) (J:Value->World->Prop):Prop :=
 Zd W R Φ λw0=>((decide (0<=eK)&&decide (eK<=16777216))=true->aR (eK+(↑s.size:Int)))/\Zr W R Φ J (.bool (decide (0<=eK)&&decide (eK<=16777216)&&decide (eK+(↑s.size:Int)<=16777216)))
theorem EM (eK:Int) (s:ByteArray) {W w:World} {R:List Own} {Φ:PW} [aA Φ] {J:Value->World->Prop} (c:Ctx W w R Φ) (h:A9 eK s W R Φ J):Calls Tryz.prog F.kS #[.int .i64 eK,.string s] w λe w'=>∃ v,e=.returned v/\J v w' :=
 aB (H:={ keep:=some [0,1,4] }) (by rw [show aW Tryz.prog W { keep:=some [0,1,4] } F.kS #[.int .i64 eK,.string s] R Φ J=A9 eK s W R Φ J by kernel_rfl];exact h) c
def tK (dB dO:Nat) (f:Int) (eK:Int) (s:ByteArray) (W:World) (R:List Own) (Φ:PW) (J:Value->World->Prop):Prop :=
 Br (decide (s=ByteArray.mk #[])) (Zr W R Φ J (Value.tuple #[])) (Zc W R Φ Tryz.prog F.eH #[.pointer (some (Addr.mk dB dO none)),.int .i64 f] λe4 q=>∃ n6 s7 s8,e4=.returned (Value.agg #[.int .i64 n6,.string s7,.string s8])/\q λR9 uN=>∀ (b:Nat) (QY:World) (uO:List Own),Ctx W QY (R9++uO) uN->Calls Tryz.prog F.lV #[.string s7,.int .i64 eK,.string s] QY λe13 MA=>∃ s15,e13=.returned (.string s15)/\∃ E5 aB3,aA aB3/\Ctx W MA (E5++uO) aB3/\∀ w18 KU,Ctx W w18 (E5++KU) aB3->Calls Tryz.prog F.eI #[.pointer (some (Addr.mk dB dO none)),Value.agg #[.int .i64 n6,.string s15,.string s8]] w18 λe20 w21=>e20=.returned (Value.tuple #[])/\∃ zQ lX,aA lX/\Ctx W w21 (zQ++KU) lX /\ ((64:Int)=0->False)/\aR (eK.tdiv 64)/\vZ λ(I24:Int->List Own->PW->Nat->Prop)=>(Zs W zQ lX (I24 (eK.tdiv 64)))/\∀ W0 HZ I32 W6,aA I32->I24 W0 HZ I32 W6->aR (eK+(↑s.size:Int))/\aR (eK+(↑s.size:Int) - 1)/\((64:Int)=0->False)/\aR ((eK+(↑s.size:Int) - 1).tdiv 64)/\Br (decide (W0<=(eK+(↑s.size:Int) - 1).tdiv 64)) (Zc W HZ I32 Tryz.prog F.gS #[.pointer (some (Addr.mk dB dO none)),.int .i64 f,.int .i64 W0] λe36 q=>∃ c38,e36=.returned (.bool c38)/\q λR39 TJ=>Br (!c38) (Zd W R39 TJ λw41=>∃ p43 k44 k45,w41.cell? (Addr.mk dB (dO+1) none)=some (.slice p43 k44 k45)/\∀ (k46:Nat) (w47:World) (R48:List Own),Ctx W w47 (Own.blk k46 [.int .i64 f,.int .i64 W0] 140 :: R39++R48) TJ->∃ (p49:Option Addr) (TE YA:Nat) (w52:World),Sem.run Tryz.prog (builtin Builtin.append #[115,115] 115 #[false,false] #[.slice p43 k44 k45,.slice (some (Addr.mk k46 0 none)) 1 1]) w47=.ok (.value (.slice p49 TE YA)) w52/\∃ R53 KB,aA KB/\Ctx W w52 (R53++R48) KB/\∀ w55 R56,Ctx W w55 (R53++R56) KB->aE w55 dB (dO+1) 1/\∀ (w57:World),w57=w55.setCell (Addr.mk dB (dO+1) none) (Value.slice p49 TE YA)->∃ GY pO,aA pO/\Ctx W w57 (GY++R56) pO/\aR (W0+1)/\Zb W GY pO W6 (I24 (W0+1))) (aR (W0+1)/\Zb W R39 TJ W6 (I24 (W0+1)))) (Zr W HZ I32 J (Value.tuple #[])))
theorem zB (dB dO:Nat) (f:Int) (eK:Int) (s:ByteArray) {W w:World} {R:List Own} {Φ:PW} [aA Φ] {J:Value->World->Prop} (c:Ctx W w R Φ) (h:tK dB dO f eK s W R Φ J):Calls Tryz.prog F.gX #[.pointer (some ⟨dB,dO,none⟩),.int .i64 f,.int .i64 eK,.string s] w λe w'=>∃ v,e=.returned v/\J v w' :=
 aB (H:={ keep:=some [0,1,2,3,8,9,11,33,40],bW:=[8],loops:=[(5,[(9,.one (.int .i64))],[])] }) (by rw [show aW Tryz.prog W { keep:=some [0,1,2,3,8,9,11,33,40],bW:=[8],loops:=[(5,[(9,.one (.int .i64))],[])] } F.gX #[.pointer (some ⟨dB,dO,none⟩),.int .i64 f,.int .i64 eK,.string s] R Φ J=tK dB dO f eK s W R Φ J by kernel_rfl];exact h) c
def C9 (s:ByteArray) (eK:Int) (t:ByteArray) (W:World) (R:List Own) (Φ:PW) (J:Value->World->Prop):Prop :=
 Br (decide (t=ByteArray.mk #[])) (Zr W R Φ J (.string s)) (∀ w2 R3,Ctx W w2 (R++R3) Φ->∃ (p4:Option Addr) (k5 k6:Nat) (w7:World),Sem.run Tryz.prog (convert 9 129 (Value.string s)) w2=Result.ok (Value.slice p4 k5 k6) w7/\∃ R8 CC,aA CC/\Ctx W w7 (R8++R3) CC/\vZ λ(I10:Option Addr->Nat->Nat->List Own->PW->Nat->Prop)=>(Zs W R8 CC (I10 p4 k5 k6))/\∀ p16 k17 ER KU I20 CT,aA I20->I10 p16 k17 ER KU I20 CT->aR (eK+(↑t.size:Int))/\Br (decide ((↑k17:Int)<eK+(↑t.size:Int))) (∀ (E0:Nat) (YB:World) (xE:List Own),Ctx W YB (Own.blk E0 [.int IntKind.u8 0] 5 :: KU++xE) I20->∃ (p25:Option Addr) (TD S0:Nat) (HN:World),Sem.run Tryz.prog (builtin Builtin.append #[129,129] 129 #[false,false] #[.slice p16 k17 ER,.slice (some (Addr.mk E0 0 none)) 1 1]) YB=.ok (.value (.slice p25 TD S0)) HN/\∃ X1 IF,aA IF/\Ctx W HN (X1++xE) IF/\Zb W X1 IF CT (I10 p25 TD S0)) (vZ λ(I36:Int->List Own->PW->Nat->Prop)=>(Zs W KU I20 (I36 0))/\∀ NP R43 I44 k45,aA I44->I36 NP R43 I44 k45->Br (decide (NP<(↑t.size:Int))) (aR (eK+NP)/\∃ (u46:UInt8),(0<=NP/\t.data.toList.get?Internal NP.toNat=some u46)/\Zi (eK+NP) k17 p16 λk47 k48=>∀ w49 R50,Ctx W w49 (R43++R50) I44->aE w49 k47 (k48+(eK+NP).toNat) 1/\∀ (w51:World),w51=w49.setCell (Addr.mk k47 (k48+(eK+NP).toNat) none) (Value.int IntKind.u8 (↑u46.toNat:Int))->∃ R52 JT,aA JT/\Ctx W w51 (R52++R50) JT/\aR (NP+1)/\∃ W4 AJ k56,aA AJ /\ Wk W R52 JT W4 AJ/\I36 (NP+1) W4 AJ k56/\k56<k45) (∀ w59 R60,Ctx W w59 (R43++R60) I44->∃ (s61:ByteArray) (w62:World),Sem.run Tryz.prog (convert 129 9 (Value.slice p16 k17 ER)) w59=Result.ok (Value.string s61) w62/\∃ WA yW,aA yW/\Ctx W w62 (WA++R60) yW/\Zr W WA yW J (.string s61))))
theorem GJ (s:ByteArray) (eK:Int) (t:ByteArray) {W w:World} {R:List Own} {Φ:PW} [aA Φ] {J:Value->World->Prop} (c:Ctx W w R Φ) (h:C9 s eK t W R Φ J):Calls Tryz.prog F.lV #[.string s,.int .i64 eK,.string t] w λe w'=>∃ v,e=.returned v/\J v w' :=
 aB (H:={ keep:=some [0,1,2,6,7,8,10,20,27],loops:=[(7,[(8,.one (.int .i64))],[]),(4,[(7,.one (.slice))],[])] }) (by rw [show aW Tryz.prog W { keep:=some [0,1,2,6,7,8,10,20,27],loops:=[(7,[(8,.one (.int .i64))],[]),(4,[(7,.one (.slice))],[])] } F.lV #[.string s,.int .i64 eK,.string t] R Φ J=C9 s eK t W R Φ J by kernel_rfl];exact h) c
def tL (dB dO:Nat) (x0:Int) (x1:ByteArray) (x2:ByteArray) (W:World) (R:List Own) (Φ:PW) (J:Value->World->Prop):Prop :=
 ∀ (b:Nat),vZ λ(I0:Option Addr->Nat->Nat->Int->List Own->PW->Nat->Prop)=>(Zs W R Φ (I0 none 0 0 0))/\∀ p6 k7 k8 n9 pP S3 k12,aA S3->I0 p6 k7 k8 n9 pP S3 k12->Zd W pP S3 λw13=>∃ p15 RB k17,w13.cell? (Addr.mk dB dO none)=some (.slice p15 RB k17)/\Br (decide (n9<(↑RB:Int))) (Zd W pP S3 λw18=>∃ RZ CT E0,w18.cell? (Addr.mk dB dO none)=some (.slice RZ CT E0)/\Zi n9 CT RZ λk23 W5=>∃ n25,w18.cell? (Addr.mk k23 (W5+n9.toNat*3) none)=some (.int .i64 n25)/\Br (decide (n25≠x0)) (Zd W pP S3 λJR=>∃ p28 k29 k30,JR.cell? (Addr.mk dB dO none)=some (.slice p28 k29 k30)/\Zi n9 k29 p28 λk31 k32=>Zd W pP S3 λw33=>∃ Q4 s36 s37,dH w33 k31 (k32+n9.toNat*3) [.int .i64 Q4,.string s36,.string s37]/\∀ (k38:Nat) (w39:World) (R40:List Own),Ctx W w39 (Own.blk k38 [.int .i64 Q4,.string s36,.string s37] 142 :: pP++R40) S3->∃ (p41:Option Addr) (k42 k43:Nat) (S4:World),Sem.run Tryz.prog (builtin Builtin.append #[114,114] 114 #[false,false] #[.slice p6 k7 k8,.slice (some (Addr.mk k38 0 none)) 1 1]) w39=.ok (.value (.slice p41 k42 k43)) S4/\∃ R45 UL,aA UL/\Ctx W S4 (R45++R40) UL/\aR (n9+1)/\Zb W R45 UL k12 (I0 p41 k42 k43 (n9+1))) (aR (n9+1)/\Zb W pP S3 k12 (I0 p6 k7 k8 (n9+1)))) (∀ (k57:Nat) (w58:World) (R59:List Own),Ctx W w58 (Own.blk k57 [.int .i64 x0,.string x1,.string x2] 142 :: pP++R59) S3->∃ (p60:Option Addr) (k61 k62:Nat) (w63 : World),Sem.run Tryz.prog (builtin Builtin.append #[114,114] 114 #[false,false] #[.slice p6 k7 k8,.slice (some (Addr.mk k57 0 none)) 1 1]) w58=.ok (.value (.slice p60 k61 k62)) w63/\∃ R64 O5,aA O5/\Ctx W w63 (R64++R59) O5/\∀ w66 R67,Ctx W w66 (R64++R67) O5->aE w66 dB dO 1/\∀ (w68:World),w68=w66.setCell (Addr.mk dB dO none) (Value.slice p60 k61 k62)->∃ R69 UK,aA UK/\Ctx W w68 (R69++R67) UK/\Zr W R69 UK J (Value.tuple #[]))
theorem zC (dB dO:Nat) (x0:Int) (x1:ByteArray) (x2:ByteArray) {W w:World} {R:List Own} {Φ:PW} [aA Φ] {J:Value->World->Prop} (c:Ctx W w R Φ) (h:tL dB dO x0 x1 x2 W R Φ J):Calls Tryz.prog F.eI #[.pointer (some ⟨dB,dO,none⟩),.agg #[.int .i64 x0,.string x1,.string x2]] w λe w'=>∃ v,e=.returned v/\J v w' :=
 aB (H:={ keep:=some [0,3,4,5,12,25],bW:=[3],loops:=[(3,[(4,.one (.slice)),(5,.one (.int .i64))],[])] }) (by rw [show aW Tryz.prog W { keep:=some [0,3,4,5,12,25],bW:=[3],loops:=[(3,[(4,.one (.slice)),(5,.one (.int .i64))],[])] } F.eI #[.pointer (some ⟨dB,dO,none⟩),.agg #[.int .i64 x0,.string x1,.string x2]] R Φ J=tL dB dO x0 x1 x2 W R Φ J by kernel_rfl];exact h) c
def pF (dB dO:Nat) (f:Int) (n:Int) (W:World) (R:List Own) (Φ:PW) (J:Value->World->Prop):Prop :=
 vZ λ(I0:Int->List Own->PW->Nat->Prop)=>(Zs W R Φ (I0 0))/\∀ n6 R7 I8 k9,aA I8->I0 n6 R7 I8 k9->Zd W R7 I8 λYC=>∃ p12 JY JV,YC.cell? (Addr.mk dB (dO+1) none)=some (.slice p12 JY JV)/\Br (decide (n6<(↑JY:Int))) (Zd W R7 I8 λME=>∃ p17 ER FG,ME.cell? (Addr.mk dB (dO+1) none)=some (.slice p17 ER FG)/\Zi n6 ER p17 λk20 CT=>∃ VZ,ME.cell? (Addr.mk k20 (CT+n6.toNat*2) none)=some (.int .i64 VZ)/\∃ (p23:Option Addr) (W5 k25:Nat),(decide (VZ=f)=true->ME.cell? (Addr.mk dB (dO+1) none)=some (.slice p23 W5 k25))/\(decide (VZ=f)=true->0<=n6/\n6<(↑W5:Int))/\jD (some (decide (VZ=f))) p23 λTD S0=>∃ (n28:Int),(decide (VZ=f)=true->ME.cell? (Addr.mk TD (S0+n6.toNat*2+1) none)=some (.int .i64 n28))/\Br (decide (VZ=f)&&decide (n28=n)) (Zr W R7 I8 J (.bool true)) (aR (n6+1)/\Zb W R7 I8 k9 (I0 (n6+1)))) (Zr W R7 I8 J (.bool false))
theorem vE (dB dO:Nat) (f:Int) (n:Int) {W w:World} {R:List Own} {Φ:PW} [aA Φ] {J:Value->World->Prop} (c:Ctx W w R Φ) (h:pF dB dO f n W R Φ J):Calls Tryz.prog F.gS #[.pointer (some ⟨dB,dO,none⟩),.int .i64 f,.int .i64 n] w λe w'=>∃ v,e=.returned v/\J v w' :=
 aB (H:={ keep:=some [0,1,2,6,7,14,38],loops:=[(2,[(7,.one (.int .i64))],[])] }) (by rw [show aW Tryz.prog W { keep:=some [0,1,2,6,7,14,38],loops:=[(2,[(7,.one (.int .i64))],[])] } F.gS #[.pointer (some ⟨dB,dO,none⟩),.int .i64 f,.int .i64 n] R Φ J=pF dB dO f n W R Φ J by kernel_rfl];exact h) c
end Go.Proofs.YtfccagphnfceiaaGreatDoor
end

