/-
 The reference coordinator: reading a state: walked.
-/
import Derived.Test.YtfccagphnfceiaaGreatDoorCRf7
import Derived.Test.YtfccagphnfceiaaGreatDoorCRf10
import Derived.Test.YtfccagphnfceiaaGreatDoorCRf9
import Derived.Test.YtfccagphnfceiaaGreatDoorCRf5
import Derived.Test.YtfccagphnfceiaaGreatDoorCRf6

set_option linter.unusedVariables false
set_option linter.unusedSimpArgs false
section
namespace Go.Proofs.YtfccagphnfceiaaGreatDoor
open Go.Vc
abbrev kB (v:Value) (l ph:Int) (ck:ByteArray) (b m:Int) (nx:ByteArray) (p:Option Addr) (n c:Nat):List Value:=[v,.int .i64 l,.int .i64 ph,.string ck,.int .i64 b,.int .i64 m,.string nx,.slice p n c,.bool false,.bool false]
abbrev kO (kb:Nat) (v:Value) (l ph:Int) (ck:ByteArray) (b m:Int) (nx:ByteArray) (p:Option Addr) (n c:Nat):Own:=.blk kb (kB v l ph ck b m nx p n c) 77
abbrev lB (kb:Nat) (no ba ti:Int) (p:Option Addr) (k c:Nat) (n ca wy:Int):Own:=.blk kb [.int .i64 no,.int .i64 ba,.int .i64 ti,.slice p k c,.int .i64 n,.int .i64 ca,.int .i64 wy] 31
theorem aMU {α:Type} {a:α} {l:List α} (h:a∈l):[a].Sublist l:=List.singleton_sublist.2 h
theorem aJs {α:Type} {a b x y:α} {l:List α}:[a,b].Sublist (x :: a :: y :: b :: l):=((((List.nil_sublist _).cons_cons _).cons _).cons_cons _).cons _
theorem aW3 {α:Type} {a b x y z:α} {l:List α}:[a,b].Sublist (z :: x :: a :: y :: b :: l):=aJs.cons _
theorem aW4 {α:Type} {a b x y:α} {l:List α}:[a,b].Sublist (x :: y :: a :: b :: l):=((((List.nil_sublist _).cons_cons _).cons_cons _).cons _).cons _
theorem aHf {s:Bs} {n1 n2:Int} {t3:ByteArray} {s1 s2 s3:iK} (e1:aL (s,false)=(n1,s1)) (e2:aL s1=(n2,s2)) (e3:stepT s2=(t3,s3)) :
  LI s=if (decide (n1<0)||decide (n2<0)||decide (2<n2))=true then none else if n2=0 then (if eJ s3=true then some ⟨n1,n2,t3,0,0,.empty,[]⟩ else none) else
   (iM (aL s3).1 (dW (stepT (aL (aL s3).2).2).2).1.toNat (dW (stepT (aL (aL s3).2).2).2).2 []).bind λy=>if (eJ y.2&&(decide ((y.1.length:Int)=(dW (stepT (aL (aL s3).2).2).2).1)&&decide (n1<(aL s3).1)))=true then some ⟨n1,n2,t3,(aL s3).1,(aL (aL s3).2).1,(stepT (aL (aL s3).2).2).1,y.1⟩ else none:=by
 unfold LI
 rw [e1];simp only
 rw [e2];simp only
 rw [e3]
section
variable {W w:World} {R G S:List Own} {Φ:PW} {b kb:Nat} {st:iK}
theorem jY [aA Φ] (hl:st.1.length<=1000000000) {n:Int} {s1:iK} (e:aL st=(n,s1)) (c:Ctx W w (rq b st :: S++G) Φ) {K:Int->List Own->PW->Prop} (hk:K n (rq b s1 :: S) Φ) :
  Calls Tryz.prog F.aK #[.pointer (some ⟨b,0,none⟩)] w λe w'=>∃ n,e=.returned (.int .i64 n)/\∃ R' aF,aA aF/\Ctx W w' (R'++G) aF/\K n R' aF :=
 P6 hl c (by rw [e];exact hk)
theorem a6d [aA Φ] (hl:st.1.length<=1000000000) {n:Int} {s1:iK} (e:dW st=(n,s1)) (c:Ctx W w (rq b st :: S++G) Φ) {K:Int->List Own->PW->Prop} (hk:K n (rq b s1 :: S) Φ) :
  Calls Tryz.prog F.eM #[.pointer (some ⟨b,0,none⟩)] w λe w'=>∃ n,e=.returned (.int .i64 n)/\∃ R' aF,aA aF/\Ctx W w' (R'++G) aF/\K n R' aF :=
 ZR hl c (by rw [e];exact hk)
theorem GK [aA Φ] (hok:jX st) (hl:st.1.length<=1000000000) {n:ByteArray} {s1:iK} (e:stepT st=(n,s1)) (c:Ctx W w (rq b st :: S++G) Φ) {K:ByteArray->List Own->PW->Prop} (hk:K n (rq b s1 :: S) Φ) :
  Calls Tryz.prog F.bU #[.pointer (some ⟨b,0,none⟩)] w λe w'=>∃ n,e=.returned (.string n)/\∃ R' aF,aA aF/\Ctx W w' (R'++G) aF/\K n R' aF :=
 VH hok hl c (by rw [e];exact hk)
theorem aEb [aA Φ] {u3 u4 u5 u6:iK} {m5 m6 m7 a0 a1 a2:Int} {kl:Nat} {X:List Own} {rp:Option Addr} {rn rc:Nat} (f4:aL u3=(m5,u4)) (f5:aL u4=(m6,u5)) (f6:aL u5=(m7,u6)) (hl:u3.1.length<=1000000000) (cx:Ctx W w ((rq b u3 :: lB kl a0 a1 a2 none 0 0 0 0 0 :: X)++G) Φ) {K:List Own->PW->Prop} (hk:K (rq b u6 :: lB kl a0 a1 a2 rp rn rc m5 m6 m7 :: X) Φ) :
  aE w kl 3 1/\∀ w',w'=w.setCell ⟨kl,3,none⟩ (.slice rp rn rc)->∃ R1 bH,aA bH/\Ctx W w' (R1++G) bH/\∀ w G,Ctx W w (R1++G) bH ->
   Calls Tryz.prog F.aK #[.pointer (some ⟨b,0,none⟩)] w λe w'=>∃ n,e=.returned (.int .i64 n)/\∃ R2 pI,aA pI/\Ctx W w' (R2++G) pI/\∀ w G,Ctx W w (R2++G) pI ->
    aE w kl 4 1/\∀ w',w'=w.setCell ⟨kl,4,none⟩ (.int .i64 n)->∃ R1 bH,aA bH/\Ctx W w' (R1++G) bH/\∀ w G,Ctx W w (R1++G) bH ->
     Calls Tryz.prog F.aK #[.pointer (some ⟨b,0,none⟩)] w λe w'=>∃ n,e=.returned (.int .i64 n)/\∃ R2 pI,aA pI/\Ctx W w' (R2++G) pI/\∀ w G,Ctx W w (R2++G) pI ->
      aE w kl 5 1/\∀ w',w'=w.setCell ⟨kl,5,none⟩ (.int .i64 n)->∃ R1 bH,aA bH/\Ctx W w' (R1++G) bH/\∀ w G,Ctx W w (R1++G) bH ->
       Calls Tryz.prog F.aK #[.pointer (some ⟨b,0,none⟩)] w λe w'=>∃ n,e=.returned (.int .i64 n)/\∃ R2 pI,aA pI/\Ctx W w' (R2++G) pI/\∀ w G,Ctx W w (R2++G) pI ->
        aE w kl 6 1/\∀ w',w'=w.setCell ⟨kl,6,none⟩ (.int .i64 n)->∃ R1 bH,aA bH/\Ctx W w' (R1++G) bH/\K R1 bH:=by
 have q4:=dM u3
 have q5:=dM u4
 rw [f4] at q4
 rw [f5] at q5
 simp only at q4 q5
 refine ⟨cx.can 1 rfl (by simp),λw' hw'=>⟨rq b u3 :: lB kl a0 a1 a2 rp rn rc 0 0 0 :: X,Φ,inferInstance,cx.put 1 hw' rfl,λw G cx=>?_⟩⟩
 refine jY (S:=lB kl a0 a1 a2 rp rn rc 0 0 0 :: X) hl f4 cx (λw G cx=>⟨cx.can 1 rfl (by simp),λw' hw'=>⟨rq b u4 :: lB kl a0 a1 a2 rp rn rc m5 0 0 :: X,Φ,inferInstance,cx.put 1 hw' rfl,λw G cx=>?_⟩⟩)
 refine jY (S:=lB kl a0 a1 a2 rp rn rc m5 0 0 :: X) (by omega) f5 cx (λw G cx=>⟨cx.can 1 rfl (by simp),λw' hw'=>⟨rq b u5 :: lB kl a0 a1 a2 rp rn rc m5 m6 0 :: X,Φ,inferInstance,cx.put 1 hw' rfl,λw G cx=>?_⟩⟩)
 exact jY (S:=lB kl a0 a1 a2 rp rn rc m5 m6 0 :: X) (by omega) f6 cx (λw G cx=>⟨cx.can 1 rfl (by simp),λw' hw'=>⟨rq b u6 :: lB kl a0 a1 a2 rp rn rc m5 m6 m7 :: X,Φ,inferInstance,cx.put 1 hw' rfl,hk⟩⟩)
set_option maxHeartbeats 4000000 in
theorem a9O [aA Φ] {v:Value} {s:Bs} (hs:s.length<=1000000) (c:Ctx W w (kO kb v 0 0 .empty 0 0 .empty none 0 0 :: S++G) Φ) {K:Bool->List Own->PW->Prop}
  (h0:LI s=none->K false S Φ)
  (h1:∀ x p c,LI s=some x->(∀ y∈x.lines,y.batch=x.batch/\eD y.row=true)->x.lines.length<=s.length->x.lines.length<=c->c<=maxLen->aA (λM w=>Φ M w/\Sl M w p x.lines)->K true (kO kb v x.last x.phase x.check x.batch x.mark x.next p x.lines.length c :: S) (λM w=>Φ M w/\Sl M w p x.lines)) :
  Calls Tryz.prog F.fI #[.pointer (some ⟨kb,0,none⟩),.string (bs s)] w λe w'=>∃ c,e=.returned (.bool c)/\∃ R' aF,aA aF/\Ctx W w' (R'++G) aF/\K c R' aF:=by
 refine (rH kb 0 (bs s) (J:=λu w'=>∃ c,(Ending.returned u)=.returned (.bool c)/\∃ R' aF,aA aF/\Ctx W w' (R'++G) aF/\K c R' aF) (R:=kO kb v 0 0 .empty 0 0 .empty none 0 0 :: (S++G)) c ?_).mono λe w' ⟨v,he,hj⟩=>by rw [he];exact hj
 clear c
 obtain ⟨⟨n1,s1⟩,e1⟩:∃ x,aL (s,false)=x:=⟨_,rfl⟩
 obtain ⟨⟨n2,s2⟩,e2⟩:∃ x,aL s1=x:=⟨_,rfl⟩
 obtain ⟨⟨t3,s3⟩,e3⟩:∃ x,stepT s2=x:=⟨_,rfl⟩
 have hread:=aHf e1 e2 e3
 have l1:=dM (s,false)
 have l2:=dM s1
 obtain ⟨l3,l3t⟩:=r7 s2
 have k1:jX (aL (s,false)).2:=kZ (aJk s)
 have k2:jX s1->jX (aL s1).2:=kZ
 have k3:jX s2->jX (stepT s2).2:=NC
 rw [e1] at l1 k1
 rw [e2] at l2 k2
 rw [e3] at l3 l3t k3
 simp only at l1 l2 l3 l3t k1 k2 k3
 have k2:=k2 k1
 have k3:=k3 k2
 refine λw G2 cx=>ZQ (S:=kO kb v 0 0 .empty 0 0 .empty none 0 0 :: (S++G)) s cx λb=>?_
 clear cx
 refine λw G2 cx=>jY (S:=kO kb v 0 0 .empty 0 0 .empty none 0 0 :: (S++G)) (by show s.length<=_;omega) e1 cx (λw G2 cx=>⟨cx.can 1 rfl (by simp),λw' hw'=>⟨rq b s1 :: kO kb v n1 0 .empty 0 0 .empty none 0 0 :: (S++G),Φ,inferInstance,cx.put 1 hw' rfl,?_⟩⟩)
 clear cx hw' w'
 refine λw G2 cx=>jY (S:=kO kb v n1 0 .empty 0 0 .empty none 0 0 :: (S++G)) (by omega) e2 cx (λw G2 cx=>⟨cx.can 1 rfl (by simp),λw' hw'=>⟨rq b s2 :: kO kb v n1 n2 .empty 0 0 .empty none 0 0 :: (S++G),Φ,inferInstance,cx.put 1 hw' rfl,?_⟩⟩)
 clear cx hw' w'
 refine λw G2 cx=>GK (S:=kO kb v n1 n2 .empty 0 0 .empty none 0 0 :: (S++G)) k2 (by omega) e3 cx (λw G2 cx=>⟨cx.can 1 rfl (by simp),λw' hw'=>⟨rq b s3 :: kO kb v n1 n2 t3 0 0 .empty none 0 0 :: (S++G),Φ,inferInstance,cx.put 1 hw' rfl,?_⟩⟩)
 clear cx hw' w'
 refine λw G2 cx=>⟨n1,cx.get 1 rfl rfl,n2,λ_=>cx.get 1 rfl rfl,n2,λ_=>cx.get 1 rfl rfl,?_⟩
 clear cx
 refine Br.intro (λhb=>λw G2 cx=>?_) (λhb=>λw G2 cx=>⟨n2,cx.get 1 rfl rfl,?_⟩)
 ·rw [if_pos hb] at hread
  exact ⟨false,rfl,S,Φ,inferInstance,Ctx.drop1 (Ctx.drop1 (Ctx.left (S:=rq b s3 :: kO kb v n1 n2 t3 0 0 .empty none 0 0 :: (S++G)) cx)),h0 hread⟩
 clear cx
 rw [if_neg (by rw [hb];simp)] at hread
 refine Br.intro (λhz=>λw G2 cx=>?_) (λhz=>?_)
 ·have hz:n2=0:=of_decide_eq_true hz
  rw [if_pos hz] at hread
  refine HG (S:=kO kb v n1 n2 t3 0 0 .empty none 0 0 :: (S++G)) cx (λw G2 cx=>?_)
  have J1:=Ctx.drop1 (Ctx.left (S:=rq b s3 :: kO kb v n1 n2 t3 0 0 .empty none 0 0 :: (S++G)) cx)
  by_cases hd:eJ s3=true
  ·rw [if_pos hd] at hread
   have pZ:aA (λM w=>Φ M w/\Sl M w none ([]:List aM)):=inferInstance
   exact ⟨true,by rw [hd],kO kb v n1 n2 t3 0 0 .empty none 0 0 :: S,_,pZ,J1.weak λM w h=>⟨h,Sl.nil⟩,h1 ⟨n1,n2,t3,0,0,.empty,[]⟩ none 0 hread (by simp) (Nat.zero_le _) (Nat.le_refl _) (Nat.zero_le _) pZ⟩
  ·have hd:eJ s3=false:=by simpa using hd
   rw [if_neg (by rw [hd];simp)] at hread
   exact ⟨false,by rw [hd],S,Φ,inferInstance,Ctx.drop1 J1,h0 hread⟩
 have hz:n2≠0:=of_decide_eq_false hz
 rw [if_neg hz] at hread
 obtain ⟨⟨n4,s4⟩,e4⟩:∃ x,aL s3=x:=⟨_,rfl⟩
 obtain ⟨⟨n5,s5⟩,e5⟩:∃ x,aL s4=x:=⟨_,rfl⟩
 obtain ⟨⟨t6,s6⟩,e6⟩:∃ x,stepT s5=x:=⟨_,rfl⟩
 obtain ⟨⟨n7,s7⟩,e7⟩:∃ x,dW s6=x:=⟨_,rfl⟩
 rw [e4] at hread;simp only at hread
 rw [e5] at hread;simp only at hread
 rw [e6] at hread;simp only at hread
 rw [e7] at hread;simp only at hread
 have l4:=dM s3
 have l5:=dM s4
 obtain ⟨l6,l6t⟩:=r7 s5
 have l7:(dW s6).2.1.length<=s6.1.length:=iG 59 0 s6
 have i4:=gJ s3
 have i7:0<=(dW s6).1/\(dW s6).1<=9223372036854775807:=lM (e:=59) (.inr (.inl rfl)) s6
 have k4:jX (aL s3).2:=kZ k3
 have k5:jX s4->jX (aL s4).2:=kZ
 have k6:jX s5->jX (stepT s5).2:=NC
 have k7:jX s6->jX (dW s6).2:=a3P
 rw [e4] at l4 i4 k4
 rw [e5] at l5 k5
 rw [e6] at l6 l6t k6
 rw [e7] at l7 i7 k7
 simp only at l4 l5 l6 l6t l7 i4 i7 k4 k5 k6 k7
 have k5:=k5 k4
 have k6:=k6 k5
 have k7:=k7 k6
 refine λw G2 cx=>jY (S:=kO kb v n1 n2 t3 0 0 .empty none 0 0 :: (S++G)) (by omega) e4 cx (λw G2 cx=>⟨cx.can 1 rfl (by simp),λw' hw'=>⟨rq b s4 :: kO kb v n1 n2 t3 n4 0 .empty none 0 0 :: (S++G),Φ,inferInstance,cx.put 1 hw' rfl,?_⟩⟩)
 clear cx hw' w'
 refine λw G2 cx=>jY (S:=kO kb v n1 n2 t3 n4 0 .empty none 0 0 :: (S++G)) (by omega) e5 cx (λw G2 cx=>⟨cx.can 1 rfl (by simp),λw' hw'=>⟨rq b s5 :: kO kb v n1 n2 t3 n4 n5 .empty none 0 0 :: (S++G),Φ,inferInstance,cx.put 1 hw' rfl,?_⟩⟩)
 clear cx hw' w'
 refine λw G2 cx=>GK (S:=kO kb v n1 n2 t3 n4 n5 .empty none 0 0 :: (S++G)) k5 (by omega) e6 cx (λw G2 cx=>⟨cx.can 1 rfl (by simp),λw' hw'=>⟨rq b s6 :: kO kb v n1 n2 t3 n4 n5 t6 none 0 0 :: (S++G),Φ,inferInstance,cx.put 1 hw' rfl,?_⟩⟩)
 clear cx hw' w'
 refine λw G2 cx=>a6d (S:=kO kb v n1 n2 t3 n4 n5 t6 none 0 0 :: (S++G)) (by omega) e7 cx ?_
 clear cx
 refine bY (λiI R' aF m=>∃ (i:Nat) (sl:iK) (acc:List aM) (ds:List Value) (p:Option Addr) (c:Nat),iI=(i:Nat)/\(i:Int)<=n7/\R'=cR p acc.length c ds :: rq b sl :: kO kb v n1 n2 t3 n4 n5 t6 p acc.length c :: (S++G)/\aF=(λM w=>Φ M w/\aQ M w ds acc)/\m=n7.toNat - i/\acc.length*7+sl.1.length<=s.length/\jX sl/\(∀ x∈acc,x.batch=n4/\eD x.row=true)/\iM n4 n7.toNat s7 []=iM n4 (n7.toNat - i) sl acc)
  ⟨⟨cR none 0 0 [] :: rq b s7 :: kO kb v n1 n2 t3 n4 n5 t6 none 0 0 :: (S++G),λM w=>Φ M w/\aQ M w [] ([]:List aM),n7.toNat,inferInstance,λw G cx=>(cx.yC 31 7).weak λM w h=>⟨h,aQ.nil⟩,0,s7,[],[],none,0,rfl,i7.1,rfl,rfl,rfl,by simp only [List.length_nil];omega,k7,by simp,rfl⟩,?_⟩
 rintro iI R1 bH m _ ⟨i,sl,acc,ds,p,c,rfl,hin,rfl,rfl,rfl,hal,hok,har,hlr⟩
 have wR:aA (λM w=>Φ M w/\aQ M w ds acc):=inferInstance
 have fin:iM n4 (n7.toNat - i) sl acc=some (acc,sl)->∀ (w:World) (G2:List Own) (cc:Bool),cc=eJ sl->Ctx W w ((rq b sl :: cR p acc.length c ds :: kO kb v n1 n2 t3 n4 n5 t6 p acc.length c :: (S++G))++G2) (λM w=>Φ M w/\aQ M w ds acc) ->
   ∀ bb:Bool,bb=(eJ sl&&(decide ((acc.length:Int)=n7)&&decide (n1<n4)))->∃ c',Ending.returned (.bool bb)=.returned (.bool c')/\∃ R' aF,aA aF/\Ctx W w (R'++G) aF/\K c' R' aF:=by
  intro hl w G2 cc hcc cx bb hbb
  rw [hlr,hl] at hread
  have hread:LI s=if (eJ sl&&(decide ((acc.length:Int)=n7)&&decide (n1<n4)))=true then some ⟨n1,n2,t3,n4,n5,t6,acc⟩ else none:=hread
  rw [<-hbb] at hread
  have J1:=Ctx.drop1 (Ctx.left (S:=rq b sl :: cR p acc.length c ds :: kO kb v n1 n2 t3 n4 n5 t6 p acc.length c :: (S++G)) cx)
  have hbl:=J1.xM 0 rfl
  obtain ⟨c2,NQ,_,hcap,hmx⟩:=Ctx.freeze (α:=aM) J1 J1.gW.2
  have c3:=(c2.add NQ).weak (Ψ:=λM w=>Φ M w/\Sl M w p acc) λM w h=>⟨h.1.1,h.2⟩
  have tU:aA (λM w=>Φ M w/\Sl M w p acc):=inferInstance
  cases bb with
  | true=>exact ⟨true,rfl,kO kb v n1 n2 t3 n4 n5 t6 p acc.length c :: S,_,tU,c3,h1 ⟨n1,n2,t3,n4,n5,t6,acc⟩ p c hread har (by show acc.length<=_;omega) hcap hmx tU⟩
  | false=>exact ⟨false,rfl,S,Φ,inferInstance,(Ctx.drop1 c3).weak λM w h=>h.1,h0 hread⟩
 have finish:iM n4 (n7.toNat - i) sl acc=some (acc,sl)->∀ (w:World) (G2:List Own),Ctx W w ((rq b sl :: cR p acc.length c ds :: kO kb v n1 n2 t3 n4 n5 t6 p acc.length c :: (S++G))++G2) (λM w=>Φ M w/\aQ M w ds acc)->True:=λ_ _ _ _=>trivial
 refine Br.intro (λhlt=>λw G2 cx=>?_) (λhge=>λw G2 cx=>?_)
 rotate_left 1
 ·have hend:iM n4 (n7.toNat - i) sl acc=some (acc,sl):=by
   have:=of_decide_eq_false hge
   rw [show n7.toNat - i=0 by omega];exact a7L
  refine HG (S:=cR p acc.length c ds :: kO kb v n1 n2 t3 n4 n5 t6 p acc.length c :: (S++G)) cx.swap ?_
  clear cx
  refine Br.intro (λhd=>λw G2 cx=>⟨p,acc.length,c,cx.get 2 rfl rfl,Br.intro (λhn=>λw G2 cx=>⟨n4,cx.get 2 rfl rfl,λw G2 cx=>⟨n1,cx.get 2 rfl rfl,λw G2 cx=>fin hend w G2 _ rfl cx _ ?_⟩⟩) (λhn=>λw G2 cx=>fin hend w G2 _ rfl cx _ ?_)⟩) (λhd=>λw G2 cx=>fin hend w G2 _ rfl cx _ ?_)
  ·rw [hd,hn];rfl
  ·rw [hd,hn];rfl
  ·rw [hd];rfl
 have hlt:(i:Int)<n7:=of_decide_eq_true hlt
 refine a9I (S:=cR p acc.length c ds :: kO kb v n1 n2 t3 n4 n5 t6 p acc.length c :: (S++G)) cx.swap ?_
 clear cx
 refine Br.intro (λhl=>?_) (λhl=>λw G2 cx=>?_)
 rotate_left 1
 ·have hend:iM n4 (n7.toNat - i) sl acc=some (acc,sl):=ZN (List.eq_nil_of_length_eq_zero (by have:=of_decide_eq_false hl;omega))
  refine HG (S:=cR p acc.length c ds :: kO kb v n1 n2 t3 n4 n5 t6 p acc.length c :: (S++G)) cx ?_
  clear cx
  refine Br.intro (λhd=>λw G2 cx=>⟨p,acc.length,c,cx.get 2 rfl rfl,Br.intro (λhn=>λw G2 cx=>⟨n4,cx.get 2 rfl rfl,λw G2 cx=>⟨n1,cx.get 2 rfl rfl,λw G2 cx=>fin hend w G2 _ rfl cx _ ?_⟩⟩) (λhn=>λw G2 cx=>fin hend w G2 _ rfl cx _ ?_)⟩) (λhd=>λw G2 cx=>fin hend w G2 _ rfl cx _ ?_)
  ·rw [hd,hn];rfl
  ·rw [hd,hn];rfl
  ·rw [hd];rfl
 clear fin finish
 have hl:sl.1≠[]:=λe=>by have:=of_decide_eq_true hl;rw [e] at this;simp at this
 obtain ⟨⟨m1,u1⟩,f1⟩:∃ x,aL sl=x:=⟨_,rfl⟩
 obtain ⟨⟨m2,u2⟩,f2⟩:∃ x,aL u1=x:=⟨_,rfl⟩
 obtain ⟨⟨t4,u3⟩,f3⟩:∃ x,stepT u2=x:=⟨_,rfl⟩
 obtain ⟨⟨m5,u4⟩,f4⟩:∃ x,aL u3=x:=⟨_,rfl⟩
 obtain ⟨⟨m6,u5⟩,f5⟩:∃ x,aL u4=x:=⟨_,rfl⟩
 obtain ⟨⟨m7,u6⟩,f6⟩:∃ x,aL u5=x:=⟨_,rfl⟩
 have q0:=dM sl
 have q1:=dM u1
 obtain ⟨q2,q3⟩:=r7 u2
 have q4:=dM u3
 have q5:=dM u4
 have q6:=dM u5
 have j1:=gJ sl
 have z1:jX (aL sl).2:=kZ hok
 have z2:jX u1->jX (aL u1).2:=kZ
 have z3:jX u2->jX (stepT u2).2:=NC
 have z4:jX u3->jX (aL u3).2:=kZ
 have z5:jX u4->jX (aL u4).2:=kZ
 have z6:jX u5->jX (aL u5).2:=kZ
 rw [f1] at q0 j1 z1
 rw [f2] at q1 z2
 rw [f3] at q2 q3 z3
 rw [f4] at q4 z4
 rw [f5] at q5 z5
 rw [f6] at q6 z6
 simp only at q0 q1 q2 q3 q4 q5 q6 j1 z1 z2 z3 z4 z5 z6
 have z2:=z2 z1
 have z6:=z6 (z5 (z4 (z3 z2)))
 have hkk:n7.toNat - i=(n7.toNat - (i+1))+1:=by omega
 have aMe:∀ {r:List cG},cV t4.data.toList=some r->r8 (aL sl).1 n4 (aL sl).2=some (⟨m1,n4,m2,r,m5,m6,m7⟩,u6):=fun {r} hr=>by
  rw [f1]
  simp only
  rw [D5 (r:=r) (by rw [f2];simp only;rw [f3];exact hr)]
  unfold rdL
  rw [f2];simp only
  rw [f3];simp only
  rw [f4];simp only
  rw [f5];simp only
  rw [f6]
 have bad:iM n4 (n7.toNat - i) sl acc=none->LI s=none:=λh=>by rw [hread,hlr,h];rfl
 have one:∀ {w:World} {X G:List Own} {Ψ:PW} [aA Ψ],Ctx W w (X++G) Ψ->kO kb v n1 n2 t3 n4 n5 t6 p acc.length c∈X->Ctx W w ([kO kb v n1 n2 t3 n4 n5 t6 p acc.length c]++G) tru:=λcx h=>fL cx (aMU h)
 refine ⟨[kO kb v n1 n2 t3 n4 n5 t6 p acc.length c],tru,inferInstance,λw G cx=>one cx (.tail _ (.tail _ (.head _))),n4,λw G cx=>⟨n4,cx.get 0 rfl rfl,rfl⟩,λw G2 cx=>jY (S:=cR p acc.length c ds :: kO kb v n1 n2 t3 n4 n5 t6 p acc.length c :: (S++G)) (by omega) f1 cx ⟨λw G cx=>one cx (.tail _ (.tail _ (.head _))),λkl=>⟨λw G cx=>one cx (.tail _ (.tail _ (.tail _ (.head _)))),λw G2 cx=>⟨cx.can 0 rfl (by simp),λw' hw'=>⟨rq b u1 :: lB kl m1 n4 0 none 0 0 0 0 0 :: cR p acc.length c ds :: kO kb v n1 n2 t3 n4 n5 t6 p acc.length c :: (S++G),_,wR,(cx.EY 0 hw' rfl).swap,?_⟩⟩⟩,trivial⟩,λkl=>⟨λw G cx=>one cx (.tail _ (.tail _ (.tail _ (.head _)))),λw G2 cx=>jY (S:=lB kl 0 0 0 none 0 0 0 0 0 :: cR p acc.length c ds :: kO kb v n1 n2 t3 n4 n5 t6 p acc.length c :: (S++G)) (by omega) f1 cx.swap ⟨λw G cx=>one cx (.tail _ (.tail _ (.tail _ (.head _)))),λw G2 cx=>⟨cx.can 1 rfl (by simp),λw' hw'=>⟨rq b u1 :: lB kl m1 n4 0 none 0 0 0 0 0 :: cR p acc.length c ds :: kO kb v n1 n2 t3 n4 n5 t6 p acc.length c :: (S++G),_,wR,cx.EY 1 hw' rfl,?_⟩⟩⟩,trivial⟩,trivial⟩
 all_goals
  clear cx hw' w'
  obtain ⟨KO,hKO⟩:∃ o,kO kb v n1 n2 t3 n4 n5 t6 p acc.length c=o:=⟨_,rfl⟩
  refine λw G2 cx=>jY (S:=lB kl m1 n4 0 none 0 0 0 0 0 :: cR p acc.length c ds :: KO :: (S++G)) (by omega) f2 (by rw [<-hKO];exact cx) (λw G2 cx=>⟨cx.can 1 rfl (by simp),λw' hw'=>⟨rq b u2 :: lB kl m1 n4 m2 none 0 0 0 0 0 :: cR p acc.length c ds :: KO :: (S++G),_,wR,cx.put 1 hw' rfl,?_⟩⟩)
  clear cx hw' w'
  refine λw G2 cx=>GK (S:=lB kl m1 n4 m2 none 0 0 0 0 0 :: cR p acc.length c ds :: KO :: (S++G)) z2 (by omega) f3 cx ?_
  clear cx
  refine λw G2 cx=>XC (R:=rq b u3 :: lB kl m1 n4 m2 none 0 0 0 0 0 :: cR p acc.length c ds :: KO :: (S++G)) t4 (by omega) cx (λhn=>?_) (λr rp rc hr g1 g2 aVg=>?_)
  ·clear cx
   refine λw G2 cx=>aEb f4 f5 f6 (by omega) cx (Br.intro (λ_=>λw G2 cx=>⟨false,rfl,S,Φ,inferInstance,?_,h0 (bad (by rw [hkk];exact VD hl (by rw [f1];exact UY (by rw [f2];simp only;rw [f3];exact hn))))⟩) (λh=>by cases h))
   exact (Ctx.drop1 (Ctx.drop1 (Ctx.drop1 (Ctx.drop1 (Ctx.left (S:=rq b u6 :: lB kl m1 n4 m2 none 0 0 m5 m6 m7 :: cR p acc.length c ds :: KO :: (S++G)) cx))))).weak λM w h=>h.1
  ·clear cx
   have hh:Has (λM w=>(Φ M w/\aQ M w ds acc)/\Sl M w rp r) (λM w=>Sl M w rp r):=⟨λM w h=>h.2⟩
   obtain ⟨y,hy⟩:∃ y:aM,(⟨m1,n4,m2,r,m5,m6,m7⟩:aM)=y:=⟨_,rfl⟩
   have hyc:y.cells rp rc=[.int .i64 m1,.int .i64 n4,.int .i64 m2,.slice rp r.length rc,.int .i64 m5,.int .i64 m6,.int .i64 m7]:=by rw [<-hy]
   have hyr:y.row=r:=by rw [<-hy]
   have hyb:y.batch=n4:=by rw [<-hy]
   have hli:=aMe hr
   rw [hy] at hli
   obtain ⟨y1,y2,y3,y4,y5,y6,y7,y8,y9⟩:=YY (by rw [f1] at hli;exact hli)
   have y1:u6.1.length+7<=u1.1.length:=y1
   have hin:y.In:=⟨by rw [y8];exact j1,by rw [hyb];exact i4,y4,y5,y6,y7⟩
   have q7:u6.1.length+7<=sl.1.length:=by omega
   refine λw G2 cx=>aEb f4 f5 f6 (by omega) cx (Br.intro (λh=>by cases h) (λ_=>λw G2 cx=>?_))
   refine (a0W (Φ:=λM w=>(Φ M w/\aQ M w ds acc)/\Sl M w rp r) rp rc r (λM w h=>h.2) (by unfold maxLen at g2;omega)).toB cx (Br.intro (λhb=>λw G2 cx=>⟨false,rfl,S,Φ,inferInstance,?_,h0 (bad (by rw [hkk];exact ZO hl hli (by rw [hyr];simpa using hb)))⟩) (λhb=>?_))
   ·exact (Ctx.drop1 (Ctx.drop1 (Ctx.drop1 (Ctx.drop1 (Ctx.left (S:=rq b u6 :: lB kl m1 n4 m2 rp r.length rc m5 m6 m7 :: cR p acc.length c ds :: KO :: (S++G)) cx))))).weak λM w h=>h.1.1
   have hb:eD r=true:=by simpa using hb
   clear cx
   rw [<-hKO]
   refine ⟨[lB kl m1 n4 m2 rp r.length rc m5 m6 m7,kO kb v n1 n2 t3 n4 n5 t6 p acc.length c],tru,inferInstance,λw G cx=>fL cx aJs,m1,n4,m2,rp,r.length,rc,m5,m6,m7,λw G cx=>⟨m1,n4,m2,rp,r.length,rc,m5,m6,m7,cx.LO 0 rfl,rfl⟩,p,acc.length,c,λw G cx=>⟨p,acc.length,c,cx.get 1 rfl rfl,rfl⟩,λkb2=>⟨λw G cx=>fL cx aW3,λw G2 cx=>?_⟩⟩
   rw [<-hyc] at cx
   have J1:Ctx W w (.blk kb2 (y.cells rp rc) 31 :: .buf p acc.length c ds 31 7 :: (rq b u6 :: lB kl m1 n4 m2 rp r.length rc m5 m6 m7 :: kO kb v n1 n2 t3 n4 n5 t6 p acc.length c :: (S++G))++G2) (λM w=>(Φ M w/\Sl M w rp r)/\aQ M w ds acc):=(cx.perm (List.Perm.cons _ (by
    show (rq b u6 :: lB kl m1 n4 m2 rp r.length rc m5 m6 m7 :: cR p acc.length c ds :: (kO kb v n1 n2 t3 n4 n5 t6 p acc.length c :: (S++G)++G2)).Perm (cR p acc.length c ds :: rq b u6 :: lB kl m1 n4 m2 rp r.length rc m5 m6 m7 :: (kO kb v n1 n2 t3 n4 n5 t6 p acc.length c :: (S++G)++G2))
    exact ((List.Perm.swap _ _ _).cons _).trans (List.Perm.swap _ _ _)))).weak λM w h=>⟨⟨h.1.1,h.2⟩,h.1.2⟩
   obtain ⟨p',c',w',hrun,cx'⟩:=aJh (PS:=λM w=>Φ M w/\Sl M w rp r) (λM w h=>MK (by rw [hyr];exact g1) g2 hin (by rw [hyr];exact h.2)) (by omega) J1
   have a9F:aA (λM w=>Φ M w/\aQ M w (ds++y.cells rp rc) (acc++[y])):=inferInstance
   refine ⟨p',_,c',w',hrun,cR p' (acc++[y]).length c' (ds++y.cells rp rc) :: rq b u6 :: lB kl m1 n4 m2 rp r.length rc m5 m6 m7 :: kO kb v n1 n2 t3 n4 n5 t6 p acc.length c :: (S++G),_,a9F,cx'.weak λM w h=>⟨h.1.1,h.2⟩,λw G cx=>fL cx aW4,λw G2 cx=>⟨cx.can 3 rfl (by simp),λw' hw'=>⟨cR p' (acc++[y]).length c' (ds++y.cells rp rc) :: rq b u6 :: lB kl m1 n4 m2 rp r.length rc m5 m6 m7 :: kO kb v n1 n2 t3 n4 n5 t6 p' (acc++[y]).length c' :: (S++G),_,a9F,cx.put 3 hw' rfl,by unfold aR;omega,cR p' (acc++[y]).length c' (ds++y.cells rp rc) :: rq b u6 :: kO kb v n1 n2 t3 n4 n5 t6 p' (acc++[y]).length c' :: (S++G),_,n7.toNat - (i+1),a9F,λw G cx=>cx.sub ((((List.sublist_cons_self _ _).cons_cons _).cons_cons _)),⟨i+1,u6,acc++[y],ds++y.cells rp rc,p',c',rfl,by omega,rfl,rfl,rfl,by rw [List.length_append,List.length_singleton];omega,z6,λz hz=>?_,by rw [hlr,hkk];exact VE hl hli (by rw [hyr];exact hb)⟩,by omega⟩⟩⟩
   rcases List.mem_append.1 hz with hz|hz
   ·exact har z hz
   ·rw [List.mem_singleton.1 hz];exact ⟨hyb,by rw [hyr];exact hb⟩
end
end Go.Proofs.YtfccagphnfceiaaGreatDoor
end

section
namespace Go.Proofs.YtfccagphnfceiaaGreatDoor
open Go.Vc
structure vF where
 no:Int
 now:Bs
 last:Bs
abbrev a1r (x:vF):List Value:=[.int .i64 x.no,.string (bs x.now),.string (bs x.last)]
abbrev fW (l:List vF):List Value:=l.flatMap a1r
def vY:List vF->Int->iA
 | [],_=>⟨[],[]⟩
 | x :: l,k=>if x.no=k then ⟨x.now,x.last⟩ else vY l k
def a1s (l:List vF) (x:vF):List vF:=(l.filter λy=>decide (y.no≠x.no))++[x]
theorem a3X:∀ (l:List vF) (x:vF) (k:Int),(∀ y∈l,y.no≠k)->vY (l++[x]) k=if x.no=k then ⟨x.now,x.last⟩ else ⟨[],[]⟩
 | [],x,k,h=>rfl
 | y :: l,x,k,h=>by
  show (if y.no=k then _ else vY (l++[x]) k)=_
  rw [if_neg (h y (by simp)),a3X l x k λz hz=>h z (by simp [hz])]
theorem a0a:∀ (l:List vF) (x:vF) (k:Int),x.no≠k->vY (l++[x]) k=vY l k
 | [],x,k,h=>by show (if x.no=k then _ else _)=_;rw [if_neg h]
 | y :: l,x,k,h=>by
  show (if y.no=k then _ else vY (l++[x]) k)=if y.no=k then _ else vY l k
  rw [a0a l x k h]
theorem GL (n:Int):∀ (l:List vF) (k:Int),k≠n->vY (l.filter λy=>decide (y.no≠n)) k=vY l k
 | [],k,h=>rfl
 | y :: l,k,h=>by
  rw [List.filter_cons]
  by_cases hy:y.no=n
  ·rw [if_neg (by rw [hy];simp),GL n l k h]
   show _=if y.no=k then _ else vY l k
   rw [if_neg (by rw [hy];exact λe=>h e.symm)]
  ·rw [if_pos (by simpa using hy)]
   show (if y.no=k then _ else vY (l.filter _) k)=if y.no=k then _ else vY l k
   rw [GL n l k h]
theorem aEc (l:List vF) (x:vF) (k:Int):vY (a1s l x) k=if k=x.no then ⟨x.now,x.last⟩ else vY l k:=by
 unfold a1s
 by_cases h:k=x.no
 ·rw [if_pos h,a3X _ _ _ λy hy=>by rw [h];simpa using (List.mem_filter.1 hy).2,if_pos h.symm]
 ·rw [if_neg h,a0a _ _ _ λe=>h e.symm,GL _ _ _ h]
theorem a0b (l:List vF):(fW l).length=l.length*3:=by
 induction l with
 | nil=>rfl
 | cons x l ih =>
  show (a1r x++fW l).length=_
  rw [List.length_append,ih,List.length_cons]
  show 3+l.length*3=(l.length+1)*3
  omega
theorem a3Y {l:List vF} {i:Nat} (h:i<l.length):((fW l).drop (i*3)).take 3=a1r l[i]:=by
 induction l generalizing i with
 | nil=>cases h
 | cons x l ih =>
  cases i with
  | zero=>rfl
  | succ i =>
   have:=ih (i:=i) (by simpa using h)
   show ((a1r x++fW l).drop ((i+1)*3)).take 3=_
   rw [show (i+1)*3=i*3+3 by omega,show (a1r x++fW l).drop (i*3+3)=(fW l).drop (i*3) by
    show (List.drop (i*3+3) (_ :: _ :: _ :: fW l))=_
    rw [List.drop_succ_cons,List.drop_succ_cons,List.drop_succ_cons],this]
   rfl
theorem a9P (l:List vF) (x:vF):fW (l++[x])=fW l++a1r x:=by simp [fW]
structure NH where
 db:Nat
 fl:List vF
 fp:Option Addr
 fc:Nat
 qp:Option Addr
 qc:Nat
 kp:Option Addr
 kc:Nat
abbrev XD (q:NH) (d:cC):List Value:=[.slice q.fp q.fl.length q.fc,.slice q.qp d.queue.length q.qc,.int .i64 d.lost,.bool d.down,.int .i64 d.bS,.slice q.kp d.keep.length q.kc]
def eB (q:NH) (d:cC):List Own:=[.blk q.db (XD q d) 117,.buf q.fp q.fl.length q.fc (fW q.fl) 142 3,.buf q.qp d.queue.length q.qc (iT d.queue) 140 2]
structure AY (q:NH) (d:cC):Prop where
 C5:∀ k,vY q.fl k=d.files k
 fnd:(q.fl.map λx=>x.no).Nodup
 DF:∀ x∈q.fl,0<=x.no/\x.no<16
 nodup:d.queue.Nodup
 range:∀ p∈d.queue,(0<=p.1/\p.1<16)/\0<=p.2/\p.2<262145
 size:∀ k,(d.files k).now.length<=16777216/\(d.files k).last.length<=16777216
 lost:0<=d.lost/\d.lost<=9223372036854775807
 bS:0<=d.bS/\d.bS<=9223372036854775807
theorem aMV {l:List vF} (hd:(l.map λx=>x.no).Nodup) (h:∀ x∈l,0<=x.no/\x.no<16):l.length<=16:=by
 have h1:=V7 16 (l.map λx=>x.no.toNat) (by
  refine List.nodup_iff_pairwise_ne.2 (List.pairwise_map.2 ?_)
  have:=List.pairwise_map.1 (List.nodup_iff_pairwise_ne.1 hd)
  refine this.imp_of_mem fun {a b} ha hb hab e=>hab ?_
  have h1:=h a ha
  have h2:=h b hb
  omega) (λn hn=>by
  obtain ⟨x,hx,rfl⟩:=List.mem_map.1 hn
  have:=h x hx
  omega)
 rwa [List.length_map] at h1
theorem AY.aEd {q:NH} {d:cC} (h:AY q d):q.fl.length<=16:=aMV h.fnd h.DF
theorem AY.XA {q:NH} {d:cC} (h:AY q d):d.queue.length<=4194320:=ZE h.nodup h.range
section
variable {W w:World} {S G:List Own} {Φ:PW} {q:NH} {d:cC}
theorem a9Q [aA Φ] (cx:Ctx W w S Φ) {K:Ending->World->Prop} (hk:∀ q w',AY q bX->Ctx W w' (eB q bX++S) (λM w=>Φ M w/\Sl M w q.kp bX.keep)->K (.returned (.pointer (some ⟨q.db,0,none⟩))) w'):Calls Tryz.prog F.qG #[] w K:=by
 refine (GI (J:=λu w'=>K (.returned u) w') cx λk0 w G cx=>?_).mono λe w' ⟨v,he,hj⟩=>by rw [he];exact hj
 refine hk ⟨k0,[],none,0,none,0,none,0⟩ w ⟨λk=>rfl,List.nodup_nil,λx hx=>(by cases hx),List.nodup_nil,λp hp=>(by cases hp),λk=>⟨Nat.zero_le _,Nat.zero_le _⟩,⟨Int.le_refl 0,by decide⟩,⟨Int.le_refl 0,by decide⟩⟩ ?_
 have c1:Ctx W w (.blk k0 (XD ⟨k0,[],none,0,none,0,none,0⟩ bX) 117 :: S) Φ:=Ctx.left (S:=.blk k0 _ 117 :: S) cx
 have c2:=(c1.yC 140 2).yC 142 3
 exact (c2.perm (by
  show List.Perm (_ :: _ :: _ :: S) (_ :: _ :: _ :: S)
  exact (List.perm_middle (l₁:=[_,_]) (a:=_)).trans (by exact List.Perm.refl _))).weak λM w h=>⟨h,Sl.nil⟩
theorem gL (cx:Ctx W w (eB q d++S) Φ) {i:Nat} {v:Value} (hv:(XD q d)[i]? = some v):w.cell? ⟨q.db,i,none⟩=some v :=
 Ctx.get (S:=.blk q.db (XD q d) 117 :: .buf q.fp q.fl.length q.fc (fW q.fl) 142 3 :: .buf q.qp d.queue.length q.qc (iT d.queue) 140 2 :: S) cx 0 rfl hv
theorem P7 [aA Φ] {f:Int} (cx:Ctx W w (eB q d++S) Φ) {K:Ending->World->Prop} (hk:∀ w',Ctx W w' (eB q d++S) Φ->K (.returned (.int .i64 (j8 d f))) w'):Calls Tryz.prog F.fN #[.pointer (some ⟨q.db,0,none⟩),.int .i64 f] w K:=by
 refine (yZ q.db 0 f (J:=λu w'=>K (.returned u) w') cx λw G cx=>⟨d.down,gL cx.left rfl,Br.intro (λh=>λw G cx=>?_) (λh=>λw G cx=>Br.intro (λh2=>λw G cx=>?_) (λh2=>λw G cx=>?_))⟩).mono λe w' ⟨v,he,hj⟩=>by rw [he];exact hj
 ·have e:j8 d f=9:=by unfold j8;rw [if_pos h]
  rw [<-e];exact hk w cx.left
 ·have e:j8 d f=1:=by
   unfold j8
   rw [if_neg (by rw [h];simp),if_pos (by
    rcases Bool.or_eq_true _ _ ▸ h2 with h3|h3
    ·exact .inl (of_decide_eq_true h3)
    ·exact .inr (by have:=of_decide_eq_true h3;omega))]
  rw [<-e];exact hk w cx.left
 ·have e:j8 d f=0:=by
   unfold j8
   have h3:=Bool.or_eq_false_iff.1 h2
   have h4:=of_decide_eq_false h3.1
   have h5:=of_decide_eq_false h3.2
   rw [if_neg (by rw [h];simp),if_neg (by omega)]
  rw [<-e];exact hk w cx.left
def a6e (a:Int) (n:Nat):Bool:=decide (0<=a)&&decide (a<=16777216)&&decide (a+(n:Int)<=16777216)
theorem a0c [aA Φ] {a:Int} {s:Bs} (hs:s.length<=1000000000):aU Φ Tryz.prog F.kS #[.int .i64 a,.string (bs s)] (.bool (a6e a s.length)):=by
 refine dS (EM a (bs s)) λW R=>λw G cx=>⟨λh=>?_,λw G cx=>⟨by rw [aT];rfl,cx.left⟩⟩
 rw [Bool.and_eq_true] at h
 have h1:=of_decide_eq_true h.1
 have h2:=of_decide_eq_true h.2
 rw [aT]
 unfold aR
 omega
set_option maxHeartbeats 1000000 in
theorem HH [aA Φ] (hq:AY q d) {f:Int} (cx:Ctx W w (eB q d++S) Φ) {K:Ending->World->Prop} (hk:∀ w',Ctx W w' (eB q d++S) Φ->K (.returned (.agg #[.int .i64 f,.string (bs (d.files f).now),.string (bs (d.files f).last)])) w') :
  Calls Tryz.prog F.eH #[.pointer (some ⟨q.db,0,none⟩),.int .i64 f] w K:=by
 refine (zA q.db 0 f (J:=λu w'=>K (.returned u) w') cx λ_=>?_).mono λe w' ⟨v,he,hj⟩=>by rw [he];exact hj
 clear cx
 refine bY (λn a s t R' aF m=>∃ i:Nat,n=i/\i+m=q.fl.length/\R'=eB q d++S/\aF=Φ/\vY (q.fl.drop i) f=d.files f) ⟨⟨_,Φ,q.fl.length,inferInstance,λw G cx=>cx,0,rfl,by omega,rfl,rfl,by rw [List.drop_zero];exact hq.C5 f⟩,?_⟩
 rintro n a s t R1 bH m st ⟨i,rfl,him,rfl,rfl,x7⟩
 refine λw G cx=>⟨q.fp,q.fl.length,q.fc,gL cx.left rfl,Br.intro (λhlt=>λw G cx=>?_) (λhge=>λw G cx=>?_)⟩
 ·have hlt:i<q.fl.length:=by have:=of_decide_eq_true hlt;omega
  obtain ⟨m,rfl⟩:∃ m',m=m'+1:=⟨m - 1,by omega⟩
  obtain ⟨g,hg,_⟩:=Ctx.jF (S:=.blk q.db (XD q d) 117 :: .buf q.fp q.fl.length q.fc (fW q.fl) 142 3 :: .buf q.qp d.queue.length q.qc (iT d.queue) 140 2 :: (S++G)) cx 1 rfl (by rw [a0b];omega)
  have row:∀ {w:World} {G:List Own},Ctx W w ((eB q d++S)++G) bH->dH w g (i*3) (a1r q.fl[i]):=fun {w G} cx=>Ctx.OE (S:=.blk q.db (XD q d) 117 :: .buf q.fp q.fl.length q.fc (fW q.fl) 142 3 :: .buf q.qp d.queue.length q.qc (iT d.queue) 140 2 :: (S++G)) cx 1 rfl hg (zY (a3Y hlt))
  rw [List.drop_eq_getElem_cons hlt] at x7
  have x7:(if q.fl[i].no=f then (⟨q.fl[i].now,q.fl[i].last⟩:iA) else vY (q.fl.drop (i+1)) f)=d.files f:=x7
  have e3:((i:Int)).toNat*3=i*3:=by rw [Int.toNat_natCast]
  refine ⟨q.fp,q.fl.length,q.fc,gL cx.left rfl,⟨by omega,by omega⟩,aJ g 0 hg λw G cx=>⟨q.fl[i].no,?_,Br.intro (λhe=>λw G cx=>⟨q.fp,q.fl.length,q.fc,gL cx.left rfl,⟨by omega,by omega⟩,aJ g 0 hg λw G cx=>⟨q.fl[i].no,bs q.fl[i].now,bs q.fl[i].last,?_,λw G cx=>?_⟩⟩) (λhne=>?_)⟩⟩
  ·have:=row cx 0 (by show 0<3;decide)
   rw [Nat.zero_add,e3]
   exact this
  ·rw [Nat.zero_add,e3]
   exact row cx
  ·rw [if_pos (of_decide_eq_true he)] at x7
   have h1:(d.files f).now=q.fl[i].now:=by rw [<-x7]
   have h2:(d.files f).last=q.fl[i].last:=by rw [<-x7]
   rw [<-h1,<-h2,of_decide_eq_true he]
   exact hk w cx.left
  ·rw [if_neg (of_decide_eq_false hne)] at x7
   exact ⟨by have:=hq.aEd;unfold aR;omega,_,_,m,st,λw G cx=>cx,⟨i+1,by omega,by omega,rfl,rfl,x7⟩,Nat.lt_succ_self _⟩
 ·have hge:i=q.fl.length:=by have:=of_decide_eq_false hge;omega
  rw [hge,List.drop_length] at x7
  have hk:=hk w cx.left
  rw [<-x7] at hk
  exact hk
end
end Go.Proofs.YtfccagphnfceiaaGreatDoor
end

section
namespace Go.Proofs.YtfccagphnfceiaaGreatDoor
open Go.Vc
section
variable {W w:World} {S G:List Own} {Φ:PW} {q:NH} {d:cC}
theorem NI (cx:Ctx W w (eB q d++S) Φ) {g:Nat} (hg:q.fp=some ⟨g,0,none⟩) {i:Nat} (hlt:i<q.fl.length):dH w g (i*3) (a1r q.fl[i]) :=
 Ctx.OE (S:=.blk q.db (XD q d) 117 :: .buf q.fp q.fl.length q.fc (fW q.fl) 142 3 :: .buf q.qp d.queue.length q.qc (iT d.queue) 140 2 :: S) cx 1 rfl hg (zY (a3Y hlt))
theorem aJt (cx:Ctx W w (eB q d++S) Φ) (h:0<q.fl.length):∃ g,q.fp=some ⟨g,0,none⟩:=by
 obtain ⟨g,hg,_⟩:=Ctx.jF (S:=.blk q.db (XD q d) 117 :: .buf q.fp q.fl.length q.fc (fW q.fl) 142 3 :: .buf q.qp d.queue.length q.qc (iT d.queue) 140 2 :: S) cx 1 rfl (by rw [a0b];omega)
 exact ⟨g,hg⟩
theorem a1t (cx:Ctx W w (eB q d++S) Φ) {g:Nat} (hg:q.qp=some ⟨g,0,none⟩) {i:Nat} (hlt:i<d.queue.length):dH w g (i*2) [.int .i64 d.queue[i].1,.int .i64 d.queue[i].2] :=
 Ctx.OE (S:=.blk q.db (XD q d) 117 :: .buf q.fp q.fl.length q.fc (fW q.fl) 142 3 :: .buf q.qp d.queue.length q.qc (iT d.queue) 140 2 :: S) cx 2 rfl hg (zY (a1l hlt))
theorem aEe (cx:Ctx W w (eB q d++S) Φ) (h:0<d.queue.length):∃ g,q.qp=some ⟨g,0,none⟩:=by
 obtain ⟨g,hg,_⟩:=Ctx.jF (S:=.blk q.db (XD q d) 117 :: .buf q.fp q.fl.length q.fc (fW q.fl) 142 3 :: .buf q.qp d.queue.length q.qc (iT d.queue) 140 2 :: S) cx 2 rfl (by rw [yP];omega)
 exact ⟨g,hg⟩
set_option maxHeartbeats 1000000 in
theorem XE [aA Φ] (hq:AY q d) {f n:Int} (cx:Ctx W w (eB q d++S) Φ) {K:Ending->World->Prop} (hk:∀ w',Ctx W w' (eB q d++S) Φ->K (.returned (.bool (decide ((f,n)∈d.queue)))) w') :
  Calls Tryz.prog F.gS #[.pointer (some ⟨q.db,0,none⟩),.int .i64 f,.int .i64 n] w K:=by
 refine (vE q.db 0 f n (J:=λu w'=>K (.returned u) w') cx ?_).mono λe w' ⟨v,he,hj⟩=>by rw [he];exact hj
 clear cx
 refine bY (λn' R' aF m=>∃ i:Nat,n'=i/\i+m=d.queue.length/\R'=eB q d++S/\aF=Φ/\(f,n) ∉ d.queue.take i) ⟨⟨_,Φ,d.queue.length,inferInstance,λw G cx=>cx,0,rfl,by omega,rfl,rfl,by simp⟩,?_⟩
 rintro n' R1 bH m st ⟨i,rfl,him,rfl,rfl,hno⟩
 refine λw G cx=>⟨q.qp,d.queue.length,q.qc,gL (i:=1) cx.left rfl,Br.intro (λhlt=>λw G cx=>?_) (λhge=>λw G cx=>?_)⟩
 ·have hlt:i<d.queue.length:=by have:=of_decide_eq_true hlt;omega
  obtain ⟨m,rfl⟩:∃ m',m=m'+1:=⟨m - 1,by omega⟩
  obtain ⟨g,hg⟩:=aEe cx.left (by omega)
  have row:=a1t cx.left hg hlt
  have e2:(0:Nat)+((i:Int)).toNat*2=i*2:=by rw [Int.toNat_natCast];omega
  have htk:d.queue.take (i+1)=d.queue.take i++[d.queue[i]]:=List.take_succ_eq_append_getElem hlt
  refine ⟨q.qp,d.queue.length,q.qc,gL (i:=1) cx.left rfl,⟨by omega,by omega⟩,aJ g 0 hg ⟨d.queue[i].1,?_,q.qp,d.queue.length,q.qc,λ_=>gL (i:=1) cx.left rfl,λ_=>⟨by omega,by omega⟩,?_⟩⟩
  ·rw [e2]
   exact row 0 (by show 0<2;decide)
  refine aJ g 0 hg ⟨d.queue[i].2,λ_=>?_,Br.intro (λh=>λw G cx=>?_) (λh=>⟨by have:=hq.XA;unfold aR;omega,_,_,m,st,λw G cx=>cx,⟨i+1,by omega,by omega,rfl,rfl,?_⟩,Nat.lt_succ_self _⟩)⟩
  ·rw [e2]
   exact row 1 (by show 1<2;decide)
  ·rw [Bool.and_eq_true] at h
   have h1:=of_decide_eq_true h.1
   have h2:=of_decide_eq_true h.2
   have:(f,n)∈d.queue:=by
    have:=List.getElem_mem hlt
    rw [show d.queue[i]=(f,n) from Prod.ext h1 h2] at this
    exact this
   have hk:=hk w cx.left
   rw [decide_eq_true this] at hk
   exact hk
  ·rw [htk,List.mem_append,List.mem_singleton]
   rintro (h3|h3)
   ·exact hno h3
   ·rw [<-h3] at h
    simp at h
 ·have hge:i=d.queue.length:=by have:=of_decide_eq_false hge;omega
  rw [hge,List.take_length] at hno
  have hk:=hk w cx.left
  rw [decide_eq_false hno] at hk
  exact hk
end
end Go.Proofs.YtfccagphnfceiaaGreatDoor
end

section
namespace Go.Proofs.YtfccagphnfceiaaGreatDoor
open Go.Vc
theorem aMW {q:NH} {d:cC} (hq:AY q d) {x:vF} (hx:0<=x.no/\x.no<16) (hs:x.now.length<=16777216/\x.last.length<=16777216) {fp:Option Addr} {fc:Nat}:AY { q with fl:=a1s q.fl x,fp:=fp,fc:=fc } (d.set x.no ⟨x.now,x.last⟩) where
 C5:=λk=>by
  show vY (a1s q.fl x) k=if k=x.no then _ else d.files k
  rw [aEc,hq.C5 k]
 fnd:=by
  show ((a1s q.fl x).map λx=>x.no).Nodup
  unfold a1s
  rw [List.map_append]
  refine List.nodup_append.2 ⟨(hq.fnd.sublist (List.Sublist.map _ (List.filter_sublist))),by simp,λa ha b hb e=>?_⟩
  rw [List.map_cons,List.map_nil,List.mem_singleton] at hb
  obtain ⟨y,hy,rfl⟩:=List.mem_map.1 ha
  have:=(List.mem_filter.1 hy).2
  rw [decide_eq_true_eq] at this
  exact this (e.trans hb)
 DF:=λy hy=>by
  rcases List.mem_append.1 hy with h|h
  ·exact hq.DF y (List.mem_filter.1 h).1
  ·rw [List.mem_singleton.1 h];exact hx
 nodup:=hq.nodup
 range:=hq.range
 size:=λk=>by
  show ((if k=x.no then (⟨x.now,x.last⟩:iA) else d.files k).now.length<=_)/\_
  by_cases h:k=x.no
  ·show ((if k=x.no then (⟨x.now,x.last⟩:iA) else d.files k).now.length<=_)/\(if k=x.no then (⟨x.now,x.last⟩:iA) else d.files k).last.length<=_
   rw [if_pos h];exact hs
  ·show ((if k=x.no then (⟨x.now,x.last⟩:iA) else d.files k).now.length<=_)/\(if k=x.no then (⟨x.now,x.last⟩:iA) else d.files k).last.length<=_
   rw [if_neg h];exact hq.size k
 lost:=hq.lost
 bS:=hq.bS
section
variable {W w:World} {S G:List Own} {Φ:PW} {q:NH} {d:cC}
theorem aEf [aA Φ] {g:Nat} {p:Option Addr} {o:List vF} {c:Nat} {x:vF} (ho:o.length<=100000) (cx:Ctx W w (.blk g (a1r x) 142 :: .buf p o.length c (fW o) 142 3 :: S) Φ) :
  ∃ p' cap' w',Sem.run Tryz.prog (builtin Builtin.append #[114,114] 114 #[false,false] #[.slice p o.length c,.slice (some ⟨g,0,none⟩) 1 1]) w=.ok (.value (.slice p' (o++[x]).length cap')) w'/\Ctx W w' (.buf p' (o++[x]).length cap' (fW (o++[x])) 142 3 :: S) Φ:=by
 obtain ⟨p',cap',w',hr,_,c2⟩:=cx.a2t (P:=Tryz.prog) (ts:=114) (ty:=114) (kb:=#[false,false]) (bytes:=40) (by kernel_rfl) (by decide) rfl rfl (by omega) (by decide)
 refine ⟨p',cap',w',?_,?_⟩
 ·rw [List.length_append];exact hr
 ·rw [List.length_append,a9P];exact c2
set_option maxHeartbeats 2000000 in
theorem HI [aA Φ] (hq:AY q d) {x:vF} (hx:0<=x.no/\x.no<16) (hs:x.now.length<=16777216/\x.last.length<=16777216) (cx:Ctx W w (eB q d++S) Φ) {K:Ending->World->Prop}
  (hk:∀ fl fp fc w',AY { q with fl:=fl,fp:=fp,fc:=fc } (d.set x.no ⟨x.now,x.last⟩)->Ctx W w' (eB { q with fl:=fl,fp:=fp,fc:=fc } (d.set x.no ⟨x.now,x.last⟩)++S) Φ->K (.returned (.tuple #[])) w') :
  Calls Tryz.prog F.eI #[.pointer (some ⟨q.db,0,none⟩),.agg #[.int .i64 x.no,.string (bs x.now),.string (bs x.last)]] w K:=by
 refine (zC q.db 0 x.no (bs x.now) (bs x.last) (J:=λu w'=>K (.returned u) w') cx λ_=>?_).mono λe w' ⟨v,he,hj⟩=>by rw [he];exact hj
 clear cx
 refine bY (λp n c i' R' aF m=>∃ i:Nat,i'=i/\i+m=q.fl.length/\n=((q.fl.take i).filter λy=>decide (y.no≠x.no)).length/\R'=.buf p ((q.fl.take i).filter λy=>decide (y.no≠x.no)).length c (fW ((q.fl.take i).filter λy=>decide (y.no≠x.no))) 142 3 :: (eB q d++S)/\aF=Φ) ⟨⟨_,Φ,q.fl.length,inferInstance,λw G cx=>cx.yC 142 3,0,rfl,by omega,rfl,rfl,rfl⟩,?_⟩
 rintro p n c i' R1 bH m st ⟨i,rfl,him,rfl,rfl,rfl⟩
 obtain ⟨o,ho⟩:∃ o,((q.fl.take i).filter λy=>decide (y.no≠x.no))=o:=⟨_,rfl⟩
 have hol:o.length<=16:=by
  rw [<-ho]
  exact Nat.le_trans (List.length_filter_le _ _) (by rw [List.length_take];have:=hq.aEd;omega)
 rw [ho]
 have dk:∀ {w:World} {G:List Own},Ctx W w ((.buf p o.length c (fW o) 142 3 :: (eB q d++S))++G) bH->Ctx W w (eB q d++S) bH:=fun {w G} cx=>Ctx.left (F:=G) (Ctx.drop1 (S:=(eB q d++S)++G) cx)
 refine λw G cx=>⟨q.fp,q.fl.length,q.fc,gL (dk cx) rfl,Br.intro (λhlt=>λw G cx=>?_) (λhge=>λk w G cx=>?_)⟩
 ·have hlt:i<q.fl.length:=by have:=of_decide_eq_true hlt;omega
  obtain ⟨m,rfl⟩:∃ m',m=m'+1:=⟨m - 1,by omega⟩
  obtain ⟨g,hg⟩:=aJt (dk cx) (by omega)
  have row:=NI (dk cx) hg hlt
  have e3:(0:Nat)+((i:Int)).toNat*3=i*3:=by rw [Int.toNat_natCast];omega
  have htk:q.fl.take (i+1)=q.fl.take i++[q.fl[i]]:=List.take_succ_eq_append_getElem hlt
  have hI:aR ((i:Int)+1):=by have:=hq.aEd;unfold aR;omega
  refine ⟨q.fp,q.fl.length,q.fc,gL (dk cx) rfl,⟨by omega,by omega⟩,aJ g 0 hg ⟨q.fl[i].no,?_,Br.intro (λhne=>λw G cx=>?_) (λhe=>⟨hI,_,_,m,st,λw G cx=>cx,⟨i+1,by omega,by omega,?_,?_,rfl⟩,Nat.lt_succ_self _⟩)⟩⟩
  ·rw [e3];exact row 0 (by show 0<3;decide)
  ·have hne:=of_decide_eq_true hne
   refine ⟨q.fp,q.fl.length,q.fc,gL (dk cx) rfl,⟨by omega,by omega⟩,aJ g 0 hg λw G cx=>⟨q.fl[i].no,bs q.fl[i].now,bs q.fl[i].last,by rw [e3];exact NI (dk cx) hg hlt,λk w G cx=>?_⟩⟩
   obtain ⟨p',c',w',hr,c2⟩:=aEf (x:=q.fl[i]) (S:=(eB q d++S)++G) (by omega) cx
   have zL:((q.fl.take (i+1)).filter λy=>decide (y.no≠x.no))=o++[q.fl[i]]:=by
    rw [htk,List.filter_append,ho,List.filter_cons,if_pos (by simpa using hne)]
    rfl
   exact ⟨p',_,c',w',hr,_,bH,st,c2,hI,_,_,m,st,λw G cx=>cx,⟨i+1,by omega,by omega,by rw [zL],by rw [zL],rfl⟩,Nat.lt_succ_self _⟩
  all_goals
   have he:=Decidable.not_not.1 (of_decide_eq_false he)
   have zL:((q.fl.take (i+1)).filter λy=>decide (y.no≠x.no))=o:=by
    rw [htk,List.filter_append,ho,List.filter_cons,if_neg (by rw [he];simp)]
    simp
   rw [zL]
 ·have hge:i=q.fl.length:=by have:=of_decide_eq_false hge;omega
  rw [hge,List.take_length] at ho
  obtain ⟨p',c',w',hr,c2⟩:=aEf (x:=x) (S:=(eB q d++S)++G) (by omega) cx
  refine ⟨p',_,c',w',hr,.buf p' (o++[x]).length c' (fW (o++[x])) 142 3 :: (eB q d++S),bH,st,c2,λw G cx=>?_⟩
  have cx:Ctx W w (.buf p' (o++[x]).length c' (fW (o++[x])) 142 3 :: .blk q.db (XD q d) 117 :: .buf q.fp q.fl.length q.fc (fW q.fl) 142 3 :: .buf q.qp d.queue.length q.qc (iT d.queue) 140 2 :: (S++G)) bH:=cx
  refine ⟨cx.can 1 rfl (by show 0+1<=6;decide),λw' hw'=>?_⟩
  have c3:=cx.put 1 hw' rfl
  have a52:o++[x]=a1s q.fl x:=by unfold a1s;rw [ho]
  rw [a52] at c3
  refine ⟨eB { q with fl:=a1s q.fl x,fp:=p',fc:=c' } (d.set x.no ⟨x.now,x.last⟩)++S,bH,st,?_,λw G cx=>hk _ _ _ w (aMW hq hx hs) cx.left⟩
  have c4:=c3.perm (List.Perm.swap _ _ _)
  exact c4.sub (.cons_cons _ (.cons_cons _ (.cons _ (List.Sublist.refl _))))
end
end Go.Proofs.YtfccagphnfceiaaGreatDoor
end

section
namespace Go.Proofs.YtfccagphnfceiaaGreatDoor
open Go.Vc
section
variable {W w:World} {S G:List Own} {Φ:PW} {q:NH} {d:cC}
theorem aJu [aA Φ] {g:Nat} {p:Option Addr} {o:List (Int × Int)} {c:Nat} {x:Int × Int} (ho:o.length<=10000000) (cx:Ctx W w (.blk g [.int .i64 x.1,.int .i64 x.2] 140 :: .buf p o.length c (iT o) 140 2 :: S) Φ) :
  ∃ p' cap' w',Sem.run Tryz.prog (builtin Builtin.append #[115,115] 115 #[false,false] #[.slice p o.length c,.slice (some ⟨g,0,none⟩) 1 1]) w=.ok (.value (.slice p' (o++[x]).length cap')) w'/\Ctx W w' (.buf p' (o++[x]).length cap' (iT (o++[x])) 140 2 :: S) Φ:=by
 obtain ⟨p',cap',w',hr,_,c2⟩:=cx.a2t (P:=Tryz.prog) (ts:=115) (ty:=115) (kb:=#[false,false]) (bytes:=16) (by kernel_rfl) (by decide) rfl rfl (by omega) (by decide)
 refine ⟨p',cap',w',?_,?_⟩
 ·rw [List.length_append];exact hr
 ·rw [List.length_append,a3J];exact c2
set_option maxHeartbeats 2000000 in
theorem a1u [aA Φ] (hq:AY q d) {f:Int} (hf:0<=f/\f<16) {s:Bs} (hs:s.length<=16777216) (cx:Ctx W w (eB q d++S) Φ) {K:Ending->World->Prop}
  (hk:∀ q' w',q'.db=q.db->q'.kp=q.kp->AY q' (sA d f s)->Ctx W w' (eB q' (sA d f s)++S) Φ->K (.returned (.tuple #[])) w') :
  Calls Tryz.prog F.iD #[.pointer (some ⟨q.db,0,none⟩),.int .i64 f,.string (bs s)] w K:=by
 refine (vX q.db 0 f (bs s) (J:=λu w'=>K (.returned u) w') cx λw G cx=>?_).mono λe w' ⟨v,he,hj⟩=>by rw [he];exact hj
 refine HI (x:=⟨f,s,s⟩) (S:=S++G) hq hf ⟨hs,hs⟩ (cx.re (List.append_assoc _ _ _)) λfl fp fc w hq1 cx=>⟨rfl,eB { q with fl:=fl,fp:=fp,fc:=fc } (d.set f ⟨s,s⟩)++S,Φ,inferInstance,cx.re (List.append_assoc _ _ _).symm,?_⟩
 clear cx
 obtain ⟨q1,a6f⟩:∃ q1:NH,{ q with fl:=fl,fp:=fp,fc:=fc }=q1:=⟨_,rfl⟩
 have hdb:q1.db=q.db/\q1.kp=q.kp:=by rw [<-a6f];exact ⟨rfl,rfl⟩
 rw [a6f] at hq1 ⊢
 obtain ⟨d1,hd1⟩:∃ d1,d.set f ⟨s,s⟩=d1:=⟨_,rfl⟩
 have a52:sA d f s={ d1 with queue:=d1.queue.filter λp=>decide (p.1≠f) }:=by rw [<-hd1];rfl
 rw [a52] at hk
 rw [hd1] at hq1 ⊢
 rw [<-hdb.1]
 refine bY (λp n c i' R' aF m=>∃ i:Nat,i'=i/\i+m=d1.queue.length/\n=((d1.queue.take i).filter λp=>decide (p.1≠f)).length/\R'=.buf p ((d1.queue.take i).filter λp=>decide (p.1≠f)).length c (iT ((d1.queue.take i).filter λp=>decide (p.1≠f))) 140 2 :: (eB q1 d1++S)/\aF=Φ) ⟨⟨_,Φ,d1.queue.length,inferInstance,λw G cx=>cx.yC 140 2,0,rfl,by omega,rfl,rfl,rfl⟩,?_⟩
 rintro p n c i' R1 bH m st ⟨i,rfl,him,rfl,rfl,rfl⟩
 obtain ⟨o,ho⟩:∃ o,((d1.queue.take i).filter λp=>decide (p.1≠f))=o:=⟨_,rfl⟩
 have hol:o.length<=4194320:=by
  rw [<-ho]
  exact Nat.le_trans (List.length_filter_le _ _) (by rw [List.length_take];have:=hq1.XA;omega)
 rw [ho]
 have dk:∀ {w:World} {G:List Own},Ctx W w ((.buf p o.length c (iT o) 140 2 :: (eB q1 d1++S))++G) bH->Ctx W w (eB q1 d1++S) bH:=fun {w G} cx=>Ctx.left (F:=G) (Ctx.drop1 (S:=(eB q1 d1++S)++G) cx)
 refine λw G cx=>⟨q1.qp,d1.queue.length,q1.qc,gL (i:=1) (dk cx) rfl,Br.intro (λhlt=>λw G cx=>?_) (λhge=>λw G cx=>?_)⟩
 ·have hlt:i<d1.queue.length:=by have:=of_decide_eq_true hlt;omega
  obtain ⟨m,rfl⟩:∃ m',m=m'+1:=⟨m - 1,by omega⟩
  obtain ⟨g,hg⟩:=aEe (dk cx) (by omega)
  have e2:(0:Nat)+((i:Int)).toNat*2=i*2:=by rw [Int.toNat_natCast];omega
  have htk:d1.queue.take (i+1)=d1.queue.take i++[d1.queue[i]]:=List.take_succ_eq_append_getElem hlt
  have hI:aR ((i:Int)+1):=by have:=hq1.XA;unfold aR;omega
  refine ⟨q1.qp,d1.queue.length,q1.qc,gL (i:=1) (dk cx) rfl,⟨by omega,by omega⟩,aJ g 0 hg λw G cx=>⟨d1.queue[i].1,?_,Br.intro (λhne=>λw G cx=>?_) (λhe=>⟨hI,_,_,m,st,λw G cx=>cx,⟨i+1,by omega,by omega,?_,?_,rfl⟩,Nat.lt_succ_self _⟩)⟩⟩
  ·rw [e2];exact a1t (dk cx) hg hlt 0 (by show 0<2;decide)
  ·have hne:=of_decide_eq_true hne
   refine ⟨q1.qp,d1.queue.length,q1.qc,gL (i:=1) (dk cx) rfl,⟨by omega,by omega⟩,aJ g 0 hg λw G cx=>⟨d1.queue[i].1,d1.queue[i].2,by rw [e2];exact a1t (dk cx) hg hlt,λk w G cx=>?_⟩⟩
   obtain ⟨p',c',w',hr,c2⟩:=aJu (x:=d1.queue[i]) (S:=(eB q1 d1++S)++G) (by omega) cx
   have zL:((d1.queue.take (i+1)).filter λp=>decide (p.1≠f))=o++[d1.queue[i]]:=by
    rw [htk,List.filter_append,ho,List.filter_cons,if_pos (by simpa using hne)]
    rfl
   exact ⟨p',_,c',w',hr,_,bH,st,c2,hI,_,_,m,st,λw G cx=>cx,⟨i+1,by omega,by omega,by rw [zL],by rw [zL],rfl⟩,Nat.lt_succ_self _⟩
  all_goals
   have he:=Decidable.not_not.1 (of_decide_eq_false he)
   have zL:((d1.queue.take (i+1)).filter λp=>decide (p.1≠f))=o:=by
    rw [htk,List.filter_append,ho,List.filter_cons,if_neg (by rw [he];simp)]
    simp
   rw [zL]
 ·have hge:i=d1.queue.length:=by have:=of_decide_eq_false hge;omega
  rw [hge,List.take_length] at ho
  have cx:Ctx W w (.buf p o.length c (iT o) 140 2 :: .blk q1.db (XD q1 d1) 117 :: .buf q1.fp q1.fl.length q1.fc (fW q1.fl) 142 3 :: .buf q1.qp d1.queue.length q1.qc (iT d1.queue) 140 2 :: (S++G)) bH:=cx
  refine ⟨cx.can 1 rfl (by show 1+1<=6;decide),λw' hw'=>?_⟩
  have c3:=cx.put 1 hw' rfl
  have hsub:List.Sublist o d1.queue:=by rw [<-ho];exact List.filter_sublist
  refine ⟨eB { q1 with qp:=p,qc:=c } { d1 with queue:=o }++S,bH,st,?_,λw G cx=>?_⟩
  ·have c4:=c3.perm (List.Perm.trans (List.Perm.swap _ _ _) (List.Perm.cons _ (List.Perm.swap _ _ _)))
   exact c4.sub (.cons_cons _ (.cons_cons _ (.cons_cons _ (.cons _ (List.Sublist.refl _)))))
  ·have hk:=hk { q1 with qp:=p,qc:=c } w hdb.1 hdb.2
   rw [ho] at hk
   exact hk ⟨hq1.C5,hq1.fnd,hq1.DF,hq1.nodup.sublist hsub,λp hp=>hq1.range p (hsub.subset hp),hq1.size,hq1.lost,hq1.bS⟩ cx.left
end
end Go.Proofs.YtfccagphnfceiaaGreatDoor
end

section
namespace Go.Proofs.YtfccagphnfceiaaGreatDoor
open Go.Vc
section
variable {W w:World} {S G:List Own} {Φ:PW} {q:NH} {d:cC}
theorem VL [aA Φ] (hq:AY q d) {f a n:Int} (ha:aR a) (hn:aR n) (cx:Ctx W w (eB q d++S) Φ) {K:Ending->World->Prop} (hk:∀ w',Ctx W w' (eB q d++S) Φ->K (.returned (.tuple #[.string (bs (b9 d f a n).1),.int .i64 (b9 d f a n).2])) w') :
  Calls Tryz.prog F.gD #[.pointer (some ⟨q.db,0,none⟩),.int .i64 f,.int .i64 a,.int .i64 n] w K:=by
 refine (yQ q.db 0 f a n (J:=λu w'=>K (.returned u) w') cx λw G cx=>P7 (S:=S++G) (cx.re (List.append_assoc _ _ _)) λw cx=>⟨_,rfl,eB q d++S,Φ,inferInstance,cx.re (List.append_assoc _ _ _).symm,Br.intro (λh=>λw G cx=>?_) (λh=>λw G cx=>Br.intro (λh2=>λw G cx=>?_) (λh2=>λw G cx=>?_))⟩).mono λe w' ⟨v,he,hj⟩=>by rw [he];exact hj
 ·have e:b9 d f a n=([],j8 d f):=by unfold b9;rw [if_pos (of_decide_eq_true h)]
  rw [e] at hk
  exact hk w cx.left
 ·have h2:a<0\/n<0:=by simpa using h2
  have e:b9 d f a n=([],1):=by unfold b9;rw [if_neg (of_decide_eq_false h),if_pos h2]
  rw [e] at hk
  exact hk w cx.left
 ·have h2:¬ (a<0\/n<0):=by simpa using h2
  have e:b9 d f a n=(((d.files f).now.drop a.toNat).take n.toNat,0):=by unfold b9;rw [if_neg (of_decide_eq_false h),if_neg h2]
  rw [e] at hk
  have hsz:=(hq.size f).1
  refine HH (S:=S++G) hq (cx.re (List.append_assoc _ _ _)) λw cx=>⟨_,_,_,rfl,eB q d++S,Φ,inferInstance,cx.re (List.append_assoc _ _ _).symm,?_⟩
  rw [aT]
  refine Br.intro (λh3=>λw G cx=>?_) (λh3=>?_)
  ·have h3:=of_decide_eq_true h3
   rw [List.drop_eq_nil_of_le (by omega),List.take_nil] at hk
   exact hk w cx.left
  ·have h3:=of_decide_eq_false h3
   unfold aR at ha hn
   refine ⟨by unfold aR;omega,by unfold aR;omega,⟨by omega,by omega,by omega⟩,λw G cx=>?_⟩
   rw [uG]
   have e1:((d.files f).now.drop a.toNat).take ((a+min n (((d.files f).now.length:Int) - a)).toNat - a.toNat)=((d.files f).now.drop a.toNat).take n.toNat:=by
    by_cases hm:n<=((d.files f).now.length:Int) - a
    ·rw [show (a+min n (((d.files f).now.length:Int) - a)).toNat - a.toNat=n.toNat by omega]
    ·rw [List.take_of_length_le (by rw [List.length_drop];omega),List.take_of_length_le (by rw [List.length_drop];omega)]
   rw [e1]
   exact hk w cx.left
end
end Go.Proofs.YtfccagphnfceiaaGreatDoor
end

section
namespace Go.Proofs.YtfccagphnfceiaaGreatDoor
open Go.Vc
abbrev CA (g:Nat) (l:Bs) (rest:List Value) (fz:Nat × Nat):Own:=.obj g (.cells (bB l++rest).toArray 5 fz)
structure a9R (l:Bs) (rest:List Value) (fz:Nat × Nat) (c:Nat):Prop where
 len:l.length+rest.length=c
 max:c<=maxLen
 free:fz=(0,0)\/c<=fz.1
section
variable {W w:World} {S G:List Own} {Φ:PW} {g:Nat} {l:Bs} {rest:List Value} {fz:Nat × Nat} {c:Nat}
theorem a1v (cx:Ctx W w (CA g l rest fz :: S) Φ):w.heap[g]? = some (.cells (bB l++rest).toArray 5 fz):=cx.own (CA g l rest fz) (by simp)
theorem HJ (cx:Ctx W w (CA g l rest fz :: S) Φ) {j:Nat} {v:Value} (hv:(bB l++rest)[j]? = some v):w.cell? ⟨g,j,none⟩=some v:=by
 simp only [World.cell?,a1v cx]
 simpa using hv
theorem a0d (cx:Ctx W w (CA g l rest fz :: S) Φ) (h:a9R l rest fz c) {j:Nat} (hj:j<c):w.frozen? ⟨g,j,none⟩=false:=by
 have hg:=a1v cx
 obtain ⟨f1,f2⟩:=fz
 simp only [World.frozen?,hg]
 rcases h.free with e|e
 ·cases e
  simp
 ·have e:c<=f1:=e
  rw [Bool.and_eq_false_iff]
  left
  simp only [decide_eq_false_iff_not]
  omega
theorem a3Z [aA Φ] (cx:Ctx W w (CA g l rest fz :: S) Φ) {j:Nat} {v:Value} {l':Bs} {rest':List Value} (e:(bB l++rest).set j v=bB l'++rest'):Ctx W (w.setCell ⟨g,j,none⟩ v) (CA g l' rest' fz :: S) Φ:=by
 have hg:=a1v cx
 have hc:kD [g] w (w.setCells g j [v]):=(kD.refl _ _).setCells (by simp) j [v]
 have hw:w.setCells g j [v]=w.setCell ⟨g,j,none⟩ v:=rfl
 rw [hw] at hc
 refine cx.upd (k:=0) (o':=CA g l' rest' fz) rfl hc (by simp [Own.dom]) (by simp [Own.dom]) ?_
 show (w.setCell ⟨g,j,none⟩ v).heap[g]? = _
 simp only [World.setCell,Array.getElem?_modify,if_pos rfl,hg,Option.map_some]
 rw [<-e]
 simp
theorem a9S [aA Φ] {k:Nat} (h:a9R l rest fz c) (hl:l.length<=16777216) (cx:Ctx W w (.blk k [.int .u8 0] 5 :: CA g l rest fz :: S) Φ) :
  ∃ g' c' rest' fz' w',Sem.run Tryz.prog (builtin Builtin.append #[129,129] 129 #[false,false] #[.slice (some ⟨g,0,none⟩) l.length c,.slice (some ⟨k,0,none⟩) 1 1]) w=.ok (.value (.slice (some ⟨g',0,none⟩) (l++[0]).length c')) w'/\a9R (l++[0]) rest' fz' c'/\Ctx W w' (CA g' (l++[0]) rest' fz' :: S) Φ:=by
 have hk:∀ j u,([Value.int .u8 0])[j]? = some u->w.cell? ((⟨k,0,none⟩:Addr).add j)=some u:=λj u hj=>by
  have:=cx.get 0 rfl (b:=k) (i:=j) hj
  rw [addr_add,Nat.zero_add]
  exact this
 have J1:Ctx W w (CA g l rest fz :: S) Φ:=cx.drop1
 have hbl:(bB (l++[0]))=bB l++[.int .u8 0]:=by unfold bB;rw [List.map_append];rfl
 have hfi:Tryz.prog.underlying 129=some (.slice 5):=Tryz.underlying129
 by_cases hroom:l.length+1<=c
 ·obtain ⟨v,rest',rfl⟩:∃ v r,rest=v :: r:=by
   cases hr:rest with
   | nil=>have:=h.len;rw [hr,List.length_nil] at this;omega
   | cons v r=>exact ⟨v,r,rfl⟩
  have a52:(bB l++v :: rest').set l.length (.int .u8 0)=bB (l++[0])++rest':=by
   rw [hbl,List.set_append_right _ _ (by rw [o9];exact Nat.le_refl _),o9,Nat.sub_self,List.set_cons_zero,List.append_assoc]
   rfl
  refine ⟨g,c,rest',fz,_,kI (w':=w.setCell ⟨g,l.length,none⟩ (.int .u8 0)) ?_,⟨by have:=h.len;rw [List.length_append,List.length_cons] at *;simp only [List.length_nil];omega,h.max,h.free⟩,a3Z J1 a52⟩
  have hst:=nH (P:=Tryz.prog) (b:=g) (o:=l.length) [.int .u8 0] 0 w (λx hx=>by rw [List.mem_singleton.1 hx];rfl) (λj hj=>by
   have hj0:j=0:=by simpa using hj
   subst hj0
   refine ⟨?_,?_⟩
   ·show (w.cell? ⟨g,l.length,none⟩).isSome=true
    rw [HJ J1 (j:=l.length) (v:=v) (by rw [List.getElem?_append_right (by rw [o9];exact Nat.le_refl _),o9,Nat.sub_self];rfl)]
    rfl
   ·show w.frozen? ⟨g,l.length,none⟩=false
    exact a0d J1 h (by omega))
  have hf:=run_firstCells_some (P:=Tryz.prog) w 1 1 ⟨k,0,none⟩ 1 1 [.int .u8 0] rfl hk
  obtain ⟨i,z,e1,e2,e3,e4,e5,e6⟩:=nV (P:=Tryz.prog) (ts:=129) (t:=5) (size:=1) (bytes:=1) (by kernel_rfl)
  rw [List.length_append]
  simp only [Nat.add_zero] at hst
  simp [Builtin.append_,run_underlying hfi,sizeOf,typeInfo,e2,e4,Builtin.lenOf,hroom,hf,addr_add,hst,Result.andThen]
  rfl
 ·obtain ⟨i,z,e1,e2,e3,e4,e5,e6⟩:=nV (P:=Tryz.prog) (ts:=129) (t:=5) (size:=1) (bytes:=1) (by kernel_rfl)
  have holds:∀ j u,(bB l)[j]? = some u->w.cell? ((⟨g,0,none⟩:Addr).add j)=some u:=λj u hj=>by
   rw [addr_add,Nat.zero_add]
   exact HJ J1 (by rw [List.getElem?_append_left (List.getElem?_eq_some_iff.1 hj).1];exact hj)
  have hr:=run_append_grow (P:=Tryz.prog) w 129 129 5 i z hfi e2 e3 ⟨g,0,none⟩ l.length c (bB l) (by rw [o9,e4,Nat.mul_one]) holds ⟨k,0,none⟩ 1 1 [.int .u8 0] (by rw [e4];rfl) hk (by omega) (by omega) (growslice_fits (by omega) (by rw [e6];omega))
  have hge:=grownCap_ge w (l.length+1) c 5
  have hcm:grownCap w (l.length+1) c 5<=maxLen:=grownCap_le_maxLen w (l.length+1) c 5 (by simp only [maxLen];omega)
  obtain ⟨Z,hZ⟩:∃ Z,Builtin.zeroCells z.cells (grownCap w (l.length+1) c 5 - (l.length+1))=Z:=⟨_,rfl⟩
  have hZl:Z.toList.length=grownCap w (l.length+1) c 5 - (l.length+1):=by
   have:Z.size=grownCap w (l.length+1) c 5 - (l.length+1):=by rw [<-hZ,size_zeroCells,e5,Nat.mul_one]
   simpa using this
  rw [hZ] at hr
  have hl1:(l++[0]).length=l.length+1:=by simp
  have he:(bB l).toArray++[Value.int .u8 0].toArray++Z=(bB (l++[0])++Z.toList).toArray:=by
   rw [hbl]
   apply Array.ext'
   simp
  rw [he] at hr
  refine ⟨w.heap.size,grownCap w (l.length+1) c 5,Z.toList,(0,0),_,kI (by rw [hl1];exact hr),⟨by rw [hl1,hZl];omega,hcm,.inl rfl⟩,?_⟩
  exact J1.upd (k:=0) (o':=CA w.heap.size (l++[0]) Z.toList (0,0)) rfl (((kD.refl _ _).drewN 1).alloc _) (by simp [Own.dom]) (by simp [Own.dom]) (wO w.drew _)
theorem a9T [aA Φ] (cx:Ctx W w S Φ) (s:Bs) (hs:s.length<=16777216) :
  ∃ g c rest fz w',Sem.run Tryz.prog (convert 9 129 (.string (bs s))) w=.ok (.slice (some ⟨g,0,none⟩) s.length c) w'/\a9R s rest fz c/\Ctx W w' (CA g s rest fz :: S) Φ:=by
 have hr:=Lib.run_convert_string_bytes (P:=Tryz.prog) w 9 129 5 (bs s) Tryz.underlying9 Tryz.underlying129 Tryz.underlying5
 rw [aT] at hr
 have hge:=grownCap_ge w s.length 0 5
 have hcm:grownCap w s.length 0 5<=maxLen:=grownCap_le_maxLen w s.length 0 5 (by simp only [maxLen];omega)
 have hcells:Lib.bytesCells w 5 (bs s)=(bB s++List.replicate (grownCap w s.length 0 5 - s.length) (Value.int .u8 0)).toArray:=by
  unfold Lib.bytesCells
  rw [aT]
  apply Array.ext'
  simp [bs,bB]
 have hsz:(Lib.bytesCells w 5 (bs s)).size=grownCap w s.length 0 5:=by
  rw [hcells,List.size_toArray,List.length_append,o9,List.length_replicate];omega
 have hnew:=Lib.bytesWorld_at_new w 5 (bs s)
 rw [hsz,hcells] at hnew
 refine ⟨w.heap.size,grownCap w s.length 0 5,List.replicate (grownCap w s.length 0 5 - s.length) (Value.int .u8 0),(grownCap w s.length 0 5,grownCap w s.length 0 5+1),_,hr,⟨by rw [List.length_replicate];omega,hcm,.inr (Nat.le_refl _)⟩,?_⟩
 have aAG:dom (CA w.heap.size s (List.replicate (grownCap w s.length 0 5 - s.length) (Value.int .u8 0)) (grownCap w s.length 0 5,grownCap w s.length 0 5+1) :: S)=w.heap.size :: dom S:=by simp [dom,Own.dom]
 have hc:kD [] w (Lib.bytesWorld w 5 (bs s)):=YL
 refine cx.go ⟨hc.mono (by simp),λb hb=>?_⟩ (λy hy=>?_) ?_
 ·rw [aAG] at hb
  rcases List.mem_cons.1 hb with rfl|hb
  ·exact .inr (Nat.le_refl _)
  ·exact .inl hb
 ·rcases List.mem_cons.1 hy with rfl|hy
  ·exact hnew
  ·exact Own.CK (cx.own y hy) λb hb=>hc.block b (cx.lt (oC hy hb)) (by simp)
 ·rw [aAG]
  exact List.nodup_cons.2 ⟨λhm=>by have:=cx.lt hm;omega,cx.nodup⟩
theorem a6g [aA Φ] (cx:Ctx W w (CA g l rest fz :: S) Φ):Sem.run Tryz.prog (convert 129 9 (.slice (some ⟨g,0,none⟩) l.length c)) w=.ok (.string (bs l)) w:=by
 have hb:Lib.Bytes w g 0 (bs l):=λi hi=>by
  have hi':i<l.length:=by rw [aT] at hi;exact hi
  have:=HJ cx (j:=i) (v:=.int .u8 (l[i].toNat:Int)) (by rw [List.getElem?_append_left (by rw [o9];exact hi'),List.getElem?_map,List.getElem?_eq_getElem hi'];rfl)
  rw [Nat.zero_add]
  exact this
 have hc:=Lib.run_convert_whole (P:=Tryz.prog) w 129 5 9 Tryz.underlying129 Tryz.underlying5 Tryz.underlying9 g 0 _ hb c
 rw [aT] at hc
 exact hc
end
end Go.Proofs.YtfccagphnfceiaaGreatDoor
end

section
namespace Go.Proofs.YtfccagphnfceiaaGreatDoor
open Go.Vc
abbrev GM (l t:Bs) (a i:Nat):Bs:=l.take a++t.take i++l.drop (a+i)
theorem NJ {l t:Bs} {a i:Nat} (h:a+t.length<=l.length) (hi:i<=t.length):(GM l t a i).length=l.length:=by
 simp only [GM,List.length_append,List.length_take,List.length_drop];omega
theorem aEg {l t:Bs} {a i:Nat} (h:a+t.length<=l.length) (hi:i<t.length):(GM l t a i).set (a+i) t[i]=GM l t a (i+1):=by
 unfold GM
 have hl:(l.take a++t.take i).length=a+i:=by simp only [List.length_append,List.length_take];omega
 rw [List.set_append_right _ _ (by omega),hl,Nat.sub_self,List.drop_eq_getElem_cons (by omega:a+i<l.length),List.set_cons_zero,List.take_succ_eq_append_getElem hi]
 simp only [List.append_assoc,List.singleton_append,Nat.add_assoc]
theorem a30 {s t:Bs} {a:Nat} (h:t≠[]):GM (s++List.replicate (a+t.length - s.length) 0) t a t.length=gK s a t:=by
 unfold GM
 rw [HC h,List.take_length]
 congr 1
 ·congr 1
  rw [List.take_append,List.take_replicate,show min (a - s.length) (a+t.length - s.length)=a - s.length by omega]
 ·rw [List.drop_append,List.drop_replicate,show a+t.length - s.length - (a+t.length - s.length)=0 by omega,List.replicate_zero,List.append_nil]
section
variable {W w:World} {S G:List Own} {Φ:PW}
set_option maxHeartbeats 2000000 in
theorem a0e [aA Φ] (cx:Ctx W w S Φ) {s t:Bs} {a:Nat} (ha:a+t.length<=16777216) (hs:s.length<=16777216) {K:Ending->World->Prop} (hk:∀ w',Ctx W w' S Φ->K (.returned (.string (bs (gK s a t)))) w') :
  Calls Tryz.prog F.lV #[.string (bs s),.int .i64 (a:Int),.string (bs t)] w K:=by
 refine (GJ (bs s) (a:Int) (bs t) (J:=λu w'=>K (.returned u) w') cx ?_).mono λe w' ⟨v,he,hj⟩=>by rw [he];exact hj
 clear cx
 refine Br.intro (λh=>λw G cx=>?_) (λh=>λw G cx=>?_)
 ·rw [A5.1 (of_decide_eq_true h),MW] at hk
  exact hk w cx.left
 have hne:t≠[]:=λe=>by rw [e] at h;exact absurd h (by decide)
 obtain ⟨g0,c0,aJv,fz0,w1,hr0,hR0,c1⟩:=a9T (S:=S++G) cx s hs
 refine ⟨some ⟨g0,0,none⟩,(bs s).size,c0,w1,by rw [aT];exact hr0,CA g0 s aJv fz0 :: S,Φ,inferInstance,c1,?_⟩
 rw [aT,aT]
 clear c1 cx
 refine bY (λp n c R' aF m=>∃ (j:Nat) (l:Bs) (g:Nat) (rest:List Value) (fz:Nat × Nat),l=s++List.replicate j 0/\p=some ⟨g,0,none⟩/\n=l.length/\a9R l rest fz c/\R'=CA g l rest fz :: S/\aF=Φ/\j+m=a+t.length - s.length) ⟨⟨_,Φ,a+t.length - s.length,inferInstance,λw G cx=>cx,0,s,g0,aJv,fz0,by simp,rfl,rfl,hR0,rfl,rfl,by omega⟩,?_⟩
 rintro p n c R1 bH m st ⟨j,l,g,rest,fz,hl,rfl,rfl,hR,rfl,rfl,hjm⟩
 have hll:l.length=s.length+j:=by rw [hl,List.length_append,List.length_replicate]
 refine ⟨by unfold aR;omega,Br.intro (λhlt=>λk w G cx=>?_) (λhge=>?_)⟩
 ·have hlt:l.length<a+t.length:=by have:=of_decide_eq_true hlt;omega
  obtain ⟨m,rfl⟩:∃ m',m=m'+1:=⟨m - 1,by omega⟩
  obtain ⟨g',c',rest',fz',w',hr,hR',c2⟩:=a9S (S:=S++G) hR (by omega) cx
  exact ⟨some ⟨g',0,none⟩,_,c',w',hr,CA g' (l++[0]) rest' fz' :: S,bH,st,c2,_,bH,m,st,λw G cx=>cx,⟨j+1,l++[0],g',rest',fz',by rw [hl,List.append_assoc,List.replicate_succ'],rfl,rfl,hR',rfl,rfl,by omega⟩,Nat.lt_succ_self _⟩
 ·have hge:a+t.length<=l.length:=by have:=of_decide_eq_false hge;omega
  have hj:j=a+t.length - s.length:=by omega
  subst hj
  refine bY (λn R' aF m=>∃ i:Nat,n=i/\i+m=t.length/\R'=CA g (GM l t a i) rest fz :: S/\aF=bH) ⟨⟨CA g (GM l t a 0) rest fz :: S,bH,t.length,st,λw G cx=>?_,0,rfl,by omega,rfl,rfl⟩,?_⟩
  ·have e:GM l t a 0=l:=by simp [GM]
   rw [e]
   exact cx
  rintro n R1 pI m2 pZ ⟨i,rfl,him,rfl,rfl⟩
  refine Br.intro (λhlt=>?_) (λaEh=>λw G cx=>?_)
  ·have hlt:i<t.length:=by have:=of_decide_eq_true hlt;omega
   obtain ⟨m2,rfl⟩:∃ m',m2=m'+1:=⟨m2 - 1,by omega⟩
   have hRi:a9R (GM l t a i) rest fz c:=⟨by rw [NJ hge (by omega)];exact hR.len,hR.max,hR.free⟩
   have hc:=hR.len
   have e1:((a:Int)+(i:Int)).toNat=a+i:=by omega
   refine ⟨by unfold aR;omega,t[i],⟨by omega,by rw [Int.toNat_natCast];exact a7K (List.getElem?_eq_getElem hlt)⟩,⟨by omega,by omega⟩,aJ g 0 rfl λw G cx=>⟨?_,λw2 F3=>⟨CA g (GM l t a (i+1)) rest fz :: S,pI,pZ,?_,by unfold aR;omega,_,pI,m2,pZ,λw G cx=>cx,⟨i+1,by omega,by omega,rfl,rfl⟩,Nat.lt_succ_self _⟩⟩⟩
   ·rw [e1]
    intro j2 hj2
    have hj0:j2=0:=by omega
    subst hj0
    rw [Nat.zero_add,Nat.add_zero]
    have hin:a+i<(GM l t a i).length:=by rw [NJ hge (by omega)];omega
    refine ⟨?_,a0d cx hRi (by omega)⟩
    rw [HJ cx (j:=a+i) (v:=.int .u8 ((GM l t a i)[a+i].toNat:Int)) (by rw [List.getElem?_append_left (by rw [o9];exact hin),List.getElem?_map,List.getElem?_eq_getElem hin];rfl)]
    rfl
   ·rw [F3,e1,Nat.zero_add]
    refine a3Z (S:=S++G) cx ?_
    rw [List.set_append_left _ _ (by rw [o9,NJ hge (by omega)];omega),<-aEg hge hlt]
    have hm:(bB (GM l t a i)).set (a+i) (.int .u8 (t[i].toNat:Int))=bB ((GM l t a i).set (a+i) t[i]):=by
     unfold bB
     rw [List.map_set]
    exact congrArg (λx=>x++rest) hm
  ·have hi:i=t.length:=by have:=of_decide_eq_false aEh;omega
   subst hi
   rw [hl,a30 hne] at cx
   have hpl:(gK s a t).length=l.length:=by rw [<-a30 hne,<-hl,NJ hge (Nat.le_refl _)]
   have hr:=a6g (S:=S++G) (c:=c) cx
   rw [hpl] at hr
   exact ⟨_,w,hr,_,pI,pZ,cx,λw G cx=>hk w (Ctx.left (F:=G) (Ctx.drop1 (S:=S++G) cx))⟩
end
end Go.Proofs.YtfccagphnfceiaaGreatDoor
end

section
namespace Go.Proofs.YtfccagphnfceiaaGreatDoor
open Go.Vc
def EN (d:cC) (f:Int) (a:Nat) (s:Bs):cC :=
 if s=[] then d else { d.set f ⟨gK (d.files f).now a s,(d.files f).last⟩ with queue:=yH f (uY a s.length) d.queue }
section
variable {W w:World} {S G:List Own} {Φ:PW} {q:NH} {d:cC}
set_option maxHeartbeats 2000000 in
theorem a0f [aA Φ] (hq:AY q d) {f:Int} (hf:0<=f/\f<16) {a:Nat} {s:Bs} (ha:a+s.length<=16777216) (cx:Ctx W w (eB q d++S) Φ) {K:Ending->World->Prop}
  (hk:∀ q' w',q'.db=q.db->q'.kp=q.kp->AY q' (EN d f a s)->Ctx W w' (eB q' (EN d f a s)++S) Φ->K (.returned (.tuple #[])) w') :
  Calls Tryz.prog F.gX #[.pointer (some ⟨q.db,0,none⟩),.int .i64 f,.int .i64 (a:Int),.string (bs s)] w K:=by
 refine (zB q.db 0 f (a:Int) (bs s) (J:=λu w'=>K (.returned u) w') cx ?_).mono λe w' ⟨v,he,hj⟩=>by rw [he];exact hj
 clear cx
 refine Br.intro (λh=>λw G cx=>?_) (λh=>λw G cx=>?_)
 ·have e:EN d f a s=d:=by unfold EN;rw [if_pos (A5.1 (of_decide_eq_true h))]
  rw [e] at hk
  exact hk q w rfl rfl hq cx.left
 have hne:s≠[]:=λe=>by rw [e] at h;exact absurd h (by decide)
 have hlen:0<s.length:=List.length_pos_iff.2 hne
 have eA:EN d f a s={ d.set f ⟨gK (d.files f).now a s,(d.files f).last⟩ with queue:=yH f (uY a s.length) d.queue }:=by unfold EN;rw [if_neg hne]
 rw [eA] at hk
 have hsz:=hq.size f
 have hpl:=uZ (s:=(d.files f).now) (a:=a) hne
 refine HH (S:=S++G) hq (cx.re (List.append_assoc _ _ _)) λw cx=>⟨_,_,_,rfl,eB q d++S,Φ,inferInstance,cx.re (List.append_assoc _ _ _).symm,λ_ w G cx=>?_⟩
 refine a0e cx ha hsz.1 λw cx=>⟨_,rfl,eB q d++S,Φ,inferInstance,cx,λw G cx=>?_⟩
 refine HI (x:=⟨f,gK (d.files f).now a s,(d.files f).last⟩) (S:=S++G) hq hf ⟨by rw [hpl];omega,hsz.2⟩ (cx.re (List.append_assoc _ _ _)) λfl fp fc w hq1 cx=>⟨rfl,eB { q with fl:=fl,fp:=fp,fc:=fc } (d.set f ⟨gK (d.files f).now a s,(d.files f).last⟩)++S,Φ,inferInstance,cx.re (List.append_assoc _ _ _).symm,by decide,?_,?_⟩
 ·unfold aR;rw [Int.tdiv_eq_ediv_of_nonneg (by omega)];omega
 clear cx
 obtain ⟨d1,hd1⟩:∃ d1,d.set f ⟨gK (d.files f).now a s,(d.files f).last⟩=d1:=⟨_,rfl⟩
 obtain ⟨q1,a6f⟩:∃ q1:NH,{ q with fl:=fl,fp:=fp,fc:=fc }=q1:=⟨_,rfl⟩
 have hdb:q1.db=q.db/\q1.kp=q.kp:=by rw [<-a6f];exact ⟨rfl,rfl⟩
 have hqu:d.queue=d1.queue:=by rw [<-hd1];rfl
 have e1:({ d.set f ⟨gK (d.files f).now a s,(d.files f).last⟩ with queue:=yH f (uY a s.length) d.queue }:cC)={ d1 with queue:=yH f (uY a s.length) d1.queue }:=by rw [<-hd1];rfl
 rw [e1] at hk
 have hq1:AY q1 d1:=by rw [<-hd1,<-a6f];exact hq1
 rw [hd1,a6f,<-hdb.1]
 rw [<-hdb.1,<-hdb.2] at hk
 clear hqu e1 eA hpl hsz a6f hd1
 generalize hm:(a+s.length - 1) / 64+1 - a / 64=m0
 have hm2:a / 64+m0=(a+s.length - 1) / 64+1/\(a+s.length - 1) / 64<262144:=by omega
 rw [aT]
 refine bY (λn R' aF k=>∃ (i:Nat) (qp:Option Addr) (qc:Nat) (qu:List (Int × Int)),n=((a / 64+i:Nat):Int)/\i+k=m0/\R'=eB { q1 with qp:=qp,qc:=qc } { d1 with queue:=qu }++S/\aF=Φ/\AY { q1 with qp:=qp,qc:=qc } { d1 with queue:=qu }/\yH f ((List.range' i k).map λi=>((a / 64+i:Nat):Int)) qu=yH f (uY a s.length) d1.queue) ⟨⟨_,Φ,m0,inferInstance,λw G cx=>cx,0,q1.qp,q1.qc,d1.queue,by rw [Int.tdiv_eq_ediv_of_nonneg (by omega)];omega,by omega,rfl,rfl,hq1,by rw [a3I,hm]⟩,?_⟩
 rintro n R1 bH k st ⟨i,qp,qc,qu,rfl,hik,rfl,rfl,gG,a1n⟩
 have hbd:((a:Int)+(s.length:Int) - 1).tdiv 64=(((a+s.length - 1) / 64:Nat):Int):=by rw [Int.tdiv_eq_ediv_of_nonneg (by omega)];omega
 rw [hbd]
 have hI:aR (((a / 64+i:Nat):Int)+1):=by unfold aR;omega
 refine ⟨by unfold aR;omega,by unfold aR;omega,by decide,by unfold aR;omega,Br.intro (λhlt=>λw G cx=>?_) (λhge=>λw G cx=>?_)⟩
 ·have hlt:=of_decide_eq_true hlt
  obtain ⟨k,rfl⟩:∃ k',k=k'+1:=⟨k - 1,by omega⟩
  refine XE (q:={ q1 with qp:=qp,qc:=qc }) (d:={ d1 with queue:=qu }) (S:=S++G) gG (cx.re (List.append_assoc _ _ _)) λw cx=>⟨_,rfl,eB { q1 with qp:=qp,qc:=qc } { d1 with queue:=qu }++S,bH,st,cx.re (List.append_assoc _ _ _).symm,Br.intro (λhin=>λw G cx=>?_) (λhin=>?_)⟩
  ·have hin:(f,((a / 64+i:Nat):Int)) ∉ qu:=by simpa using hin
   refine ⟨qp,qu.length,qc,gL (q:={ q1 with qp:=qp,qc:=qc }) (d:={ d1 with queue:=qu }) (i:=1) cx.left rfl,λg w G cx=>?_⟩
   have J1:Ctx W w ([.blk g [.int .i64 f,.int .i64 ((a / 64+i:Nat):Int)] 140,.blk q1.db (XD { q1 with qp:=qp,qc:=qc } { d1 with queue:=qu }) 117,.buf q1.fp q1.fl.length q1.fc (fW q1.fl) 142 3]++.buf qp qu.length qc (iT qu) 140 2 :: (S++G)) bH:=cx
   have cx2:=J1.perm (List.Perm.cons _ (List.perm_middle (l₁:=[Own.blk q1.db (XD { q1 with qp:=qp,qc:=qc } { d1 with queue:=qu }) 117,.buf q1.fp q1.fl.length q1.fc (fW q1.fl) 142 3])))
   obtain ⟨p',c',w',hr,c3⟩:=aJu (x:=(f,((a / 64+i:Nat):Int))) (o:=qu) (by have:=gG.XA;exact Nat.le_trans this (by decide)) cx2
   refine ⟨p',_,c',w',hr,.buf p' (qu++[(f,((a / 64+i:Nat):Int))]).length c' (iT (qu++[(f,((a / 64+i:Nat):Int))])) 140 2 :: .blk q1.db (XD { q1 with qp:=qp,qc:=qc } { d1 with queue:=qu }) 117 :: .buf q1.fp q1.fl.length q1.fc (fW q1.fl) 142 3 :: S,bH,st,c3,λw G cx=>⟨cx.can 1 rfl (by show 1+1<=6;decide),λw' hw'=>?_⟩⟩
   have c4:=cx.put 1 hw' rfl
   have c5:Ctx W w' (eB { q1 with qp:=p',qc:=c' } { d1 with queue:=qu++[(f,((a / 64+i:Nat):Int))] }++S++G) bH:=by
    have c6:Ctx W w' (.buf p' (qu++[(f,((a / 64+i:Nat):Int))]).length c' (iT (qu++[(f,((a / 64+i:Nat):Int))])) 140 2 :: ([Own.blk q1.db ((XD { q1 with qp:=qp,qc:=qc } { d1 with queue:=qu }).set 1 (.slice p' (qu++[(f,((a / 64+i:Nat):Int))]).length c')) 117,.buf q1.fp q1.fl.length q1.fc (fW q1.fl) 142 3]++(S++G))) bH:=c4
    exact c6.perm List.perm_middle.symm
   have aDA:yH f ((List.range' (i+1) k).map λi=>((a / 64+i:Nat):Int)) (qu++[(f,((a / 64+i:Nat):Int))])=yH f (uY a s.length) d1.queue:=by
    rw [<-a1n,List.range'_succ,List.map_cons]
    show _=yH f _ (if _ then _ else _)
    rw [if_neg hin]
   refine ⟨_,bH,st,c5,hI,_,bH,k,st,λw G cx=>cx,⟨i+1,p',c',qu++[(f,((a / 64+i:Nat):Int))],by omega,by omega,rfl,rfl,⟨gG.C5,gG.fnd,gG.DF,?_,λp hp=>?_,gG.size,gG.lost,gG.bS⟩,aDA⟩,Nat.lt_succ_self _⟩
   ·refine List.nodup_append.2 ⟨gG.nodup,by simp,λx hx y hy e=>?_⟩
    rw [List.mem_singleton.1 hy] at e
    exact hin (by rw [<-e];exact hx)
   ·rcases List.mem_append.1 hp with hp|hp
    ·exact gG.range p hp
    ·rw [List.mem_singleton.1 hp]
     exact ⟨hf,by show (0:Int)<=((a / 64+i:Nat):Int);omega,by show ((a / 64+i:Nat):Int)<262145;omega⟩
  ·have hin:(f,((a / 64+i:Nat):Int))∈qu:=by simpa using hin
   refine ⟨hI,_,bH,k,st,λw G cx=>cx,⟨i+1,qp,qc,qu,by omega,by omega,rfl,rfl,gG,?_⟩,Nat.lt_succ_self _⟩
   rw [<-a1n,List.range'_succ,List.map_cons]
   show _=yH f _ (if _ then _ else _)
   rw [if_pos hin]
 ·have hge:=of_decide_eq_false hge
  have hk0:k=0:=by omega
  subst hk0
  have a1n:qu=yH f (uY a s.length) d1.queue:=a1n
  rw [<-a1n] at hk
  exact hk { q1 with qp:=qp,qc:=qc } w rfl rfl gG cx.left
end
end Go.Proofs.YtfccagphnfceiaaGreatDoor
end

section
namespace Go.Proofs.YtfccagphnfceiaaGreatDoor
open Go.Vc
def J6 (p:Int × Int) (fs:Int->iA):Int->iA :=
 if ((fs p.1).now.length:Int)<=p.2*64 then fs
 else λk=>if k=p.1 then ⟨(fs p.1).now,gK (fs p.1).last (p.2*64).toNat (((fs p.1).now.drop (p.2*64).toNat).take 64)⟩ else fs k
theorem aHh (keep:List Int) (i:Nat) (p:Int × Int) (fs:Int->iA):C0 keep i p fs=if keep=[]\/keep.getD (i % keep.length) 0 % 2=0 then fs else J6 p fs:=by
 unfold C0 J6
 by_cases h1:keep=[]
 ·rw [if_pos (.inl h1),if_pos (.inl h1)]
 by_cases h2:keep.getD (i % keep.length) 0 % 2=0
 ·rw [if_pos (.inr (.inl h2)),if_pos (.inr h2)]
 rw [if_neg (c:=keep=[]\/keep.getD (i % keep.length) 0 % 2=0) (λh=>h.elim h1 h2)]
 by_cases h3:((fs p.1).now.length:Int)<=p.2*64
 ·rw [if_pos (.inr (.inr h3)),if_pos h3]
 ·rw [if_neg (λh=>h.elim h1 λh=>h.elim h2 h3),if_neg h3]
theorem aEi (d:cC) (f:Int):d.set f ⟨(d.files f).now,(d.files f).last⟩=d:=by
 unfold cC.set
 have:(λk=>if k=f then (⟨(d.files f).now,(d.files f).last⟩:iA) else d.files k)=d.files:=by
  funext k
  by_cases h:k=f
  ·rw [if_pos h,h]
  ·rw [if_neg h]
 rw [this]
section
variable {W w:World} {S G:List Own} {Φ:PW} {q:NH} {d:cC}
set_option maxHeartbeats 1000000 in
theorem XF [aA Φ] (hq:AY q d) {f:Int} {n:Nat} (hf:0<=f/\f<16) (hn:n<262145) (cx:Ctx W w (eB q d++S) Φ) {K:Ending->World->Prop}
  (hk:∀ q' w',q'.db=q.db->q'.kp=q.kp->AY q' { d with files:=J6 (f,(n:Int)) d.files }->Ctx W w' (eB q' { d with files:=J6 (f,(n:Int)) d.files }++S) Φ->K (.returned (.tuple #[])) w') :
  Calls Tryz.prog F.gR #[.pointer (some ⟨q.db,0,none⟩),.agg #[.int .i64 f,.int .i64 (n:Int)]] w K:=by
 refine (vD q.db 0 f (n:Int) (J:=λu w'=>K (.returned u) w') cx λ_ w G cx=>?_).mono λe w' ⟨v,he,hj⟩=>by rw [he];exact hj
 have hsz:=hq.size f
 refine HH (S:=S++G) hq (cx.re (List.append_assoc _ _ _)) λw cx=>⟨_,_,_,rfl,eB q d++S,Φ,inferInstance,cx.re (List.append_assoc _ _ _).symm,λ_=>⟨by unfold aR;omega,?_⟩⟩
 rw [aT]
 refine Br.intro (λh=>⟨_,Φ,inferInstance,λw G cx=>cx,by unfold aR;omega,by unfold aR;omega,by unfold aR;omega,by unfold aR;omega,⟨by omega,by have:=of_decide_eq_true h;omega,by omega⟩,λw G cx=>?_⟩) (λh=>λw G cx=>?_)
 ·have h:=of_decide_eq_true h
  have e1:((n:Int)*64).toNat=64*n:=by omega
  have es:J6 (f,(n:Int)) d.files=λk=>if k=f then ⟨(d.files f).now,gK (d.files f).last (64*n) (((d.files f).now.drop (64*n)).take 64)⟩ else d.files k:=by
   unfold J6
   rw [if_neg (by show ¬ ((d.files f).now.length:Int)<=(n:Int)*64;omega),e1]
  rw [es] at hk
  have et:((d.files f).now.drop (64*n)).take ((min (64*(n:Int)+64) ((d.files f).now.length:Int)).toNat - 64*n)=((d.files f).now.drop (64*n)).take 64:=by
   by_cases hm:64*n+64<=(d.files f).now.length
   ·rw [show (min (64*(n:Int)+64) ((d.files f).now.length:Int)).toNat - 64*n=64 by omega]
   ·rw [List.take_of_length_le (by rw [List.length_drop];omega),List.take_of_length_le (by rw [List.length_drop];omega)]
  have htl:(((d.files f).now.drop (64*n)).take 64).length<=16777216 - 64*n:=by rw [List.length_take,List.length_drop];omega
  have hne:((d.files f).now.drop (64*n)).take 64≠[]:=λe=>by
   have:=congrArg List.length e
   rw [List.length_take,List.length_drop,List.length_nil] at this
   omega
  rw [uG,show (64*(n:Int)).toNat=64*n by omega,et,show 64*(n:Int)=((64*n:Nat):Int) by omega]
  refine a0e cx (by omega) hsz.2 λw cx=>⟨_,rfl,eB q d++S,Φ,inferInstance,cx,λw G cx=>?_⟩
  refine HI (x:=⟨f,(d.files f).now,gK (d.files f).last (64*n) (((d.files f).now.drop (64*n)).take 64)⟩) (S:=S++G) hq hf ⟨hsz.1,by rw [uZ hne];omega⟩ (cx.re (List.append_assoc _ _ _)) λfl fp fc w hq1 cx=>⟨rfl,_,Φ,inferInstance,cx.re (List.append_assoc _ _ _).symm,λw G cx=>hk { q with fl:=fl,fp:=fp,fc:=fc } w rfl rfl hq1 cx.left⟩
 ·have h:=of_decide_eq_false h
  have es:J6 (f,(n:Int)) d.files=d.files:=by
   unfold J6
   rw [if_pos (by show ((d.files f).now.length:Int)<=(n:Int)*64;omega)]
  rw [es] at hk
  refine HI (x:=⟨f,(d.files f).now,(d.files f).last⟩) (S:=S++G) hq hf ⟨hsz.1,hsz.2⟩ (cx.re (List.append_assoc _ _ _)) λfl fp fc w hq1 cx=>?_
  rw [aEi] at hq1 cx
  exact ⟨rfl,_,Φ,inferInstance,cx.re (List.append_assoc _ _ _).symm,λw G cx=>hk { q with fl:=fl,fp:=fp,fc:=fc } w rfl rfl hq1 cx.left⟩
end
end Go.Proofs.YtfccagphnfceiaaGreatDoor
end

section
namespace Go.Proofs.YtfccagphnfceiaaGreatDoor
open Go.Vc
theorem a0g:∀ (l:List (Int × Int)) (i:Nat) (fs:Int->iA),o5 [] i l fs=fs
 | [],i,fs=>rfl
 | p :: l,i,fs=>by
  show o5 [] (i+1) l (C0 [] i p fs)=fs
  rw [ZH (.inl rfl),a0g l (i+1) fs]
def mK (l:List vF):List vF:=l.map λx=>⟨x.no,x.last,x.last⟩
theorem a0h:∀ (l:List vF) (k:Int),vY (mK l) k=⟨(vY l k).last,(vY l k).last⟩
 | [],k=>rfl
 | x :: l,k=>by
  show (if x.no=k then (⟨x.last,x.last⟩:iA) else vY (mK l) k)=⟨(if x.no=k then (⟨x.now,x.last⟩:iA) else vY l k).last,(if x.no=k then (⟨x.now,x.last⟩:iA) else vY l k).last⟩
  by_cases h:x.no=k
  ·rw [if_pos h,if_pos h]
  ·rw [if_neg h,if_neg h,a0h l k]
section
variable {W w:World} {S G:List Own} {Φ:PW} {q:NH} {d:cC}
abbrev dnD (d:cC) (fs:Int->iA):cC:={ d with down:=true,bS:=0,files:=fs }
set_option maxHeartbeats 4000000 in
theorem QM [aA Φ] (hq:AY q d) {p:Option Addr} {cap:Nat} {keep:List Int} (hl:keep.length<=1000000) (NQ:∀ M w,Φ M w->Sl M w p keep) (cx:Ctx W w (eB q d++S) Φ) {K:Ending->World->Prop}
  (hk:∀ q' w',q'.db=q.db->q'.kp=q.kp->AY q' (cL d keep)->Ctx W w' (eB q' (cL d keep)++S) Φ->K (.returned (.tuple #[])) w') :
  Calls Tryz.prog F.cZ #[.pointer (some ⟨q.db,0,none⟩),.slice p keep.length cap] w K:=by
 have hkp:0<keep.length->∃ g o,p=some ⟨g,o,none⟩:=λh=>by
  obtain ⟨b,o,cs,e,_⟩:=NQ _ _ cx.gW 0 h
  exact ⟨b,o,e⟩
 refine (x8 q.db 0 p keep.length cap (J:=λu w'=>K (.returned u) w') cx λw G cx=>⟨d.down,gL (i:=3) cx.left rfl,Br.intro (λh=>λw G cx=>?_) (λh=>λw G cx=>⟨cx.can 0 rfl (by show 0+3+1<=6;decide),λw' hw'=>?_⟩)⟩).mono λe w' ⟨v,he,hj⟩=>by rw [he];exact hj
 ·have e:cL d keep=d:=by unfold cL;rw [if_pos h]
  rw [e] at hk
  exact hk q w rfl rfl hq cx.left
 have eC:cL d keep={ d with down:=true,bS:=0,queue:=[],files:=λk=>⟨(o5 keep 0 d.queue d.files k).last,(o5 keep 0 d.queue d.files k).last⟩ }:=by unfold cL;rw [if_neg (by rw [h];simp)]
 rw [eC] at hk
 have c1:=cx.put 0 hw' rfl
 refine ⟨.blk q.db ((XD q d).set 3 (.bool true)) 117 :: .buf q.fp q.fl.length q.fc (fW q.fl) 142 3 :: .buf q.qp d.queue.length q.qc (iT d.queue) 140 2 :: S,Φ,inferInstance,c1,λw G cx=>⟨cx.can 0 rfl (by show 0+4+1<=6;decide),λw' hw'=>?_⟩⟩
 have c2:=cx.put 0 hw' rfl
 have hq0:AY q (dnD d d.files):=⟨hq.C5,hq.fnd,hq.DF,hq.nodup,hq.range,hq.size,hq.lost,⟨Int.le_refl 0,by show (0:Int)<=9223372036854775807;decide⟩⟩
 refine ⟨eB q (dnD d d.files)++S,Φ,inferInstance,c2,?_⟩
 clear c1 c2 cx hw'
 obtain ⟨db,aMX⟩:∃ db,q.db=db:=⟨_,rfl⟩
 rw [aMX] at hk ⊢
 refine bY (λn R' aF m=>∃ (i:Nat) (q':NH) (fs:Int->iA),n=i/\i+m=d.queue.length/\R'=eB q' (dnD d fs)++S/\aF=Φ/\q'.db=db/\q'.kp=q.kp/\AY q' (dnD d fs)/\o5 keep i (d.queue.drop i) fs=o5 keep 0 d.queue d.files) ⟨⟨_,Φ,d.queue.length,inferInstance,λw G cx=>cx,0,q,d.files,rfl,by omega,rfl,rfl,aMX,rfl,hq0,rfl⟩,?_⟩
 clear aMX
 rintro n R1 bH m st ⟨i,q1,fs,rfl,him,rfl,rfl,rfl,QN,hq1,lT⟩
 refine λw G cx=>⟨q1.qp,d.queue.length,q1.qc,gL (i:=1) cx.left rfl,Br.intro (λhlt=>?_) (λhge=>?_)⟩
 ·rw [Bool.and_eq_true] at hlt
  have hpos:0<keep.length:=by have:=of_decide_eq_true hlt.2;omega
  have hlt:i<d.queue.length:=by have:=of_decide_eq_true hlt.1;omega
  obtain ⟨m,rfl⟩:∃ m',m=m'+1:=⟨m - 1,by omega⟩
  have hne:keep≠[]:=λe=>by rw [e] at hpos;exact absurd hpos (by decide)
  have hmod:i % keep.length<keep.length:=Nat.mod_lt _ hpos
  obtain ⟨g,o,hp⟩:=hkp hpos
  have hrg:=hq.range _ (List.getElem_mem hlt)
  have hI:aR ((i:Int)+1):=by have:=hq.XA;unfold aR;omega
  rw [List.drop_eq_getElem_cons hlt] at lT
  have lT:o5 keep (i+1) (d.queue.drop (i+1)) (C0 keep i d.queue[i] fs)=o5 keep 0 d.queue d.files:=lT
  rw [aHh] at lT
  have e1:((i:Int)).tmod (keep.length:Int)=((i % keep.length:Nat):Int):=by rw [Int.tmod_eq_emod_of_nonneg (by omega)];omega
  refine ⟨λh=>by omega,by rw [e1];omega,aJ g o hp λw G cx=>⟨keep.getD (i % keep.length) 0,?_,keep.getD (i % keep.length) 0 % 2,λw=>a3K _ w,Br.intro (λh1=>λw G cx=>?_) (λh1=>?_)⟩⟩
  ·have hs:=NQ _ _ cx.gW
   rw [hp] at hs
   have:=a7I hs hmod
   rw [e1,Int.toNat_natCast,this,List.getD_eq_getElem?_getD,List.getElem?_eq_getElem hmod]
   rfl
  ·have h1:=of_decide_eq_true h1
   rw [if_neg (λh=>h.elim hne (by omega))] at lT
   obtain ⟨g2,hg2⟩:=aEe (q:=q1) (d:=dnD d fs) cx.left (by show 0<d.queue.length;omega)
   obtain ⟨nn,hnn⟩:∃ nn:Nat,d.queue[i].2=nn:=⟨d.queue[i].2.toNat,by have:=hrg.2.1;omega⟩
   refine ⟨q1.qp,d.queue.length,q1.qc,gL (i:=1) cx.left rfl,⟨by omega,by omega⟩,aJ g2 0 hg2 λw G cx=>⟨d.queue[i].1,d.queue[i].2,?_,λw G cx=>?_⟩⟩
   ·rw [Nat.zero_add,Int.toNat_natCast]
    exact a1t (q:=q1) (d:=dnD d fs) cx.left hg2 hlt
   ·rw [hnn]
    have hP:d.queue[i]=(d.queue[i].1,(nn:Int)):=Prod.ext rfl hnn
    refine XF (S:=S++G) hq1 hrg.1 (by have:=hrg.2.2;omega) (cx.re (List.append_assoc _ _ _)) λq2 w b4f aMY gG cx=>⟨rfl,eB q2 (dnD d (J6 (d.queue[i].1,(nn:Int)) fs))++S,bH,st,cx.re (List.append_assoc _ _ _).symm,hI,_,bH,m,st,λw G cx=>cx,⟨i+1,q2,J6 (d.queue[i].1,(nn:Int)) fs,by omega,by omega,rfl,rfl,b4f,aMY.trans QN,gG,?_⟩,Nat.lt_succ_self _⟩
    rw [<-hP]
    exact lT
  ·have h1:=of_decide_eq_false h1
   have h0:keep.getD (i % keep.length) 0 % 2=0:=by omega
   rw [if_pos (.inr h0)] at lT
   exact ⟨hI,_,bH,m,st,λw G cx=>cx,⟨i+1,q1,fs,by omega,by omega,rfl,rfl,rfl,QN,hq1,lT⟩,Nat.lt_succ_self _⟩
 ·have hfs:fs=o5 keep 0 d.queue d.files:=by
   rw [Bool.and_eq_false_iff] at hge
   rcases hge with hge|hge
   ·have hge:i=d.queue.length:=by have:=of_decide_eq_false hge;omega
    rw [hge,List.drop_length] at lT
    exact lT
   ·have:keep=[]:=List.eq_nil_of_length_eq_zero (by have:=of_decide_eq_false hge;omega)
    rw [this,a0g] at lT
    rw [this]
    exact lT
  rw [<-hfs] at hk
  refine bY (λp n c i' R' aF m=>∃ i:Nat,i'=i/\i+m=q1.fl.length/\n=(mK (q1.fl.take i)).length/\R'=.buf p (mK (q1.fl.take i)).length c (fW (mK (q1.fl.take i))) 142 3 :: (eB q1 (dnD d fs)++S)/\aF=bH) ⟨⟨_,bH,q1.fl.length,st,λw G cx=>cx.yC 142 3,0,rfl,by omega,rfl,rfl,rfl⟩,?_⟩
  rintro p n c i' R2 pI m2 pZ ⟨i2,rfl,b8F,rfl,rfl,rfl⟩
  obtain ⟨o,ho⟩:∃ o,mK (q1.fl.take i2)=o:=⟨_,rfl⟩
  have hol:o.length<=16:=by
   rw [<-ho]
   unfold mK
   rw [List.length_map,List.length_take]
   have:=hq1.aEd;omega
  rw [ho]
  have dk:∀ {w:World} {G:List Own},Ctx W w ((.buf p o.length c (fW o) 142 3 :: (eB q1 (dnD d fs)++S))++G) pI->Ctx W w (eB q1 (dnD d fs)++S) pI:=fun {w G} cx=>Ctx.left (F:=G) (Ctx.drop1 (S:=(eB q1 (dnD d fs)++S)++G) cx)
  refine λw G cx=>⟨q1.fp,q1.fl.length,q1.fc,gL (dk cx) rfl,Br.intro (λhlt=>?_) (λaEh=>λw G cx=>?_)⟩
  ·have hlt:i2<q1.fl.length:=by have:=of_decide_eq_true hlt;omega
   obtain ⟨m2,rfl⟩:∃ m',m2=m'+1:=⟨m2 - 1,by omega⟩
   obtain ⟨g,hg⟩:=aJt (dk cx) (by omega)
   have e3:(0:Nat)+((i2:Int)).toNat*3=i2*3:=by rw [Int.toNat_natCast];omega
   have hI:aR ((i2:Int)+1):=by have:=hq1.aEd;unfold aR;omega
   have sl:∀ (w:World) (G:List Own),Ctx W w ((.buf p o.length c (fW o) 142 3 :: (eB q1 (dnD d fs)++S))++G) pI->∃ (a:Option Addr) (b e:Nat),w.cell? ⟨q1.db,0,none⟩=some (.slice a b e)/\Value.slice a b e=Value.slice q1.fp q1.fl.length q1.fc:=λw G cx=>⟨_,_,_,gL (dk cx) rfl,rfl⟩
   refine ⟨_,pI,pZ,λw G cx=>cx,q1.fp,q1.fl.length,q1.fc,sl,q1.fp,q1.fl.length,q1.fc,sl,q1.fp,q1.fl.length,q1.fc,sl,⟨by omega,by omega⟩,aJ g 0 hg ⟨⟨by omega,by omega⟩,aJ g 0 hg ⟨⟨by omega,by omega⟩,aJ g 0 hg ⟨q1.fl[i2].no,λw G cx=>⟨_,?_,rfl⟩,bs q1.fl[i2].last,λw G cx=>⟨_,?_,rfl⟩,bs q1.fl[i2].last,λw G cx=>⟨_,?_,rfl⟩,λk=>⟨λw G cx=>cx.drop1,λw G cx=>?_⟩⟩⟩⟩⟩
   ·rw [e3];exact NI (dk cx) hg hlt 0 (by show 0<3;decide)
   ·rw [e3];exact NI (dk cx) hg hlt 2 (by show 2<3;decide)
   ·rw [e3];exact NI (dk cx) hg hlt 2 (by show 2<3;decide)
   obtain ⟨p',c',w',hr,c2⟩:=aEf (x:=⟨q1.fl[i2].no,q1.fl[i2].last,q1.fl[i2].last⟩) (S:=(eB q1 (dnD d fs)++S)++G) (by omega) cx
   have zL:mK (q1.fl.take (i2+1))=o++[⟨q1.fl[i2].no,q1.fl[i2].last,q1.fl[i2].last⟩]:=by
    rw [List.take_succ_eq_append_getElem hlt,<-ho]
    unfold mK
    rw [List.map_append]
    rfl
   exact ⟨p',_,c',w',hr,_,pI,pZ,c2,hI,_,_,m2,pZ,λw G cx=>cx,⟨i2+1,by omega,by omega,by rw [zL],by rw [zL],rfl⟩,Nat.lt_succ_self _⟩
  ·have aEh:i2=q1.fl.length:=by have:=of_decide_eq_false aEh;omega
   rw [aEh,List.take_length] at ho
   subst ho
   have cx:Ctx W w (.buf p (mK q1.fl).length c (fW (mK q1.fl)) 142 3 :: .blk q1.db (XD q1 (dnD d fs)) 117 :: .buf q1.fp q1.fl.length q1.fc (fW q1.fl) 142 3 :: .buf q1.qp d.queue.length q1.qc (iT d.queue) 140 2 :: (S++G)) pI:=cx
   refine ⟨cx.can 1 rfl (by show 0+1<=6;decide),λw' hw'=>?_⟩
   have c3:=cx.put 1 hw' rfl
   refine ⟨.buf p (mK q1.fl).length c (fW (mK q1.fl)) 142 3 :: .blk q1.db ((XD q1 (dnD d fs)).set 0 (.slice p (mK q1.fl).length c)) 117 :: S,pI,pZ,?_,λw G cx=>⟨cx.can 1 rfl (by show 1+1<=6;decide),λw' hw'=>?_⟩⟩
   ·exact c3.sub (.cons_cons _ (.cons_cons _ (.cons _ (.cons _ (List.Sublist.refl _)))))
   have c4:=cx.put 1 hw' rfl
   have c5:Ctx W w' (.blk q1.db (((XD q1 (dnD d fs)).set 0 (.slice p (mK q1.fl).length c)).set 1 (.slice none 0 0)) 117 :: .buf p (mK q1.fl).length c (fW (mK q1.fl)) 142 3 :: (S++G)) pI:=Ctx.perm c4 (List.Perm.swap _ _ _)
   have c6:Ctx W w' (.blk q1.db (((XD q1 (dnD d fs)).set 0 (.slice p (mK q1.fl).length c)).set 1 (.slice none 0 0)) 117 :: .buf p (mK q1.fl).length c (fW (mK q1.fl)) 142 3 :: .buf none 0 0 [] 140 2 :: (S++G)) pI:=(c5.yC 140 2).perm ((List.Perm.swap _ _ _).trans (List.Perm.cons _ (List.Perm.swap _ _ _)))
   refine ⟨eB { q1 with fl:=mK q1.fl,fp:=p,fc:=c,qp:=none,qc:=0 } { d with down:=true,bS:=0,queue:=[],files:=λk=>⟨(fs k).last,(fs k).last⟩ }++S,pI,pZ,c6,λw G cx=>hk { q1 with fl:=mK q1.fl,fp:=p,fc:=c,qp:=none,qc:=0 } w rfl QN ⟨λk=>?_,?_,λx hx=>?_,List.nodup_nil,(λp hp=>by cases hp),λk=>?_,hq1.lost,hq1.bS⟩ cx.left⟩
   ·show vY (mK q1.fl) k=_
    rw [a0h,hq1.C5 k]
   ·show ((mK q1.fl).map λx=>x.no).Nodup
    unfold mK
    rw [List.map_map]
    exact hq1.fnd
   ·obtain ⟨y,hy,rfl⟩:=List.mem_map.1 hx
    exact hq1.DF y hy
   ·have:=(hq1.size k).2
    exact ⟨this,this⟩
end
end Go.Proofs.YtfccagphnfceiaaGreatDoor
end

section
namespace Go.Proofs.YtfccagphnfceiaaGreatDoor
open Go.Vc
def NK (d:cC) (f a:Int) (s:Bs):cC:=if (0<=f/\f<16)/\a6e a s.length=true then EN d f a.toNat s else d
theorem P8 {a:Int} {n:Nat}:a6e a n=true ↔ 0<=a/\a+(n:Int)<=16777216:=by
 unfold a6e
 simp only [Bool.and_eq_true,decide_eq_true_eq]
 omega
theorem VM {d:cC} (h:d.down=false) (f a:Int) (s:Bs):(cK d f a s).1=NK d f a s:=by
 unfold cK NK EN j8
 by_cases hf:0<=f/\f<16
 ·have hm:¬ ((if d.down=true then (9:Int) else if f<0\/16<=f then 1 else 0)≠0):=by rw [if_neg (by rw [h];simp),if_neg (by omega)];simp
  rw [if_neg hm]
  by_cases ha:a<0
  ·rw [if_pos ha,if_neg (λh=>by have:=(P8.1 h.2).1;omega)]
  rw [if_neg ha]
  by_cases hb:16777216<a\/16777216 - a<(s.length:Int)
  ·rw [if_pos hb,if_neg (λh=>by have:=(P8.1 h.2).2;omega)]
  rw [if_neg hb,if_pos (c:=(0<=f/\f<16)/\a6e a s.length=true) ⟨hf,P8.2 ⟨by omega,by omega⟩⟩]
  by_cases hs:s=[]
  ·rw [if_pos hs,if_pos hs]
  ·rw [if_neg hs,if_neg hs]
 ·have hm:(if d.down=true then (9:Int) else if f<0\/16<=f then 1 else 0)≠0:=by rw [if_neg (by rw [h];simp),if_pos (by omega)];decide
  rw [if_pos hm]
  show d=_
  rw [if_neg (λh=>hf h.1)]
def pL (d:cC) (f a:Int) (s:Bs):cC:=if o4 d=true then cL (NK (cP d) f a s) d.keep else cP d
theorem a6h (d:cC) (keep:List Int):(cL d keep).down=true:=by
 unfold cL
 split
 ·assumption
 ·rfl
structure DrK (Φ:PW) (q:NH) (d:cC):Prop where
 le:d.keep.length<=1000000
 sl:∀ M w,Φ M w->Sl M w q.kp d.keep
section
variable {W w:World} {S G:List Own} {Φ:PW} {q:NH} {d:cC}
set_option maxHeartbeats 2000000 in
theorem QO [aA Φ] (hq:AY q d) (hkk:DrK Φ q d) {f a:Int} {s:Bs} (hs:s.length<=1000000000) (cx:Ctx W w (eB q d++S) Φ) {K:Ending->World->Prop}
  (hk:∀ q' w',q'.db=q.db->q'.kp=q.kp->AY q' (pL d f a s)->Ctx W w' (eB q' (pL d f a s)++S) Φ->K (.returned (.tuple #[])) w') :
  Calls Tryz.prog F.fT #[.pointer (some ⟨q.db,0,none⟩),.int .i64 f,.int .i64 a,.string (bs s)] w K:=by
 refine (xA q.db 0 f a (bs s) (J:=λu w'=>K (.returned u) w') cx λw G cx=>⟨d.down,gL (i:=3) cx.left rfl,d.bS,λ_=>gL (i:=4) cx.left rfl,Br.intro (λh=>λw G cx=>?_) (λh=>λw G cx=>⟨d.bS,gL (i:=4) cx.left rfl,?_,λw G cx=>⟨cx.can 0 rfl (by show 0+4+1<=6;decide),λw' hw'=>?_⟩⟩)⟩).mono λe w' ⟨v,he,hj⟩=>by rw [he];exact hj
 ·have h:d.down=true\/d.bS=0:=by simpa using h
  have e:pL d f a s=d:=by
   unfold pL cP o4
   rw [if_pos h,if_neg]
   rcases h with h|h
   ·rw [h];simp
   ·rw [h];simp
  rw [e] at hk
  exact hk q w rfl rfl hq cx.left
 ·have:=hq.bS;unfold aR;omega
 have hn:¬ (d.down=true\/d.bS=0):=by simpa using h
 have hd:d.down=false:=by cases hdd:d.down with
  | false=>rfl
  | true=>exact absurd (.inl hdd) hn
 have ha0:d.bS≠0:=λe=>hn (.inr e)
 have har:=hq.bS
 have et:cP d={ d with bS:=d.bS - 1 }:=by unfold cP;rw [if_neg hn]
 have c1:=cx.put 0 hw' rfl
 have hqt:AY q (cP d):=by rw [et];exact ⟨hq.C5,hq.fnd,hq.DF,hq.nodup,hq.range,hq.size,hq.lost,⟨by show 0<=d.bS - 1;omega,by show d.bS - 1<=9223372036854775807;omega⟩⟩
 have hkp:(cP d).keep=d.keep:=by rw [et]
 have b4i:(cP d).bS=d.bS - 1:=by rw [et]
 have c2:Ctx W w' (eB q (cP d)++S++G) Φ:=by rw [et];exact c1
 refine ⟨eB q (cP d)++S,Φ,inferInstance,c2,λw G cx=>⟨d.bS - 1,by rw [<-b4i];exact gL (i:=4) cx.left rfl,Br.intro (λh2=>λw G cx=>?_) (λh2=>?_)⟩⟩
 ·have h2:=of_decide_eq_true h2
  have e:pL d f a s=cP d:=by unfold pL o4;rw [if_neg (by rw [hd,decide_eq_false (by omega:¬ d.bS=1)];simp)]
  rw [e] at hk
  exact hk q w rfl rfl hqt cx.left
 have h1:d.bS=1:=by have:=of_decide_eq_false h2;omega
 have eC:pL d f a s=cL (NK (cP d) f a s) d.keep:=by unfold pL o4;rw [if_pos (by rw [hd,decide_eq_true h1];rfl)]
 rw [eC] at hk
 clear c1 c2 cx
 have Z1:∀ {w:World} {G:List Own},NK (cP d) f a s=cP d->Ctx W w ((eB q (cP d)++S)++G) Φ->∃ (p:Option Addr) (n c:Nat),w.cell? ⟨q.db,0+5,none⟩=some (.slice p n c)/\∀ w G,Ctx W w ((eB q (cP d)++S)++G) Φ->Calls Tryz.prog F.cZ #[.pointer (some ⟨q.db,0,none⟩),.slice p n c] w λe w'=>e=.returned (.tuple #[])/\∃ R' aF,aA aF/\Ctx W w' (R'++G) aF/\∀ w G,Ctx W w (R'++G) aF->K (.returned (.tuple #[])) w:=fun {w G} e cx=>by
  refine ⟨q.kp,(cP d).keep.length,q.kc,gL (i:=5) cx.left rfl,λw G cx=>?_⟩
  rw [e] at hk
  rw [hkp]
  exact QM (q:=q) (d:=cP d) (S:=S++G) hqt hkk.le hkk.sl (cx.re (List.append_assoc _ _ _)) λq' w h1 h2 KR cx=>⟨rfl,_,Φ,inferInstance,cx.re (List.append_assoc _ _ _).symm,λw G cx=>hk q' w h1 h2 KR cx.left⟩
 refine Br.intro (λh3=>Br.intro (λh4=>λw G cx=>?_) (λh4=>λw G cx=>Z1 ?_ cx)) (λh3=>λw G cx=>Z1 ?_ cx)
 ·refine (a0c (a:=a) (s:=s) hs).toB cx (Br.intro (λh5=>λw G cx=>?_) (λh5=>λw G cx=>Z1 ?_ cx))
  ·have hf:0<=f/\f<16:=by have:=of_decide_eq_true h3;have:=of_decide_eq_true h4;omega
   have hfit:=P8.1 h5
   have eP:NK (cP d) f a s=EN (cP d) f a.toNat s:=by unfold NK;rw [if_pos ⟨hf,h5⟩]
   rw [eP] at hk
   have hat:a=((a.toNat:Nat):Int):=by omega
   have hkA:(EN (cP d) f a.toNat s).keep=d.keep:=by
    unfold EN
    split
    ·exact hkp
    ·exact hkp
   rw [hat]
   refine a0f (S:=S++G) hqt hf (a:=a.toNat) (by omega) (cx.re (List.append_assoc _ _ _)) λq2 w h6 h7 gG cx=>⟨rfl,eB q2 (EN (cP d) f a.toNat s)++S,Φ,inferInstance,cx.re (List.append_assoc _ _ _).symm,λw G cx=>⟨q2.kp,(EN (cP d) f a.toNat s).keep.length,q2.kc,by rw [<-h6];exact gL (i:=5) cx.left rfl,λw G cx=>?_⟩⟩
   rw [hkA,<-h6]
   exact QM (q:=q2) (d:=EN (cP d) f a.toNat s) (S:=S++G) gG hkk.le (by rw [h7];exact hkk.sl) (cx.re (List.append_assoc _ _ _)) λq' w h8 h9 KR cx=>⟨rfl,_,Φ,inferInstance,cx.re (List.append_assoc _ _ _).symm,λw G cx=>hk q' w (h8.trans h6) (h9.trans h7) KR cx.left⟩
  ·unfold NK
   rw [if_neg (λh=>by rw [h.2] at h5;cases h5)]
 ·unfold NK
  rw [if_neg (λh=>by have:=of_decide_eq_false h4;omega)]
 ·unfold NK
  rw [if_neg (λh=>by have:=of_decide_eq_false h3;omega)]
end
end Go.Proofs.YtfccagphnfceiaaGreatDoor
end

section
namespace Go.Proofs.YtfccagphnfceiaaGreatDoor
open Go.Vc
theorem a9U (d:cC) (f a:Int) (s:Bs):aY d f a s=if o4 d=true then (pL d f a s,9) else cK (pL d f a s) f a s:=by
 unfold aY pL
 by_cases h:o4 d=true
 ·rw [if_pos h,if_pos h,if_pos h]
  have hd:(cP d).down=false:=by
   unfold o4 at h
   rw [Bool.and_eq_true] at h
   unfold cP
   split
   ·simpa using h.1
   ·simpa using h.1
  rw [VM hd]
 ·rw [if_neg h,if_neg h,if_neg h]
theorem a34 {d:cC} (h:o4 d=true) (f a:Int) (s:Bs):(pL d f a s).down=true:=by
 unfold pL
 rw [if_pos h]
 exact a6h _ _
theorem aHi (d:cC) (f:Int):NK d f 0 []=d:=by
 unfold NK EN
 split
 ·rw [if_pos rfl]
 ·rfl
theorem aEj (d:cC):pL d 0 0 []=kC d:=by
 unfold pL kC
 rw [aHi]
section
variable {W w:World} {S G:List Own} {Φ:PW} {q:NH} {d:cC}
set_option maxHeartbeats 1000000 in
theorem a35 [aA Φ] (hq:AY q d) (hkk:DrK Φ q d) {f a:Int} {s:Bs} (hs:s.length<=1000000000) (cx:Ctx W w (eB q d++S) Φ) {K:Ending->World->Prop}
  (hk:∀ q' w',q'.db=q.db->q'.kp=q.kp->AY q' (aY d f a s).1->Ctx W w' (eB q' (aY d f a s).1++S) Φ->K (.returned (.int .i64 (aY d f a s).2)) w') :
  Calls Tryz.prog F.eL #[.pointer (some ⟨q.db,0,none⟩),.int .i64 f,.int .i64 a,.string (bs s)] w K:=by
 refine (x9 q.db 0 f a (bs s) (J:=λu w'=>K (.returned u) w') cx λw G cx=>?_).mono λe w' ⟨v,he,hj⟩=>by rw [he];exact hj
 refine QO (S:=S++G) hq hkk hs (cx.re (List.append_assoc _ _ _)) λq1 w h1 h2 hq1 cx=>⟨rfl,eB q1 (pL d f a s)++S,Φ,inferInstance,cx.re (List.append_assoc _ _ _).symm,λw G cx=>?_⟩
 rw [<-h1]
 rw [<-h1,<-h2] at hk
 rw [a9U] at hk
 refine P7 (S:=S++G) (cx.re (List.append_assoc _ _ _)) λw cx=>⟨_,rfl,eB q1 (pL d f a s)++S,Φ,inferInstance,cx.re (List.append_assoc _ _ _).symm,Br.intro (λh3=>λw G cx=>?_) (λh3=>?_)⟩
 ·have h3:=of_decide_eq_true h3
  by_cases he:o4 d=true
  ·have hm:j8 (pL d f a s) f=9:=by unfold j8;rw [if_pos (a34 he f a s)]
   rw [if_pos he] at hk
   rw [hm]
   exact hk q1 w rfl rfl hq1 cx.left
  ·rw [if_neg he] at hk
   have e:cK (pL d f a s) f a s=(pL d f a s,j8 (pL d f a s) f):=by unfold cK;rw [if_pos h3]
   rw [e] at hk
   exact hk q1 w rfl rfl hq1 cx.left
 have h3:=Decidable.not_not.1 (of_decide_eq_false h3)
 have he:¬ (o4 d=true):=λhe=>by
  have hm:j8 (pL d f a s) f=9:=by unfold j8;rw [if_pos (a34 he f a s)]
  rw [hm] at h3
  exact absurd h3 (by decide)
 rw [if_neg he] at hk
 have hdn:(pL d f a s).down=false:=by
  cases hdd:(pL d f a s).down with
  | false=>rfl
  | true=>unfold j8 at h3;rw [if_pos hdd] at h3;exact absurd h3 (by decide)
 have hf:0<=f/\f<16:=by
  unfold j8 at h3
  rw [if_neg (by rw [hdn];simp)] at h3
  by_cases hx:f<0\/16<=f
  ·rw [if_pos hx] at h3;exact absurd h3 (by decide)
  ·omega
 refine Br.intro (λh4=>λw G cx=>?_) (λh4=>λw G cx=>?_)
 ·have e:cK (pL d f a s) f a s=(pL d f a s,1):=by unfold cK;rw [if_neg (by rw [h3];simp),if_pos (of_decide_eq_true h4)]
  rw [e] at hk
  exact hk q1 w rfl rfl hq1 cx.left
 have h4:=of_decide_eq_false h4
 refine (a0c (a:=a) (s:=s) hs).toB cx (Br.intro (λh5=>λw G cx=>?_) (λh5=>λw G cx=>?_))
 ·have h5:¬ (a6e a s.length=true):=by simpa using h5
  have hb:16777216<a\/16777216 - a<(s.length:Int):=by
   rw [P8] at h5
   omega
  have e:cK (pL d f a s) f a s=(pL d f a s,6):=by unfold cK;rw [if_neg (by rw [h3];simp),if_neg h4,if_pos hb]
  rw [e] at hk
  exact hk q1 w rfl rfl hq1 cx.left
 ·have h5:a6e a s.length=true:=by simpa using h5
  have hfit:=P8.1 h5
  have e:cK (pL d f a s) f a s=(EN (pL d f a s) f a.toNat s,0):=by
   have e1:=VM hdn f a s
   have e2:NK (pL d f a s) f a s=EN (pL d f a s) f a.toNat s:=by unfold NK;rw [if_pos ⟨hf,h5⟩]
   rw [e2] at e1
   refine Prod.ext e1 ?_
   unfold cK
   rw [if_neg (by rw [h3];simp),if_neg h4,if_neg (by omega)]
   split<;>rfl
  rw [e] at hk
  have hat:a=((a.toNat:Nat):Int):=by omega
  have goal:=a0f (S:=S++G) hq1 hf (a:=a.toNat) (s:=s) (by omega) (cx.re (List.append_assoc _ _ _)) (K:=λe w'=>e=.returned (.tuple #[])/\∃ R' aF,aA aF/\Ctx W w' (R'++G) aF/\∀ w G,Ctx W w (R'++G) aF->K (.returned (.int .i64 0)) w) λq2 w h6 h7 gG cx=>⟨rfl,eB q2 (EN (pL d f a s) f a.toNat s)++S,Φ,inferInstance,cx.re (List.append_assoc _ _ _).symm,λw G cx=>hk q2 w h6 h7 gG cx.left⟩
  rw [<-hat] at goal
  exact goal
set_option maxHeartbeats 1000000 in
theorem VN [aA Φ] (hq:AY q d) (hkk:DrK Φ q d) {f:Int} (cx:Ctx W w (eB q d++S) Φ) {K:Ending->World->Prop}
  (hk:∀ q' w',q'.db=q.db->q'.kp=q.kp->AY q' (bQ d f).1->Ctx W w' (eB q' (bQ d f).1++S) Φ->K (.returned (.int .i64 (bQ d f).2)) w') :
  Calls Tryz.prog F.dI #[.pointer (some ⟨q.db,0,none⟩),.int .i64 f] w K:=by
 refine (yS q.db 0 f (J:=λu w'=>K (.returned u) w') cx λw G cx=>?_).mono λe w' ⟨v,he,hj⟩=>by rw [he];exact hj
 refine QO (f:=0) (a:=0) (s:=[]) (S:=S++G) hq hkk (Nat.zero_le _) (cx.re (List.append_assoc _ _ _)) λq1 w h1 h2 hq1 cx=>?_
 rw [aEj] at hq1 cx
 refine ⟨rfl,eB q1 (kC d)++S,Φ,inferInstance,cx.re (List.append_assoc _ _ _).symm,λw G cx=>?_⟩
 rw [<-h1]
 rw [<-h1,<-h2] at hk
 unfold bQ at hk
 generalize kC d=d1 at hk hq1 cx
 refine P7 (S:=S++G) (cx.re (List.append_assoc _ _ _)) λw cx=>⟨_,rfl,eB q1 d1++S,Φ,inferInstance,cx.re (List.append_assoc _ _ _).symm,Br.intro (λh3=>λw G cx=>?_) (λh3=>λw G cx=>⟨d1.lost,gL (i:=2) cx.left rfl,Br.intro (λh4=>λw G cx=>?_) (λh4=>λw G cx=>?_)⟩)⟩
 ·have e:wJ d1 f=(d1,j8 d1 f):=by unfold wJ;rw [if_pos (of_decide_eq_true h3)]
  rw [e] at hk
  exact hk q1 w rfl rfl hq1 cx.left
 ·have h3:=Decidable.not_not.1 (of_decide_eq_false h3)
  have h4:=of_decide_eq_true h4
  have hl:=hq1.lost
  have e:wJ d1 f=({ d1 with lost:=d1.lost - 1 },10):=by unfold wJ;rw [if_neg (by rw [h3];simp),if_pos h4]
  rw [e] at hk
  refine ⟨d1.lost,gL (i:=2) cx.left rfl,by unfold aR;omega,λw G cx=>⟨cx.can 0 rfl (by show 0+2+1<=6;decide),λw' hw'=>?_⟩⟩
  have c1:=cx.put 0 hw' rfl
  exact ⟨eB q1 { d1 with lost:=d1.lost - 1 }++S,Φ,inferInstance,c1,λw G cx=>hk q1 w rfl rfl ⟨hq1.C5,hq1.fnd,hq1.DF,hq1.nodup,hq1.range,hq1.size,⟨by show 0<=d1.lost - 1;omega,by show d1.lost - 1<=9223372036854775807;omega⟩,hq1.bS⟩ cx.left⟩
 ·have h3:=Decidable.not_not.1 (of_decide_eq_false h3)
  have h4:=of_decide_eq_false h4
  have e:wJ d1 f=(sA d1 f (d1.files f).now,0):=by unfold wJ;rw [if_neg (by rw [h3];simp),if_neg h4]
  rw [e] at hk
  have hf:0<=f/\f<16:=by
   unfold j8 at h3
   split at h3
   ·exact absurd h3 (by decide)
   ·split at h3
    ·exact absurd h3 (by decide)
    ·omega
  refine HH (S:=S++G) hq1 (cx.re (List.append_assoc _ _ _)) λw cx=>⟨_,_,_,rfl,eB q1 d1++S,Φ,inferInstance,cx.re (List.append_assoc _ _ _).symm,λw G cx=>?_⟩
  exact a1u (S:=S++G) hq1 hf (hq1.size f).1 (cx.re (List.append_assoc _ _ _)) λq2 w h6 h7 gG cx=>⟨rfl,_,Φ,inferInstance,cx.re (List.append_assoc _ _ _).symm,λw G cx=>hk q2 w h6 h7 gG cx.left⟩
end
end Go.Proofs.YtfccagphnfceiaaGreatDoor
end

section
namespace Go.Proofs.YtfccagphnfceiaaGreatDoor
open Go.Vc
abbrev rcB (q:NH) (c:sL):List Value:=[.pointer (some ⟨q.db,0,none⟩),.int .i64 c.file,.int .i64 (c.slot:Int),.string (bs c.value),.bool c.sure]
abbrev rcO (k:Nat) (q:NH) (c:sL):Own:=.blk k (rcB q c) 125
theorem wrU (u:UInt8):IntKind.i64.wrap (u.toNat:Int)=(u.toNat:Int):=by
 have:=u.toNat_lt
 rw [show IntKind.i64.wrap (u.toNat:Int)=CD (u.toNat:Int) from rfl,a4Z (by unfold aR;omega)]
section
variable {W w:World} {S G:List Own} {Φ:PW} {q:NH} {d:cC}
theorem VO [aA Φ] {s:Nat} (h:s=1\/s=2):aU Φ Tryz.prog F.jL #[.int .i64 (s:Int)] (.int .i64 (eX s:Int)):=by
 refine dS (DD (s:Int)) λW R=>Br.intro (λh2=>λw G cx=>⟨?_,cx.left⟩) (λh2=>λw G cx=>⟨?_,cx.left⟩)
 ·have:s=2:=by have:=of_decide_eq_true h2;omega
  subst this;rfl
 ·have:s=1:=by have:=of_decide_eq_false h2;omega
  subst this;rfl
theorem aHj [aA Φ] {k:Nat} {c:sL}:jU [rcO k q c] Φ Tryz.prog F.jM #[.pointer (some ⟨k,0,none⟩)] (.tuple #[.string (bs c.value),.bool (decide ((c.slot:Int)≠0))]) :=
 rX (yY k 0) λW R=>λw G cx=>⟨_,cx.get 0 rfl rfl,_,cx.get 0 rfl rfl,λw G cx=>⟨rfl,cx.left⟩⟩
set_option maxHeartbeats 2000000 in
theorem VP [aA Φ] (hq:AY q d) {f:Int} (cx:Ctx W w (eB q d++S) Φ) {K:Ending->World->Prop}
  (hn:∀ w',(mF d f).1=none->Ctx W w' (eB q d++S) Φ->K (.returned (.tuple #[.pointer none,.int .i64 (mF d f).2])) w')
  (hs:∀ k c w',mF d f=(some c,0)->Ctx W w' (rcO k q c :: (eB q d++S)) Φ->K (.returned (.tuple #[.pointer (some ⟨k,0,none⟩),.int .i64 0])) w') :
  Calls Tryz.prog F.kL #[.pointer (some ⟨q.db,0,none⟩),.int .i64 f] w K:=by
 refine (EK q.db 0 f (J:=λu w'=>K (.returned u) w') cx λw G cx=>?_).mono λe w' ⟨v,he,hj⟩=>by rw [he];exact hj
 refine VL (S:=S++G) hq (by unfold aR;decide) (by unfold aR;decide) (cx.re (List.append_assoc _ _ _)) λw cx=>⟨_,_,rfl,eB q d++S,Φ,inferInstance,cx.re (List.append_assoc _ _ _).symm,Br.intro (λh=>λw G cx=>?_) (λh=>λk=>?_)⟩
 ·have e:mF d f=(none,(b9 d f 0 5).2):=by unfold mF;rw [if_pos (of_decide_eq_true h)]
  rw [e] at hn
  exact hn w rfl cx.left
 have h0:=of_decide_eq_false h
 clear cx
 have hlen:(b9 d f 0 5).1.length<=5:=by
  unfold b9
  split
  ·exact Nat.zero_le _
  ·split
   ·exact Nat.zero_le _
   ·rw [List.length_take];exact Nat.min_le_left _ _
 have eO:mF d f=if (b9 d f 0 5).1=[]\/(b9 d f 0 5).1.getD 0 0=0 then (some ⟨f,0,[],false⟩,0) else
   if (b9 d f 0 5).1.length<5\/(b9 d f 0 5).1.getD 0 0≠1/\(b9 d f 0 5).1.getD 0 0≠2 then (none,2) else
   if 65536<sM (b9 d f 0 5).1 then (none,2) else
   if (b9 d f (eX ((b9 d f 0 5).1.getD 0 0).toNat) (sM (b9 d f 0 5).1)).2≠0 then (none,(b9 d f (eX ((b9 d f 0 5).1.getD 0 0).toNat) (sM (b9 d f 0 5).1)).2) else
   if (b9 d f (eX ((b9 d f 0 5).1.getD 0 0).toNat) (sM (b9 d f 0 5).1)).1.length<sM (b9 d f 0 5).1 then (none,2) else
   (some ⟨f,((b9 d f 0 5).1.getD 0 0).toNat,(b9 d f (eX ((b9 d f 0 5).1.getD 0 0).toNat) (sM (b9 d f 0 5).1)).1,false⟩,0):=by
  conv=>lhs;unfold mF
  rw [if_neg h0]
 rw [eO] at hn hs
 clear eO
 generalize (b9 d f 0 5).1=h at hn hs hlen
 have blk:∀ {w:World} {G:List Own},Ctx W w ((Own.blk k [.pointer (some ⟨q.db,0,none⟩),.int .i64 f,.int .i64 0,.string (ByteArray.mk #[]),.bool false] 125 :: (eB q d++S))++G) Φ->Ctx W w (rcO k q ⟨f,0,[],false⟩ :: (eB q d++S)) Φ:=fun {w G} cx=>Ctx.left (F:=G) cx
 refine Br.intro (λhb=>λw G cx=>?_) (λhb=>?_)
 ·rw [if_pos (.inl (A5.1 (of_decide_eq_true hb)))] at hs
  exact hs k _ w rfl (blk cx)
 have hne:h≠[]:=λe=>of_decide_eq_false hb (by rw [e];rfl)
 have hpos:=List.length_pos_iff.2 hne
 have gI:∀ i,i<h.length->(bs h).data.toList.get?Internal i=some (h.getD i 0):=λi hi=>a7K (by rw [List.getD_eq_getElem?_getD,List.getElem?_eq_getElem hi];rfl)
 have zero:((h.getD 0 0).toNat:Int)=0 ↔ h.getD 0 0=0:=by
  constructor
  ·intro e;exact UInt8.toNat_inj.1 (by simpa using e)
  ·intro e;rw [e];rfl
 refine ⟨h.getD 0 0,⟨Int.le_refl 0,gI 0 hpos⟩,Br.intro (λhb=>λw G cx=>?_) (λhb=>?_)⟩
 ·rw [if_pos (.inr (zero.1 (of_decide_eq_true hb)))] at hs
  exact hs k _ w rfl (blk cx)
 have hz:¬ (h=[]\/h.getD 0 0=0):=λe=>e.elim hne λe=>of_decide_eq_false hb (zero.2 e)
 rw [if_neg hz] at hn hs
 rw [aT]
 refine Br.intro (λhb=>λw G cx=>?_) (λhb=>λw G cx=>?_)
 ·rw [if_pos (.inl (by have:=of_decide_eq_true hb;omega))] at hn
  exact hn w rfl (Ctx.drop1 (blk cx))
 have h5:h.length=5:=by have:=of_decide_eq_false hb;omega
 have t0:=(h.getD 0 0).toNat_lt
 have t1:=(h.getD 1 0).toNat_lt
 have t2:=(h.getD 2 0).toNat_lt
 have t3:=(h.getD 3 0).toNat_lt
 have t4:=(h.getD 4 0).toNat_lt
 refine ⟨h.getD 1 0,⟨by decide,gI 1 (by omega)⟩,h.getD 2 0,⟨by decide,gI 2 (by omega)⟩,?_⟩
 simp only [wrU]
 refine ⟨by unfold aR;omega,by unfold aR;omega,h.getD 3 0,⟨by decide,gI 3 (by omega)⟩,by unfold aR;omega,by unfold aR;omega,h.getD 4 0,⟨by decide,gI 4 (by omega)⟩,by unfold aR;omega,by unfold aR;omega,λw G cx=>⟨h.getD 0 0,⟨Int.le_refl 0,gI 0 hpos⟩,h.getD 0 0,λ_=>⟨Int.le_refl 0,gI 0 hpos⟩,?_⟩⟩
 have hN:(((h.getD 1 0).toNat:Int)+256*((h.getD 2 0).toNat:Int)+65536*((h.getD 3 0).toNat:Int)+16777216*((h.getD 4 0).toNat:Int))=((sM h:Nat):Int):=by unfold sM;omega
 simp only [hN]
 have one:((h.getD 0 0).toNat:Int)=1 ↔ h.getD 0 0=1:=by
  constructor
  ·intro e
   have e2:(h.getD 0 0).toNat=1:=by omega
   exact UInt8.toNat_inj.1 (by rw [e2];rfl)
  ·intro e;rw [e];rfl
 have two:((h.getD 0 0).toNat:Int)=2 ↔ h.getD 0 0=2:=by
  constructor
  ·intro e
   have e2:(h.getD 0 0).toNat=2:=by omega
   exact UInt8.toNat_inj.1 (by rw [e2];rfl)
  ·intro e;rw [e];rfl
 refine Br.intro (λhb=>λw G cx=>?_) (λhb=>⟨h.getD 0 0,⟨Int.le_refl 0,gI 0 hpos⟩,λw G cx=>?_⟩)
 ·have hn2:∀ w',Ctx W w' (eB q d++S) Φ->K (.returned (.tuple #[.pointer none,.int .i64 2])) w':=by
   by_cases hx:h.getD 0 0≠1/\h.getD 0 0≠2
   ·rw [if_pos (.inr hx)] at hn
    exact λw'=>hn w' rfl
   ·have hb2:65536<sM h:=by
     rw [Bool.or_eq_true,Bool.and_eq_true] at hb
     rcases hb with hb|hb
     ·exact absurd ⟨λe=>of_decide_eq_true hb.1 (one.2 e),λe=>of_decide_eq_true hb.2 (two.2 e)⟩ hx
     ·have:=of_decide_eq_true hb;omega
    rw [if_neg (λe=>e.elim (by omega) hx),if_pos hb2] at hn
    exact λw'=>hn w' rfl
  exact hn2 w (Ctx.drop1 (blk cx))
 rw [Bool.or_eq_false_iff,Bool.and_eq_false_iff] at hb
 have hb2:sM h<=65536:=by have:=of_decide_eq_false hb.2;omega
 have hx:(h.getD 0 0).toNat=1\/(h.getD 0 0).toNat=2:=by
  rcases hb.1 with e|e
  ·have:=Decidable.not_not.1 (of_decide_eq_false e);omega
  ·have:=Decidable.not_not.1 (of_decide_eq_false e);omega
 have hx2:¬ (h.length<5\/h.getD 0 0≠1/\h.getD 0 0≠2):=λe=>e.elim (by omega) λe=>hx.elim (λk=>e.1 (one.1 (by omega))) (λk=>e.2 (two.1 (by omega)))
 rw [if_neg hx2,if_neg (by omega)] at hn hs
 generalize V0:(h.getD 0 0).toNat=slot at *
 have hoff:aR ((eX slot:Nat):Int):=by rcases hx with e|e<;>(subst e;unfold aR;decide)
 refine ⟨cx.can 0 rfl (by show 2+1<=5;decide),λw' hw'=>?_⟩
 have c1:=cx.put 0 hw' rfl
 refine ⟨.blk k [.pointer (some ⟨q.db,0,none⟩),.int .i64 f,.int .i64 (slot:Int),.string (ByteArray.mk #[]),.bool false] 125 :: (eB q d++S),Φ,inferInstance,c1,λw G cx=>⟨(slot:Int),cx.get 0 rfl rfl,λw G cx=>?_⟩⟩
 refine (VO hx).WW cx (λw G cx=>?_)
 have cx2:Ctx W w (eB q d++(.blk k [.pointer (some ⟨q.db,0,none⟩),.int .i64 f,.int .i64 (slot:Int),.string (ByteArray.mk #[]),.bool false] 125 :: (S++G))) Φ:=Ctx.perm cx (by
  show List.Perm (_ :: ((eB q d++S)++G)) _
  rw [List.append_assoc]
  exact List.perm_middle.symm)
 refine VL hq hoff (by unfold aR;omega) cx2 λw cx=>⟨_,_,rfl,.blk k [.pointer (some ⟨q.db,0,none⟩),.int .i64 f,.int .i64 (slot:Int),.string (ByteArray.mk #[]),.bool false] 125 :: (eB q d++S),Φ,inferInstance,cx.perm (by
  show List.Perm _ (_ :: ((eB q d++S)++G))
  rw [List.append_assoc]
  exact List.perm_middle),λw G cx=>⟨cx.can 0 rfl (by show 3+1<=5;decide),λw' hw'=>?_⟩⟩
 have c3:=cx.put 0 hw' rfl
 have hvl:(b9 d f (eX slot) (sM h)).1.length<=sM h:=by
  unfold b9
  split
  ·exact Nat.zero_le _
  ·split
   ·exact Nat.zero_le _
   ·rw [List.length_take];omega
 refine ⟨rcO k q ⟨f,slot,(b9 d f (eX slot) (sM h)).1,false⟩ :: (eB q d++S),Φ,inferInstance,c3,Br.intro (λh6=>λw G cx=>?_) (λh6=>λw G cx=>⟨bs (b9 d f (eX slot) (sM h)).1,cx.get 0 rfl rfl,?_⟩)⟩
 ·rw [if_pos (of_decide_eq_true h6)] at hn
  exact hn w rfl (Ctx.left (F:=G) (Ctx.drop1 (S:=(eB q d++S)++G) cx))
 rw [if_neg (of_decide_eq_false h6)] at hn hs
 rw [aT]
 refine Br.intro (λh7=>λw G cx=>?_) (λh7=>λw G cx=>?_)
 ·rw [if_pos (by have:=of_decide_eq_true h7;omega)] at hn
  exact hn w rfl (Ctx.left (F:=G) (Ctx.drop1 (S:=(eB q d++S)++G) cx))
 ·rw [if_neg (by have:=of_decide_eq_false h7;omega)] at hs
  exact hs k _ w rfl (Ctx.left (F:=G) cx)
end
end Go.Proofs.YtfccagphnfceiaaGreatDoor
end

section
namespace Go.Proofs.YtfccagphnfceiaaGreatDoor
open Go.Vc
structure RU where
 cb:Nat
 kb:Nat
 lp:Option Addr
 lc:Nat
abbrev coB (p:RU) (c:oU):List Value:=[.pointer (some ⟨p.kb,0,none⟩),.int .i64 c.now.last,.int .i64 c.now.phase,.string c.now.check,.int .i64 c.now.batch,.int .i64 c.now.mark,.string c.now.next,.slice p.lp c.now.lines.length p.lc,.bool c.dN,.bool c.stop]
abbrev fY (p:RU) (q:uK) (c:oU):List Own:=[.blk p.cb (coB p c) 102,l8 p.kb q c.cell]
abbrev CB (p:RU) (c:oU):PW:=λM w=>Sl M w p.lp c.now.lines
structure CE (Φ:PW):Prop where
 num:∀ M w,Φ M w->EH M w
 off:∀ M w,Φ M w->aDO M w
theorem CE.weak {Φ Ψ:PW} (h:CE Φ) (e:∀ M w,Ψ M w->Φ M w):CE Ψ:=⟨λM w hp=>h.num M w (e M w hp),λM w hp=>h.off M w (e M w hp)⟩
theorem CE.tab {Φ:PW} (h:CE Φ):∀ M w,Φ M w->RI M w:=λM w hp=>(h.num M w hp).1
abbrev XG (p:RU) (lp:Option Addr) (lc:Nat) (e:Int):RU:=if e=0 then ⟨p.cb,p.kb,lp,lc⟩ else p
section
variable {W w:World} {S R G:List Own} {Φ:PW}
theorem aW6 [aA Φ] {o k:Own} {X S G:List Own} (cx:Ctx W w ((o :: k :: (X++S))++G) Φ):Ctx W w (k :: (X++(o :: (S++G)))) Φ:=cx.perm (by
 show (o :: k :: ((X++S)++G)).Perm _
 rw [List.append_assoc]
 exact (List.Perm.swap _ _ _).trans (List.perm_middle.symm.cons _))
theorem aM0 [aA Φ] {o k:Own} {X S G:List Own} (cx:Ctx W w (k :: (X++(o :: (S++G)))) Φ):Ctx W w ((o :: k :: (X++S))++G) Φ:=cx.perm (by
 show List.Perm _ (o :: k :: ((X++S)++G))
 rw [List.append_assoc]
 exact (List.perm_middle.cons _).trans (List.Perm.swap _ _ _))
def GN (W:World) (p:RU) (q:uK) (d:cC) (c:oU) (G:List Own) (K:Ending->World->Prop) (e:Ending) (w':World):Prop :=
 ∃ (x:rI) (er:Int) (lp:Option Addr) (lc:Nat) (S':List Own) (aF:PW),e=.returned (.tuple #[stV x lp lc,.int .i64 er])/\aA aF/\Ctx W w' ((fY p q c++(cJ q d++S'))++G) aF /\
   (er≠0->∀ w,Ctx W w (fY p q c++(cJ q d++S')) aF->K (.returned (.int .i64 er)) w) /\
   (er=0->wK q d/\RT aF q d/\CE aF/\StF x/\(∀ M w,aF M w->Sl M w lp x.lines) /\
    ∀ u w,wK (q.mv u) (fQ d c x).1->Ctx W w (fY (XG p lp lc (fQ d c x).2.2) q (fQ d c x).2.1++(cJ (q.mv u) (fQ d c x).1++S')) aF->K (.returned (.int .i64 (fQ d c x).2.2)) w)
def DG (W:World) (G:List Own) (K:Ending->World->Prop) (e:Ending) (w':World):Prop :=
 ∃ n,e=.returned (.int .i64 n)/\∃ R aF,aA aF/\Ctx W w' (R++G) aF/\∀ w G',Ctx W w (R++G') aF->K (.returned (.int .i64 n)) w
set_option maxHeartbeats 2000000 in
theorem NL [aA Φ] {p:RU} {q:uK} {d:cC} {c:oU} {f:FuncId} {doC:Array Value} {phase:Int} (hf:qT Tryz.prog f=true) (cx:Ctx W w (fY p q c++(cJ q d++S)) Φ) {K:Ending->World->Prop}
  (hs:c.stop=true->∀ w,Ctx W w (fY p q c++(cJ q d++S)) Φ->K (.returned (.int .i64 9)) w)
  (hp:c.stop=false->c.now.phase≠phase->∀ w,Ctx W w (fY p q c++(cJ q d++S)) Φ->K (.returned (.int .i64 7)) w)
  (hdo:c.stop=false->c.now.phase=phase->∀ w G,Ctx W w ((fY p q c++(cJ q d++S))++G) Φ->Calls Tryz.prog f (Array.mk doC.toList) w (GN W p q d c G K)) :
  Calls Tryz.prog F.dK #[.pointer (some ⟨p.cb,0,none⟩),.int .i64 phase,.func (.func f) #[] doC] w K:=by
 refine (vV p.cb 0 phase f doC (J:=λu w'=>K (.returned u) w') cx λw G cx=>⟨c.stop,cx.get 0 rfl rfl,Br.intro (λh=>λw G cx=>hs h w cx.left) (λh=>λw G cx=>⟨c.now.phase,cx.get 0 rfl rfl,Br.intro (λh2=>λw G cx=>hp h (of_decide_eq_true h2) w cx.left) (λh2=>λw G cx=>⟨hf,?_⟩)⟩)⟩).mono λe w' ⟨v,he,hj⟩=>by rw [he];exact hj
 refine (hdo h (Decidable.not_not.1 (of_decide_eq_false h2)) w G cx).mono λe w' ⟨x,er,lp,lc,S',aF,he,st,cx,h3,h4⟩=>⟨x.last,x.phase,x.check,x.batch,x.mark,x.next,lp,x.lines.length,lc,er,he,fY p q c++(cJ q d++S'),aF,st,cx,λ_=>Br.intro (λh5=>λw G cx=>h3 (of_decide_eq_true h5) w cx.left) (λh5=>?_)⟩
 obtain ⟨hq,hk,hE,hF,hl,hK⟩:=h4 (Decidable.not_not.1 (of_decide_eq_false h5))
 have hT:Has aF RI:=⟨hE.tab⟩
 refine ⟨fY p q c++(cJ q d++S'),aF,st,λw G cx=>cx,some ⟨p.kb,0,none⟩,λw G cx=>⟨_,cx.get 0 rfl rfl,rfl⟩,λw G cx=>(a3T (p:=lp) (cap:=lc) hl hF).use cx λw cx=>⟨_,rfl,fY p q c++(cJ q d++S'),aF,st,cx,λw G cx=>cx,λw G cx=>?_⟩⟩
 refine a3R (S:=.blk p.cb (coB p c) 102 :: (S'++G)) hq hk hE.off (aW6 cx) λu w gG cx=>?_
 unfold fQ at hK
 obtain ⟨⟨d1,c1,e1⟩,hr⟩:∃ r,lQ d c.cell (kY x)=r:=⟨_,rfl⟩
 rw [hr] at gG cx hK ⊢
 simp only at gG cx hK ⊢
 have hK:=hK u
 refine ⟨e1,rfl,.blk p.cb (coB p c) 102 :: l8 p.kb q c1 :: (cJ (q.mv u) d1++S'),aF,st,aM0 cx,Br.intro (λh6=>λw G cx=>?_) (λh6=>Br.intro (λh7=>λw G cx=>?_) (λh7=>absurd (Decidable.not_not.1 (of_decide_eq_false h7)) (of_decide_eq_false h6)))⟩
 ·have h6:=of_decide_eq_true h6
  rw [if_pos h6] at hK
  simp only at hK
  refine ⟨cx.can 0 rfl (by simp),λw' hw'=>⟨.blk p.cb (coB ⟨p.cb,p.kb,lp,lc⟩ ⟨c1,x,c.dN,c.stop⟩) 102 :: l8 p.kb q c1 :: (cJ (q.mv u) d1++S'),aF,st,cx.EY 0 hw' rfl,λw G cx=>⟨cx.can 0 rfl (by simp),λw' hw'=>⟨.blk p.cb (coB ⟨p.cb,p.kb,lp,lc⟩ ⟨c1,x,false,c.stop⟩) 102 :: l8 p.kb q c1 :: (cJ (q.mv u) d1++S'),aF,st,cx.put 0 hw' rfl,Br.intro (λh8=>absurd h6 (of_decide_eq_true h8)) (λ_=>λw G cx=>⟨cx.can 0 rfl (by simp),λw' hw'=>⟨.blk p.cb (coB ⟨p.cb,p.kb,lp,lc⟩ ⟨c1,x,false,false⟩) 102 :: l8 p.kb q c1 :: (cJ (q.mv u) d1++S'),aF,st,cx.put 0 hw' rfl,λw G cx=>?_⟩⟩)⟩⟩⟩⟩
  rw [h6]
  exact hK w gG cx.left
 ·have h7:=of_decide_eq_true h7
  rw [if_neg h7] at hK
  simp only at hK
  have e:XG p lp lc e1=p:=if_neg h7
  rw [e] at hK
  exact ⟨cx.can 0 rfl (by simp),λw' hw'=>⟨.blk p.cb (coB p ⟨c1,c.now,c.dN,decide (e1≠6)⟩) 102 :: l8 p.kb q c1 :: (cJ (q.mv u) d1++S'),aF,st,cx.put 0 hw' rfl,λw G cx=>hK w gG cx.left⟩⟩
theorem a7T [aA Φ] {p:RU} {q:uK} {c:oU}:jU (fY p q c) Φ Tryz.prog F.aS #[.pointer (some ⟨p.cb,0,none⟩)] (.int .i64 c.now.phase) :=
 rX (v8 p.cb 0) λW R=>λw G cx=>⟨_,cx.get 0 rfl rfl,λw G cx=>⟨rfl,cx.left⟩⟩
theorem a7U [aA Φ] {p:RU} {q:uK} {c:oU}:jU (fY p q c) Φ Tryz.prog F.bF #[.pointer (some ⟨p.cb,0,none⟩)] (.int .i64 c.now.last) :=
 rX (vU p.cb 0) λW R=>λw G cx=>⟨_,cx.get 0 rfl rfl,λw G cx=>⟨rfl,cx.left⟩⟩
theorem a7V [aA Φ] {p:RU} {q:uK} {c:oU}:jU (fY p q c) Φ Tryz.prog F.dD #[.pointer (some ⟨p.cb,0,none⟩)] (.string (yK c)):=by
 refine rX (v7 p.cb 0) λW R=>λw G cx=>⟨_,cx.get 0 rfl rfl,Br.intro (λh=>λw G cx=>⟨_,cx.get 0 rfl rfl,λw G cx=>⟨?_,cx.left⟩⟩) (λh=>λw G cx=>⟨_,cx.get 0 rfl rfl,λw G cx=>⟨?_,cx.left⟩⟩)⟩
 ·unfold yK;rw [if_pos (of_decide_eq_true h)]
 ·unfold yK;rw [if_neg (of_decide_eq_false h)]
set_option maxHeartbeats 2000000 in
theorem a0i [aA Φ] (hE:CE Φ) {q:uK} {d:cC} (hq:wK q d) (hk:RT Φ q d) (hlen:∀ k e,mF (bQ d 3).1 3=(some k,e)->k.value.length<=1000000) (cx:Ctx W w (cJ q d++S) Φ) {K:Ending->World->Prop}
  (hn:∀ u w',(iH d 3).2.1=none->wK (q.mv u) (iH d 3).1->Ctx W w' (cJ (q.mv u) (iH d 3).1++S) Φ->K (.returned (.tuple #[.pointer none,.int .i64 (iH d 3).2.2])) w')
  (hs:∀ u p c w',(iH d 3).2.1=some c->(iH d 3).2.2=0->wK (q.mv u) (iH d 3).1->c.now.lines.length<=p.lc/\p.lc<=maxLen->Ctx W w' (fY p q c++(cJ (q.mv u) (iH d 3).1++S)) (λM w=>Φ M w/\CB p c M w)->K (.returned (.tuple #[.pointer (some ⟨p.cb,0,none⟩),.int .i64 0])) w') :
  Calls Tryz.prog F.nM #[.pointer (some ⟨q.db,0,none⟩),.int .i64 3] w K:=by
 refine (P0 q.db 0 3 (J:=λu w'=>K (.returned u) w') cx λw G cx=>?_).mono λe w' ⟨v,he,hj⟩=>by rw [he];exact hj
 refine NA (S:=S++G) hq hk (cx.re (List.append_assoc _ _ _)) λu w hq1 cx=>?_
 have hkeep:=jC d 3
 unfold iH at hn hs
 simp only at hn hs
 obtain ⟨⟨d1,e1⟩,hr⟩:∃ r,bQ d 3=r:=⟨_,rfl⟩
 rw [hr] at hq1 cx hn hs hkeep hlen ⊢
 simp only at hq1 cx hn hs hkeep hlen ⊢
 refine ⟨e1,rfl,cJ (q.mv u) d1++S,Φ,inferInstance,cx.re (List.append_assoc _ _ _).symm,Br.intro (λh=>λw G cx=>?_) (λh=>λw G cx=>?_)⟩
 ·rw [if_pos (of_decide_eq_true h)] at hn
  exact hn u w rfl hq1 cx.left
 rw [if_neg (of_decide_eq_false h)] at hn hs
 simp only at hn hs
 refine ZM (S:=S++G) hq1 hE.off (cx.re (List.append_assoc _ _ _)) (λe w ho cx=>?_) (λk kb w ho cx=>?_)
 ·have vG:yJ d1 3=(none,e):=by unfold yJ;rw [ho]
  rw [vG] at hn
  refine ⟨none,e,rfl,cJ (q.mv u) d1++S,Φ,inferInstance,cx.re (List.append_assoc _ _ _).symm,Br.intro (λh2=>λw G cx=>hn u w rfl hq1 cx.left) (λh2=>?_)⟩
  exfalso
  have h2:e=0:=Decidable.not_not.1 (of_decide_eq_false h2)
  rw [h2] at ho
  unfold mF at ho
  split at ho
  ·rename_i h3
   injection ho with _ h4
   exact h3 h4
  split at ho
  ·injection ho with h4;cases h4
  split at ho
  ·injection ho with _ h4;cases h4
  split at ho
  ·injection ho with _ h4;cases h4
  split at ho
  ·rename_i h3
   injection ho with _ h4
   exact h3 h4
  split at ho
  ·injection ho with _ h4;cases h4
  ·injection ho with h4;cases h4
 have hkl:=hlen k 0 ho
 have vG:yJ d1 3=GD k:=by unfold yJ;rw [ho]
 rw [vG] at hn hs
 refine ⟨some ⟨kb,0,none⟩,0,rfl,l8 kb q k :: (cJ (q.mv u) d1++S),Φ,inferInstance,cx.re (congrArg (_ :: ·) (List.append_assoc _ _ _).symm),Br.intro (λh=>by simp at h) (λ_=>λcb w G cx=>?_)⟩
 refine aDQ (S:=.blk cb (coB ⟨cb,kb,none,0⟩ ⟨k,D6,false,false⟩) 102 :: ((cJ (q.mv u) d1++S)++G)) cx.swap λw cx=>⟨_,_,rfl,l8 kb q k :: .blk cb (coB ⟨cb,kb,none,0⟩ ⟨k,D6,false,false⟩) 102 :: (cJ (q.mv u) d1++S),Φ,inferInstance,cx,Br.intro (λh3=>λw G cx=>?_) (λh3=>λw G cx=>?_)⟩
 ·have h3:¬ k.slot=0:=(λ(this:0<k.slot)=>by omega) (by simpa using h3)
  unfold GD at hn hs
  rw [if_neg h3] at hn hs
  refine a9E hE.num (by omega) cx (λy lp n lc w hrd cx=>?_) (λx lp lc w hrd hF hal hxl hc1 hc2 cx=>?_)
  ·rw [hrd] at hn
   refine ⟨_,_,_,_,_,_,_,_,_,_,rfl,l8 kb q k :: .blk cb (coB ⟨cb,kb,none,0⟩ ⟨k,D6,false,false⟩) 102 :: (cJ (q.mv u) d1++S),Φ,inferInstance,cx,λw G cx=>⟨cx.can 1 rfl (by simp),λw' hw'=>⟨l8 kb q k :: .blk cb [.pointer (some ⟨kb,0,none⟩),.int .i64 y.last,.int .i64 y.phase,.string y.check,.int .i64 y.batch,.int .i64 y.mark,.string y.next,.slice lp n lc,.bool false,.bool false] 102 :: (cJ (q.mv u) d1++S),Φ,inferInstance,cx.EY 1 hw' rfl,Br.intro (λ_=>λw G cx=>hn u w rfl hq1 (Ctx.left (cx.drop1.drop1))) (λh=>by cases h)⟩⟩⟩
  ·rw [hrd] at hs
   have pZ:aA (λM w=>Φ M w/\Sl M w lp x.lines):=inferInstance
   refine ⟨_,_,_,_,_,_,_,_,_,_,rfl,l8 kb q k :: .blk cb (coB ⟨cb,kb,none,0⟩ ⟨k,D6,false,false⟩) 102 :: (cJ (q.mv u) d1++S),_,pZ,cx,λw G cx=>⟨cx.can 1 rfl (by simp),λw' hw'=>⟨l8 kb q k :: .blk cb (coB ⟨cb,kb,lp,lc⟩ ⟨k,x,false,false⟩) 102 :: (cJ (q.mv u) d1++S),_,pZ,cx.EY 1 hw' rfl,Br.intro (λh=>by cases h) (λ_=>λw G cx=>hs u ⟨cb,kb,lp,lc⟩ _ w rfl rfl hq1 ⟨hc1,hc2⟩ (Ctx.left cx).swap)⟩⟩⟩
 ·have h3:k.slot=0:=(λ(this:¬ 0<k.slot)=>by omega) (by simpa using h3)
  unfold GD at hs
  rw [if_pos h3] at hs
  exact hs u ⟨cb,kb,none,0⟩ _ w rfl rfl hq1 ⟨Nat.le_refl _,Nat.zero_le _⟩ ((Ctx.left cx).swap.weak λM w h=>⟨h,Sl.nil⟩)
end
end Go.Proofs.YtfccagphnfceiaaGreatDoor
end

section
namespace Go.Proofs.YtfccagphnfceiaaGreatDoor
open Go.Vc
section
variable {W w:World} {S R G:List Own} {Φ:PW}
theorem a7W [aA Φ] {A B X S G:List Own} (cx:Ctx W w ((A++(B++(X++S)))++G) Φ):Ctx W w ((X++(A++(B++S)))++G) Φ:=cx.perm (List.Perm.append_right G (by
 have:=(List.perm_append_comm (l₁:=A++B) (l₂:=X)).append_right S
 simpa [List.append_assoc] using this))
theorem a1w [aA Φ] {A B X S G:List Own} (cx:Ctx W w ((X++(A++(B++S)))++G) Φ):Ctx W w ((A++(B++(X++S)))++G) Φ:=cx.perm (List.Perm.append_right G (by
 have:=(List.perm_append_comm (l₁:=X) (l₂:=A++B)).append_right S
 simpa [List.append_assoc] using this))
theorem cW {Φ:PW} {b:Nat} {cs:List Value} {M:List Nat} {w:World} {i:Nat} {v:Value} (h:fZ b 0 cs M w) (hv:cs[i]? = some v):w.cell? ⟨b,i,none⟩=some v:=by
 obtain ⟨hi,he⟩:=List.getElem?_eq_some_iff.1 hv
 have:=h.2.1 i hi
 rw [Nat.zero_add] at this
 rw [this,he]
theorem a1x {Ψ:PW} {p:RU} {d:cC} {c:oU} {x:rI} {lp:Option Addr} {lc:Nat} (h1:∀ M w,Ψ M w->Sl M w lp x.lines) (h2:∀ M w,Ψ M w->CB p c M w):∀ M w,Ψ M w->CB (XG p lp lc (fQ d c x).2.2) (fQ d c x).2.1 M w:=λM w h=>by
 unfold fQ
 simp only
 split
 ·exact h1 M w h
 ·rename_i hne
  exact h2 M w h
theorem J7 {K:Ending->World->Prop} {A X S G:List Own} {er:Int} {Ψ:PW} [aA Ψ] (cx:Ctx W w (A++(X++(S++G))) Ψ) (h:∀ w,Ctx W w (A++(X++S)) Ψ->K (.returned (.int .i64 er)) w) :
  DG W G K (.returned (.int .i64 er)) w :=
 ⟨er,rfl,A++(X++S),Ψ,inferInstance,cx.re (by simp),λw G' cx=>h w cx.left⟩
theorem S9 {p:RU} {lp:Option Addr} {lc:Nat} {e:Int}:(XG p lp lc e).cb=p.cb/\(XG p lp lc e).kb=p.kb:=by unfold XG;split<;>exact ⟨rfl,rfl⟩
theorem a6i [aA Φ] {p:Option Addr} {cap:Nat} {L:List aM} {cs:List Value} (src:Src [] Φ p L cs) (hc:YU cs L) (f:FuncId) (cp:Array Value) (g:aM->Bool) (hlen:L.length<=10000000) (hf:qT Tryz.prog f=true)
  (hg:∀ (x:aM) (r:Option Addr) (rc:Nat),x∈L->(∀ M w,Φ M w->Sl M w r x.row)->aU Φ Tryz.prog f (Array.mk (x.v r rc :: cp.toList)) (.bool (g x))) :
  aU Φ Tryz.prog F.dV #[.slice p L.length cap,.func (.func f) #[] cp] (.int .i64 (A1 g 0 L)):=by
 refine dS (nG p L.length cap f cp) λW R=>?_
 refine bY (λn R' aF k=>∃ i:Nat,n=i/\i<=L.length/\R'=R/\aF=Φ/\k=L.length - i/\A1 g 0 L=A1 g i (L.drop i)) ⟨⟨R,Φ,_,inferInstance,λw F c=>c,0,rfl,Nat.zero_le _,rfl,rfl,rfl,rfl⟩,?_⟩
 rintro n R1 bH k _ ⟨i,rfl,hi,rfl,rfl,rfl,WB⟩
 refine Br.intro (λhlt=>?_) (λhge=>λw F cx=>⟨?_,cx.left⟩)
 ·have hlt:i<L.length:=by have:=of_decide_eq_true hlt;omega
  rw [KC g L i hlt] at WB
  obtain ⟨bb,oo,hp⟩:=src.ptr (by omega)
  obtain ⟨r,rc,he,k1,k2,k3⟩:=hc i hlt
  refine ⟨by omega,aJ bb oo hp λw G cx=>⟨L[i].no,L[i].batch,L[i].time,r,L[i].row.length,rc,L[i].n,L[i].iR,L[i].why,by rw [Int.toNat_natCast];exact OQ (S:=[]) (G:=R1++G) src hp cx he,λw G cx=>⟨hf,(hg L[i] r rc (List.getElem_mem _) (λM w h=>UO src hlt he h)).use cx λw cx=>⟨g L[i],rfl,R1,bH,inferInstance,cx,Br.intro (λh=>λw F cx=>⟨?_,cx.left⟩) (λh=>⟨by unfold aR;omega,R1,bH,L.length - (i+1),inferInstance,λw F c=>c,⟨i+1,rfl,hlt,rfl,rfl,rfl,?_⟩,by omega⟩)⟩⟩⟩⟩
  ·rw [WB,if_pos h]
  ·rw [WB,if_neg (by rw [h];simp)]
 ·have hge:i=L.length:=by have:=of_decide_eq_false hge;omega
  rw [WB,hge,List.drop_length]
  rfl
theorem aHk [aA Φ] {p:Option Addr} {cap:Nat} {L:List aM} (hL:∀ M w,Φ M w->Sl M w p L) (f:FuncId) (cp:Array Value) (g:aM->Bool) (hlen:L.length<=10000000) (hf:qT Tryz.prog f=true)
  (hg:∀ (Ψ:PW) [aA Ψ],(∀ M w,Ψ M w->Φ M w)->∀ (x:aM) (r:Option Addr) (rc:Nat),x∈L->(∀ M w,Ψ M w->Sl M w r x.row)->aU Ψ Tryz.prog f (Array.mk (x.v r rc :: cp.toList)) (.bool (g x))) :
  aU Φ Tryz.prog F.dF #[.slice p L.length cap,.func (.func f) #[] cp] (.bool (L.any g)) :=
 ⟨λW w S c=>by
  have K4:=(hL _ _ c.gW).there
  obtain ⟨cs,c1⟩:=QC c (hL _ _ c.gW)
  exact aU.use (dS (lR p L.length cap f cp) λW R=>λw G cx=>(a6i (Φ:=λM w=>Φ M w/\yV p L cs M w) (uU (Φ:=λM w=>Φ M w/\yV p L cs M w) K4 (λM w h=>h.2)) (a2U c1.gW.2.2) f cp g hlen hf (hg (λM w=>Φ M w/\yV p L cs M w) λM w h=>h.1)).WW cx λw G cx=>⟨by rw [H9],cx.left⟩) c1 λw' c=>⟨rfl,c.fst⟩⟩
theorem aM1 [aA Φ] {kb:Nat} {batch:Int} {x:aM} {r:Option Addr} {rc:Nat} (hb:∀ M w,Φ M w->fZ kb 0 [.int .i64 batch] M w) (hr:∀ M w,Φ M w->Sl M w r x.row) :
  aU Φ Tryz.prog F.fJ (Array.mk (x.v r rc :: [.pointer (some ⟨kb,0,none⟩)])) (.bool (a1e batch x)):=by
 refine dS (rG x.no x.batch x.time r x.row.length rc x.n x.iR x.why kb 0) λW R=>λ_ w G cx=>⟨batch,cW (Φ:=Φ) (i:=0) (hb _ _ cx.gW) rfl,Br.intro (λh=>λw G cx=>⟨?_,cx.left⟩) (λh=>λw G cx=>?_)⟩
 ·unfold a1e
  rw [h];rfl
 ·have hh:Has Φ (λM w=>Sl M w r x.row):=⟨hr⟩
  refine (G8 (r:=x.row)).toB cx λw G cx=>⟨?_,cx.left⟩
  unfold a1e
  rw [h];rfl
abbrev aW7 (Φ:PW) (k0 k1 k2 k3 k4:Nat) (cb:Nat) (batch mark:Int) (lp:Option Addr) (ln lc:Nat) (next:ByteArray):PW :=
 λM w=>((((Φ M w/\fZ k4 0 [.string next] M w)/\fZ k3 0 [.slice lp ln lc] M w)/\fZ k2 0 [.int .i64 mark] M w)/\fZ k1 0 [.int .i64 batch] M w)/\fZ k0 0 [.pointer (some ⟨cb,0,none⟩)] M w
set_option maxHeartbeats 4000000 in
theorem a9W [aA Φ] (hE:CE Φ) {p:RU} {q:uK} {d:cC} {c:oU} (hF:∀ M w,Φ M w->CB p c M w) (hq:wK q d) (hk:RT Φ q d) (hw:S7 c.now) {batch mark:Int} {lp:Option Addr} {lc:Nat} {lines:List aM} {next:ByteArray} (hL:∀ M w,Φ M w->Sl M w lp lines) (hlen:lines.length<=1000000)
  (hb:aR batch) (hm:aR mark) (hnx:next.size<=1000000000) (cx:Ctx W w (fY p q c++(cJ q d++S)) Φ) {K:Ending->World->Prop}
  (hK:∀ u p' w',p'.cb=p.cb/\p'.kb=p.kb->wK (q.mv u) (pJ d c batch mark lines next).1->Ctx W w' (fY p' q (pJ d c batch mark lines next).2.1++(cJ (q.mv u) (pJ d c batch mark lines next).1++S)) (λM w=>Φ M w/\CB p' (pJ d c batch mark lines next).2.1 M w)->K (.returned (.int .i64 (pJ d c batch mark lines next).2.2)) w') :
  Calls Tryz.prog F.aD #[.pointer (some ⟨p.cb,0,none⟩),.int .i64 batch,.int .i64 mark,.slice lp lines.length lc,.string next] w K:=by
 refine (vC p.cb 0 batch mark lp lines.length lc next (J:=λu w'=>K (.returned u) w') cx λk0 k1 k2 k3 k4 w G cx=>⟨_,cx.get 4 rfl rfl,λw G cx=>?_⟩).mono λe w' ⟨v,he,hj⟩=>by rw [he];exact hj
 have c5:Ctx W w ((fY p q c++(cJ q d++S))++G) (aW7 Φ k0 k1 k2 k3 k4 p.cb batch mark lp lines.length lc next):=Ctx.G9 (Ctx.G9 (Ctx.G9 (Ctx.G9 (Ctx.G9 cx))))
 obtain ⟨Ω,NM⟩:∃ Ω,aW7 Φ k0 k1 k2 k3 k4 p.cb batch mark lp lines.length lc next=Ω:=⟨_,rfl⟩
 have RV:aA Ω:=by rw [<-NM];infer_instance
 rw [NM] at c5
 have f0:∀ M w,Ω M w->Φ M w:=by rw [<-NM];exact λM w h=>h.1.1.1.1.1
 have f4:∀ M w,Ω M w->fZ k4 0 [.string next] M w:=by rw [<-NM];exact λM w h=>h.1.1.1.1.2
 have f3:∀ M w,Ω M w->fZ k3 0 [.slice lp lines.length lc] M w:=by rw [<-NM];exact λM w h=>h.1.1.1.2
 have f2:∀ M w,Ω M w->fZ k2 0 [.int .i64 mark] M w:=by rw [<-NM];exact λM w h=>h.1.1.2
 have f1:∀ M w,Ω M w->fZ k1 0 [.int .i64 batch] M w:=by rw [<-NM];exact λM w h=>h.1.2
 have fc:∀ M w,Ω M w->fZ k0 0 [.pointer (some ⟨p.cb,0,none⟩)] M w:=by rw [<-NM];exact λM w h=>h.2
 clear NM cx
 have err:∀ er,pJ d c batch mark lines next=(d,c,er)->∀ w,Ctx W w (fY p q c++(cJ q d++(S++G))) Ω->DG W G K (.returned (.int .i64 er)) w:=λer he w cx=>J7 cx λw cx=>by
  have:=hK q.un p w ⟨rfl,rfl⟩
  rw [he] at this
  exact this hq (cx.weak λM w h=>⟨f0 M w h,hF M w (f0 M w h)⟩)
 refine NL (S:=S++G) (K:=DG W G K) (by kernel_rfl) (c5.re (by simp)) (λhs=>err 9 (by unfold pJ zI;rw [if_pos hs])) (λhs hp=>err 7 (by unfold pJ zI;rw [if_neg (by rw [hs];simp),if_pos hp])) (λhs hp w G2 cx=>?_)
 have e0:pJ d c batch mark lines next=if (AU c batch mark lines next).2≠0 then (d,c,(AU c batch mark lines next).2) else fQ d c (AU c batch mark lines next).1:=by
  unfold pJ zI
  rw [if_neg (by rw [hs];simp),if_neg (by simp [hp])]
 refine (sV k1 0 k0 0 k3 0 k2 0 k4 0 (J:=λv w'=>GN W p q d c G2 (DG W G K) (.returned v) w') cx ?_).mono λe w' ⟨v,he,hj⟩=>by rw [he];exact hj
 clear cx
 refine λ_ w G3 cx=>⟨batch,cW (Φ:=Ω) (i:=0) (f1 _ _ cx.gW) rfl,_,cW (Φ:=Ω) (i:=0) (fc _ _ cx.gW) rfl,aJ p.cb 0 rfl ⟨c.now.last,cx.get 0 rfl rfl,Br.intro (λh=>λw G3 cx=>?_) (λh=>λw G3 cx=>?_)⟩⟩
 ·refine ⟨D6,25,none,0,S++G,Ω,rfl,RV,cx.left,λ_=>err 25 (by rw [e0];unfold AU;rw [if_pos (of_decide_eq_true h)];rfl),λh=>by cases h⟩
 have h:=of_decide_eq_false h
 refine ⟨_,_,_,cW (Φ:=Ω) (i:=0) (f3 _ _ cx.gW) rfl,λw G3 cx=>?_⟩
 have aM2:∀ M w,Ω M w->Sl M w lp lines:=λM w h=>hL M w (f0 M w h)
 refine (aHk aM2 F.fJ #[.pointer (some ⟨k1,0,none⟩)] (a1e batch) (by omega) (by kernel_rfl) (λΨ _ M3 x r rc _ hr=>aM1 (Φ:=Ψ) (λM w h=>f1 M w (M3 M w h)) hr)).toB cx (Br.intro (λh2=>λw G3 cx=>?_) (λh2=>?_))
 ·refine ⟨D6,1,none,0,S++G,Ω,rfl,RV,cx.left,λ_=>err 1 (by rw [e0];unfold AU;rw [if_neg h,if_pos h2];rfl),λh=>by cases h⟩
 have e1:pJ d c batch mark lines next=fQ d c ⟨c.now.last,1,c.now.check,batch,mark,next,lines⟩:=by
  have hb:AU c batch mark lines next=(⟨c.now.last,1,c.now.check,batch,mark,next,lines⟩,0):=by unfold AU;rw [if_neg h,if_neg (by rw [h2];simp)]
  rw [e0,hb];rfl
 have hright:∀ y∈lines,eD y.row=true:=λy hy=>by
  have:=List.any_eq_false.1 h2 y hy
  unfold a1e at this
  simp only [Bool.or_eq_true,Bool.not_eq_true',not_or,Bool.not_eq_false] at this
  exact this.2
 have aW8:∀ y∈lines,y.row.length<=1000000:=λy hy=>by have:=GZ (hright y hy);omega
 refine ⟨_,Ω,RV,λw G cx=>cx,some ⟨p.cb,0,none⟩,λw G cx=>⟨_,cW (Φ:=Ω) (i:=0) (fc _ _ cx.gW) rfl,rfl⟩,some ⟨p.cb,0,none⟩,λw G cx=>⟨_,cW (Φ:=Ω) (i:=0) (fc _ _ cx.gW) rfl,rfl⟩,batch,λw G cx=>⟨_,cW (Φ:=Ω) (i:=0) (f1 _ _ cx.gW) rfl,rfl⟩,mark,λw G cx=>⟨_,cW (Φ:=Ω) (i:=0) (f2 _ _ cx.gW) rfl,rfl⟩,next,λw G cx=>⟨_,cW (Φ:=Ω) (i:=0) (f4 _ _ cx.gW) rfl,rfl⟩,λw G3 cx=>⟨_,_,_,cW (Φ:=Ω) (i:=0) (f3 _ _ cx.gW) rfl,aJ p.cb 0 rfl (aJ p.cb 0 rfl ⟨c.now.last,λw G cx=>⟨_,cx.get 0 rfl rfl,rfl⟩,c.now.check,λw G cx=>⟨_,cx.get 0 rfl rfl,rfl⟩,λw G3 cx=>?_⟩)⟩⟩
 have hwl:=aCb (aM2 _ _ cx.gW) hright
 have hh:Has Ω (λM w=>Sl M w lp lines):=⟨aM2⟩
 refine (ZP (l:=lines) hlen aW8).to cx λp1 c1 g1 g2 st1=>⟨λw G cx=>cx.fst,λw G cx=>cx.fst,λw G3 cx=>?_⟩
 have hwn:=hw
 refine ⟨⟨c.now.last,1,c.now.check,batch,mark,next,lines⟩,0,p1,c1,S++G,_,rfl,st1,cx.left,λh=>absurd rfl h,λ_=>⟨hq,hk.weak λM w h=>f0 M w h.1,hE.weak λM w h=>f0 M w h.1,⟨⟨hw.last.2,by show aR 1;unfold aR;decide,hb,hm⟩,by have:=hw.check;show c.now.check.size<=_;omega,hnx,hwl,hlen⟩,λM w h=>h.2,λu w gG cx=>?_⟩⟩
 refine J7 (A:=fY (XG p p1 c1 (fQ d c ⟨c.now.last,1,c.now.check,batch,mark,next,lines⟩).2.2) q (fQ d c ⟨c.now.last,1,c.now.check,batch,mark,next,lines⟩).2.1) (X:=cJ (q.mv u) (fQ d c ⟨c.now.last,1,c.now.check,batch,mark,next,lines⟩).1) cx λw cx=>?_
 rw [<-e1] at gG cx ⊢
 refine hK u _ w S9 gG (cx.weak λM w h=>⟨f0 M w h.1,?_⟩)
 have:=a1x (p:=p) (d:=d) (c:=c) (x:=⟨c.now.last,1,c.now.check,batch,mark,next,lines⟩) (lp:=p1) (lc:=c1) (Ψ:=λM w=>Ω M w/\Sl M w p1 lines) (λM w h=>h.2) (λM w h=>hF M w (f0 M w h.1)) M w h
 rw [<-e1] at this
 exact this
end
end Go.Proofs.YtfccagphnfceiaaGreatDoor
end

section
namespace Go.Proofs.YtfccagphnfceiaaGreatDoor
open Go.Vc
section
variable {W w:World} {S R G:List Own} {Φ:PW} {k:KP} {s:j0} {p:RU} {q:uK} {d:cC} {c:oU} {n:Nat}
theorem QS [aA Φ] [hF:Has Φ (nF k s)] [hC:Has Φ (CB p c)] (hq:AX k s) (hI:WX s) (hs:KZ s n) (hn:n<=400000) (hlen:c.now.lines.length<=400000) (cx:Ctx W w ((dP k s++(fY p q c++R))++G) Φ) {K:Int->List Own->PW->Prop}
  (hk:∀ k':KP,k'.sb=k.sb->AX k' (jV s c.now.batch c.now.lines).2->aA (λM w=>Φ M w/\nF k' (jV s c.now.batch c.now.lines).2 M w)->K (jV s c.now.batch c.now.lines).1 (dP k' (jV s c.now.batch c.now.lines).2++(fY p q c++R)) (λM w=>Φ M w/\nF k' (jV s c.now.batch c.now.lines).2 M w)) :
  Calls Tryz.prog F.eG #[.pointer (some ⟨p.cb,0,none⟩),snk k] w λe w'=>∃ n,e=.returned (.int .i64 n)/\∃ R' aF,aA aF/\Ctx W w' (R'++G) aF/\K n R' aF:=by
 refine (sS p.cb 0 k.sb 0 (R:=(dP k s++(fY p q c++R))++G) (J:=λv w'=>∃ n,v=.int .i64 n/\∃ R' aF,aA aF/\Ctx W w' (R'++G) aF/\K n R' aF) cx ?_).mono λe w' ⟨v,he,n,hv,rest⟩=>⟨n,by rw [he,hv],rest⟩
 clear cx
 refine ⟨_,Φ,inferInstance,λw G cx=>cx,c.now.batch,λw G cx=>⟨_,cx.get 3 rfl rfl,rfl⟩,p.lp,c.now.lines.length,p.lc,λw G cx=>⟨_,_,_,cx.get 3 rfl rfl,rfl⟩,λw G2 cx=>?_⟩
 have hL:Has Φ (λM w=>Sl M w p.lp c.now.lines):=⟨hC.go⟩
 exact a2W (R:=(fY p q c++R)++G) (L:=c.now.lines) (b:=c.now.batch) hq hI hs hn hlen (cx.re (by simp)) λk' hsb KR pZ=>λw G6 cx=>⟨_,rfl,dP k' _++(fY p q c++R),_,pZ,cx.left.re (by simp),hk k' hsb KR pZ⟩
theorem a9X {b:Int} (h:(uT s b).1=4):(uT s b).2=s:=by
 unfold uT at h ⊢
 split at h
 ·cases h
 split at h
 ·cases h
 split at h
 ·rw [if_neg (by assumption),if_neg (by assumption),if_pos (by assumption)]
 ·cases h
set_option maxHeartbeats 2000000 in
theorem a6j [aA Φ] [hF:Has Φ (nF k s)] [hC:Has Φ (CB p c)] (hq:AX k s) (hI:WX s) (hs:KZ s n) (hn:n<=300000) (hlen:c.now.lines.length<=100000) (cx:Ctx W w ((dP k s++(fY p q c++R))++G) Φ) {K:Int->List Own->PW->Prop}
  (hk:∀ (k':KP) (aF:PW),k'.sb=k.sb->AX k' (D8 s c.now.batch c.now.lines).2->aA aF->(∀ M w,aF M w->Φ M w/\nF k' (D8 s c.now.batch c.now.lines).2 M w)->K (D8 s c.now.batch c.now.lines).1 (dP k' (D8 s c.now.batch c.now.lines).2++(fY p q c++R)) aF) :
  Calls Tryz.prog F.gC #[.pointer (some ⟨p.cb,0,none⟩),snk k] w λe w'=>∃ n,e=.returned (.int .i64 n)/\∃ R' aF,aA aF/\Ctx W w' (R'++G) aF/\K n R' aF:=by
 refine (uF p.cb 0 k.sb 0 (R:=(dP k s++(fY p q c++R))++G) (J:=λv w'=>∃ n,v=.int .i64 n/\∃ R' aF,aA aF/\Ctx W w' (R'++G) aF/\K n R' aF) cx ?_).mono λe w' ⟨v,he,n,hv,rest⟩=>⟨n,by rw [he,hv],rest⟩
 clear cx
 obtain ⟨b,hb⟩:∃ b,c.now.batch=b:=⟨_,rfl⟩
 obtain ⟨L,hL0⟩:∃ L,c.now.lines=L:=⟨_,rfl⟩
 have e0:D8 s b L=if (uT s b).1≠4 then uT s b else if (mY s b L).1≠0 then mY s b L else uT (mY s b L).2 b:=rfl
 refine λw G2 cx=>⟨c.now.batch,cx.get 3 rfl rfl,λw G2 cx=>?_⟩
 refine UP (R:=(fY p q c++R)++G) (b:=c.now.batch) hq hI hs (by omega) (cx.re (by simp)) λk1 a36 hq1 st1=>?_
 clear cx
 have h4:=a9X (s:=s) (b:=b)
 rw [hb,hL0] at hk
 rw [hb] at hq1 st1 ⊢
 refine Br.intro (λh=>λw G2 cx=>?_) (λh=>?_)
 ·have h:=of_decide_eq_true h
  rw [e0,if_pos h] at hk
  exact ⟨_,rfl,dP k1 _++(fY p q c++R),_,st1,cx.left.re (by simp),hk k1 _ a36 hq1 st1 λM w h=>h⟩
 have h:=Decidable.not_not.1 (of_decide_eq_false h)
 rw [h4 h] at hq1 st1 ⊢
 rw [e0,if_neg (by rw [h];simp)] at hk
 have hC1:Has (λM w=>Φ M w/\nF k1 s M w) (CB p c):=⟨λM w h=>hC.go M w h.1⟩
 have hF1:Has (λM w=>Φ M w/\nF k1 s M w) (nF k1 s):=⟨λM w h=>h.2⟩
 refine ⟨_,_,st1,λw G cx=>cx,c.now.batch,λw G cx=>⟨_,cx.get 3 rfl rfl,rfl⟩,p.lp,c.now.lines.length,p.lc,λw G cx=>⟨_,_,_,cx.get 3 rfl rfl,rfl⟩,λw G2 cx=>?_⟩
 have hL:Has (λM w=>Φ M w/\nF k1 s M w) (λM w=>Sl M w p.lp c.now.lines):=⟨λM w h=>hC.go M w h.1⟩
 have hps:=aKu (b:=b) (L:=L) hs (show L.length<=100000 by rw [<-hL0];exact hlen)
 have hpi:=aKt hI (b:=b) (L:=L)
 rw [<-a36]
 refine QE (R:=(fY p q c++R)++G) (L:=c.now.lines) (b:=c.now.batch) hq1 hI hs (by omega) (by omega) cx λk2 a38 gG pZ=>?_
 clear cx
 rw [hb,hL0] at gG pZ ⊢
 refine Br.intro (λh=>λw G2 cx=>?_) (λh=>?_)
 ·have h:=of_decide_eq_true h
  rw [if_pos h] at hk
  exact ⟨_,rfl,dP k2 _++(fY p q c++R),_,pZ,cx.left.re (by simp),hk k2 _ (a38.trans a36) gG pZ λM w h=>⟨h.1.1,h.2⟩⟩
 rw [if_neg (of_decide_eq_false h)] at hk
 obtain ⟨s2,hs2⟩:∃ s2,(mY s b L).2=s2:=⟨_,rfl⟩
 rw [hs2] at gG pZ hk hps hpi ⊢
 refine λw G2 cx=>⟨c.now.batch,cx.get 3 rfl rfl,λw G2 cx=>?_⟩
 have hF2:Has (λM w=>(Φ M w/\nF k1 s M w)/\nF k2 s2 M w) (nF k2 s2):=⟨λM w h=>h.2⟩
 rw [<-a38]
 refine UP (R:=(fY p q c++R)++G) (b:=c.now.batch) gG hpi hps (by omega) cx λk3 aEk RY st3=>λw G2 cx=>?_
 rw [hb] at RY st3 cx ⊢
 exact ⟨_,rfl,dP k3 _++(fY p q c++R),_,st3,cx.left.re (by simp),hk k3 _ (aEk.trans (a38.trans a36)) RY st3 λM w h=>⟨h.1.1.1,h.2⟩⟩
theorem aEl [aA Φ] [hF:Has Φ (nF k s)] [hC:Has Φ (CB p c)] (hq:AX k s) (hI:WX s) (hs:KZ s n) (hn:n<=400000) (hlen:c.now.lines.length<=400000) (cx:Ctx W w (dP k s++(fY p q c++S)) Φ) {K:Ending->World->Prop}
  (hk:∀ k' w' aF,k'.sb=k.sb->AX k' (eW c s).2.1->aA aF->(∀ M w,aF M w->Φ M w/\nF k' (eW c s).2.1 M w)->Ctx W w' (dP k' (eW c s).2.1++(fY p q (eW c s).1++S)) aF->K (.returned (.int .i64 (eW c s).2.2)) w') :
  Calls Tryz.prog F.eF #[.pointer (some ⟨p.cb,0,none⟩),snk k] w K:=by
 have same:∀ er,eW c s=(c,s,er)->∀ w,Ctx W w (dP k s++(fY p q c++S)) Φ->K (.returned (.int .i64 er)) w:=λer he w cx=>by
  have:=hk k w (λM w=>Φ M w/\nF k s M w) rfl
  rw [he] at this
  exact this hq inferInstance (λM w h=>h) (cx.weak λM w h=>⟨h,hF.go M w h⟩)
 refine (sR p.cb 0 k.sb 0 (J:=λu w'=>K (.returned u) w') cx λw G cx=>⟨c.stop,cx.get 3 rfl rfl,Br.intro (λh=>λw G cx=>same 9 (by unfold eW;rw [if_pos h]) w cx.left) (λh=>λw G cx=>⟨c.now.phase,cx.get 3 rfl rfl,Br.intro (λh2=>λw G cx=>same 7 (by unfold eW;rw [if_neg (by rw [h];simp),if_pos (of_decide_eq_true h2)]) w cx.left) (λh2=>λw G cx=>?_)⟩)⟩).mono λe w' ⟨v,he,hj⟩=>by rw [he];exact hj
 have e0:eW c s=({ c with dN:=c.dN||decide ((C1 c s).1=0) },(C1 c s).2,(C1 c s).1):=by
  unfold eW
  rw [if_neg (by rw [h];simp),if_neg (of_decide_eq_false h2)]
 rw [e0] at hk
 simp only at hk
 have flag:∀ {er:Int} {k':KP} {s':j0} {A Rl:List Own} {Ψ:PW} [aA Ψ],Rl.Perm (dP k' s'++(fY p q c++(A++S)))->C1 c s=(er,s')->k'.sb=k.sb->AX k' s'->(∀ M w,Ψ M w->Φ M w/\nF k' s' M w)->∀ w G,Ctx W w (Rl++G) Ψ->∃ c42,w.cell? ⟨p.cb,0+8,none⟩=some (.bool c42)/\Br c42 (∀ w G,Ctx W w (Rl++G) Ψ->aE w p.cb (0+8) 1/\∀ w',w'=w.setCell ⟨p.cb,0+8,none⟩ (.bool true)->∃ R1 bH,aA bH/\Ctx W w' (R1++G) bH/\∀ w G,Ctx W w (R1++G) bH->K (.returned (.int .i64 er)) w)
   (∀ w G,Ctx W w (Rl++G) Ψ->aE w p.cb (0+8) 1/\∀ w',w'=w.setCell ⟨p.cb,0+8,none⟩ (.bool (decide (er=0)))->∃ R1 bH,aA bH/\Ctx W w' (R1++G) bH/\∀ w G,Ctx W w (R1++G) bH->K (.returned (.int .i64 er)) w):=fun {er k' s' A Rl Ψ} II hpm hg hsb KR M3 w G cx=>by
  rw [hg] at hk
  simp only at hk
  have drop:∀ {c':oU} {w:World} {G:List Own},Ctx W w ((dP k' s'++(fY p q c'++(A++S)))++G) Ψ->Ctx W w (dP k' s'++(fY p q c'++S)) Ψ:=λcx=>cx.left.sub ((List.Sublist.refl _).append ((List.Sublist.refl _).append (List.sublist_append_right _ _)))
  have cx:=cx.perm (hpm.append_right G)
  refine ⟨c.dN,cx.get 3 rfl rfl,Br.intro (λh=>λw G cx=>?_) (λh=>λw G cx=>?_)⟩
  all_goals have cx:=cx.perm (hpm.append_right G)
  ·refine ⟨cx.can 3 rfl (by simp),λw' hw'=>⟨dP k' s'++(fY p q { c with dN:=true }++(A++S)),Ψ,II,cx.put 3 hw' rfl,λw G cx=>?_⟩⟩
   have:=hk k' w Ψ hsb KR II M3
   rw [h] at this
   exact this (drop cx)
  ·refine ⟨cx.can 3 rfl (by simp),λw' hw'=>⟨dP k' s'++(fY p q { c with dN:=decide (er=0) }++(A++S)),Ψ,II,cx.put 3 hw' rfl,λw G cx=>?_⟩⟩
   have:=hk k' w Ψ hsb KR II M3
   rw [h] at this
   exact this (drop cx)
 refine (a47 (st:=s) (q:=k)).WW cx ?_
 clear cx
 refine Br.intro (λh3=>?_) (λh3=>?_)
 ·have h3:=of_decide_eq_true h3
  have eg:C1 c s=mY s c.now.batch c.now.lines:=by unfold C1;rw [if_pos h3]
  refine ⟨_,Φ,inferInstance,λw G cx=>cx,c.now.batch,λw G cx=>⟨_,cx.get 3 rfl rfl,rfl⟩,p.lp,c.now.lines.length,p.lc,λw G cx=>⟨_,_,_,cx.get 3 rfl rfl,rfl⟩,λw G2 cx=>?_⟩
  have hL:Has Φ (λM w=>Sl M w p.lp c.now.lines):=⟨hC.go⟩
  refine QE (R:=fY p q c++S) (L:=c.now.lines) (b:=c.now.batch) hq hI hs hn hlen cx λk2 a38 gG pZ=>?_
  exact flag (A:=[]) (Rl:=dP k2 (mY s c.now.batch c.now.lines).2++(fY p q c++S)) (Ψ:=λM w=>Φ M w/\nF k2 (mY s c.now.batch c.now.lines).2 M w) (List.Perm.refl _) eg a38 gG (λM w h=>h)
 ·have h3:=of_decide_eq_false h3
  have eg:C1 c s=((jV s c.now.batch c.now.lines).1,s):=by unfold C1;rw [if_neg h3]
  refine λw G2 cx=>aGW (R:=fY p q c++S) hq hs hn cx λk2 gG pZ=>λw G2 cx=>?_
  have hC1:Has (λM w=>Φ M w/\nF k2 s M w) (CB p c):=⟨λM w h=>hC.go M w h.1⟩
  have hF1:Has (λM w=>Φ M w/\nF k2 s M w) (nF k2 s):=⟨λM w h=>h.2⟩
  have cx:Ctx W w ((dP k2 s++(fY p q c++(dP k s++S)))++G2) (λM w=>Φ M w/\nF k2 s M w):=cx.perm (List.Perm.append_right G2 (List.Perm.append_left _ (by
   have:=(List.perm_append_comm (l₁:=dP k s) (l₂:=fY p q c)).append_right S
   simpa [List.append_assoc] using this)))
  refine QS (R:=dP k s++S) gG hI hs hn hlen cx λk3 aEk RY st3=>?_
  clear cx
  obtain ⟨s3,hs3⟩:∃ s3,(jV s c.now.batch c.now.lines).2=s3:=⟨_,rfl⟩
  rw [hs3] at RY st3 ⊢
  refine flag (A:=dP k3 s3) (k':=k) (s':=s) (Ψ:=λM w=>(Φ M w/\nF k2 s M w)/\nF k3 s3 M w) ?_ eg rfl hq (λM w h=>⟨h.1.1,hF.go M w h.1.1⟩)
  have h1:=(List.perm_append_comm (l₁:=dP k3 s3++fY p q c) (l₂:=dP k s)).append_right S
  have h2:(dP k s++(dP k3 s3++fY p q c)++S).Perm (dP k s++(fY p q c++(dP k3 s3++S))):=by
   have:=((List.perm_append_comm (l₁:=dP k3 s3) (l₂:=fY p q c)).append_right S).append_left (dP k s)
   simpa [List.append_assoc] using this
  exact (show (dP k3 s3++(fY p q c++(dP k s++S))).Perm _ by simpa [List.append_assoc] using h1).trans h2
end
end Go.Proofs.YtfccagphnfceiaaGreatDoor
end

