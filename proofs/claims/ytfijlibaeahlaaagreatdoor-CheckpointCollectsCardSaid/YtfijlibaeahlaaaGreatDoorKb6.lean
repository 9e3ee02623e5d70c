/-
 The sort's steps over deltas: swapRange,rotate.
-/
import Derived.Test.YtfijlibaeahlaaaGreatDoorKb4
import Derived.Test.YtfijlibaeahlaaaGreatDoorKb5
import Derived.Test.YtfijlibaeahlaaaGreatDoorKb2
import Derived.Lib.Strings
import Derived.Lib.Walk
import Derived.Lib.AppendZeros
import Derived.Shelf.Strings.Builder1
import Derived.Shelf.Strconv.Itoa3
import Derived.Lib.AppendStr
import Derived.Lib.LaidTab
import Derived.LaidMore
import Derived.OpenShut
import Derived.Stop.Joined
open Go.Proofs.Tryz
set_option linter.unusedVariables false
set_option linter.unusedSimpArgs false
section
namespace Go.Proofs.YtfijlibaeahlaaaGreatDoor
open Go.Vc
abbrev ag(p:Option Addr)(cap:Nat)(es:List aS):Own:=.buf p es.length cap (j5 es) 113 3
theorem F9{W w:World}{S:List Own}{Φ:Y}{p:Option Addr}{cap:Nat}{es:List aS}(B:Ctx W w (ag p cap es :: S) Φ)(h:0<es.length):∃ g,p=some ⟨g,0,none⟩:=by
 obtain ⟨g,hg,_⟩:=B.vD 0 rfl (by rw [BP];omega);exact ⟨g,hg⟩
theorem lZ{W w:World}{S:List Own}{Φ:Y}{g cap:Nat}{es:List aS}(B:Ctx W w (ag (some ⟨g,0,none⟩) cap es :: S) Φ){i:Nat}{X:aS}(hX:es[i]? = some X):aQ w g (i*3) X.cells:=by
 obtain ⟨hi,rfl⟩:=List.getElem?_eq_some_iff.1 hX;exact B.F2 0 rfl rfl (aYc (Un hi))
theorem zK{W w:World}{S:List Own}{Φ:Y}{g cap:Nat}{es:List aS}(B:Ctx W w (ag (some ⟨g,0,none⟩) cap es :: S) Φ){i:Nat}(hi:i<es.length):bJ w g (i*3) 3 :=
 B.Io 0 rfl rfl (by rw [BP];omega)
theorem a6l{W w w':World}{S:List Own}{Φ:Y}[O Φ]{g cap:Nat}{es:List aS}(B:Ctx W w (ag (some ⟨g,0,none⟩) cap es :: S) Φ){i:Nat}(hi:i<es.length)(x:aS)(e:w'=w.setCells g (i*3) x.cells):
  Ctx W w' (ag (some ⟨g,0,none⟩) cap (es.set i x) :: S) Φ:=by
 have h:=B.F1 0 rfl rfl (by rw [BP];omega) (by rw [BP];simp only [List.length_cons,List.length_nil];omega) e;rw [aQc hi] at h;have hl:(es.set i x).length=es.length:=by simp
 unfold ag;rw [hl];exact h
theorem aZD(u x v y z:List aS)(i:Nat)(hx:i<x.length)(hy:i<y.length)(hxy:x.length=y.length):
  swp (u++(y.take i++x.drop i)++v++(x.take i++y.drop i)++z) (u.length+i) (u.length+x.length+v.length+i)=u++(y.take (i+1)++x.drop (i+1))++v++(x.take (i+1)++y.drop (i+1))++z:=by
 have h:=aZE (u++y.take i) x[i] (x.drop (i+1)++v++x.take i) y[i] (y.drop (i+1)++z);have e1:u++(y.take i++x.drop i)++v++(x.take i++y.drop i)++z=(u++y.take i)++x[i] :: ((x.drop (i+1)++v++x.take i)++y[i] :: (y.drop (i+1)++z)):=by
  rw [List.drop_eq_getElem_cons hx,List.drop_eq_getElem_cons hy];simp only [aq,List.cons_append]
 have e2:u++(y.take (i+1)++x.drop (i+1))++v++(x.take (i+1)++y.drop (i+1))++z=(u++y.take i)++y[i] :: ((x.drop (i+1)++v++x.take i)++x[i] :: (y.drop (i+1)++z)):=by
  rw [List.take_succ_eq_append_getElem hx,List.take_succ_eq_append_getElem hy];simp only [aq,List.cons_append,List.nil_append]
 have eE:(u++y.take i).length=u.length+i:=by simp;omega
 have bR:(u++y.take i).length+1+(x.drop (i+1)++v++x.take i).length=u.length+x.length+v.length+i:=by simp;omega
 rw [bR,eE] at h;rw [e1,e2];exact h
theorem PB{W w:World}{S:List Own}{Φ:Y}[O Φ]{g cap:Nat}{es:List aS}{i j:Nat}{X an:aS}(hX:es[i]? = some X)(fJ:es[j]? = some an){w1:World}(B:Ctx W w (ag (some ⟨g,0,none⟩) cap es :: S) Φ)(e:w1=w.setCells g (i*3) an.cells):
  Ctx W w1 (ag (some ⟨g,0,none⟩) cap (es.set i an) :: S) Φ:=by
 obtain ⟨hi,rfl⟩:=List.getElem?_eq_some_iff.1 hX;exact a6l B hi _ e
theorem PC{W w2 w3:World}{S:List Own}{Φ:Y}[O Φ]{g cap:Nat}{es:List aS}{i j:Nat}{X an:aS}(hX:es[i]? = some X)(fJ:es[j]? = some an)(B:Ctx W w2 (ag (some ⟨g,0,none⟩) cap (es.set i an) :: S) Φ)(e:w3=w2.setCells g (j*3) X.cells):
  Ctx W w3 (ag (some ⟨g,0,none⟩) cap (swp es i j) :: S) Φ:=by
 obtain ⟨hi,rfl⟩:=List.getElem?_eq_some_iff.1 hX;obtain ⟨hj,rfl⟩:=List.getElem?_eq_some_iff.1 fJ;rw [De hi hj];exact a6l B (by simpa using hj) _ e
set_option maxHeartbeats 1000000 in
theorem Zc{W w:World}{S:List Own}{Φ:Y}[O Φ]{p:Option Addr}{cap N:Nat}{f:FuncId}{cp:Array Value}(u x v y z:List aS)(hxy:x.length=y.length)(B:Ctx W w (ag p cap (u++x++v++y++z) :: S) Φ)(hN:N=(u++x++v++y++z).length)
  (hlen:(u++x++v++y++z).length<=100000000) {a b n:Int} (ha:a=u.length) (hb:b=u.length+x.length+v.length) (hn:n=x.length) {K:c6}
  (hK:∀ w',Ctx W w' (ag p cap (u++y++v++x++z) :: S) Φ->K (.returned (.tuple #[])) w'):ω F.Mf #[.slice p N cap,.int .i64 a,.int .i64 b,.int .i64 n,.func (.func f) #[] cp] w K:=by
 subst hN ha hb hn;have hl:(u++x++v++y++z).length=u.length+x.length+v.length+x.length+z.length:=by simp;omega
 refine cn (aNE p (u++x++v++y++z).length cap u.length ((u.length:Int)+x.length+v.length) x.length f cp (J:=K∘.returned) B ?_);obtain ⟨E,hE⟩:∃ E:Nat->List aS,∀ i,E i=u++(y.take i++x.drop i)++v++(x.take i++y.drop i)++z:=⟨_,λ_=>rfl⟩;have FM:∀ i,i<=x.length->(E i).length=u.length+x.length+v.length+x.length+z.length:=λi hi=>by rw [hE];simp;omega
 have h0:E 0=u++x++v++y++z:=by rw [hE];simp
 have Wf:E x.length=u++y++v++x++z:=by rw [hE];simp [hxy,List.take_of_length_le,List.drop_of_length_le]
 refine bK (λen R' Z k=>∃ i:Nat,en=i/\i<=x.length/\R'=ag p cap (E i) :: S/\Z=Φ/\k=x.length - i) ⟨⟨_,Φ,_,γ,λw G B=>by rw [h0];exact B,0,rfl,Nat.zero_le _,rfl,rfl,rfl⟩,?_⟩;have hp:0<x.length->∃ g,p=some ⟨g,0,none⟩:=λh=>F9 B (by omega);clear B;rintro en ν θ k _ ⟨i,rfl,hi,rfl,rfl,rfl⟩;refine U.intro (λhlt=>?_) (λhge=>λw G B=>?_)
 .have hlt:i<x.length:=by have:=aD hlt;omega
  have aVI:=FM i (by omega);have a7c:swp (E i) (u.length+i) (u.length+x.length+v.length+i)=E (i+1):=by rw [hE,hE];exact aZD u x v y z i hlt (by omega) hxy
  generalize E i=es at aVI a7c;obtain ⟨X,hX⟩:∃ X,es[u.length+i]? = some X:=⟨_,List.getElem?_eq_getElem (by omega)⟩;obtain ⟨an,fJ⟩:∃ an,es[u.length+x.length+v.length+i]? = some an:=⟨_,List.getElem?_eq_getElem (by omega)⟩;have na:((u.length:Int)+i).toNat=u.length+i:=by omega
  have nb:((u.length:Int)+x.length+v.length+i).toNat=u.length+x.length+v.length+i:=by omega
  obtain ⟨g,rfl⟩:=hp (by omega);refine ⟨[],λ_ _=>True,γ,λw G B=>(B.weak λ_ _ _=>trivial).right,by unfold V;omega,by unfold V;omega,by unfold V;omega,by unfold V;omega,by omega,aL g 0 rfl ⟨by omega,aL g 0 rfl λw G B=>⟨an.d.time,an.p,an.d.row.length,an.c,an.d.n,by rw [Nat.zero_add,nb];exact lZ B fJ,λw G B=>⟨X.d.time,X.p,X.d.row.length,X.c,X.d.n,by rw [Nat.zero_add,na];exact lZ B hX,by omega,aL g 0 rfl λw G B=>⟨by rw [Nat.zero_add,na];exact zK B (by omega),λw' hw'=>?_⟩⟩⟩⟩⟩
  rw [Nat.zero_add,na] at hw';refine ⟨ag (some ⟨g,0,none⟩) cap (es.set (u.length+i) an) :: S,θ,γ,PB hX fJ B hw',λw G B=>(B.weak λ_ _ _=>trivial).right,by omega,aL g 0 rfl λw G B=>⟨by rw [Nat.zero_add,nb];exact zK B (by rw [List.length_set];omega),λw' hw'=>?_⟩⟩;rw [Nat.zero_add,nb] at hw';have bH:=PC hX fJ B hw';rw [a7c] at bH;exact ⟨ag (some ⟨g,0,none⟩) cap (E (i+1)) :: S,θ,γ,bH,λw G B=>(B.weak λ_ _ _=>trivial).right,by unfold V;omega,_,θ,x.length - (i+1),γ,λw G B=>B,⟨i+1,by omega,by omega,rfl,rfl,rfl⟩,by omega⟩
 .have hge:i=x.length:=by have:=aO hge;omega
  subst hge;rw [Wf] at B;exact hK w B.left
set_option maxHeartbeats 1000000 in
theorem aYZ{W w:World}{S:List Own}{Φ:Y}[O Φ]{p:Option Addr}{cap N:Nat}{f:FuncId}{cp:Array Value}(u x y z:List aS)(hx:0<x.length)(hy:0<y.length)(B:Ctx W w (ag p cap (u++x++y++z) :: S) Φ)(hN:N=(u++x++y++z).length)
  (hlen:(u++x++y++z).length<=100000000) {a m b:Int} (ha:a=u.length) (hm:m=u.length+x.length) (hb:b=u.length+x.length+y.length) {K:c6}
  (hK:∀ w',Ctx W w' (ag p cap (u++y++x++z) :: S) Φ->K (.returned (.tuple #[])) w'):ω F.Rj #[.slice p N cap,.int .i64 a,.int .i64 m,.int .i64 b,.func (.func f) #[] cp] w K:=by
 subst hN ha hm hb;have hl:(u++x++y++z).length=u.length+x.length+y.length+z.length:=by simp;omega
 refine cn (aNC p (u++x++y++z).length cap u.length ((u.length:Int)+x.length) ((u.length:Int)+x.length+y.length) f cp (J:=K∘.returned) B ?_);refine ⟨by unfold V;omega,by unfold V;omega,?_⟩;refine bK (λi j R' Z k=>∃ u' X an z':List aS,i=X.length/\j=an.length/\0<X.length/\0<an.length/\u'.length+X.length=u.length+x.length/\u'++an++X++z'=u++y++x++z/\R'=ag p cap (u'++X++an++z') :: S/\Z=Φ/\k=X.length+an.length)
  ⟨⟨_,Φ,_,γ,λw G B=>B,u,x,y,z,by omega,by omega,hx,hy,rfl,rfl,rfl,rfl,rfl⟩,?_⟩
 clear B;rintro _ _ ν θ k _ ⟨u',X,an,z',rfl,rfl,h1,h2,h3,h4,rfl,rfl,rfl⟩;have oh:u'.length+an.length+X.length+z'.length=u.length+x.length+y.length+z.length:=by
  have:=congrArg List.length h4;simp only [List.length_append] at this;omega
 have hN:(u++x++y++z).length=(u'++X++an++z').length:=by simp only [List.length_append];omega
 have hlen':(u'++X++an++z').length<=100000000:=by rw [<-hN];exact hlen
 refine U.intro (λhne=>U.intro (λhgt=>?_) (λhle=>?_)) (λheq=>?_)
 .have hgt:=aD hgt;have hgt:an.length<X.length:=by omega
  have e1:X=X.take an.length++X.drop an.length:=(List.take_append_drop _ _).symm;obtain ⟨A,hA⟩:∃ A,X.take an.length=A:=⟨_,rfl⟩;obtain ⟨υ,hB⟩:∃ υ,X.drop an.length=υ:=⟨_,rfl⟩;have a7Z:A.length=an.length:=by rw [<-hA,List.length_take];omega
  have a7a:υ.length=X.length - an.length:=by rw [<-hB,List.length_drop]
  rw [hA,hB] at e1;refine ⟨by unfold V;omega,λw G B=>?_⟩;refine Zc (S:=S++G) u' A υ an z' a7Z (by rw [e1] at B;exact B.re (by simp)) (by rw [hN,e1];simp) (by rw [e1] at hlen';simpa using hlen') (by omega) (by omega) (by omega) λw B=>⟨rfl,ag p cap ((u'++an)++υ++A++z') :: S,θ,γ,B.re (by simp),by unfold V;omega,_,θ,υ.length+A.length,γ,λw G B=>B,⟨u'++an,υ,A,z',by omega,by omega,by omega,by omega,by simp only [List.length_append];omega,by rw [<-h4,e1];simp,rfl,rfl,rfl⟩,by omega⟩
 .have hle:=aO hle;have hne:=aD hne;have hgt:X.length<an.length:=by omega
  have e1:an=an.take (an.length - X.length)++an.drop (an.length - X.length):=(List.take_append_drop _ _).symm;obtain ⟨A,hA⟩:∃ A,an.take (an.length - X.length)=A:=⟨_,rfl⟩;obtain ⟨υ,hB⟩:∃ υ,an.drop (an.length - X.length)=υ:=⟨_,rfl⟩;have a7Z:A.length=an.length - X.length:=by rw [<-hA,List.length_take];omega
  have a7a:υ.length=X.length:=by rw [<-hB,List.length_drop];omega
  rw [hA,hB] at e1;refine ⟨by unfold V;omega,by unfold V;omega,by unfold V;omega,λw G B=>?_⟩;refine Zc (S:=S++G) u' X A υ z' a7a.symm (by rw [e1] at B;exact B.re (by simp)) (by rw [hN,e1];simp) (by rw [e1] at hlen';simpa using hlen') (by omega) (by omega) (by omega) λw B=>⟨rfl,ag p cap (u'++υ++A++(X++z')) :: S,θ,γ,B.re (by simp),by unfold V;omega,_,θ,υ.length+A.length,γ,λw G B=>B,⟨u',υ,A,X++z',by omega,by omega,by omega,by omega,by omega,by rw [<-h4,e1];simp,rfl,rfl,rfl⟩,by omega⟩
 .have heq:=aO heq;refine ⟨by unfold V;omega,λw G B=>?_⟩;refine Zc (S:=S++G) u' X [] an z' (by omega) (B.re (by simp)) (by rw [hN];simp) (by simpa using hlen') (by omega) (by simp only [List.length_nil];omega) (by omega) λw B=>⟨rfl,ag p cap (u'++an++X++z') :: S,θ,γ,B.re (by simp),λw G B=>hK w ?_⟩;rw [h4] at B;exact B.left
abbrev aQl(x y:aS):Int:=ew x.d y.d
abbrev cE(x y:aS):Prop:=ew x.d y.d<=0
theorem lu:Ord cE:=by
 refine ⟨λx y=>?_,λx y z h1 h2=>?_⟩
 .unfold cE;rw [iW,iW];rcases fH.Rr x.d.key y.d.key with h|h|h
  .exact .inl (by omega)
  .exact .inl (by rw [h,fH.refl];omega)
  .exact .inr (by omega)
 .unfold cE at *;rw [iW] at *;rcases Int.lt_or_eq_of_le h1 with a|a
  .rcases Int.lt_or_eq_of_le h2 with b|b
   .have:=fH.trans _ _ _ a b;omega
   .rw [<-(fH.eq _ _).1 b];omega
  .rw [(fH.eq _ _).1 a];exact h2
theorem Qn{x y:aS}(h:ew x.d y.d<0):cE x y:=by unfold cE;omega
theorem Qm{x y:aS}(h:¬ ew x.d y.d<0):cE y x:=by
 unfold cE;rw [iW] at *;rcases fH.Rr x.d.key y.d.key with h1|h1|h1
 .omega
 .rw [h1,fH.refl];omega
 .omega
def Az(Φ:Y)(f:FuncId)(cp:Array Value)(G:aS->Prop):Prop:=k6 prog f=true/\∀ x y:aS,G x->G y->ay Φ prog f (Array.mk (x.v :: y.v :: cp.toList)) (.int .i64 (aQl x y))
set_option maxHeartbeats 2000000 in
theorem a8u{W w:World}{S:List Own}{Φ:Y}[O Φ]{p:Option Addr}{cap N:Nat}{f:FuncId}{cp:Array Value}{P:aS->Prop}(hf:Az Φ f cp P)(u x z:List aS)(hP:∀ e∈x,P e)(B:Ctx W w (ag p cap (u++x++z) :: S) Φ)(hN:N=(u++x++z).length)
  (hlen:(u++x++z).length<=100000000) {a b:Int} (ha:a=u.length) (hb:b=u.length+x.length) {K:c6}
  (hK:∀ x' w',x'.Perm x->cy cE x'->Ctx W w' (ag p cap (u++x'++z) :: S) Φ->K (.returned (.tuple #[])) w'):ω F.Ri #[.slice p N cap,.int .i64 a,.int .i64 b,.func (.func f) #[] cp] w K:=by
 subst hN ha hb;have hl:(u++x++z).length=u.length+x.length+z.length:=by simp;omega
 refine cn (aNB p (u++x++z).length cap u.length ((u.length:Int)+x.length) f cp (J:=K∘.returned) B ?_);have hp:0<x.length->∃ g,p=some ⟨g,0,none⟩:=λh=>F9 B (by omega);refine ⟨by unfold V;omega,?_⟩;refine bK (λi R' Z k=>∃ (s r:List aS),i=(u.length:Int)+max s.length 1/\(s++r).Perm x/\cy cE s/\(s.length=0->r=[])/\R'=ag p cap (u++s++r++z) :: S/\Z=Φ/\k=r.length)
  ⟨⟨ag p cap (u++x.take 1++x.drop 1++z) :: S,Φ,(x.drop 1).length,γ,λw G B=>B.re (by rw [aq u (x.take 1),List.take_append_drop]),x.take 1,x.drop 1,by rw [List.length_take];omega,by rw [List.take_append_drop],?_,λh=>?_,rfl,rfl,rfl⟩,?_⟩
 .cases x with
  | nil=>simp
  | cons e x=>simp
 .have:x=[]:=by
   cases x with
   | nil=>rfl
   | cons e x=>simp at h
  rw [this];rfl
 clear B;rintro _ ν θ k _ ⟨s,r,rfl,fQ,zW,hnil,rfl,rfl,rfl⟩;have ga:=fQ.length_eq;rw [List.length_append] at ga;refine U.intro (λhlt=>?_) (λhge=>λw G B=>?_)
 .have hlt:=aD hlt;have hs0:0<s.length:=by
   rcases Nat.eq_zero_or_pos s.length with h|h
   .have:=hnil h;rw [this] at ga;simp at ga;omega
   .exact h
  obtain ⟨e,r,rfl⟩:∃ e r',r=e :: r':=by
   cases r with
   | nil=>simp at ga;omega
   | cons e r'=>exact ⟨e,r',rfl⟩
  simp only [List.length_cons] at ga;obtain ⟨g,rfl⟩:=hp (by omega);have Js:P e:=hP e (fQ.mem_iff.1 (by simp));have aVN:∀ y∈s,P y:=λy hy=>hP y (fQ.mem_iff.1 (by simp [hy]));refine bK (λj R' Z k=>∃ s1 s2:List aS,j=(u.length:Int)+s1.length/\s=s1++s2/\(∀ y∈s2,cE e y)/\R'=ag (some ⟨g,0,none⟩) cap (u++s1++e :: s2++r++z) :: S/\Z=θ/\k=s1.length)
   ⟨⟨_,θ,_,γ,λw G B=>B.re (by simp),s,[],by omega,by simp,by simp,rfl,rfl,rfl⟩,?_⟩
  rintro _ ck b7 k _ ⟨s1,s2,rfl,rfl,hle,rfl,rfl,rfl⟩;simp only [List.length_append] at ga hlt hs0;have FM:(u++s1++e :: s2++r++z).length=u.length+s1.length+1+s2.length+r.length+z.length:=by simp;omega
  have next:cy cE (s1++e :: s2)->((u.length:Int)+max (s1++s2).length 1+1=(u.length:Int)+max (s1++e :: s2).length 1)/\((s1++e :: s2)++r).Perm x:=λ_=>by
   refine ⟨by simp only [List.length_append,List.length_cons];omega,?_⟩;refine List.Perm.trans ?_ fQ;simp only [aq,List.cons_append];refine List.Perm.append_left _ ?_;exact (List.perm_middle (l₁:=s2)).symm
  refine ⟨ag (some ⟨g,0,none⟩) cap (u++s1++e :: s2++r++z) :: S,b7,γ,λw G B=>B,U.intro (λhj=>?_) (λhj=>?_)⟩
  .have hj:=aD hj;have hs1:s1≠[]:=λh=>by rw [h] at hj;simp at hj
   obtain ⟨t,y,rfl⟩:∃ t y,s1=t++[y]:=⟨s1.dropLast,s1.getLast hs1,(List.dropLast_concat_getLast hs1).symm⟩;simp only [List.length_append,List.length_cons,List.length_nil] at ga hlt;clear FM;obtain ⟨E,hE⟩:∃ E,u++(t++[y])++e :: s2++r++z=E:=⟨_,rfl⟩;have ng:E=(u++t)++y :: e :: (s2++r++z):=by rw [<-hE];simp
   have hX:E[u.length+t.length+1]? = some e:=by
    rw [ng,List.getElem?_append_right (by simp)];simp
   have fJ:E[u.length+t.length]? = some y:=by
    rw [ng,List.getElem?_append_right (by simp)];simp
   have C6:swp E (u.length+t.length+1) (u.length+t.length)=(u++t)++e :: y :: (s2++r++z):=by
    have h1:=Zd (u++t) y e (s2++r++z);rw [<-h1,ng,List.length_append];have hi:u.length+t.length<((u++t)++y :: e :: (s2++r++z)).length:=by simp
    have hj':u.length+t.length+1<((u++t)++y :: e :: (s2++r++z)).length:=by simp;omega
    rw [De hj' hi,De hi hj',List.set_comm _ _ (by omega)]
   have FM:E.length=u.length+t.length+2+s2.length+r.length+z.length:=by rw [ng];simp;omega
   rw [hE];have n1:((u.length:Int)+((t++[y]).length:Nat)).toNat=u.length+t.length+1:=by simp;omega
   have n2:((u.length:Int)+((t++[y]).length:Nat) - 1).toNat=u.length+t.length:=by simp;omega
   have nl:((t++[y]).length:Int)=t.length+1:=by simp
   have FT:=hf.2 e y Js (aVN y (by simp));refine ⟨by omega,aL g 0 rfl ⟨by unfold V;omega,e.d.time,e.p,e.d.row.length,e.c,e.d.n,λw G B=>⟨_,e.p,_,e.c,_,by rw [Nat.zero_add,n1];exact lZ B hX,rfl⟩,by omega,aL g 0 rfl ⟨y.d.time,y.p,y.d.row.length,y.c,y.d.n,λw G B=>⟨_,y.p,_,y.c,_,by rw [Nat.zero_add,n2];exact lZ B fJ,rfl⟩,λw G B=>⟨hf.1,FT.use B λw B=>⟨_,rfl,ag (some ⟨g,0,none⟩) cap E :: S,b7,γ,B,U.intro (λhc=>?_) (λhc=>?_)⟩⟩⟩⟩⟩
   .have hc:=aD hc;refine ⟨[],λ_ _=>True,γ,λw G B=>(B.weak λ_ _ _=>trivial).right,by unfold V;omega,by unfold V;omega,by omega,aL g 0 rfl ⟨by omega,aL g 0 rfl λw G B=>⟨e.d.time,e.p,e.d.row.length,e.c,e.d.n,by rw [Nat.zero_add,n1];exact lZ B hX,λw G B=>⟨y.d.time,y.p,y.d.row.length,y.c,y.d.n,by rw [Nat.zero_add,n2];exact lZ B fJ,by omega,aL g 0 rfl λw G B=>⟨by rw [Nat.zero_add,n1];exact zK B (by omega),λw' hw'=>?_⟩⟩⟩⟩⟩
    rw [Nat.zero_add,n1] at hw';refine ⟨ag (some ⟨g,0,none⟩) cap (E.set (u.length+t.length+1) y) :: S,b7,γ,PB hX fJ B hw',λw G B=>(B.weak λ_ _ _=>trivial).right,by omega,aL g 0 rfl λw G B=>⟨by rw [Nat.zero_add,n2];exact zK B (by rw [List.length_set];omega),λw' hw'=>?_⟩⟩;rw [Nat.zero_add,n2] at hw';have bH:=PC hX fJ B hw';rw [C6] at bH;refine ⟨ag (some ⟨g,0,none⟩) cap ((u++t)++e :: y :: (s2++r++z)) :: S,b7,γ,bH,λw G B=>(B.weak λ_ _ _=>trivial).right,by unfold V;omega,ag (some ⟨g,0,none⟩) cap (u++t++e :: (y :: s2)++r++z) :: S,b7,t.length,γ,λw G B=>B.re (by simp),⟨t,y :: s2,by omega,by simp,λq hq=>?_,rfl,rfl,rfl⟩,by omega⟩
    rcases List.mem_cons.1 hq with rfl|hq
    .exact Qn hc
    .exact hle q hq
   .have hc:=aO hc;have xG:=Qm hc;have has:cy cE ((t++[y])++e :: s2):=by
     refine OZ zW (λq hq=>?_) hle;have h1:=(List.pairwise_append.1 zW).1;rcases List.mem_append.1 hq with hq|hq
     .exact lu.trans _ _ _ ((List.pairwise_append.1 h1).2.2 q hq y (by simp)) xG
     .rw [List.mem_singleton.1 hq];exact xG
    obtain ⟨q1,iL⟩:=next has
    refine ⟨by unfold V;simp only [List.length_append,List.length_cons,List.length_nil];omega,ag (some ⟨g,0,none⟩) cap (u++(t++[y]++e :: s2)++r++z) :: S,b7,r.length,γ,λw G B=>B.re (by rw [<-hE];simp),⟨t++[y]++e :: s2,r,q1,iL,has,λh=>by simp at h,rfl,rfl,rfl⟩,by simp⟩
  .have hj:=aO hj;have hs1:s1=[]:=List.eq_nil_of_length_eq_zero (by omega);subst hs1;have has:cy cE ([]++e :: s2):=OZ zW (by simp) hle;obtain ⟨q1,iL⟩:=next has
   exact ⟨by unfold V;simp only [List.length_append];omega,ag (some ⟨g,0,none⟩) cap (u++([]++e :: s2)++r++z) :: S,b7,r.length,γ,λw G B=>B.re (by simp),⟨[]++e :: s2,r,q1,iL,has,λh=>by simp at h,rfl,rfl,rfl⟩,by simp⟩
 .have hge:=aO hge;have hr:r=[]:=by
   rcases Nat.eq_zero_or_pos s.length with h|h
   .exact hnil h
   .exact List.eq_nil_of_length_eq_zero (by omega)
  subst hr;rw [List.append_nil] at fQ;exact hK s w fQ zW (B.left.re (by simp))
theorem Re(k:Nat)(h:k<9223372036854775808)(w:World):Sem.run prog (binOp BinOp.shr 65 (.int .u64 (IntKind.u64.wrap (k:Int))) (.int .u64 1)) w=.ok (.int .u64 ((k / 2:Nat):Int)) w:=by
 have e:IntKind.u64.wrap (k:Int)=k:=by simp [IntKind.wrap,IntKind.signed,IntKind.bits];omega
 rw [e];show Sem.run prog (Op.shift .shr .u64 (k:Int) .u64 1) w=_;unfold Op.shift;simp [Sem.run_pure];show (k:Int).fdiv 2=_;rw [Int.fdiv_eq_ediv_of_nonneg _ (by decide)]
theorem NR{k:Nat}(h:k<=1000000000):IntKind.i64.wrap (k:Int)=k:=a8l (by unfold V;omega)
theorem get_at(a:List aS)(e:aS)(b:List aS):(a++e :: b)[a.length]? = some e:=by
 rw [List.getElem?_append_right (Nat.le_refl _)];simp
theorem a7R(a:List aS)(e q:aS)(b:List aS):(a++e :: q :: b)[a.length+1]? = some q:=by
 rw [List.getElem?_append_right (by omega)];simp
theorem a7T{u x y z:List aS}{i:Nat}(h:i<y.length):(u++x++y++z)[u.length+x.length+i]? = some y[i]:=by
 rw [List.getElem?_append_left (by simp;omega),List.getElem?_append_right (by simp),List.length_append,show u.length+x.length+i - (u.length+x.length)=i by omega,List.getElem?_eq_getElem h]
theorem a7S{u x y z:List aS}{i:Nat}(h:i<x.length):(u++x++y++z)[u.length+i]? = some x[i]:=by
 rw [List.getElem?_append_left (by simp;omega),List.getElem?_append_left (by simp;omega),List.getElem?_append_right (by simp),show u.length+i - u.length=i by omega,List.getElem?_eq_getElem h]
theorem aEJ(a:List aS)(x y:aS)(b:List aS){i j:Nat}(hi:i=a.length)(hj:j=a.length+1):swp (a++x :: y :: b) i j=a++y :: x :: b/\swp (a++x :: y :: b) j i=a++y :: x :: b:=by
 subst hi hj;refine ⟨Zd a x y b,?_⟩;have hi:a.length<(a++x :: y :: b).length:=by simp
 have hj:a.length+1<(a++x :: y :: b).length:=by simp
 rw [<-Zd a x y b,De hj hi,De hi hj,List.set_comm _ _ (by omega)]
set_option maxHeartbeats 2000000 in
theorem aZG{W:World}{S:List Own}{Φ:Y}[O Φ]{p:Option Addr}{cap N:Nat}{f:FuncId}{cp:Array Value}{P:aS->Prop}(hf:Az Φ f cp P)(u:List aS)(e:aS)(y z:List aS)(hy:0<y.length)(Js:P e)(Bu:∀ q∈y,P q)(WU:cy cE y)
  (hN:N=(u++[e]++y++z).length) (hlen:(u++[e]++y++z).length<=100000000) {a m b:Int} (ha:a=u.length) (hm:m=(u.length:Int)+1) (hb:b=(u.length:Int)+1+y.length) {K:c6}
  (hK:∀ r w',r.Perm (e :: y)->cy cE r->Ctx W w' (ag p cap (u++r++z) :: S) Φ->K (.returned (.tuple #[])) w') {w:World} (B:Ctx W w (ag p cap (u++[e]++y++z) :: S) Φ) :
  ω F.mI #[.slice p N cap,.int .i64 a,.int .i64 m,.int .i64 b,.func (.func f) #[] cp] w K:=by
 subst hN ha hm hb;have hl:(u++[e]++y++z).length=u.length+1+y.length+z.length:=by simp;omega
 refine cn (T9 p (u++[e]++y++z).length cap u.length ((u.length:Int)+1) ((u.length:Int)+1+y.length) f cp (J:=K∘.returned) B ?_);obtain ⟨g,rfl⟩:=F9 B (by omega);refine ⟨by unfold V;omega,U.intro (λ_=>?_) (λh=>by have:=aO h;omega)⟩;refine bK (λi j R' Z k=>∃ α β:Nat,i=(u.length:Int)+1+α/\j=(u.length:Int)+1+β/\α<=β/\β<=y.length/\(∀ q∈y.take α,cE q e)/\(∀ q∈y.drop β,cE e q)/\R'=ag (some ⟨g,0,none⟩) cap (u++[e]++y++z) :: S/\Z=Φ/\k=β - α)
  ⟨⟨_,Φ,_,γ,λw G B=>B,0,y.length,by omega,by omega,by omega,by omega,by simp,by simp,rfl,rfl,rfl⟩,?_⟩
 clear B;rintro _ _ ν θ k _ ⟨α,β,rfl,rfl,h1,h2,h3,h4,rfl,rfl,rfl⟩;refine U.intro (λhlt=>?_) (λhge=>?_)
 .have hlt:=aD hlt;have KP:α<β:=by omega
  obtain ⟨b8,a8g⟩:∃ b8,(α+β) / 2=b8:=⟨_,rfl⟩;have a8h:α<=b8:=by omega
  have a8i:b8<β:=by omega
  have hsum:((u.length:Int)+1+α+((u.length:Int)+1+β))=((2*(u.length+1)+(α+β):Nat):Int):=by omega
  have K8:(2*(u.length+1)+(α+β)) / 2=u.length+1+b8:=by omega
  have hX:(u++[e]++y++z)[u.length+1+b8]? = some y[b8]:=a7T (x:=[e]) (by omega);have hE:(u++[e]++y++z)[u.length]? = some e:=by simp
  refine ⟨by unfold V;omega,((u.length+1+b8:Nat):Int),λw=>by rw [hsum,<-K8];exact Re _ (by omega) w,?_⟩;rw [NR (by omega)];refine ⟨ag (some ⟨g,0,none⟩) cap (u++[e]++y++z) :: S,θ,γ,λw G B=>B,by omega,aL g 0 rfl ⟨by omega,aL g 0 rfl ⟨y[b8].d.time,y[b8].p,y[b8].d.row.length,y[b8].c,y[b8].d.n,λw G B=>⟨_,y[b8].p,_,y[b8].c,_,by rw [Nat.zero_add,Int.toNat_natCast];exact lZ B hX,rfl⟩,e.d.time,e.p,e.d.row.length,e.c,e.d.n,λw G B=>⟨_,e.p,_,e.c,_,by rw [Nat.zero_add,Int.toNat_natCast];exact lZ B hE,rfl⟩,λw G B=>⟨hf.1,(hf.2 y[b8] e (Bu _ (List.getElem_mem _)) Js).use B λw B=>⟨_,rfl,ag (some ⟨g,0,none⟩) cap (u++[e]++y++z) :: S,θ,γ,B,U.intro (λhc=>?_) (λhc=>?_)⟩⟩⟩⟩⟩
  .have hc:=Qn (aD hc);refine ⟨by unfold V;omega,_,θ,β - (b8+1),γ,λw G B=>B,⟨b8+1,β,by omega,by omega,by omega,h2,λq hq=>?_,h4,rfl,rfl,rfl⟩,by omega⟩;obtain ⟨i,hi,rfl⟩:=List.getElem_of_mem hq;rw [List.length_take] at hi;rw [List.getElem_take];exact lu.trans _ _ _ (ru lu WU (i:=i) (j:=b8) (by omega) (by omega)) hc
  .have hc:=Qm (aO hc);refine ⟨_,θ,b8 - α,γ,λw G B=>B,⟨α,b8,by omega,by omega,by omega,by omega,h3,λq hq=>?_,rfl,rfl,rfl⟩,by omega⟩;obtain ⟨i,hi,rfl⟩:=List.getElem_of_mem hq;rw [List.length_drop] at hi;rw [List.getElem_drop];exact lu.trans _ _ _ hc (ru lu WU (i:=b8) (j:=b8+i) (by omega) (by omega))
 .have hge:=aO hge;have KP:α=β:=by omega
  subst KP;refine bK (λk R' Z kk=>∃ aB:Nat,k=(u.length:Int)+aB/\aB<=α/\R'=ag (some ⟨g,0,none⟩) cap (u++y.take aB++e :: y.drop aB++z) :: S/\Z=θ/\kk=α - aB) ⟨⟨_,θ,_,γ,λw G B=>B,0,by omega,by omega,by simp,rfl,rfl⟩,?_⟩;rintro _ ck b7 kk _ ⟨aB,rfl,aWZ,rfl,rfl,rfl⟩;refine ⟨by unfold V;omega,U.intro (λhlt=>?_) (λhge=>λw G B=>?_)⟩
  .have hlt:=aD hlt;have adO:aB<α:=by omega
   have KQ:aB<y.length:=by omega
   obtain ⟨E,hE⟩:∃ E,u++y.take aB++e :: y.drop aB++z=E:=⟨_,rfl⟩;have ng:E=(u++y.take aB)++e :: y[aB] :: (y.drop (aB+1)++z):=by rw [<-hE,List.drop_eq_getElem_cons KQ];simp only [aq,List.cons_append]
   have Jq:u++y.take (aB+1)++e :: y.drop (aB+1)++z=(u++y.take aB)++y[aB] :: e :: (y.drop (aB+1)++z):=by rw [List.take_succ_eq_append_getElem KQ];simp only [aq,List.cons_append,List.nil_append]
   have q4:(u++y.take aB).length=u.length+aB:=by simp;omega
   have FM:E.length=u.length+1+y.length+z.length:=by rw [ng];simp;omega
   have hX:E[u.length+aB]? = some e:=by rw [ng,<-q4];exact get_at _ _ _
   have fJ:E[u.length+aB+1]? = some y[aB]:=by
    have:=a7R (u++y.take aB) e y[aB] (y.drop (aB+1)++z);rw [q4] at this;rw [ng];exact this
   have C6:=(aEJ (u++y.take aB) e y[aB] (y.drop (aB+1)++z) (i:=u.length+aB) (j:=u.length+aB+1) q4.symm (by omega)).1;rw [<-ng,<-Jq] at C6;rw [hE];have n1:((u.length:Int)+aB).toNat=u.length+aB:=by omega
   have n2:((u.length:Int)+aB+1).toNat=u.length+aB+1:=by omega
   generalize y[aB]=q at hX fJ ng Jq;refine ⟨[],λ_ _=>True,γ,λw G B=>(B.weak λ_ _ _=>trivial).right,by unfold V;omega,by unfold V;omega,by omega,aL g 0 rfl ⟨by omega,aL g 0 rfl λw G B=>⟨e.d.time,e.p,e.d.row.length,e.c,e.d.n,by rw [Nat.zero_add,n1];exact lZ B hX,λw G B=>⟨q.d.time,q.p,q.d.row.length,q.c,q.d.n,by rw [Nat.zero_add,n2];exact lZ B fJ,by omega,aL g 0 rfl λw G B=>⟨by rw [Nat.zero_add,n1];exact zK B (by omega),λw' hw'=>?_⟩⟩⟩⟩⟩
   rw [Nat.zero_add,n1] at hw';refine ⟨ag (some ⟨g,0,none⟩) cap (E.set (u.length+aB) q) :: S,b7,γ,PB hX fJ B hw',λw G B=>(B.weak λ_ _ _=>trivial).right,by omega,aL g 0 rfl λw G B=>⟨by rw [Nat.zero_add,n2];exact zK B (by rw [List.length_set];omega),λw' hw'=>?_⟩⟩;rw [Nat.zero_add,n2] at hw';have bH:=PC hX fJ B hw';rw [C6] at bH;exact ⟨ag (some ⟨g,0,none⟩) cap (u++y.take (aB+1)++e :: y.drop (aB+1)++z) :: S,b7,γ,bH,λw G B=>(B.weak λ_ _ _=>trivial).right,by unfold V;omega,_,b7,α - (aB+1),γ,λw G B=>B,⟨aB+1,by omega,by omega,rfl,rfl,rfl⟩,by omega⟩
  .have hge:=aO hge;have X2:aB=α:=by omega
   subst X2;refine hK (y.take aB++e :: y.drop aB) w ?_ (OZ (by rw [List.take_append_drop];exact WU) h3 h4) (B.left.re (by simp));have h:=List.perm_middle (a:=e) (l₁:=y.take aB) (l₂:=y.drop aB);rw [List.take_append_drop] at h;exact h
set_option maxHeartbeats 2000000 in
theorem aZF{W:World}{S:List Own}{Φ:Y}[O Φ]{p:Option Addr}{cap N:Nat}{f:FuncId}{cp:Array Value}{P:aS->Prop}(hf:Az Φ f cp P)(u x:List aS)(e:aS)(z:List aS)(hx:2<=x.length)(Js:P e)(Bt:∀ q∈x,P q)(WT:cy cE x)
  (hN:N=(u++x++[e]++z).length) (hlen:(u++x++[e]++z).length<=100000000) {a m b:Int} (ha:a=u.length) (hm:m=(u.length:Int)+x.length) (hb:b=(u.length:Int)+x.length+1) {K:c6}
  (hK:∀ r w',r.Perm (x++[e])->cy cE r->Ctx W w' (ag p cap (u++r++z) :: S) Φ->K (.returned (.tuple #[])) w') {w:World} (B:Ctx W w (ag p cap (u++x++[e]++z) :: S) Φ) :
  ω F.mI #[.slice p N cap,.int .i64 a,.int .i64 m,.int .i64 b,.func (.func f) #[] cp] w K:=by
 subst hN ha hm hb;have hl:(u++x++[e]++z).length=u.length+x.length+1+z.length:=by simp;omega
 refine cn (T9 p (u++x++[e]++z).length cap u.length ((u.length:Int)+x.length) ((u.length:Int)+x.length+1) f cp (J:=K∘.returned) B ?_);obtain ⟨g,rfl⟩:=F9 B (by omega);refine ⟨by unfold V;omega,U.intro (λh=>by have:=aD h;omega) (λ_=>⟨by unfold V;omega,U.intro (λ_=>?_) (λh=>by have:=aO h;omega)⟩)⟩;refine bK (λi j R' Z k=>∃ α β:Nat,i=(u.length:Int)+α/\j=(u.length:Int)+β/\α<=β/\β<=x.length/\(∀ q∈x.take α,cE q e)/\(∀ q∈x.drop β,cE e q)/\R'=ag (some ⟨g,0,none⟩) cap (u++x++[e]++z) :: S/\Z=Φ/\k=β - α)
  ⟨⟨_,Φ,_,γ,λw G B=>B,0,x.length,by omega,by omega,by omega,by omega,by simp,by simp,rfl,rfl,rfl⟩,?_⟩
 clear B;rintro _ _ ν θ k _ ⟨α,β,rfl,rfl,h1,h2,h3,h4,rfl,rfl,rfl⟩;refine U.intro (λhlt=>?_) (λhge=>?_)
 .have hlt:=aD hlt;have KP:α<β:=by omega
  obtain ⟨b8,a8g⟩:∃ b8,(α+β) / 2=b8:=⟨_,rfl⟩;have a8h:α<=b8:=by omega
  have a8i:b8<β:=by omega
  have hsum:((u.length:Int)+α+((u.length:Int)+β))=((2*u.length+(α+β):Nat):Int):=by omega
  have K8:(2*u.length+(α+β)) / 2=u.length+b8:=by omega
  have hX:(u++x++[e]++z)[u.length+b8]? = some x[b8]:=a7S (by omega);have hE:(u++x++[e]++z)[u.length+x.length]? = some e:=by simp
  have nm:((u.length:Int)+x.length).toNat=u.length+x.length:=by omega
  refine ⟨by unfold V;omega,((u.length+b8:Nat):Int),λw=>by rw [hsum,<-K8];exact Re _ (by omega) w,?_⟩;rw [NR (by omega)];refine ⟨ag (some ⟨g,0,none⟩) cap (u++x++[e]++z) :: S,θ,γ,λw G B=>B,by omega,aL g 0 rfl ⟨by omega,aL g 0 rfl ⟨e.d.time,e.p,e.d.row.length,e.c,e.d.n,λw G B=>⟨_,e.p,_,e.c,_,by rw [Nat.zero_add,nm];exact lZ B hE,rfl⟩,x[b8].d.time,x[b8].p,x[b8].d.row.length,x[b8].c,x[b8].d.n,λw G B=>⟨_,x[b8].p,_,x[b8].c,_,by rw [Nat.zero_add,Int.toNat_natCast];exact lZ B hX,rfl⟩,λw G B=>⟨hf.1,(hf.2 e x[b8] Js (Bt _ (List.getElem_mem _))).use B λw B=>⟨_,rfl,ag (some ⟨g,0,none⟩) cap (u++x++[e]++z) :: S,θ,γ,B,U.intro (λhc=>?_) (λhc=>?_)⟩⟩⟩⟩⟩
  .have hc:=Qm (x:=e) (y:=x[b8]) (λh=>by rw [decide_eq_true h] at hc;cases hc);refine ⟨by unfold V;omega,_,θ,β - (b8+1),γ,λw G B=>B,⟨b8+1,β,by omega,by omega,by omega,h2,λq hq=>?_,h4,rfl,rfl,rfl⟩,by omega⟩;obtain ⟨i,hi,rfl⟩:=List.getElem_of_mem hq;rw [List.length_take] at hi;rw [List.getElem_take];exact lu.trans _ _ _ (ru lu WT (i:=i) (j:=b8) (by omega) (by omega)) hc
  .have hc:=Qn (show ew e.d x[b8].d<0 by simpa using hc);refine ⟨_,θ,b8 - α,γ,λw G B=>B,⟨α,b8,by omega,by omega,by omega,by omega,h3,λq hq=>?_,rfl,rfl,rfl⟩,by omega⟩;obtain ⟨i,hi,rfl⟩:=List.getElem_of_mem hq;rw [List.length_drop] at hi;rw [List.getElem_drop];exact lu.trans _ _ _ hc (ru lu WT (i:=b8) (j:=b8+i) (by omega) (by omega))
 .have hge:=aO hge;have KP:α=β:=by omega
  subst KP;refine bK (λk R' Z kk=>∃ aB:Nat,k=(u.length:Int)+aB/\α<=aB/\aB<=x.length/\R'=ag (some ⟨g,0,none⟩) cap (u++x.take aB++e :: x.drop aB++z) :: S/\Z=θ/\aB=kk) ⟨⟨ag (some ⟨g,0,none⟩) cap (u++x.take x.length++e :: x.drop x.length++z) :: S,θ,_,γ,λw G B=>B.re (by simp),x.length,by omega,by omega,by omega,rfl,rfl,rfl⟩,?_⟩;rintro _ ck b7 kk _ ⟨aB,rfl,aWZ,adP,rfl,rfl,rfl⟩;refine U.intro (λhlt=>?_) (λhge=>λw G B=>?_)
  .have hlt:=aD hlt;obtain ⟨aB,rfl⟩:∃ j,aB=j+1:=⟨aB - 1,by omega⟩;have KQ:aB<x.length:=by omega
   obtain ⟨E,hE⟩:∃ E,u++x.take (aB+1)++e :: x.drop (aB+1)++z=E:=⟨_,rfl⟩;have ng:E=(u++x.take aB)++x[aB] :: e :: (x.drop (aB+1)++z):=by rw [<-hE,List.take_succ_eq_append_getElem KQ];simp only [aq,List.cons_append,List.nil_append]
   have Jq:u++x.take aB++e :: x.drop aB++z=(u++x.take aB)++e :: x[aB] :: (x.drop (aB+1)++z):=by rw [List.drop_eq_getElem_cons KQ];simp only [aq,List.cons_append]
   have q4:(u++x.take aB).length=u.length+aB:=by simp;omega
   have FM:E.length=u.length+1+x.length+z.length:=by rw [ng];simp;omega
   have hX:E[u.length+aB]? = some x[aB]:=by rw [ng,<-q4];exact get_at _ _ _
   have fJ:E[u.length+aB+1]? = some e:=by
    have:=a7R (u++x.take aB) x[aB] e (x.drop (aB+1)++z);rw [q4] at this;rw [ng];exact this
   have C6:=(aEJ (u++x.take aB) x[aB] e (x.drop (aB+1)++z) (i:=u.length+aB) (j:=u.length+aB+1) q4.symm (by omega)).2;rw [<-ng,<-Jq] at C6;rw [hE];have n1:((u.length:Int)+((aB+1:Nat):Int)).toNat=u.length+aB+1:=by omega
   have n2:((u.length:Int)+((aB+1:Nat):Int) - 1).toNat=u.length+aB:=by omega
   generalize x[aB]=q at hX fJ ng Jq;refine ⟨[],λ_ _=>True,γ,λw G B=>(B.weak λ_ _ _=>trivial).right,by unfold V;omega,by unfold V;omega,by omega,aL g 0 rfl ⟨by omega,aL g 0 rfl λw G B=>⟨e.d.time,e.p,e.d.row.length,e.c,e.d.n,by rw [Nat.zero_add,n1];exact lZ B fJ,λw G B=>⟨q.d.time,q.p,q.d.row.length,q.c,q.d.n,by rw [Nat.zero_add,n2];exact lZ B hX,by omega,aL g 0 rfl λw G B=>⟨by rw [Nat.zero_add,n1];exact zK B (by omega),λw' hw'=>?_⟩⟩⟩⟩⟩
   rw [Nat.zero_add,n1] at hw';refine ⟨ag (some ⟨g,0,none⟩) cap (E.set (u.length+aB+1) q) :: S,b7,γ,PB fJ hX B hw',λw G B=>(B.weak λ_ _ _=>trivial).right,by omega,aL g 0 rfl λw G B=>⟨by rw [Nat.zero_add,n2];exact zK B (by rw [List.length_set];omega),λw' hw'=>?_⟩⟩;rw [Nat.zero_add,n2] at hw';have bH:=PC fJ hX B hw';rw [C6] at bH;exact ⟨ag (some ⟨g,0,none⟩) cap (u++x.take aB++e :: x.drop aB++z) :: S,b7,γ,bH,λw G B=>(B.weak λ_ _ _=>trivial).right,by unfold V;omega,_,b7,aB,γ,λw G B=>B,⟨aB,by omega,by omega,by omega,rfl,rfl,rfl⟩,by omega⟩
  .have hge:=aO hge;have X2:aB=α:=by omega
   subst X2;refine hK (x.take aB++e :: x.drop aB) w ?_ (OZ (by rw [List.take_append_drop];exact WT) h3 h4) (B.left.re (by simp));have h:=List.perm_middle (a:=e) (l₁:=x.take aB) (l₂:=x.drop aB);rw [List.take_append_drop] at h;exact h.trans (List.perm_append_comm (l₁:=[e]))
theorem aEM{x:List aS}(h:x.length=1):∃ e,x=[e]:=by
 match x,h with
 | [e],_=>exact ⟨e,rfl⟩
set_option maxHeartbeats 8000000 in
theorem aIj{W:World}{Φ:Y}[O Φ]{p:Option Addr}{cap N:Nat}{f:FuncId}{cp:Array Value}{P:aS->Prop}(hf:Az Φ f cp P):∀ (k:Nat) {S:List Own} (u x y z:List aS),x.length+y.length<=k->0<x.length->0<y.length->cy cE x->cy cE y->(∀ q∈x,P q)->(∀ q∈y,P q) ->
  N=(u++x++y++z).length->(u++x++y++z).length<=100000000->∀ {a m b:Int},a=u.length->m=(u.length:Int)+x.length->b=(u.length:Int)+x.length+y.length->∀ {K:c6},
  (∀ r w',r.Perm (x++y)->cy cE r->Ctx W w' (ag p cap (u++r++z) :: S) Φ->K (.returned (.tuple #[])) w')->∀ {w:World},Ctx W w (ag p cap (u++x++y++z) :: S) Φ ->
  ω F.mI #[.slice p N cap,.int .i64 a,.int .i64 m,.int .i64 b,.func (.func f) #[] cp] w K:=by
 intro k
 induction k with
 | zero=>intro S u x y z h hx;omega
 | succ k ih =>
 intro S u x y z hk hx0 hy0 KL KN Bt Bu hN hlen a m b ha hm hb K hK w B;by_cases hx1:x.length=1
 .obtain ⟨e,rfl⟩:=aEM hx1;exact aZG hf u e y z hy0 (Bt e (by simp)) Bu KN hN hlen ha (by simpa using hm) (by simpa using hb) hK B
 by_cases hy1:y.length=1
 .obtain ⟨e,rfl⟩:=aEM hy1;exact aZF hf u x e z (by omega) (Bu e (by simp)) Bt KL hN hlen ha hm (by simpa using hb) hK B
 subst ha hm hb;have hl:(u++x++y++z).length=u.length+x.length+y.length+z.length:=by simp;omega
 obtain ⟨H,hH⟩:∃ H,(x.length+y.length) / 2=H:=⟨_,rfl⟩;have acj:2*H<=x.length+y.length:=by omega
 have ack:x.length+y.length<=2*H+1:=by omega
 have hsum:((u.length:Int)+((u.length:Int)+x.length+y.length))=((2*u.length+(x.length+y.length):Nat):Int):=by omega
 have K8:(2*u.length+(x.length+y.length)) / 2=u.length+H:=by omega
 refine cn (T9 p N cap u.length ((u.length:Int)+x.length) ((u.length:Int)+x.length+y.length) f cp (J:=K∘.returned) B ?_);have acr:N=u.length+x.length+y.length+z.length:=by rw [hN,hl]
 obtain ⟨g,hg⟩:=F9 B (by omega);refine ⟨by unfold V;omega,U.intro (λh=>by have:=aD h;omega) (λ_=>⟨by unfold V;omega,U.intro (λh=>by have:=aD h;omega) (λ_=>⟨by unfold V;omega,((u.length+H:Nat):Int),λw=>by rw [hsum,<-K8];exact Re _ (by omega) w,?_⟩)⟩)⟩;rw [NR (by omega)];refine ⟨by unfold V;omega,U.intro (λhgt=>?_) (λhle=>?_)⟩
 case' refine_1 =>
  have hgt:=aD hgt;obtain ⟨rS,pV,aWM⟩:∃ rS pV:Nat,(rS=H - y.length/\pV=H/\y.length<=H/\H<x.length)\/(rS=0/\pV=x.length/\x.length<=H/\H<=y.length):=⟨H - y.length,H,.inl ⟨rfl,rfl,by omega,by omega⟩⟩;have hst:rS=H - y.length/\pV=H:=by omega
  refine ⟨by unfold V;omega,by unfold V;omega,?_⟩
 case' refine_2 =>
  have hle:=aO hle;obtain ⟨rS,pV,hst,aWM⟩:∃ rS pV:Nat,(rS=0/\pV=x.length)/\((rS=H - y.length/\pV=H/\y.length<=H/\H<x.length)\/(rS=0/\pV=x.length/\x.length<=H/\H<=y.length)):=⟨0,x.length,⟨rfl,rfl⟩,.inr ⟨rfl,rfl,by omega,by omega⟩⟩;refine ⟨by unfold V;omega,?_⟩
 all_goals
  have hρ:pV<=H/\pV<=x.length/\rS<=pV:=by omega
  refine bK (λi j R' Z k=>∃ s r:Nat,i=(u.length:Int)+s/\j=(u.length:Int)+r/\rS<=s/\s<=r/\r<=pV/\(∀ c,rS<=c->c<s->∀ (hc:c<x.length) (hd:H - 1 - c<y.length),cE x[c] y[H - 1 - c])/\(∀ c,r<=c->c<pV->∀ (hc:c<x.length) (hd:H - 1 - c<y.length),cE y[H - 1 - c] x[c])/\R'=ag p cap (u++x++y++z) :: S/\Z=Φ/\k=r - s)
   ⟨⟨_,Φ,_,γ,λw G B=>B,rS,pV,by omega,by omega,by omega,by omega,by omega,λc h1 h2=>by omega,λc h1 h2=>by omega,rfl,rfl,rfl⟩,?_⟩
  clear B;rintro _ _ acR θ kk _ ⟨s,r,rfl,rfl,h1,h2,h3,h4,h5,rfl,rfl,rfl⟩;refine U.intro (λhlt=>?_) (λhge=>?_)
  .have hlt:=aD hlt;have zc:s<r:=by omega
   obtain ⟨b8,a8g⟩:∃ b8,(s+r) / 2=b8:=⟨_,rfl⟩;have a8h:s<=b8:=by omega
   have a8i:b8<r:=by omega
   have a8j:b8<x.length:=by omega
   have a8k:H - 1 - b8<y.length:=by omega
   have aWN:((u.length:Int)+s+((u.length:Int)+r))=((2*u.length+(s+r):Nat):Int):=by omega
   have aVt:(2*u.length+(s+r)) / 2=u.length+b8:=by omega
   have hX:(u++x++y++z)[u.length+b8]? = some x[b8]:=a7S a8j;have fJ:(u++x++y++z)[u.length+x.length+(H - 1 - b8)]? = some y[H - 1 - b8]:=a7T a8k;have a8e:∀ (c d:Nat) (h:c<=d) (hd:d<x.length),cE (x[c]'(Nat.lt_of_le_of_lt h hd)) x[d]:=λc d hcd hd=>ru lu KL hcd hd;have a8f:∀ (c d:Nat) (h:c<=d) (hd:d<y.length),cE (y[c]'(Nat.lt_of_le_of_lt h hd)) y[d]:=λc d hcd hd=>ru lu KN hcd hd;have a7g:=Bt x[b8] (List.getElem_mem _)
   have a7h:=Bu y[H - 1 - b8] (List.getElem_mem _);have aIt:∀ c,c<b8+1->∀ (hc:c<x.length),cE x[c] x[b8]:=λc hc fZ=>a8e c b8 (by omega) a8j;have aIu:∀ c,c<b8+1->∀ (hd:H - 1 - c<y.length),cE y[H - 1 - b8] y[H - 1 - c]:=λc hc hd=>a8f (H - 1 - b8) (H - 1 - c) (by omega) hd;have a6g:∀ c,b8<=c->∀ (hc:c<x.length),cE x[b8] x[c]:=λc hc fZ=>a8e b8 c hc fZ;have a6h:∀ c,b8<=c->∀ (hd:H - 1 - c<y.length),cE y[H - 1 - c] y[H - 1 - b8]:=λc hc hd=>a8f (H - 1 - c) (H - 1 - b8) (by omega) a8k
   generalize adJ:x[b8]=X at hX a7g aIt a6g;generalize xG:y[H - 1 - b8]=an at fJ a7h aIu a6h;refine ⟨by unfold V;omega,((u.length+b8:Nat):Int),λw=>by rw [aWN,<-aVt];exact Re _ (by omega) w,?_⟩;rw [NR (by omega:u.length+b8<=1000000000)];have n2:(((u.length+H:Nat):Int)+((u.length:Int)+x.length) - 1 - ((u.length+b8:Nat):Int)).toNat=u.length+x.length+(H - 1 - b8):=by omega
   subst hg;refine ⟨_,θ,γ,λw G B=>B,by unfold V;omega,by omega,aL g 0 rfl ⟨by omega,aL g 0 rfl ⟨X.d.time,X.p,X.d.row.length,X.c,X.d.n,λw G B=>⟨_,X.p,_,X.c,_,by rw [Nat.zero_add,Int.toNat_natCast];exact lZ B hX,rfl⟩,an.d.time,an.p,an.d.row.length,an.c,an.d.n,λw G B=>⟨_,an.p,_,an.c,_,by rw [Nat.zero_add,n2];exact lZ B fJ,rfl⟩,λw G B=>⟨hf.1,(hf.2 an X a7h a7g).use B λw B=>⟨_,rfl,ag (some ⟨g,0,none⟩) cap (u++x++y++z) :: S,θ,γ,B,U.intro (λhc=>?_) (λhc=>?_)⟩⟩⟩⟩⟩
   .have hc:=Qm (x:=an) (y:=X) (λh=>by rw [decide_eq_true h] at hc;cases hc);exact ⟨by unfold V;omega,_,θ,r - (b8+1),γ,λw G B=>B,⟨b8+1,r,by omega,by omega,by omega,by omega,h3,λc ey gY WX WZ=>lu.trans _ _ _ (aIt c gY WX) (lu.trans _ _ _ hc (aIu c gY WZ)),h5,rfl,rfl,rfl⟩,by omega⟩
   .have hc:ew an.d X.d<0:=by simpa using hc
    have hc:=Qn hc;exact ⟨_,θ,b8 - s,γ,λw G B=>B,⟨s,b8,by omega,by omega,by omega,by omega,by omega,h4,λc ey gY WX WZ=>lu.trans _ _ _ (a6h c ey WZ) (lu.trans _ _ _ hc (a6g c ey WX)),rfl,rfl,rfl⟩,by omega⟩
  .have hge:=aO hge;have zc:s=r:=by omega
   subst zc;obtain ⟨t,ht⟩:∃ t,H - s=t:=⟨_,rfl⟩;have u6:s+t=H:=by omega
   have aWP:t<=y.length:=by omega
   have aWL:s<=x.length:=by omega
   have aVo:(((u.length+H:Nat):Int)+((u.length:Int)+x.length) - ((u.length:Int)+s))=(u.length:Int)+x.length+t:=by omega
   have hsplit:=aZH lu KL KN s t aWL aWP
    (λh0 ht'=>by have:=h4 (s - 1) (by omega) (by omega) (by omega) (by omega);simpa [show H - 1 - (s - 1)=t by omega] using this)
    (λh0 hs'=>by have:=h5 s (by omega) (by omega) (by omega) (by omega);simpa [show H - 1 - s=t - 1 by omega] using this)
   obtain ⟨L0,Pg⟩:∃ L0,x.take s=L0:=⟨_,rfl⟩;obtain ⟨R0,Pj⟩:∃ R0,x.drop s=R0:=⟨_,rfl⟩;obtain ⟨dQ,FN⟩:∃ dQ,y.take t=dQ:=⟨_,rfl⟩;obtain ⟨ν,Pk⟩:∃ ν,y.drop t=ν:=⟨_,rfl⟩;have hx2:x=L0++R0:=by rw [<-Pg,<-Pj,List.take_append_drop]
   have KM:y=dQ++ν:=by rw [<-FN,<-Pk,List.take_append_drop]
   have aco:L0.length=s:=by rw [<-Pg,List.length_take];omega
   have acp:dQ.length=t:=by rw [<-FN,List.length_take];omega
   have acs:R0.length=x.length - s:=by rw [<-Pj,List.length_drop]
   have acu:ν.length=y.length - t:=by rw [<-Pk,List.length_drop]
   have WG:cy cE L0:=by rw [<-Pg];exact a4o KL s
   have WH:cy cE dQ:=by rw [<-FN];exact a4o KN t
   have Ju:cy cE R0:=by rw [<-Pj];exact a4n KL s
   have Jv:cy cE ν:=by rw [<-Pk];exact a4n KN t
   rw [Pg,Pj,FN,Pk] at hsplit;have Ph:∀ q∈L0++dQ,P q:=λq hq=>by
    rcases List.mem_append.1 hq with h|h
    .exact Bt q (by rw [hx2];simp [h])
    .exact Bu q (by rw [KM];simp [h])
   have zU:∀ q∈R0++ν,P q:=λq hq=>by
    rcases List.mem_append.1 hq with h|h
    .exact Bt q (by rw [hx2];simp [h])
    .exact Bu q (by rw [KM];simp [h])
   have hend:∀ L r:List aS,L.Perm (L0++dQ)->cy cE L->r.Perm (R0++ν)->cy cE r->∀ (w:World) (G:List Own),Ctx W w (ag p cap (u++L++r++z) :: S++G) θ->K (.returned (.tuple #[])) w:=λL r nh oc a8Y u0 w G B=>by
    refine hK (L++r) w ?_ (a4m oc u0 λq hq q' qj=>hsplit q (nh.mem_iff.1 hq) q' (a8Y.mem_iff.1 qj)) (B.left.re (by simp));rw [hx2,KM];refine (List.Perm.append nh a8Y).trans ?_;simp only [aq];exact List.Perm.append_left _ (List.perm_append_comm_assoc _ _ _)
   have a7e:¬ (0<s/\0<t)->cy cE (L0++dQ):=λh=>by
    rcases Nat.eq_zero_or_pos s with hz|hz
    .rw [List.eq_nil_of_length_eq_zero (l:=L0) (by omega)];exact WH
    .rw [List.eq_nil_of_length_eq_zero (l:=dQ) (by omega),List.append_nil];exact WG
   have Pm:¬ (s<x.length/\t<y.length)->cy cE (R0++ν):=λh=>by
    by_cases hz:s<x.length
    .rw [List.eq_nil_of_length_eq_zero (l:=ν) (by omega),List.append_nil];exact Ju
    .rw [List.eq_nil_of_length_eq_zero (l:=R0) (by omega)];exact Jv
   rw [aVo];have s7:((decide ((u.length:Int)<(u.length:Int)+s)&&decide ((u.length:Int)+s<((u.length+H:Nat):Int)))=true ↔ (0<s/\0<t)):=by
    simp only [Bool.and_eq_true,decide_eq_true_eq];omega
   have s8:((decide (((u.length+H:Nat):Int)<(u.length:Int)+x.length+t)&&decide ((u.length:Int)+x.length+t<(u.length:Int)+x.length+y.length))=true ↔ (s<x.length/\t<y.length)):=by
    simp only [Bool.and_eq_true,decide_eq_true_eq];omega
   have hxl:x.length=L0.length+R0.length:=by omega
   have adK:y.length=dQ.length+ν.length:=by omega
   refine ⟨by unfold V;omega,λw G B=>U.intro (λhro=>λw G B=>?_) (λhro=>λw G B=>?_)⟩
   .simp only [Bool.and_eq_true,decide_eq_true_eq] at hro;refine aYZ (S:=S++G) (u++L0) R0 dQ (ν++z) (by omega) (by omega) (B.re (by rw [hx2,KM];simp)) (hN.trans (by simp only [List.length_append];omega)) (by simp only [List.length_append];omega) (by simp only [List.length_append];omega) (by simp only [List.length_append];omega) (by simp only [List.length_append];omega) λw B=>⟨rfl,ag p cap (u++(L0++dQ)++(R0++ν)++z) :: S,θ,γ,B.re (by simp),λw G B=>?_⟩
    exact U.intro (λh=>λw G B=>ih (S:=S++G) u L0 dQ (R0++ν++z) (by omega) (by have:=s7.1 h;omega) (by have:=s7.1 h;omega) WG WH (λq hq=>Ph q (by simp [hq])) (λq hq=>Ph q (by simp [hq])) (hN.trans (by simp only [List.length_append];omega)) (by simp only [List.length_append];omega) (by omega) (by omega) (by omega) (λL w nh oc B=>by have WI:L.length=L0.length+dQ.length:=(by have:=nh.length_eq;rw [List.length_append] at this;exact this);exact ⟨rfl,ag p cap (u++L++(R0++ν)++z) :: S,θ,γ,B.re (by simp),λw G B=>(U.intro (λh=>λw G B=>ih (S:=S++G) (u++L) R0 ν z (by omega) (by have:=s8.1 h;omega) (by have:=s8.1 h;omega) Ju Jv (λq hq=>zU q (by simp [hq])) (λq hq=>zU q (by simp [hq])) (hN.trans (by simp only [List.length_append];omega)) (by simp only [List.length_append];omega) (by simp only [List.length_append];omega) (by simp only [List.length_append];omega) (by simp only [List.length_append];omega) (λr w hp ha B=>⟨rfl,ag p cap (u++L++r++z) :: S,θ,γ,B,λw G B=>hend L r nh oc hp ha w G B⟩) (B.re (by simp))) (λh=>λw G B=>hend L (R0++ν) nh oc (List.Perm.refl _) (Pm (λhh=>by have:=s8.2 hh;rw [this] at h;cases h)) w G B))⟩) (B.re (by simp))) (λh=>λw G B=>by have oc:cy cE (L0++dQ):=a7e (λhh=>by have:=s7.2 hh;rw [this] at h;cases h);generalize Jr:L0++dQ=L at oc B ⊢;have WI:L.length=L0.length+dQ.length:=(by rw [<-Jr];exact List.length_append);have nh:L.Perm (L0++dQ):=(by rw [Jr]);exact (U.intro (λh=>λw G B=>ih (S:=S++G) (u++L) R0 ν z (by omega) (by have:=s8.1 h;omega) (by have:=s8.1 h;omega) Ju Jv (λq hq=>zU q (by simp [hq])) (λq hq=>zU q (by simp [hq])) (hN.trans (by simp only [List.length_append];omega)) (by simp only [List.length_append];omega) (by simp only [List.length_append];omega) (by simp only [List.length_append];omega) (by simp only [List.length_append];omega) (λr w hp ha B=>⟨rfl,ag p cap (u++L++r++z) :: S,θ,γ,B,λw G B=>hend L r nh oc hp ha w G B⟩) (B.re (by simp))) (λh=>λw G B=>hend L (R0++ν) nh oc (List.Perm.refl _) (Pm (λhh=>by have:=s8.2 hh;rw [this] at h;cases h)) w G B)))
   .have adI:¬ (s<x.length/\0<t):=λh=>by
     have:(decide ((u.length:Int)+s<(u.length:Int)+x.length)&&decide ((u.length:Int)+x.length<(u.length:Int)+x.length+t))=true:=by simp only [Bool.and_eq_true,decide_eq_true_eq];omega
     rw [this] at hro;cases hro
    have hsame:R0++dQ=dQ++R0:=by
     by_cases hz:s<x.length
     .rw [List.eq_nil_of_length_eq_zero (l:=dQ) (by omega)];simp
     .rw [List.eq_nil_of_length_eq_zero (l:=R0) (by omega)];simp
    have heq:u++x++y++z=u++(L0++dQ)++(R0++ν)++z:=by
     rw [hx2,KM];simp only [aq];rw [<-aq R0 dQ,hsame];simp only [aq]
    rw [heq] at B ⊢;exact U.intro (λh=>λw G B=>ih (S:=S++G) u L0 dQ (R0++ν++z) (by omega) (by have:=s7.1 h;omega) (by have:=s7.1 h;omega) WG WH (λq hq=>Ph q (by simp [hq])) (λq hq=>Ph q (by simp [hq])) (hN.trans (by simp only [List.length_append];omega)) (by simp only [List.length_append];omega) (by omega) (by omega) (by omega) (λL w nh oc B=>by have WI:L.length=L0.length+dQ.length:=(by have:=nh.length_eq;rw [List.length_append] at this;exact this);exact ⟨rfl,ag p cap (u++L++(R0++ν)++z) :: S,θ,γ,B.re (by simp),λw G B=>(U.intro (λh=>λw G B=>ih (S:=S++G) (u++L) R0 ν z (by omega) (by have:=s8.1 h;omega) (by have:=s8.1 h;omega) Ju Jv (λq hq=>zU q (by simp [hq])) (λq hq=>zU q (by simp [hq])) (hN.trans (by simp only [List.length_append];omega)) (by simp only [List.length_append];omega) (by simp only [List.length_append];omega) (by simp only [List.length_append];omega) (by simp only [List.length_append];omega) (λr w hp ha B=>⟨rfl,ag p cap (u++L++r++z) :: S,θ,γ,B,λw G B=>hend L r nh oc hp ha w G B⟩) (B.re (by simp))) (λh=>λw G B=>hend L (R0++ν) nh oc (List.Perm.refl _) (Pm (λhh=>by have:=s8.2 hh;rw [this] at h;cases h)) w G B))⟩) (B.re (by simp))) (λh=>λw G B=>by have oc:cy cE (L0++dQ):=a7e (λhh=>by have:=s7.2 hh;rw [this] at h;cases h);generalize Jr:L0++dQ=L at oc B ⊢;have WI:L.length=L0.length+dQ.length:=(by rw [<-Jr];exact List.length_append);have nh:L.Perm (L0++dQ):=(by rw [Jr]);exact (U.intro (λh=>λw G B=>ih (S:=S++G) (u++L) R0 ν z (by omega) (by have:=s8.1 h;omega) (by have:=s8.1 h;omega) Ju Jv (λq hq=>zU q (by simp [hq])) (λq hq=>zU q (by simp [hq])) (hN.trans (by simp only [List.length_append];omega)) (by simp only [List.length_append];omega) (by simp only [List.length_append];omega) (by simp only [List.length_append];omega) (by simp only [List.length_append];omega) (λr w hp ha B=>⟨rfl,ag p cap (u++L++r++z) :: S,θ,γ,B,λw G B=>hend L r nh oc hp ha w G B⟩) (B.re (by simp))) (λh=>λw G B=>hend L (R0++ν) nh oc (List.Perm.refl _) (Pm (λhh=>by have:=s8.2 hh;rw [this] at h;cases h)) w G B)))
theorem a63{cs:List (List aS)}{bs:Nat}{c:List aS}(h:∀ d∈cs,d.length=bs/\cy cE d)(h1:c.length=bs)(h2:cy cE c):∀ d∈cs++[c],d.length=bs/\cy cE d:=λd hd=>by
 rcases List.mem_append.1 hd with hd|hd
 .exact h d hd
 .rw [List.mem_singleton.1 hd];exact ⟨h1,h2⟩
theorem zQ(cs:List (List aS))(c:List aS):(cs++[c]).flatten=cs.flatten++c:=by simp
theorem aV5{cs:List (List aS)}{bs:Nat}(h0:0<bs)(h:∀ d∈cs,d.length=bs/\cy cE d)(hl:cs.flatten.length=0):cs=[]:=by
 cases cs with
 | nil=>rfl
 | cons c cs =>
  have:=(h c (by simp)).1;rw [List.flatten_cons,List.length_append] at hl;omega
set_option maxHeartbeats 4000000 in
theorem aZ2{W w:World}{S:List Own}{Φ:Y}[O Φ]{p:Option Addr}{cap:Nat}{f:FuncId}{cp:Array Value}{P:aS->Prop}(hf:Az Φ f cp P)(es:List aS)(hP:∀ e∈es,P e)(B:Ctx W w (ag p cap es :: S) Φ)
  (hlen:es.length<=100000000) {K:c6} (hK:∀ es' w',es'.Perm es->cy cE es'->Ctx W w' (ag p cap es' :: S) Φ->K (.returned (.tuple #[])) w') :
  ω F.ZY #[.slice p es.length cap,.int .i64 es.length,.func (.func f) #[] cp] w K:=by
 refine cn (aND p es.length cap es.length f cp (J:=K∘.returned) B ?_);refine bK (λa b R' Z k=>∃ (cs:List (List aS)) (rest:List aS),a=cs.flatten.length/\b=(cs.flatten.length:Int)+20/\(∀ c∈cs,c.length=20/\cy cE c)/\(cs.flatten++rest).Perm es/\R'=ag p cap (cs.flatten++rest) :: S/\Z=Φ/\k=rest.length)
  ⟨⟨_,Φ,_,γ,λw G B=>B,[],es,rfl,rfl,by simp,List.Perm.refl _,rfl,rfl,rfl⟩,?_⟩
 clear B;rintro _ _ ν θ k _ ⟨cs,rest,rfl,rfl,hcs,fQ,rfl,rfl,rfl⟩;have ga:=fQ.length_eq;rw [List.length_append] at ga;have Jt:∀ q∈rest,P q:=λq hq=>hP q (fQ.mem_iff.1 (by simp [hq]));refine U.intro (λhle=>λw G B=>?_) (λhgt=>λw G B=>?_)
 .have hle:=aD hle;have tv:(rest.take 20).length=20:=by rw [List.length_take];omega
  have oh:(rest.drop 20).length=rest.length - 20:=by rw [List.length_drop]
  refine a8u (S:=S++G) hf cs.flatten (rest.take 20) (rest.drop 20) (λq hq=>Jt q (List.mem_of_mem_take hq)) (B.re (by simp)) (by simp only [List.length_append];omega) (by simp only [List.length_append];omega) rfl (by omega) λx' w hp ha B=>?_;have hx':x'.length=20:=by rw [hp.length_eq,tv]
  refine ⟨rfl,ag p cap ((cs++[x']).flatten++rest.drop 20) :: S,θ,γ,B.re (by rw [zQ];rfl),by unfold V;omega,_,θ,(rest.drop 20).length,γ,λw G B=>B,⟨cs++[x'],rest.drop 20,by rw [zQ,List.length_append];omega,by rw [zQ,List.length_append];omega,a63 hcs hx' ha,?_,rfl,rfl,rfl⟩,by omega⟩;refine List.Perm.trans ?_ fQ;rw [zQ,aq];refine List.Perm.append_left _ ((List.Perm.append_right _ hp).trans ?_);rw [List.take_append_drop]
 have hgt:=aO hgt;refine a8u (S:=S++G) hf cs.flatten rest [] Jt (B.re (by simp)) (by simp only [List.length_append,List.length_nil];omega) (by simp only [List.length_append,List.length_nil];omega) rfl (by omega) λx' w hp ha B=>?_;have hx':=hp.length_eq;refine ⟨rfl,ag p cap (cs.flatten++x') :: S,θ,γ,B.re (by simp),?_⟩;refine bK (λbs R' Z k=>∃ (b:Nat) (cs:List (List aS)) (rest:List aS),bs=b/\20<=b/\b<=200000000/\(∀ c∈cs,c.length=b/\cy cE c)/\cy cE rest/\rest.length<b/\(cs.flatten++rest).Perm es/\R'=ag p cap (cs.flatten++rest) :: S/\Z=θ/\k=es.length - b)
  ⟨⟨_,θ,_,γ,λw G B=>B,20,cs,x',rfl,by omega,by omega,hcs,ha,by omega,(List.Perm.append_left _ hp).trans fQ,rfl,rfl,rfl⟩,?_⟩
 clear B hx' ha hp hcs fQ Jt ga hgt;rintro _ ck b7 k _ ⟨b,cs,rest,rfl,ad2,ad5,hcs,u0,hrl,fQ,rfl,rfl,rfl⟩;have ga:=fQ.length_eq;rw [List.length_append] at ga;refine U.intro (λhlt=>?_) (λhge=>λw G B=>?_)
 .have hlt:=aD hlt;refine ⟨by unfold V;omega,?_⟩;refine bK (λa e R' Z k=>∃ (ds cs:List (List aS)),a=ds.flatten.length/\e=(ds.flatten.length:Int)+2*b/\(∀ d∈ds,d.length=2*b/\cy cE d)/\(∀ c∈cs,c.length=b/\cy cE c)/\(ds.flatten++(cs.flatten++rest)).Perm es/\R'=ag p cap (ds.flatten++(cs.flatten++rest)) :: S/\Z=b7/\k=cs.length)
   ⟨⟨_,b7,_,γ,λw G B=>B,[],cs,rfl,by simp,by simp,hcs,fQ,rfl,rfl,rfl⟩,?_⟩
  clear hcs fQ ga;rintro _ _ eT fD k _ ⟨ds,cs,rfl,rfl,hds,hcs,fQ,rfl,rfl,rfl⟩;have ga:=fQ.length_eq;rw [List.length_append,List.length_append] at ga;have WJ:∀ c∈cs,∀ q∈c,P q:=λc hc q hq=>hP q (fQ.mem_iff.1 (by
   simp only [List.mem_append,List.mem_flatten];exact .inr (.inl ⟨c,hc,hq⟩)))
  have Jt:∀ q∈rest,P q:=λq hq=>hP q (fQ.mem_iff.1 (by simp [hq]));refine U.intro (λhle=>?_) (λhgt=>?_)
  .have hle:=aD hle;obtain ⟨c1,c2,cs,rfl⟩:∃ c1 c2 cs',cs=c1 :: c2 :: cs':=by
    match cs,hcs,ga with
    | [],_,ga=>simp only [List.flatten_nil,List.flatten_cons,List.length_nil,List.length_append] at ga;omega
    | [c],hcs,ga=>have:=(hcs c (by simp)).1;simp only [List.flatten_nil,List.flatten_cons,List.length_nil,List.length_append] at ga;omega
    | c1 :: c2 :: cs',_,_=>exact ⟨c1,c2,cs',rfl⟩
   obtain ⟨ey,ni⟩:=hcs c1 (by simp);obtain ⟨gY,qh⟩:=hcs c2 (by simp);simp only [List.flatten_cons,List.length_append] at ga;refine ⟨by unfold V;omega,λw G B=>?_⟩;refine aIj (S:=S++G) hf _ ds.flatten c1 c2 (cs.flatten++rest) (Nat.le_refl _) (by omega) (by omega) ni qh (WJ c1 (by simp)) (WJ c2 (by simp)) (by simp only [List.length_append];omega) (by simp only [List.length_append];omega) rfl (by omega) (by omega) (λr w hp ha B=>?_) (B.re (by simp))
   have a8W:r.length=2*b:=by rw [hp.length_eq,List.length_append];omega
   refine ⟨rfl,ag p cap ((ds++[r]).flatten++(cs.flatten++rest)) :: S,fD,γ,B.re (by rw [zQ];rfl),by unfold V;omega,by unfold V;omega,_,fD,cs.length,γ,λw G B=>B,⟨ds++[r],cs,by rw [zQ,List.length_append];omega,by rw [zQ,List.length_append];omega,a63 hds a8W ha,λc hc=>hcs c (by simp [hc]),?_,rfl,rfl,rfl⟩,by simp;omega⟩;refine List.Perm.trans ?_ fQ;rw [zQ,aq];refine List.Perm.append_left _ ((List.Perm.append_right _ hp).trans (List.Perm.of_eq ?_))
   simp
  .have hgt:=aO hgt;have a8a:(cs=[]/\rest.length=rest.length)\/∃ c,cs=[c]:=by
    match cs,hcs,ga with
    | [],_,_=>exact .inl ⟨rfl,rfl⟩
    | [c],_,_=>exact .inr ⟨c,rfl⟩
    | c1 :: c2 :: cs',hcs,ga =>
     have h1:=(hcs c1 (by simp)).1;have h2:=(hcs c2 (by simp)).1;simp only [List.flatten_cons,List.length_append] at ga;omega
   refine ⟨by unfold V;omega,U.intro (λhm=>λw G B=>?_) (λhm=>⟨by unfold V;omega,?_⟩)⟩
   .have hm:=aD hm;obtain ⟨c,rfl⟩:∃ c,cs=[c]:=by
     rcases a8a with ⟨rfl,_⟩|h
     .simp only [List.flatten_nil,List.flatten_cons,List.length_nil,List.length_append] at ga;omega
     .exact h
    obtain ⟨ey,ni⟩:=hcs c (by simp);simp only [List.flatten_cons,List.flatten_nil,List.append_nil] at ga;refine aIj (S:=S++G) hf _ ds.flatten c rest [] (Nat.le_refl _) (by omega) (by omega) ni u0 (WJ c (by simp)) Jt (by simp only [List.length_append,List.length_nil];omega) (by simp only [List.length_append,List.length_nil];omega) rfl (by omega) (by omega) (λr w hp ha B=>?_) (B.re (by simp));have a8W:r.length=b+rest.length:=by rw [hp.length_eq,List.length_append];omega
    refine ⟨rfl,ag p cap (ds.flatten++r) :: S,fD,γ,B.re (by simp),by unfold V;omega,_,fD,es.length - 2*b,γ,λw G B=>B,⟨2*b,ds,r,by omega,by omega,by omega,hds,ha,by omega,?_,rfl,rfl,rfl⟩,by omega⟩;refine List.Perm.trans (List.Perm.append_left _ hp) (List.Perm.trans (List.Perm.of_eq ?_) fQ);simp
   .have hm:=aO hm;rcases a8a with ⟨rfl,_⟩|⟨c,rfl⟩
    .exact ⟨ag p cap (ds.flatten++rest) :: S,fD,es.length - 2*b,γ,λw G B=>B,⟨2*b,ds,rest,by omega,by omega,by omega,hds,u0,by omega,fQ,rfl,rfl,rfl⟩,by omega⟩
    .obtain ⟨ey,ni⟩:=hcs c (by simp);simp only [List.flatten_cons,List.flatten_nil,List.append_nil] at ga fQ;have hr:rest=[]:=List.eq_nil_of_length_eq_zero (by omega);subst hr;rw [List.append_nil] at fQ;exact ⟨ag p cap (ds.flatten++c) :: S,fD,es.length - 2*b,γ,λw G B=>B.re (by simp),⟨2*b,ds,c,by omega,by omega,by omega,hds,ni,by omega,fQ,rfl,rfl,rfl⟩,by omega⟩
 .have hge:=aO hge;refine hK (cs.flatten++rest) w fQ ?_ B.left;cases cs with
  | nil=>exact u0
  | cons c cs =>
   have h1:=(hcs c (by simp)).1;rw [List.flatten_cons,List.length_append] at ga;have h2:cs=[]:=aV5 (by omega) (λd hd=>hcs d (by simp [hd])) (by omega);have h3:rest=[]:=List.eq_nil_of_length_eq_zero (by omega);subst h2 h3;simpa using (hcs c (by simp)).2
theorem aPl{W w:World}{S:List Own}{Φ:Y}[O Φ]{p:Option Addr}{cap:Nat}{f:FuncId}{cp:Array Value}{P:aS->Prop}(hf:Az Φ f cp P)(es:List aS)(hP:∀ e∈es,P e)(B:Ctx W w (ag p cap es :: S) Φ)
  (hlen:es.length<=100000000) {K:c6} (hK:∀ es' w',es'.Perm es->cy cE es'->Ctx W w' (ag p cap es' :: S) Φ->K (.returned (.tuple #[])) w') :
  ω F.ZX #[.slice p es.length cap,.func (.func f) #[] cp] w K:=by
 refine cn (aNA p es.length cap f cp (J:=K∘.returned) B ?_);exact λw G B=>aZ2 (S:=S++G) hf es hP B hlen λes' w hp ha B=>⟨rfl,ag p cap es' :: S,Φ,γ,B,λw G B=>hK es' w hp ha B.left⟩
end Go.Proofs.YtfijlibaeahlaaaGreatDoor
end

section
namespace Go.Vc
open Go.ChangeShapes Go.WideShapes Go.RowKit
section
variable {H:Type}{enc:TypeId × Value->H}{P:Program}{W:World}
theorem aEP{α:Type}[ι α](d:Nat){t:TypeId}{v:Value}{x:DataW H}{ps:List MemPlace}(hty:eD.is P d (ι.ty α) t=true)(h:DataW.Trod enc P W 0 (λ_=>true) true t v x ps):∃ y:α,ι.rep [] W v.cells.toList y:=by
 obtain ⟨fuel,h⟩:=h;exact ι.opens.ap hty h
theorem aXu{α:Type}[ι α](d:Nat){t:TypeId}{v:Value}{r:Reach}{base:Nat}{x:DataW H}{ps:List MemPlace}{fs:Array Field}(ht:P.underlying t=some (.struct fs))(hv:Value.okWide P W r base t v)(hty:eD.is P d (ι.ty α) t=true)
  (h:DataW.Trod enc P W 0 (λ_=>true) true t v x ps):∃ (cs:List Value) (y:α),v=.agg cs.toArray/\ι.rep [] W cs y:=by
 obtain ⟨cs,rfl,_⟩:=okWide_struct ht hv;obtain ⟨y,hy⟩:=aEP (α:=α) d hty h;exact ⟨cs.toList,y,by simp,hy⟩
theorem aXv{α:Type}[ι α](d:Nat){t e:TypeId}{v:Value}{r:Reach}{base:Nat}{x:DataW H}{ps:List MemPlace}(ht:P.underlying t=some (.slice e))(hv:Value.okWide P W r base t v)(hty:eD.is P d (ι.ty (List α)) t=true)
  (h:DataW.Trod enc P W 0 (λ_=>true) true t v x ps):∃ (p:Option Addr) (cap:Nat) (l:List α),v=.slice p l.length cap/\l.length<=cap/\cap<=maxLen/\ζ [] W p l:=by
 obtain ⟨a,len,cap,rfl⟩:=okWide_slice ht hv;obtain ⟨l,hl⟩:=aEP (α:=List α) d hty h;obtain ⟨p,c,e,h1,h2,h3⟩:=MN.1 hl;simp only [Value.cells,List.cons.injEq,Value.slice.injEq,and_true] at e;obtain ⟨rfl,rfl,rfl⟩:=e;exact ⟨a,cap,l,rfl,h1,h2,h3⟩
theorem ay.law{Φ:Y}{f:FuncId}{args:Array Value}(h:ay Φ P f args (.bool true))(h0:Φ [] W):Calls P f args W λe W'=>∃ u,e=.returned u/\(u=.bool true/\bD [] W W') :=
 (h.go W W [] (Ctx.start W h0)).mono λe w' ⟨h1,h2⟩=>⟨_,h1,rfl,h2.nY⟩
end
end Go.Vc
end

section
namespace Go.Proofs.YtfijlibaeahlaaaGreatDoor
open Go.Vc
set_option maxHeartbeats 1000000 in
set_option maxRecDepth 100000 in
theorem bytealg_CompareString(a b:ByteArray)(w:World):
  Calls prog 154 #[.string a,.string b] w λe w'=>e=.returned (.int .i64 (Lib.compareBytes a.data.toList b.data.toList))/\w'=w:=by
 go_enter func154,Tryz.ntmps154
 go_wp2
 rw [run_callFunc_extern func166 (by kernel_rfl) (by kernel_rfl) (by kernel_rfl) (e:=Extern.BytealgCompare.compare) (by kernel_rfl),Lib.run_compareString];simp only [Result.andThen];rw [Oper.upon_value]
 go_wp2
 go_ret
 exact ⟨rfl,rfl⟩
set_option maxHeartbeats 1000000 in
theorem strings_Compare(a b:ByteArray)(w:World):
  Calls prog 139 #[.string a,.string b] w λe w'=>e=.returned (.int .i64 (Lib.compareBytes a.data.toList b.data.toList))/\w'=w:=by
 go_enter func139,Tryz.ntmps139
 go_wp2_with (go_at_call 154;refine (bytealg_CompareString _ _ _).mono ?_;rintro e w' ⟨rfl,rfl⟩)
 go_ret
 exact ⟨rfl,rfl⟩
theorem xw{M:List Nat}{w:World}{b o:Nat}{l:List bF}(h:ζ M w (some ⟨b,o,none⟩) l){i:Nat}(hi:i<l.length):aQ w b (o+i*3) [.int .i64 l[i].kind,.int .i64 l[i].num,.string l[i].text]:=by
 obtain ⟨b',o',cs,e,_,h3,_,_,rfl,⟨rfl,_⟩,_,_,rfl,⟨rfl,_⟩,rfl,_⟩:=h i hi;cases e;exact h3
theorem Mc{M:List Nat}{w:World}{b o:Nat}{l:List Int}(h:ζ M w (some ⟨b,o,none⟩) l){i:Nat}(hi:i<l.length):w.cell? ⟨b,o+i,none⟩=some (.int .i64 l[i]):=by
 obtain ⟨b',o',cs,e,_,h3,rfl,_⟩:=h i hi;cases e;have:=h3 0 (by simp);simpa [show (ι.ty Int).size=1 from rfl] using this
theorem a94(x:Int):fE prog F.cmp_isNaN_int #[.int .i64 x] (.bool false) :=
 l7 (aMA x) λW R Φ _=>λw F c=>⟨by simp,c.left⟩
theorem J1(x y:Int):fE prog F.cmp_Compare_int #[.int .i64 x,.int .i64 y] (.int .i64 (cR x y)):=by
 refine l7 (aM8 x y) λW R Φ _=>?_;refine λw F c=>(a94 _).use c λw c=>⟨_,rfl,_,_,γ,c,λw F c=>(a94 _).use c λw c=>⟨_,rfl,_,_,γ,c,U.intro (λh=>by cases h) (λ_=>U.intro (λh=>by cases h) (λ_=>U.intro (λh=>λw F c=>⟨?_,c.left⟩) (λh=>U.intro (λh2=>λw F c=>⟨?_,c.left⟩) (λh2=>λw F c=>⟨?_,c.left⟩))))⟩⟩
 .unfold cR;rw [if_pos (by simpa using h)]
 .have h:¬ x<y:=by simpa using h
  unfold cR;rw [if_neg h,if_pos (by simpa using h2)]
 .have h:¬ x<y:=by simpa using h
  have h2:¬ y<x:=by simpa using h2
  unfold cR;rw [if_neg h,if_neg h2]
theorem aXx(l:List Int)(i:Nat)(hi:i<l.length):nC (l.drop i)=if l[i]≠0 then l[i] else nC (l.drop (i+1)):=by
 rw [List.drop_eq_getElem_cons hi];rfl
theorem aXy{Φ:Y}[O Φ](p:Option Addr)(cap:Nat)(l:List Int)(hΦ:∀ M w,Φ M w->ζ M w p l)(hlen:l.length<=1000000):
  ay Φ prog F.F5 #[.slice p l.length cap] (.int .i64 (nC l)):=by
 refine .there (λM w h=>(hΦ M w h).there) λeG=>?_;refine dN (aM9 p l.length cap) λW R=>?_;refine bK (λn R' Z k=>∃ i:Nat,n=i/\i<=l.length/\R'=R/\Z=Φ/\k=l.length - i/\nC l=nC (l.drop i)) ⟨⟨R,Φ,_,γ,λw F c=>c,0,rfl,Nat.zero_le _,rfl,rfl,rfl,rfl⟩,?_⟩;rintro n ν θ k _ ⟨i,rfl,hi,rfl,rfl,rfl,mz⟩;refine U.intro (λhlt=>?_) (λhge=>λw F B=>⟨?_,B.left⟩)
 .have hlt:i<l.length:=by simpa using hlt
  obtain ⟨b,o,rfl⟩:=eG (by omega);rw [aXx l i hlt] at mz;refine ⟨by omega,aL b o rfl λw F B=>⟨_,Mc (hΦ _ _ B.Γ) hlt,U.intro (λh=>λw F B=>⟨?_,B.left⟩) (λh=>⟨by unfold V;omega,ν,θ,l.length - (i+1),γ,λw F c=>c,⟨i+1,rfl,hlt,rfl,rfl,rfl,?_⟩,by omega⟩)⟩⟩
  .have h:l[i]≠0:=by simpa using h
   rw [mz,if_pos h]
  .have h:¬ l[i]≠0:=by simpa using h
   rw [mz,if_neg h]
 .have hge:i=l.length:=Nat.le_antisymm hi (by simpa using hge);rw [mz,hge,List.drop_length];rfl
theorem Hg{x:Int}(h : -1<=x/\x<=1):V x:=by unfold V;omega
theorem a92{M:List Nat}{w:World}:∀ (l:List Int),(∀ x∈l,V x)->Δ M w (l.map λx=>.int .i64 x) l:=by
 intro l h;refine ⟨by simp [show (ι.ty Int).size=1 from rfl],λj hj=>?_⟩;rw [show (ι.ty Int).size=1 from rfl,Nat.mul_one,aYS];refine ⟨?_,h _ (List.getElem_mem _)⟩;apply List.ext_getElem?;intro i;rcases i with _|i
 .rw [List.getElem?_take_of_lt (by omega),List.getElem?_drop];simp [hj]
 .simp;omega
theorem aZJ(x y:ByteArray):fE prog F.strings_Compare #[.string x,.string y] (.int .i64 (lW x y)) :=
 Quiet.W9 ⟨λw=>strings_Compare x y w⟩
theorem YO{W w:World}{S:List Own}{Φ:Y}[O Φ]{k:Nat}{t:TypeId}(l:List Int)(cap:Nat)(hl:∀ x∈l,V x)(hlen:l.length<=1000000)(c:Ctx W w (.blk k (l.map λx=>.int .i64 x) t :: S) Φ)
  {K:c6} (hk:∀ w',Ctx W w' S Φ->K (.returned (.int .i64 (nC l))) w'):ω F.F5 #[.slice (some ⟨k,0,none⟩) l.length cap] w K:=by
 obtain ⟨c',hs⟩:=c.Pc (a92 l hl);exact (aXy (Φ:=λM w=>Φ M w/\ζ M w (some ⟨k,0,none⟩) l) (some ⟨k,0,none⟩) cap l (λ_ _ h=>h.2) hlen).use (c'.add hs) λw' c=>hk w' c.fst
theorem aQr(x y:bF):fE prog F.aJ0 #[x.v,y.v] (.int .i64 (j6 x y)):=by
 refine l7 (aNL x.kind x.num x.text y.kind y.num y.text) λW R Φ _=>?_;refine λ_ _=>⟨R,Φ,γ,λ_ _ c=>c,λw F c=>(J1 _ _).use c λw c=>⟨_,rfl,R,Φ,γ,c,λ_ _ c=>c,λw F c=>(J1 _ _).use c λw c=>⟨_,rfl,R,Φ,γ,c,λ_ _ c=>c,λw F c=>(aZJ _ _).use c λw c=>⟨_,rfl,R,Φ,γ,c,λk w F c=>?_⟩⟩⟩⟩;refine YO (cmpL x y) 3 (λu hu=>?_) (by simp) c λw c=>⟨_,rfl,R,Φ,γ,c,λw F c=>⟨rfl,c.left⟩⟩;simp only [cmpL,List.mem_cons,List.not_mem_nil,or_false] at hu
 rcases hu with rfl|rfl|rfl
 .exact Hg (F4.bd _ _)
 .exact Hg (F4.bd _ _)
 .exact Hg (a6P.bd _ _)
theorem aNu{Φ:Y}[O Φ](p q:Option Addr)(cap cap2:Nat)(l r:List bF)(hΦ:∀ M w,Φ M w->ζ M w p l)(hΨ:∀ M w,Φ M w->ζ M w q r)(hlen:l.length<=9223372036854775807):
  ay Φ prog F.Zy #[.slice p l.length cap,.slice q r.length cap2] (.int .i64 (fI l r)):=by
 refine .there (λM w h=>(hΦ M w h).there) λeG=>.there (λM w h=>(hΨ M w h).there) λWw=>?_;refine dN (aNK p l.length cap q r.length cap2) λW R=>λw0 acO c0=>?_;refine ay.use ?_ c0 λw c=>⟨_,rfl,R,Φ,γ,c,λw F c=>⟨rfl,c.left⟩⟩;refine dN (aN0 p l.length cap q r.length cap2 128 #[]) λW R=>?_;refine bK (λn R' Z k=>∃ i:Nat,n=i/\i<=l.length/\i<=r.length/\R'=R/\Z=Φ/\k=l.length - i/\fI l r=fI (l.drop i) (r.drop i)) ⟨⟨R,Φ,_,γ,λw F c=>c,0,rfl,Nat.zero_le _,Nat.zero_le _,rfl,rfl,rfl,rfl⟩,?_⟩
 rintro n ν θ k _ ⟨i,rfl,hi,hr,rfl,rfl,rfl,hcm⟩;refine U.intro (λhlt=>?_) (λhge=>?_)
 .have hlt:i<l.length:=by simpa using hlt
  obtain ⟨b,o,rfl⟩:=eG (by omega);refine ⟨by omega,aL b o rfl λw F B=>⟨_,_,_,xw (hΦ _ _ B.Γ) hlt,λ_=>U.intro (λh=>λw F B=>⟨?_,B.left⟩) (λh=>?_)⟩⟩
  .have h:r.length<=i:=by simpa using h
   rw [hcm,a6N hlt h]
  .have h:i<r.length:=by simpa using h
   obtain ⟨b2,o2,rfl⟩:=Ww (by omega);rw [a6L hlt h] at hcm;refine ⟨by omega,aL b2 o2 rfl λw F B=>⟨_,_,_,xw (hΨ _ _ B.Γ) h,λ_ w F B=>⟨by kernel_rfl,(aQr l[i] r[i]).use B λw B=>⟨_,rfl,ν,θ,γ,B,U.intro (λhn=>λw F B=>⟨?_,B.left⟩) (λhn=>⟨by unfold V;omega,ν,θ,l.length - (i+1),γ,λw F c=>c,⟨i+1,rfl,hlt,h,rfl,rfl,rfl,?_⟩,by omega⟩)⟩⟩⟩⟩
   .have hn:j6 l[i] r[i]≠0:=by simpa using hn
    rw [hcm,if_pos hn]
   .have hn:¬ j6 l[i] r[i]≠0:=by simpa using hn
    rw [hcm,if_neg hn]
 .have hge:i=l.length:=Nat.le_antisymm hi (by simpa using hge);subst hge;refine U.intro (λh=>λw F B=>⟨?_,B.left⟩) (λh=>λw F B=>⟨?_,B.left⟩)
  .have h:l.length<r.length:=by simpa using h
   rw [hcm,List.drop_length,List.drop_eq_getElem_cons h];rfl
  .have h:¬ l.length<r.length:=by simpa using h
   rw [hcm,List.drop_length,List.drop_of_length_le (by omega)];rfl
theorem V2{Φ:Y}[O Φ](x y:μ)(p q:Option Addr)(cap cap2:Nat)(hΦ:∀ M w,Φ M w->ζ M w p x.row)(hΨ:∀ M w,Φ M w->ζ M w q y.row)(hlen:x.row.length<=9223372036854775807):
  ay Φ prog F.BV #[x.v p cap,y.v q cap2] (.int .i64 (ew x y)):=by
 refine dN (aMG x.time p x.row.length cap x.n y.time q y.row.length cap2 y.n) λW R=>?_;refine λ_ _=>⟨R,Φ,γ,λ_ _ c=>c,λw F c=>(J1 _ _).use c λw c=>⟨_,rfl,R,Φ,γ,c,λ_ _ c=>c,λw F c=>(aNu p q cap cap2 x.row y.row hΦ hΨ hlen).use c λw c=>⟨_,rfl,R,Φ,γ,c,λk w F c=>?_⟩⟩⟩;refine YO (Iz x y) 2 (λu hu=>?_) (by simp) c λw c=>⟨_,rfl,R,Φ,γ,c,λw F c=>⟨rfl,c.left⟩⟩;simp only [Iz,List.mem_cons,List.not_mem_nil,or_false] at hu
 rcases hu with rfl|rfl
 .exact Hg (F4.bd _ _)
 .exact Hg (a6M.bd _ _)
theorem RD{M:List Nat}{w:World}{b o:Nat}{cs:List (List Value)}{l:List μ}(h:aP b o cs l M w){j:Nat}(hj:j<l.length):∃ p c,cs.getD j []=l[j].cells p c/\l[j].row.length<=c/\c<=maxLen/\V l[j].time/\V l[j].n/\aQ w b (o+j*3) (l[j].cells p c):=by
 obtain ⟨_,h1,h2⟩:=h j hj;obtain ⟨p,c,e,g1,g2,g3,g4,_⟩:=BU h2;exact ⟨p,c,e,g1,g2,g3,g4,by rw [e] at h1;exact h1⟩
theorem iw{M:List Nat}{w:World}{b o:Nat}{cs:List (List Value)}{l:List μ}(h:aP b o cs l M w){j:Nat}(hj:j<l.length){p:Option Addr}{c:Nat}(e:cs.getD j []=l[j].cells p c):ζ M w p l[j].row:=by
 have:=(h j hj).2.2;rw [e] at this;exact BW this
theorem ic{M:List Nat}{w:World}{b o:Nat}{cs:List (List Value)}{l:List μ}(h:aP b o cs l M w){j:Nat}(hj:j<l.length){p:Option Addr}{c:Nat}(e:cs.getD j []=l[j].cells p c):aQ w b (o+j*3) (l[j].cells p c):=by
 have:=(h j hj).2.1;rw [e] at this;exact this
theorem zg{Φ:Y}{f:FuncId}{args:Array Value}{v:Value}{b o:Nat}{cs:List (List Value)}{l:List μ}(hΦ:∀ M w,Φ M w->aP b o cs l M w)
  (h:(∀ j,(hj:j<l.length)->∃ p c,cs.getD j []=l[j].cells p c/\l[j].row.length<=c/\c<=maxLen/\V l[j].time/\V l[j].n)->ay Φ prog f args v):ay Φ prog f args v :=
 ⟨λW w S c=>(h λj hj=>by obtain ⟨p,c,h1,h2,h3,h4,h5,_⟩:=RD (hΦ _ _ c.Γ) hj;exact ⟨p,c,h1,h2,h3,h4,h5⟩).go W w S c⟩
theorem Fu{n c:Nat}(h1:n<=c)(h2:c<=maxLen):n<=9223372036854775807:=Nat.le_trans h1 (Nat.le_trans h2 (by decide))
theorem val_one(M:List Nat)(w:World)(cs:List Value)(x:bF)(h:ι.rep M w cs x):(cs.all λu=>dJ u)=true:=by
 obtain ⟨_,_,rfl,⟨rfl,_⟩,_,_,rfl,⟨rfl,_⟩,rfl,_⟩:=h;rfl
theorem a2B{Φ:Y}[O Φ](p:Option Addr)(cap:Nat)(l:List bF)(hΦ:∀ M w,Φ M w->ζ M w p l)(hlen:l.length<100000000):
  nR Φ prog F.Gb #[.slice p l.length cap] l 115:=by
 refine .there (λM w h=>(hΦ M w h).there) λeG=>?_;refine Jn (aMy p l.length cap) λW R=>?_;refine U.intro (λhn=>λw F c=>?_) (λhn=>?_)
 .have hl:l=[]:=by
   cases l with
   | nil=>rfl
   | cons=>obtain ⟨b,o,e⟩:=eG (by simp);rw [e] at hn;cases hn
  subst hl;exact ⟨none,0,[],rfl,(c.left.zF 115 3).add Δ.nil⟩
 .intro k w F c;obtain ⟨p',cap',w',cs,hrun,c'⟩:=Ctx.vE (P:=prog) (ts:=111) (ty:=111) (kb:=#[false,false]) (bytes:=32) (c2:=cap) c (by kernel_rfl) val_one hΦ hlen (by omega);exact ⟨_,_,_,_,hrun,_,_,γ,c',λw F c=>⟨p',cap',cs,rfl,c.left⟩⟩
theorem a2A{Φ:Y}[O Φ](p:Option Addr)(cap:Nat)(l:List μ)(hΦ:∀ M w,Φ M w->ζ M w p l)(hlen:l.length<100000000):
  nR Φ prog F.Rg #[.slice p l.length cap] l 113:=by
 refine .there (λM w h=>(hΦ M w h).there) λeG=>?_;refine Jn (aMu p l.length cap) λW R=>?_;refine U.intro (λhn=>λw F c=>?_) (λhn=>?_)
 .have hl:l=[]:=by
   cases l with
   | nil=>rfl
   | cons=>obtain ⟨b,o,e⟩:=eG (by simp);rw [e] at hn;cases hn
  subst hl;exact ⟨none,0,[],rfl,(c.left.zF 113 3).add Δ.nil⟩
 .intro k w F c;obtain ⟨p',cap',w',cs,hrun,c'⟩:=Ctx.vE (P:=prog) (ts:=25) (ty:=25) (kb:=#[false,false]) (bytes:=40) (c2:=cap) c (by kernel_rfl) P1 hΦ hlen (by omega);exact ⟨_,_,_,_,hrun,_,_,γ,c',λw F c=>⟨p',cap',cs,rfl,c.left⟩⟩
def lH(x:bF):Bool:=if x.kind=0 then decide (x.text=ByteArray.mk #[]) else if x.kind=1 then decide (x.num=0)&&decide ((x.text.size:Int)<=200) else decide (x.kind=2)&&(decide (x.num=0)||decide (x.num=1))&&decide (x.text=ByteArray.mk #[])
theorem aYX(x:bF):fE prog F.PJ #[x.v] (.bool (lH x)):=by
 refine l7 (aMX x.kind x.num x.text) λW R Φ _=>λ_=>U.intro (λh=>λw G c=>⟨?_,c.left⟩) (λh=>U.intro (λh2=>λw G c w G c=>⟨?_,c.left⟩) (λh2=>λw G c w G c=>⟨?_,c.left⟩))
 .unfold lH;rw [if_pos (aD h)]
 .unfold lH;rw [if_neg (aO h),if_pos (aD h2)]
 .unfold lH;rw [if_neg (aO h),if_neg (aO h2)]
theorem aLm{Φ:Y}[O Φ](q:bF->Bool)(hq:∀ x,fE prog F.PJ #[x.v] (.bool (q x)))(p:Option Addr)(cap:Nat)(l:List bF)(hΦ:∀ M w,Φ M w->ζ M w p l)(hlen:l.length<=9223372036854775807):ay Φ prog F.PG #[.slice p l.length cap] (.bool (l.all q)):=by
 refine .there (λM w h=>(hΦ M w h).there) λeG=>?_;refine dN (aMS p l.length cap) λW R=>?_;refine bK (λn R' Z k=>∃ i:Nat,n=i/\i<=l.length/\R'=R/\Z=Φ/\k=l.length - i/\l.all q=(l.drop i).all q) ⟨⟨R,Φ,_,γ,λw F c=>c,0,rfl,Nat.zero_le _,rfl,rfl,rfl,rfl⟩,?_⟩;rintro n ν θ k _ ⟨i,rfl,hi,rfl,rfl,rfl,hs⟩;refine U.intro (λhlt=>?_) (λhge=>λw F B=>⟨?_,B.left⟩)
 .have hlt:i<l.length:=by simpa using hlt
  obtain ⟨b,o,rfl⟩:=eG (by omega);rw [List.drop_eq_getElem_cons hlt,List.all_cons] at hs;refine ⟨by omega,aL b o rfl λw F B=>⟨l[i].kind,l[i].num,l[i].text,by rw [Int.toNat_natCast];exact xw (hΦ _ _ B.Γ) hlt,λw F B=>(hq l[i]).use B λw B=>⟨_,rfl,ν,θ,γ,B,U.intro (λh=>λw F B=>⟨?_,B.left⟩) (λh=>⟨by unfold V;omega,ν,θ,l.length - (i+1),γ,λw F c=>c,⟨i+1,rfl,hlt,rfl,rfl,rfl,?_⟩,by omega⟩)⟩⟩⟩
  .rw [hs,show q l[i]=false by simpa using h,Bool.false_and]
  .rw [hs,show q l[i]=true by simpa using h,Bool.true_and]
 .have hge:i=l.length:=Nat.le_antisymm hi (by simpa using hge);rw [hs,hge,List.drop_length];rfl
theorem aLl{Φ:Y}[O Φ](p:Option Addr)(cap:Nat)(l:List bF)(hΦ:∀ M w,Φ M w->ζ M w p l)(hlen:l.length<=9223372036854775807):ay Φ prog F.PG #[.slice p l.length cap] (.bool (l.all lH)):=aLm lH aYX p cap l hΦ hlen
def sN(l:List bF):Bool:=decide ((l.length:Int)<=12)&&l.all lH
theorem aPd{Φ:Y}[O Φ](p:Option Addr)(cap:Nat)(l:List bF)(hΦ:∀ M w,Φ M w->ζ M w p l)(hlen:l.length<=9223372036854775807):ay Φ prog F.Vr #[.slice p l.length cap] (.bool (sN l)):=by
 have h1:=aLl p cap l hΦ hlen;unfold sN;generalize l.all lH=c at h1;refine dN (aMW p l.length cap) λW R=>U.intro (λh=>λw F B=>h1.use B λw B=>⟨_,rfl,R,Φ,γ,B,λw F B=>⟨?_,B.left⟩⟩) (λh=>λw F B=>⟨?_,B.left⟩)
 .rw [h,Bool.true_and]
 .rw [h,Bool.false_and]
theorem aYk{seg:List μ}{k0:Key}(h:∀ x∈seg,x.key=k0)(k:Key)(hk:k≠k0):cG seg k=0:=Mn λx hx e=>hk (by rw [<-e,h x hx])
theorem Norm.snoc{c:List μ}{x:μ}(h:Norm c)(h1:∀ y∈c,jT y.key x.key<0)(h2:x.n≠0)(h3:V x.n):Norm (c++[x]):=by
 refine ⟨List.pairwise_append.2 ⟨h.rq,List.pairwise_singleton _ _,λy hy z hz=>?_⟩,λy hy=>?_,λy hy=>?_⟩
 .rw [List.mem_singleton.1 hz,iW];exact h1 y hy
 .rcases List.mem_append.1 hy with hy|hy
  .exact h.nz y hy
  .rw [List.mem_singleton.1 hy];exact h2
 .rcases List.mem_append.1 hy with hy|hy
  .exact h.i64 y hy
  .rw [List.mem_singleton.1 hy];exact h3
theorem a71{A seg C:List μ}{k0:Key}{N:Int}(h:∀ x∈seg,x.key=k0)(hN:N=bg seg k0)(k:Key):
  (bg (A++(⟨k0.1,k0.2,N⟩ :: C)) k=bg (A++(seg++C)) k)/\(N=0->bg (A++C) k=bg (A++(seg++C)) k):=by
 have key:(((if k0=k then N else 0):Int) - cG seg k) % 18446744073709551616=0:=by
  by_cases hk:k0=k
  .subst hk;rw [if_pos rfl,hN];exact NI _
  .rw [if_neg hk,aYk h k (λe=>hk e.symm)];rfl
 have e1:cG (A++(⟨k0.1,k0.2,N⟩ :: C)) k=cG A k+((if k0=k then N else 0)+cG C k):=by rw [Dd];rfl
 have e2:cG (A++(seg++C)) k=cG A k+(cG seg k+cG C k):=by rw [Dd,Dd]
 refine ⟨?_,λh0=>?_⟩
 .unfold bg;rw [e1,e2];exact NG (by omega)
 .unfold bg;rw [Dd,e2];refine NG ?_;rw [h0] at key;have:((if k0=k then (0:Int) else 0))=0:=by split<;>rfl
  omega
theorem a73{seg:List μ}{y:μ}{k0:Key}(hy:y.key=k0):bg (seg++[y]) k0=e4 (bg seg k0+y.n):=by
 unfold bg;rw [Gr,Dd];simp only [cG];rw [if_pos hy,Int.add_zero]
theorem aIh{g i k c:Nat}(h:k<c):aV (some ⟨g,i*3,none⟩) 3 k c=some ⟨g,(i+k)*3,none⟩:=by
 unfold aV;rw [if_neg (by omega),Option.map_some]
 congr 1
 unfold Addr.add;split
 .rw [show k=0 by omega,Nat.add_zero]
 .show Addr.mk g (i*3+k*3) none=_;rw [Nat.add_mul]
structure yO(l:List μ)(es outs:List aS)(i:Nat):Prop where
 le:i<=es.length
 norm:Norm (outs.map aS.d)
 lt:∀ x∈outs,∀ y∈es.drop i,jT x.d.key y.d.key<0
 find:∀ k,bg (outs.map aS.d++(es.drop i).map aS.d) k=bg l k
 FH:outs.length<=i
theorem yO.step{l:List μ}{es outs:List aS}{i:Nat}(h:yO l es outs i){X:aS}(hX:X∈es.drop i){j:Nat}(hij:i+j<=es.length)(hj:1<=j)(hk:∀ y∈(es.drop i).take j,y.d.key=X.d.key){N:Int}(hN:N=bg (((es.drop i).take j).map aS.d) X.d.key)
  (hgt:∀ y∈es.drop (i+j),jT X.d.key y.d.key<0):(N=0->yO l es outs (i+j))/\(N≠0->∀ (p:Option Addr) (c:Nat),yO l es (outs++[⟨⟨X.d.time,X.d.row,N⟩,p,c⟩]) (i+j)):=by
 have C0:es.drop i=(es.drop i).take j++es.drop (i+j):=by rw [<-List.drop_drop,List.take_append_drop]
 have hkm:∀ x∈((es.drop i).take j).map aS.d,x.key=X.d.key:=λx hx=>by
  obtain ⟨y,hy,rfl⟩:=List.mem_map.1 hx;exact hk y hy
 have hsub:∀ y∈es.drop (i+j),y∈es.drop i:=λy hy=>by rw [C0];exact List.mem_append_right _ hy
 have hf:∀ k,bg (outs.map aS.d++(((es.drop i).take j).map aS.d++(es.drop (i+j)).map aS.d)) k=bg l k:=λk=>by
  rw [<-List.map_append,<-C0];exact h.find k
 refine ⟨λh0=>⟨hij,h.norm,λx hx y hy=>h.lt x hx y (hsub y hy),λk=>?_,by have:=h.FH;omega⟩,λh0 p c=>⟨hij,?_,λx hx y hy=>?_,λk=>?_,by rw [List.length_append];have:=h.FH;simp;omega⟩⟩
 .rw [<-hf k];exact (a71 (A:=outs.map aS.d) (C:=(es.drop (i+j)).map aS.d) hkm hN k).2 h0
 .rw [List.map_append];refine Norm.snoc h.norm (λy hy=>?_) h0 (by rw [hN];exact Dp _);obtain ⟨z,hz,rfl⟩:=List.mem_map.1 hy;exact h.lt z hz X hX
 .rcases List.mem_append.1 hx with hx|hx
  .exact h.lt x hx y (hsub y hy)
  .rw [List.mem_singleton.1 hx];exact hgt y hy
 .rw [<-hf k,List.map_append,aq];exact (a71 (A:=outs.map aS.d) (C:=(es.drop (i+j)).map aS.d) hkm hN k).1
theorem a6H{Φ:Y}[O Φ]{es:List aS}(hrow:∀ x∈es,x.d.row.length<=1000000):Az (λM w=>Φ M w/\fT es M w) F.BV #[] (λx=>x∈es) :=
 ⟨by kernel_rfl,λx y hx hy=>V2 x.d y.d x.p y.p x.c y.c (λM w h=>BW (h.2 x hx)) (λM w h=>BW (h.2 y hy)) (by have:=hrow x hx;omega)⟩
theorem aQb{w:World}{g o:Nat}{X:aS}(h:aQ w g o X.cells):w.cell? ⟨g,o+2,none⟩=some (.int .i64 X.d.n):=by
 have:=h 2 (by simp);simpa using this
set_option maxHeartbeats 4000000 in
theorem a2D{Φ:Y}[O Φ](p:Option Addr)(cap:Nat)(l:List μ)(hΦ:∀ M w,Φ M w->ζ M w p l)(hlen:l.length<=1000000)(hrow:∀ x∈l,x.row.length<=1000000):nR Φ prog F.F7 #[.slice p l.length cap] (bk l) 113:=by
 refine Jn (aMD p l.length cap) λW R=>?_;refine λw G B=>(a2A p cap l hΦ (by omega)).use B λp1 iV cs w B=>?_;obtain ⟨tW,rfl,K4⟩:=aUi B.Γ.2;have hl:l.length=tW.length:=by rw [<-K4,List.length_map]
 have bG:Ctx W w (ag p1 iV tW :: (R++G)) (λM w=>Φ M w/\fT tW M w):=by
  have h1:=B.weak (Ψ:=λM w=>Φ M w/\fT tW M w) λM w h=>⟨h.1,aUh (by rw [K4];exact h.2)⟩;rw [hl] at h1;exact h1
 have Ws:∀ x∈tW,x.d.row.length<=1000000:=λx hx=>hrow x.d (by rw [<-K4];exact List.mem_map_of_mem hx);have hf:=a6H (Φ:=Φ) Ws;clear B;refine ⟨p1,tW.length,iV,by rw [hl],ag p1 iV tW :: R,_,γ,bG,λw G B=>?_⟩;refine aPl (S:=R++G) hf tW (λe h=>h) B (by omega) λes w hp ha B=>?_;have hn:tW.length=es.length:=hp.length_eq.symm;have hi0:∀ x∈es,fT tW=fT tW:=λ_ _=>rfl;have bH:Ctx W w (ag p1 iV es :: (R++G)) (λM w=>Φ M w/\fT es M w):=B.weak λM w h=>⟨h.1,λx hx=>h.2 x (hp.mem_iff.1 hx)⟩
 have hfind:∀ k,bg (es.map aS.d) k=bg l k:=λk=>by rw [<-K4];exact a6w (hp.map aS.d) k
 have a8X:∀ x∈es,x.d.row.length<=1000000:=λx hx=>Ws x (hp.mem_iff.1 hx);have hcmp:=(a6H (Φ:=Φ) a8X).2;have aWC:0<es.length->∃ g,p1=some ⟨g,0,none⟩:=λh=>F9 bH h;have hcap:es.length<=iV:=(bH.ry 0 rfl).2.1;rw [hn];refine ⟨rfl,ag p1 iV es :: R,_,γ,bH,?_⟩;clear hf Ws hi0 B bG bH hrow hp K4;refine bK (λsp Gc sc op on aN R' Z k=>∃ (i:Nat) (outs:List aS),yO l es outs i/\Gc=es.length - i/\Gc<=sc/\(∀ g,p1=some ⟨g,0,none⟩->i<es.length->sp=some ⟨g,i*3,none⟩)/\on=outs.length/\R'=ag op aN outs :: ag p1 iV es :: R/\Z=(λM w=>(Φ M w/\fT es M w)/\fT outs M w)/\k=es.length - i)
  ⟨⟨ag none 0 [] :: ag p1 iV es :: R,λM w=>(Φ M w/\fT es M w)/\fT ([]:List aS) M w,_,γ,λw G B=>((B.weak λM w h=>⟨h,λx hx=>by cases hx⟩).sI 113 3),0,[],⟨Nat.zero_le _,Norm.nil,by simp,λk=>hfind k,Nat.le_refl _⟩,by omega,by omega,λg hg _=>by rw [hg,Nat.zero_mul],rfl,rfl,rfl,rfl⟩,?_⟩
 rintro sp Gc sc op on aN ν θ k _ ⟨i,outs,x7,rfl,hsc,hsp,rfl,rfl,rfl,rfl⟩;have adA:=x7.le;refine U.intro (λhlt=>?_) (λhge=>λw G B=>?_)
 .have hlt:=aD hlt;have hlt:i<es.length:=by omega
  obtain ⟨g,rfl⟩:=aWC (by omega);have hsp:=hsp g rfl hlt;subst hsp;have Fa:O (λM w=>(Φ M w/\fT es M w)/\fT outs M w):=γ;obtain ⟨X,hX⟩:∃ X,es[i]? = some X:=⟨_,List.getElem?_eq_getElem hlt⟩;have Pq:X∈es:=List.mem_of_getElem? hX;have WQ:X∈es.drop i:=by
   rw [List.drop_eq_getElem_cons hlt];rw [List.getElem?_eq_getElem hlt] at hX;rw [Option.some.inj hX];simp
  have a7z:es.drop i=X :: es.drop (i+1):=by
   rw [List.drop_eq_getElem_cons hlt];rw [List.getElem?_eq_getElem hlt] at hX;rw [Option.some.inj hX]
  refine ⟨by omega,aL g (i*3) rfl λw G B=>⟨X.d.time,X.p,X.d.row.length,X.c,X.d.n,lZ B.swap hX,λ_=>?_⟩⟩;obtain ⟨aVK,hIn⟩:V X.d.time/\V X.d.n:=by
   obtain ⟨_,_,_,_,_,h1,h2,_⟩:=BU (B.Γ.1.2 X Pq);exact ⟨h1,h2⟩
  clear B;refine bK (λvg tm rp rn rc nn R' Z k=>∃ j:Nat,vg=j/\1<=j/\i+j<=es.length/\tm=X.d.time/\rp=X.p/\rn=X.d.row.length/\rc=X.c/\nn=bg (((es.drop i).take j).map aS.d) X.d.key/\(∀ y∈(es.drop i).take j,y.d.key=X.d.key)/\R'=ag op aN outs :: ag (some ⟨g,0,none⟩) iV es :: R/\Z=(λM w=>(Φ M w/\fT es M w)/\fT outs M w)/\k=es.length - i - j)
   ⟨⟨_,_,_,Fa,λw G B=>B,1,rfl,Nat.le_refl _,hlt,rfl,rfl,rfl,rfl,?_,?_,rfl,rfl,rfl⟩,?_⟩
  .rw [a7z];show X.d.n=e4 ((if X.d.key=X.d.key then X.d.n else 0)+0);rw [if_pos rfl,Int.add_zero,a0U hIn]
  .rw [a7z];intro y hy;simp at hy;rw [hy]
  rintro vg _ _ _ _ nn ck b7 k _ ⟨j,rfl,Q4,hj2,rfl,rfl,rfl,rfl,hnn,hkeys,rfl,rfl,rfl⟩;have acv:X.d.row.length<=1000000:=a8X X Pq;refine ⟨_,_,Fa,λw G B=>B,U.intro (λhlt2=>?_) (λK7=>?_)⟩
  case' refine_2 =>
   have hgt:∀ y∈es.drop (i+j),jT X.d.key y.d.key<0:=by
    have K7:=aO K7;rw [List.drop_eq_nil_of_le (by omega)];intro y hy;cases hy
  case' refine_1 =>
   have hlt2:=aD hlt2;have hij:i+j<es.length:=by omega
   obtain ⟨an,fJ⟩:∃ an,es[i+j]? = some an:=⟨_,List.getElem?_eq_getElem hij⟩;have aVU:an∈es:=List.mem_of_getElem? fJ;have FT:ay (λM w=>(Φ M w/\fT es M w)/\fT outs M w) prog F.BV #[.agg #[.int .i64 X.d.time,.slice X.p X.d.row.length X.c,.int .i64 nn],an.v] (.int .i64 (ew ⟨X.d.time,X.d.row,nn⟩ an.d)) :=
    V2 ⟨X.d.time,X.d.row,nn⟩ an.d X.p an.p X.c an.c (λM w h=>show ζ M w X.p X.d.row from BW (h.1.2 X Pq)) (λM w h=>BW (h.1.2 an aVU)) (by show X.d.row.length<=_;omega)
   have WR:∀ {w:World} {G:List Own},Ctx W w (ag op aN outs :: ag (some ⟨g,0,none⟩) iV es :: R++G) (λM w=>(Φ M w/\fT es M w)/\fT outs M w)->aQ w g (i*3+(j:Int).toNat*3) an.cells:=λB=>by
    rw [Int.toNat_natCast,<-Nat.add_mul];exact lZ B.swap fJ
   refine ⟨by omega,aL g (i*3) rfl ⟨an.d.time,an.p,an.d.row.length,an.c,an.d.n,λw G B=>⟨_,an.p,_,an.c,_,WR B,rfl⟩,λw G B=>FT.use B λw B=>⟨_,rfl,ag op aN outs :: ag (some ⟨g,0,none⟩) iV es :: R,_,Fa,B,U.intro (λhc=>?_) (λhc=>?_)⟩⟩⟩
  case' refine_1.refine_1 =>
   have hc:=aD hc;rw [iW] at hc;have hk:=(fH.eq _ _).1 hc;have hk':an.d.key=X.d.key:=hk.symm;have htk:(es.drop i).take (j+1)=(es.drop i).take j++[an]:=by
    have Wl:j<(es.drop i).length:=by rw [List.length_drop];omega
    rw [List.take_succ_eq_append_getElem Wl]
    congr 2
    rw [List.getElem_drop];rw [List.getElem?_eq_getElem hij] at fJ;exact Option.some.inj fJ
   refine ⟨by omega,aL g (i*3) rfl λw G B=>⟨an.d.n,aQb (WR B),by unfold V;omega,_,_,es.length - i - (j+1),Fa,λw G B=>B,⟨j+1,by omega,by omega,by omega,rfl,rfl,rfl,rfl,?_,?_,rfl,rfl,rfl⟩,by omega⟩⟩
   .rw [htk,List.map_append,hnn];exact (a73 hk').symm
   .rw [htk];intro y hy;rcases List.mem_append.1 hy with hy|hy
    .exact hkeys y hy
    .rw [List.mem_singleton.1 hy];exact hk'
  case' refine_1.refine_2 =>
   have hgt:∀ y∈es.drop (i+j),jT X.d.key y.d.key<0:=by
    have hc:=aO hc;rw [iW] at hc;have aVS:es[i]=X:=by rw [List.getElem?_eq_getElem hlt] at hX;exact Option.some.inj hX
    have a7o:es[i+j]=an:=by rw [List.getElem?_eq_getElem hij] at fJ;exact Option.some.inj fJ
    have h1:cE es[i] es[i+j]:=ru lu ha (by omega) hij;rw [aVS,a7o] at h1;have h1:jT X.d.key an.d.key<0:=by
     have h2:jT X.d.key an.d.key<=0:=by rw [<-iW];exact h1
     have h3:jT X.d.key an.d.key≠0:=hc;omega
    intro y hy;obtain ⟨q,hq,rfl⟩:=List.getElem_of_mem hy;rw [List.length_drop] at hq;rw [List.getElem_drop];have h2:cE es[i+j] es[i+j+q]:=ru lu ha (by omega) (by omega);rw [a7o] at h2;have h2:jT an.d.key es[i+j+q].d.key<=0:=by rw [<-iW];exact h2
    rcases Int.lt_or_eq_of_le h2 with h3|h3
    .exact fH.trans _ _ _ h1 h3
    .rw [<-(fH.eq _ _).1 h3];exact h1
   clear hc FT WR
  all_goals
   obtain ⟨hz,hnz⟩:=x7.step WQ (by omega) Q4 hkeys hnn hgt;refine U.intro (λh0=>λw G B=>?_) (λh0=>⟨by omega,_,_,es.length - (i+j),Fa,λw G B=>B,⟨i+j,outs,hz (by have:=aO h0;omega),by rw [Int.toNat_natCast];omega,by rw [Int.toNat_natCast];omega,λg' hg' h=>by cases hg';rw [Int.toNat_natCast];exact aIh (by omega),rfl,rfl,rfl,rfl⟩,by omega⟩);have h0:nn≠0:=aD h0;have WW:=hnz h0;have aVq:=x7.FH;refine (a2B (Φ:=λM w=>(Φ M w/\fT es M w)/\fT outs M w) X.p X.c X.d.row (λM w h=>BW (h.1.2 X Pq)) (by omega)).use B λq qc o9 w B=>?_
   obtain ⟨_,hq1,js⟩:=B.ry 0 rfl;obtain ⟨cW,hs,_⟩:=Ctx.freeze (α:=bF) B.fst B.Γ.2;have u6:O (λM w=>(λM w=>(Φ M w/\fT es M w)/\fT outs M w) M w/\ζ M w q X.d.row):=γ;refine ⟨q,_,qc,rfl,ag op aN outs :: ag (some ⟨g,0,none⟩) iV es :: R,_,u6,cW.add hs,λk w G B=>?_⟩;obtain ⟨p',cap',w',hrun,_,cJ⟩:=Ctx.vB (P:=prog) (ts:=25) (ty:=25) (kb:=#[false,false]) (size:=3) (bytes:=40) B (by kernel_rfl) (by omega) rfl rfl (by omega) (by omega)
   have hcells:j5 outs++[.int .i64 X.d.time,.slice q X.d.row.length qc,.int .i64 nn]=j5 (outs++[⟨⟨X.d.time,X.d.row,nn⟩,q,qc⟩]):=by rw [a67];rfl
   have a8K:outs.length+1=(outs++[(⟨⟨X.d.time,X.d.row,nn⟩,q,qc⟩:aS)]).length:=by simp
   have aW2:V nn:=by rw [hnn];exact Dp _
   have C5:O (λM w=>(Φ M w/\fT es M w)/\fT (outs++[(⟨⟨X.d.time,X.d.row,nn⟩,q,qc⟩:aS)]) M w):=γ;rw [hcells,a8K] at cJ;refine ⟨p',_,cap',w',hrun,ag p' cap' (outs++[(⟨⟨X.d.time,X.d.row,nn⟩,q,qc⟩:aS)]) :: ag (some ⟨g,0,none⟩) iV es :: R,_,C5,cJ.weak λM w h=>⟨h.1.1,λx hx=>?_⟩,by omega,_,_,es.length - (i+j),C5,λw G B=>B,⟨i+j,_,WW q qc,by rw [Int.toNat_natCast];omega,by rw [Int.toNat_natCast];omega,λg' hg' h=>by cases hg';rw [Int.toNat_natCast];exact aIh (by omega),a8K,rfl,rfl,rfl⟩,by omega⟩
   rcases List.mem_append.1 hx with hx|hx
   .exact h.1.2 x hx
   .rw [List.mem_singleton.1 hx];exact AR hq1 js aVK aW2 h.2
 .have hge:=aO hge;have hi:i=es.length:=by omega
  have aW5:=x7.norm;have a8F:=x7.find;rw [hi,List.drop_length] at a8F;have hc:bk l=outs.map aS.d:=Ox aW5 λk=>by have:=a8F k;rw [List.map_nil,List.append_nil] at this;exact this
  have KH:(bk l).length=outs.length:=by rw [hc,List.length_map]
  refine ⟨op,aN,j5 outs,by rw [KH],?_⟩;have Fa:O (λM w=>(Φ M w/\fT es M w)/\fT outs M w):=γ;have cW:Ctx W w (ag op aN outs :: R) (λM w=>(Φ M w/\fT es M w)/\fT outs M w):=(B.left.swap).eN;rw [KH];exact cW.weak λM w h=>⟨h.1.1,by rw [hc];exact aUc h.2⟩
theorem aXj{Φ:Y}[O Φ]{P:Program}{f:FuncId}{args:Array Value}{l:List μ}(h:nR Φ P f args l 113):ij Φ P f args l id :=
 ⟨λW w S c=>(h.go W w S c).mono λe w' ⟨p,cap,cs,he,B⟩=>by
  obtain ⟨_,h1,h2⟩:=B.ry 0 rfl;obtain ⟨cW,hs,_⟩:=Ctx.freeze (α:=μ) B.fst B.Γ.2;exact ⟨p,cap,he,h1,h2,cW.add hs⟩⟩
theorem a2E{Φ:Y}[O Φ](p:Option Addr)(cap:Nat)(l:List μ)(hΦ:∀ M w,Φ M w->ζ M w p l)(hlen:l.length<=1000000)(hrow:∀ x∈l,x.row.length<=1000000):ij Φ prog F.F7 #[.slice p l.length cap] (bk l) id :=
 aXj (a2D p cap l hΦ hlen hrow)
theorem a8t(x:μ){P:List bF->Prop}(hx:P x.row):∀ {c:List μ},(∀ y∈c,P y.row)->∀ z∈lA x c,P z.row
 | [],_,z,hz=>by
  unfold lA at hz;split at hz
  .cases hz
  .rw [List.mem_singleton.1 hz];exact hx
 | y :: t,h,z,hz=>by
  have hy:=h y (by simp);have ht:∀ q∈t,P q.row:=λq hq=>h q (by simp [hq]);unfold lA at hz;split at hz
  .split at hz
   .exact h z hz
   .rcases List.mem_cons.1 hz with rfl|hz
    .exact hx
    .exact h z hz
  .split at hz
   .split at hz
    .exact ht z hz
    .rcases List.mem_cons.1 hz with rfl|hz
     .exact hy
     .exact ht z hz
   .rcases List.mem_cons.1 hz with rfl|hz
    .exact hy
    .exact a8t x hx ht z hz
theorem J3{P:List bF->Prop}:∀ {l:List μ},(∀ x∈l,P x.row)->∀ z∈bk l,P z.row
 | [],_,z,hz=>by cases hz
 | x :: l,h,z,hz=>a8t x (h x (by simp)) (J3 λy hy=>h y (by simp [hy])) z hz
def A5(x:μ):μ:=⟨x.time,x.row,e4 (0 - x.n)⟩
def Dc(a b:List μ):List μ:=bk (a++b.map A5)
theorem aR2{x y:μ}:x=y ↔ (x.time=y.time/\(x.row=y.row/\x.n=y.n)):=by cases x;cases y;simp
instance:DecidableEq μ:=λ_ _=>decidable_of_iff _ aR2.symm
theorem a5A:∀ a b:List UInt8,Op.bytesLess a b=decide (Lib.compareBytes a b<0)
 | [],[]=>by simp [Op.bytesLess,Lib.compareBytes]
 | [],_ :: _=>by simp [Op.bytesLess,Lib.compareBytes]
 | _ :: _,[]=>by simp [Op.bytesLess,Lib.compareBytes]
 | a :: ar,b :: br=>by
  unfold Op.bytesLess Lib.compareBytes;rw [a5A ar br];by_cases h1:a<b
  .simp [h1]
  .by_cases h2:b<a
   .rw [if_neg h1,if_pos h2];have:a≠b:=λe=>by subst e;exact h1 h2
    simp [h1,this]
   .have:a=b:=by
     have Jo:¬ a.toNat<b.toNat:=h1;have Bo:¬ b.toNat<a.toNat:=h2;exact UInt8.toNat_inj.1 (by omega)
    rw [if_neg h1,if_neg h2];simp [this]
theorem a6R(a b:List UInt8):Lib.compareBytes a b=0 ↔ a=b:=F3.eq a b
theorem V1(a b:List UInt8): -1<=Lib.compareBytes a b/\Lib.compareBytes a b<=1:=F3.bd a b
theorem V0(a b:ByteArray):Op.bytesLess a.toList b.toList=decide (lW a b<0):=by rw [a5A,Lib.toList_data,Lib.toList_data];rfl
theorem aQq(a:ByteArray):lW a a=0:=(a6R _ _).2 rfl
theorem a6Q(a b:ByteArray):(!(Op.bytesLess a.toList b.toList||a.toList == b.toList))=decide (0<lW a b):=by
 rw [V0];have h2:(a.toList == b.toList)=decide (lW a b=0):=by
  rw [Bool.eq_iff_iff,beq_iff_eq,decide_eq_true_eq];unfold lW;rw [a6R,Lib.toList_data,Lib.toList_data]
 rw [h2];by_cases h:lW a b<0
 .simp [h];omega
 .by_cases h':lW a b=0
  .simp [h']
  .rw [decide_eq_false h,decide_eq_false h',decide_eq_true (show 0<lW a b by omega)];rfl
theorem Li(x:Int)(r:List Int):nC (x :: r)=if x≠0 then x else nC r:=rfl
theorem aYJ(x y:bF):fE prog F.Vq #[x.v,y.v] (.int .i64 (j6 x y)):=by
 refine l7 (aMV x.kind x.num x.text y.kind y.num y.text) λW R Φ _=>?_;have h3:=V1 x.text.data.toList y.text.data.toList;unfold j6 cmpL;rw [Li,Li,Li];refine λ_ _=>U.intro (λh=>λw G c=>⟨?_,c.left⟩) (λh=>U.intro (λh2=>λw G c=>⟨?_,c.left⟩) (λh2=>U.intro (λh3=>λw G c=>⟨?_,c.left⟩) (λh3=>U.intro (λh4=>λw G c=>⟨?_,c.left⟩) (λh4=>U.intro (λh5=>λw G c=>⟨?_,c.left⟩) (λh5=>⟨_,λw=>by rw [binOp_string_gtr];rfl,U.intro (λh6=>λw G c=>⟨?_,c.left⟩) (λh6=>λw G c=>⟨?_,c.left⟩)⟩)))))
 .have h:=aD h;have:cR x.kind y.kind = -1:=by unfold cR;rw [if_pos h]
  rw [this];rfl
 all_goals have h:=aO h
 .have h2:=aD h2;have:cR x.kind y.kind=1:=by unfold cR;rw [if_neg h,if_pos h2]
  rw [this];rfl
 all_goals have h2:=aO h2
 all_goals have e1:cR x.kind y.kind=0:=by unfold cR;rw [if_neg h,if_neg h2]
 all_goals rw [e1]
 .have h3:=aD h3;have:cR x.num y.num = -1:=by unfold cR;rw [if_pos h3]
  rw [this];rfl
 all_goals have h3:=aO h3
 .have h4:=aD h4;have:cR x.num y.num=1:=by unfold cR;rw [if_neg h3,if_pos h4]
  rw [this];rfl
 all_goals have h4:=aO h4
 all_goals have e2:cR x.num y.num=0:=by unfold cR;rw [if_neg h3,if_neg h4]
 all_goals rw [e2]
 .have h5:Op.bytesLess x.text.toList y.text.toList=true:=h5;rw [V0] at h5;have h5:=aD h5;have:lW x.text y.text = -1:=by have : -1<=lW x.text y.text:=(V1 _ _).1;omega
  rw [this];rfl
 all_goals have h5:Op.bytesLess x.text.toList y.text.toList=false:=h5
 all_goals rw [V0] at h5
 all_goals have h5:=aO h5
 .rw [a6Q] at h6;have h6:=aD h6;have:lW x.text y.text=1:=by have:lW x.text y.text<=1:=(V1 _ _).2;omega
  rw [this];rfl
 .rw [a6Q] at h6;have h6:=aO h6;have:lW x.text y.text=0:=by omega
  rw [this];rfl
theorem aQo{l r:List bF}{i:Nat}(h:l.length<=i)(hr:r.length<=i):fI (l.drop i) (r.drop i)=0:=by
 rw [List.drop_of_length_le h,List.drop_of_length_le hr];rfl
theorem aQp{l r:List bF}{i:Nat}(hi:l.length<=i)(hr:i<r.length):fI (l.drop i) (r.drop i) = -1:=by
 rw [List.drop_eq_getElem_cons hr,List.drop_of_length_le hi];rfl
theorem aHA{Φ:Y}[O Φ](p q:Option Addr)(cap cap2:Nat)(l r:List bF)(hΦ:∀ M w,Φ M w->ζ M w p l)(hΨ:∀ M w,Φ M w->ζ M w q r)(hlen:l.length<=9223372036854775807):
  ay Φ prog F.PI #[.slice p l.length cap,.slice q r.length cap2] (.int .i64 (fI l r)):=by
 refine .there (λM w h=>(hΦ M w h).there) λeG=>.there (λM w h=>(hΨ M w h).there) λWw=>?_;refine dN (aMU p l.length cap q r.length cap2) λW R=>?_;refine bK (λn R' Z k=>∃ i:Nat,n=i/\i<=l.length/\i<=r.length/\R'=R/\Z=Φ/\k=l.length - i/\fI l r=fI (l.drop i) (r.drop i)) ⟨⟨R,Φ,_,γ,λw F c=>c,0,rfl,Nat.zero_le _,Nat.zero_le _,rfl,rfl,rfl,rfl⟩,?_⟩;rintro n ν θ k _ ⟨i,rfl,hi,hr,rfl,rfl,rfl,hcm⟩;refine λw G B=>U.intro (λhlt=>?_) (λhge=>?_)
 .rw [Bool.and_eq_true] at hlt;have hl:i<l.length:=by have:=aD hlt.1;omega
  have iu:i<r.length:=by have:=aD hlt.2;omega
  obtain ⟨b,o,rfl⟩:=eG (by omega);obtain ⟨b2,o2,rfl⟩:=Ww (by omega);rw [a6L hl iu] at hcm;refine ⟨ν,θ,γ,λ_ _ c=>c,by omega,aL b o rfl ⟨by omega,aL b2 o2 rfl ⟨l[i].kind,l[i].num,l[i].text,λw G B=>⟨_,_,_,xw (hΦ _ _ B.Γ) hl,rfl⟩,r[i].kind,r[i].num,r[i].text,λw G B=>⟨_,_,_,xw (hΨ _ _ B.Γ) iu,rfl⟩,λw G B=>(aYJ l[i] r[i]).use B λw B=>⟨_,rfl,ν,θ,γ,B,
   U.intro (λhn=>λw F B=>⟨?_,B.left⟩) (λhn=>⟨by unfold V;omega,ν,θ,l.length - (i+1),γ,λw F c=>c,⟨i+1,rfl,hl,iu,rfl,rfl,rfl,?_⟩,by omega⟩)⟩⟩⟩⟩
  .have hn:j6 l[i] r[i]≠0:=by simpa using hn
   rw [hcm,if_pos hn]
  .have hn:¬ j6 l[i] r[i]≠0:=by simpa using hn
   rw [hcm,if_neg hn]
 .have hge:l.length<=i\/r.length<=i:=by
   rw [Bool.and_eq_false_iff] at hge;rcases hge with h|h
   .left;have:=aO h;omega
   .right;have:=aO h;omega
  refine U.intro (λh=>λw G B=>⟨?_,B.left⟩) (λh=>U.intro (λh2=>λw G B=>⟨?_,B.left⟩) (λh2=>λw G B=>⟨?_,B.left⟩))
  .have h:=aD h;rw [hcm,aQp (by omega) (by omega)]
  .have h2:=aD h2;rw [hcm,a6N (by omega) (by omega)]
  .have h:=aO h;have h2:=aO h2;rw [hcm,aQo (by omega) (by omega)]
theorem RJ{Φ:Y}[O Φ](x y:μ)(p q:Option Addr)(cap cap2:Nat)(hΦ:∀ M w,Φ M w->ζ M w p x.row)(hΨ:∀ M w,Φ M w->ζ M w q y.row)(hlen:x.row.length<=9223372036854775807):
  ay Φ prog F.FE #[x.v p cap,y.v q cap2] (.int .i64 (ew x y)):=by
 refine dN (aMc x.time p x.row.length cap x.n y.time q y.row.length cap2 y.n) λW R=>?_;unfold ew Iz;rw [Li,Li];refine λ_ _=>U.intro (λh=>λw G c=>⟨?_,c.left⟩) (λh=>U.intro (λh2=>λw G c=>⟨?_,c.left⟩) (λh2=>?_))
 .have h:=aD h;have:cR x.time y.time = -1:=by unfold cR;rw [if_pos h]
  rw [this];rfl
 all_goals have h:=aO h
 .have h2:=aD h2;have:cR x.time y.time=1:=by unfold cR;rw [if_neg h,if_pos h2]
  rw [this];rfl
 have h2:=aO h2;have e1:cR x.time y.time=0:=by unfold cR;rw [if_neg h,if_neg h2]
 rw [e1];refine λw G B=>(aHA p q cap cap2 x.row y.row hΦ hΨ hlen).use B λw B=>⟨_,rfl,R,Φ,γ,B,λw G B=>⟨?_,B.left⟩⟩;by_cases h0:fI x.row y.row=0
 .rw [h0];rfl
 .rw [if_neg (by omega),if_pos h0]
theorem aO5{Φ:Y}[O Φ](p:Option Addr)(cap:Nat)(a:List μ)(q:Option Addr)(cap2:Nat)(b:List μ)(g1 o1:Nat)(O':List (List Value))(g2 o2:Nat)(cs2:List (List Value))(hp:0<a.length->p=some ⟨g1,o1,none⟩)(hq:0<b.length->q=some ⟨g2,o2,none⟩)
  (hΦ:∀ M w,Φ M w->aP g1 o1 O' a M w) (hΨ:∀ M w,Φ M w->aP g2 o2 cs2 b M w) (hlen:a.length<=9223372036854775807) :
  ay Φ prog F.PL #[.slice p a.length cap,.slice q b.length cap2] (.bool (decide (a=b))):=by
 refine zg hΦ λey=>zg hΨ λgY=>?_;refine dN (aMf p a.length cap q b.length cap2) λW R=>?_;refine U.intro (λh=>λw G B=>⟨?_,B.left⟩) (λh=>?_)
 .rw [decide_eq_false];intro e;have:=aD h;rw [e] at this;exact this rfl
 have hl:a.length=b.length:=by have:=aO h;omega
 refine bK (λen R' Z k=>∃ i:Nat,en=i/\i<=a.length/\R'=R/\Z=Φ/\k=a.length - i/\a.take i=b.take i) ⟨⟨R,Φ,_,γ,λw F c=>c,0,rfl,Nat.zero_le _,rfl,rfl,rfl,rfl⟩,?_⟩;rintro en ν θ k _ ⟨i,rfl,hi,rfl,rfl,rfl,hs⟩;refine U.intro (λhlt=>?_) (λhge=>λw F B=>⟨?_,B.left⟩)
 .have hlt:i<a.length:=by have:=aD hlt;omega
  have KD:i<b.length:=by omega
  obtain ⟨r1,aHC,K0,f1,f2,_,_⟩:=ey i hlt;obtain ⟨r2,aHD,mw,f3,f4,_,_⟩:=gY i KD;have FT:=RJ (Φ:=θ) a[i] b[i] r1 r2 aHC aHD (λM w h=>iw (hΦ M w h) hlt K0) (λM w h=>iw (hΨ M w h) KD mw) (Fu f1 f2);have Wm:∀ {w:World} {G:List Own},Ctx W w (ν++G) θ->w.cell? ⟨g1,o1+(i:Int).toNat*3+2,none⟩=some (.int .i64 a[i].n):=λB=>by
   have:=ic (hΦ _ _ B.Γ) hlt K0 2 (by simp);rw [Int.toNat_natCast];simpa using this
  have hn2:∀ {w:World} {G:List Own},Ctx W w (ν++G) θ->w.cell? ⟨g2,o2+(i:Int).toNat*3+2,none⟩=some (.int .i64 b[i].n):=λB=>by
   have:=ic (hΨ _ _ B.Γ) KD mw 2 (by simp);rw [Int.toNat_natCast];simpa using this
  refine ⟨ν,θ,γ,λ_ _ c=>c,by omega,aL g1 o1 (hp (by omega)) ⟨by omega,aL g2 o2 (hq (by omega)) ⟨a[i].time,r1,a[i].row.length,aHC,a[i].n,λw G B=>⟨_,_,_,_,_,by rw [Int.toNat_natCast];exact ic (hΦ _ _ B.Γ) hlt K0,rfl⟩,b[i].time,r2,b[i].row.length,aHD,b[i].n,λw G B=>⟨_,_,_,_,_,by rw [Int.toNat_natCast];exact ic (hΨ _ _ B.Γ) KD mw,rfl⟩,
   λw G B=>FT.use B λw B=>⟨_,rfl,ν,θ,γ,B,U.intro (λhn=>λw F B=>⟨?_,B.left⟩) (λhn=>⟨by omega,aL g1 o1 (hp (by omega)) ⟨by omega,aL g2 o2 (hq (by omega)) λw G B=>⟨_,Wm B,λw G B=>⟨_,hn2 B,U.intro (λh3=>λw G B=>⟨?_,B.left⟩) (λh3=>⟨by unfold V;omega,ν,θ,a.length - (i+1),γ,λw F c=>c,⟨i+1,rfl,hlt,rfl,rfl,rfl,?_⟩,by omega⟩)⟩⟩⟩⟩)⟩⟩⟩⟩
  .rw [decide_eq_false];intro e;subst e;have:=aD hn;rw [iW] at this;exact this (fH.refl _)
  .rw [decide_eq_false];intro e;subst e;have:=aD h3;exact this rfl
  .have h1:=aO hn;have h2:=aO h3;have h1:ew a[i] b[i]=0:=Decidable.not_not.1 h1;have h2:a[i].n=b[i].n:=Decidable.not_not.1 h2;rw [iW] at h1;have he:a[i]=b[i]:=a6b ((fH.eq _ _).1 h1) h2;rw [List.take_succ_eq_append_getElem hlt,List.take_succ_eq_append_getElem KD,hs,he]
 .have hge:i=a.length:=by have:=aO hge;omega
  rw [decide_eq_true];rw [hge,List.take_length,hl,List.take_length] at hs;exact hs
theorem aO4{Φ:Y}[O Φ](p:Option Addr)(cap:Nat)(a:List μ)(q:Option Addr)(cap2:Nat)(b:List μ)(hΦ:∀ M w,Φ M w->ζ M w p a)(hΨ:∀ M w,Φ M w->ζ M w q b)(hlen:a.length<=9223372036854775807):
  ay Φ prog F.PL #[.slice p a.length cap,.slice q b.length cap2] (.bool (decide (a=b))) :=
 .pinned hΦ λg1 o1 O' hp=>.pinned (λM w h=>hΨ M w h.1) λg2 o2 cs2 hq=>aO5 (Φ:=λM w=>(Φ M w/\aP g1 o1 O' a M w)/\aP g2 o2 cs2 b M w) p cap a q cap2 b g1 o1 O' g2 o2 cs2 hp hq (λM w h=>h.1.2) (λM w h=>h.2) hlen
end Go.Proofs.YtfijlibaeahlaaaGreatDoor
end

section
namespace Go.Vc
section
variable {W w:World}{S:List Own}{Φ:Y}
theorem Ctx.aVD[O Φ]{P:Program}(c:Ctx W w S Φ){ts tn ty t:TypeId}{kb:Array Bool}{size bytes:Nat}(hb:tL P ts t size bytes=true)(htn:P.underlying tn=some (.int .i64))(m:Nat)(h0:0<m)(hm:m<=1000000)(hpos:0<size)(hbytes:bytes<=1000):
  ∃ g cap' w',Sem.run P (builtin Builtin.append #[ts,tn] ty kb #[.slice none 0 0,.int .i64 m]) w=.ok (.value (.slice (some ⟨g,0,none⟩) m cap')) w'/\m<=cap'/\Ctx W w' (.buf (some ⟨g,0,none⟩) 0 cap' [] t size :: S) Φ:=by
 obtain ⟨i,z,e1,e2,eE,bR,fY,fP⟩:=wS hb;subst bR;have hmb:m*i.bytes<=1000000*1000:=Nat.mul_le_mul hm (by omega);have hr:=Go.Lib.run_append_nil_zeros (P:=P) w ts tn ty t i z .i64 .i64 e1 htn e2 eE m h0 hpos (by omega) (by omega);have hge:=grownCap_ge w m 0 t;have hcm:grownCap w m 0 t<=maxLen:=grownCap_le_maxLen w m 0 t (by simp only [maxLen];omega);have h:=(c.zF t i.size).o8 (k:=0) (o':=.buf (some ⟨w.heap.size,0,none⟩) 0 (grownCap w m 0 t) [] t i.size) rfl (((bD.refl _ _).drewN 1).alloc (.cells (Builtin.zeroCells z.cells m++Builtin.zeroCells z.cells (grownCap w m 0 t - m)) t)) (by simp [Own.dom]) (by simp [Own.dom])
  ⟨by simp,.inr ⟨w.heap.size,_,_,rfl,Nat.zero_le _,KJ w.drew _,Nat.zero_le _,hcm,by
   simp only [Array.size_append,size_zeroCells,fY,<-Nat.add_mul]
   congr 1
   omega,by simp⟩⟩
 exact ⟨_,_,_,r7 hr,hge,h⟩
theorem Ctx.OT[O Φ]{P:Program}{α:Type}[ι α]{q:Option Addr}{l:List α}{c2:Nat}{p:Option Addr}{n cap:Nat}{cs:List Value}{t:TypeId}{bytes:Nat}(c:Ctx W w (.buf p n cap cs t (ι.ty α).size :: S) Φ)
  {ts ty:TypeId} {kb:Array Bool} (hb:tL P ts t (ι.ty α).size bytes=true) (h1:∀ M w cs (x:α),ι.rep M w cs x->(cs.all λu=>dJ u)=true) (vP:∀ M w,Φ M w->ζ M w q l) (hlen:n+l.length<100000000) (hbytes:bytes<=1000) :
  ∃ p' cap' w' news,Sem.run P (builtin Builtin.append #[ts,ts] ty kb #[.slice p n cap,.slice q l.length c2]) w=.ok (.value (.slice p' (n+l.length) cap')) w' /\
   Ctx W w' (.buf p' (n+l.length) cap' (cs++news) t (ι.ty α).size :: S) (λM w=>Φ M w/\Δ M w news l):=by
 rcases Nat.eq_zero_or_pos l.length with h0|h0
 .obtain ⟨i,z,e1,e2,eE,bR,fY,fP⟩:=wS hb;have hl:l=[]:=List.eq_nil_of_length_eq_zero h0;subst hl;refine ⟨p,cap,w,[],r7 (c.UN 0 rfl e1 e2 q c2),?_⟩;rw [List.append_nil];exact c.add Δ.nil
 .obtain ⟨p',cap',w',news,h2,_,c3⟩:=c.a4i (ty:=ty) (kb:=kb) (c2:=c2) hb h1 vP h0 hlen hbytes;exact ⟨p',cap',w',news,h2,c3⟩
end
end Go.Vc
namespace Go.Proofs.YtfijlibaeahlaaaGreatDoor
open Go.Vc
theorem aY7{M:List Nat}{w:World}{g o:Nat}{cs:List (List Value)}{ls:List (List μ)}(h:aP g o cs ls M w){j:Nat}(hj:j<ls.length):∃ p c,cs.getD j []=[.slice p ls[j].length c]/\ls[j].length<=c/\c<=maxLen:=by
 obtain ⟨_,h1,h2⟩:=h j hj;obtain ⟨p,c,e,g1,g2,_⟩:=MN.1 h2;exact ⟨p,c,e,g1,g2⟩
theorem aY8{M:List Nat}{w:World}{g o:Nat}{cs:List (List Value)}{ls:List (List μ)}(h:aP g o cs ls M w){j:Nat}(hj:j<ls.length){p:Option Addr}{c:Nat}(e:cs.getD j []=[.slice p ls[j].length c]):ζ M w p ls[j]:=by
 obtain ⟨_,h1,h2⟩:=h j hj;obtain ⟨p',c',e',g1,g2,hs⟩:=MN.1 h2;rw [e] at e';simp only [List.cons.injEq,Value.slice.injEq] at e';rw [e'.1.1];exact hs
theorem aGz{M:List Nat}{w:World}{g o:Nat}{cs:List (List Value)}{ls:List (List μ)}(h:aP g o cs ls M w){j:Nat}(hj:j<ls.length){p:Option Addr}{c:Nat}(e:cs.getD j []=[.slice p ls[j].length c]):w.cell? ⟨g,o+j,none⟩=some (.slice p ls[j].length c):=by
 obtain ⟨_,h1,h2⟩:=h j hj;rw [e] at h1;have:=h1 0 (by simp);rw [show (ι.ty (List μ)).size=1 from rfl,Nat.mul_one] at this;simpa using this
theorem a7A(ls:List (List μ)){i:Nat}(h:i<ls.length):(ls.take (i+1)).flatten=(ls.take i).flatten++ls[i]:=by
 rw [List.take_succ_eq_append_getElem h,List.flatten_append];simp
theorem a79(ls:List (List μ))(i:Nat):(ls.take i).flatten.length<=ls.flatten.length:=by
 have h:ls.flatten=(ls.take i).flatten++(ls.drop i).flatten:=by rw [<-List.flatten_append,List.take_append_drop]
 rw [h,List.length_append];omega
theorem aO8{W w:World}{S:List Own}{Φ:Y}[O Φ](n:Nat)(hn:n<=1000000)(B:Ctx W w S Φ){K:c6}
  (hK:∀ p cap w',Ctx W w' (.buf p 0 cap [] 113 3 :: S) Φ->K (.returned (.slice p 0 cap)) w'):ω F.ZS #[.slice none 0 0,.int .i64 n] w K:=by
 refine cn (aN5 none 0 0 n (J:=K∘.returned) B ?_);refine U.intro (λh=>by have:=aD h;omega) (λ_=>⟨by unfold V;omega,by unfold V;omega,U.intro (λh=>⟨by omega,λw G B=>?_⟩) (λh=>λw G B=>hK _ _ _ (B.left.zF 113 3))⟩);have h:=aD h;obtain ⟨g,cap',w',hrun,hge,cJ⟩:=Ctx.aVD (P:=prog) (ts:=25) (tn:=3) (ty:=25) (t:=113) (kb:=#[false,false]) (size:=3) (bytes:=40) B (by kernel_rfl) (by kernel_rfl) n (by omega) hn (by omega) (by omega)
 have e:(n:Int) - (((0:Nat):Int) - ((0:Nat):Int))=n:=by omega
 rw [e];refine ⟨_,_,_,_,hrun,.buf (some ⟨g,0,none⟩) 0 cap' [] 113 3 :: S,Φ,γ,cJ,by omega,λw G B=>?_⟩;have hp:aV (some ⟨g,0,none⟩) 3 0 cap'=some ⟨g,0,none⟩:=by
  unfold aV;split<;>rfl
 show K (.returned (.slice (aV (some ⟨g,0,none⟩) 3 0 cap') 0 cap')) w;rw [hp];exact hK _ _ _ B.left
set_option maxHeartbeats 1000000 in
theorem aNw{Φ:Y}[O Φ](q:Option Addr)(cap:Nat)(ls:List (List μ))(g o:Nat)(cs:List (List Value))(hq:0<ls.length->q=some ⟨g,o,none⟩)(hΦ:∀ M w,Φ M w->aP g o cs ls M w)(hn:ls.length<=1000000)(hlen:ls.flatten.length<=1000000):
  nR Φ prog F.ZO #[.slice q ls.length cap] ls.flatten 113:=by
 refine ⟨λaPm w0 aPi c0=>?_⟩;have hcs:∀ j,(hj:j<ls.length)->∃ p c,cs.getD j []=[.slice p ls[j].length c]/\ls[j].length<=c/\c<=maxLen:=λj hj=>aY7 (hΦ _ _ c0.Γ) hj;refine nR.go (Jn (aN1 q ls.length cap) λW R=>?_) aPm w0 aPi c0;clear c0;refine bK (λn en R' Z k=>∃ i:Nat,en=i/\i<=ls.length/\n=((ls.take i).flatten.length:Int)/\R'=R/\Z=Φ/\k=ls.length - i) ⟨⟨R,Φ,_,γ,λw G B=>B,0,rfl,Nat.zero_le _,rfl,rfl,rfl,rfl⟩,?_⟩
 rintro n en ν θ k _ ⟨i,rfl,hi,rfl,rfl,rfl,rfl⟩;refine U.intro (λhlt=>?_) (λhge=>?_)
 .have hlt:=aD hlt;have hlt:i<ls.length:=by omega
  obtain ⟨p,c,he,h1,h2⟩:=hcs i hlt;have hf:=a7A ls hlt;have hfl:(ls.take (i+1)).flatten.length=(ls.take i).flatten.length+ls[i].length:=by rw [hf,List.length_append]
  have hle:=a79 ls (i+1);refine ⟨by omega,aL g o (hq (by omega)) λw G B=>⟨p,ls[i].length,c,by rw [Int.toNat_natCast];exact aGz (hΦ _ _ B.Γ) hlt he,by unfold V;omega,U.intro (λh=>by have:=aD h;omega) (λ_=>⟨by unfold V;omega,ν,θ,ls.length - (i+1),γ,λw G B=>B,⟨i+1,by omega,hlt,by omega,rfl,rfl,rfl⟩,by omega⟩)⟩⟩
 have hge:=aO hge;have hi:i=ls.length:=by omega
 subst hi;rw [List.take_length];clear hge;refine λw G B=>aO8 ls.flatten.length hlen B λxb Um w B=>⟨xb,0,Um,rfl,.buf xb 0 Um [] 113 3 :: ν,θ,γ,B,?_⟩;clear B;refine bK (λsp Gc sc en R' Z k=>∃ (i:Nat) (ds:List Value),en=i/\i<=ls.length/\Gc=(ls.take i).flatten.length/\R'=.buf sp Gc sc ds 113 3 :: ν/\Z=(λM w=>θ M w/\Δ M w ds (ls.take i).flatten)/\k=ls.length - i)
  ⟨⟨.buf xb 0 Um [] 113 3 :: ν,λM w=>θ M w/\Δ M w [] (ls.take 0).flatten,_,γ,λw G B=>B.weak λM w h=>⟨h,Δ.nil⟩,0,[],rfl,Nat.zero_le _,rfl,rfl,rfl,rfl⟩,?_⟩
 rintro sp _ sc en ck b7 k _ ⟨i,ds,rfl,hi,rfl,rfl,rfl,rfl⟩;refine U.intro (λhlt=>?_) (λhge=>λw G B=>?_)
 .have hlt:=aD hlt;have hlt:i<ls.length:=by omega
  obtain ⟨p,c,he,h1,h2⟩:=hcs i hlt;have hf:=a7A ls hlt;have hfl:(ls.take (i+1)).flatten.length=(ls.take i).flatten.length+ls[i].length:=by rw [hf,List.length_append]
  have hle:=a79 ls (i+1);refine ⟨by omega,aL g o (hq (by omega)) λw G B=>⟨p,ls[i].length,c,by rw [Int.toNat_natCast];exact aGz (hΦ _ _ B.Γ.1) hlt he,λw G B=>?_⟩⟩;have a7q:=Ctx.OT (P:=prog) (ts:=25) (ty:=25) (kb:=#[false,false]) (bytes:=40) (c2:=c) (l:=ls[i]) (q:=p) B (by kernel_rfl) P1 (λM w h=>aY8 (hΦ M w h.1) hlt he) (by omega) (by omega);rw [<-hfl] at a7q;obtain ⟨p',cap',w',news,hrun,cJ⟩:=a7q;have hst:O (λM w=>θ M w/\Δ M w (ds++news) (ls.take (i+1)).flatten):=γ
  exact ⟨p',_,cap',w',hrun,.buf p' (ls.take (i+1)).flatten.length cap' (ds++news) 113 3 :: ν,_,hst,cJ.weak λM w h=>⟨h.1.1,by rw [hf];exact h.1.2.append h.2⟩,by unfold V;omega,_,_,ls.length - (i+1),hst,λw G B=>B,⟨i+1,_,by omega,hlt,rfl,rfl,rfl,rfl⟩,by omega⟩
 .have hge:=aO hge;have hi:i=ls.length:=by omega
  subst hi;rw [List.take_length] at B ⊢;exact ⟨sp,sc,ds,rfl,B.left⟩
def v8(a b:List μ):List μ:=bk (a++b)
theorem aLk{Φ:Y}[O Φ](p:Option Addr)(cap:Nat)(a:List μ)(q:Option Addr)(cap2:Nat)(b:List μ)(hΦ:∀ M w,Φ M w->ζ M w p a)(hΨ:∀ M w,Φ M w->ζ M w q b)(ey:a.length<=cap)(gY:cap<=maxLen)(aVb:b.length<=cap2)(aVc:cap2<=maxLen)
  (ha:a.length<=400000) (hb:b.length<=400000) (u0:∀ x∈a,x.row.length<=1000000) (hrb:∀ x∈b,x.row.length<=1000000):ij Φ prog F.V5 #[.slice p a.length cap,.slice q b.length cap2] (v8 a b) id:=by
 refine x5 (aMB p a.length cap q b.length cap2) λW R=>?_;intro k w G B;obtain ⟨bG,hs⟩:=B.Pc (α:=List μ) (l:=[a,b]) (Δ.two (cs:=[.slice p a.length cap]) (ds:=[.slice q b.length cap2]) (MN.2 ⟨p,cap,rfl,ey,gY,hΦ _ _ B.Γ⟩) (MN.2 ⟨q,cap2,rfl,aVb,aVc,hΨ _ _ B.Γ⟩));have hfl:[a,b].flatten=a++b:=by simp
 have Wk:(a++b).length<=1000000:=by rw [List.length_append];omega
 have a6Z:Ctx W w (R++G) (λM w=>Φ M w/\ζ M w (some ⟨k,0,none⟩) [a,b]):=bG.add hs;obtain ⟨g,o,cs,hq,bH⟩:=a6Z.r6 a6Z.Γ.2;have Pu:=aNw (Φ:=λM w=>(Φ M w/\ζ M w (some ⟨k,0,none⟩) [a,b])/\aP g o cs [a,b] M w) (some ⟨k,0,none⟩) 2 [a,b] g o cs hq (λM w h=>h.2) (by simp) (by rw [hfl];exact Wk);rw [hfl] at Pu;refine Pu.use bH λp1 c1 ds w B=>?_;obtain ⟨_,h1,h2⟩:=B.ry 0 rfl;obtain ⟨cW,hs3,_⟩:=Ctx.freeze (α:=μ) B.fst B.Γ.2
 refine ⟨p1,_,c1,rfl,R,λM w=>Φ M w/\ζ M w p1 (a++b),γ,(cW.add hs3).weak λM w h=>⟨h.1.1.1,h.2⟩,λw G B=>?_⟩;refine (a2E (Φ:=λM w=>Φ M w/\ζ M w p1 (a++b)) p1 c1 (a++b) (λM w h=>h.2) Wk (λx hx=>?_)).use B λp3 c3 w h1 h2 B=>⟨p3,_,c3,rfl,R,λM w=>Φ M w/\ζ M w p3 (v8 a b),γ,B.weak λM w h=>⟨h.1.1,h.2⟩,λw G B=>⟨p3,c3,rfl,h1,h2,B.left⟩⟩;rcases List.mem_append.1 hx with hx|hx
 .exact u0 x hx
 .exact hrb x hx
end Go.Proofs.YtfijlibaeahlaaaGreatDoor
end

section
namespace Go.Proofs.YtfijlibaeahlaaaGreatDoor
open Go.Vc
def mj(l:List μ)(j:Nat):Bool:=match l[j]? with
 | none=>false
 | some y=>decide (y.n≠0)&&match j with
  | 0=>true
  | i+1=>match l[i]? with
   | none=>false
   | some x=>decide (ew x y<0)
def kQ(l:List μ):Bool:=(List.range l.length).all λj=>mj l j
theorem Oy{l:List μ}{j:Nat}(hj:j<l.length)(h:mj l j=false):kQ l=false:=by
 unfold kQ;rw [List.all_eq_false];exact ⟨j,List.mem_range.2 hj,by rw [h];simp⟩
theorem V4{l:List μ}(h:∀ j,j<l.length->mj l j=true):kQ l=true:=by
 unfold kQ;rw [List.all_eq_true];exact λj hj=>h j (List.mem_range.1 hj)
theorem a2F{Φ:Y}[O Φ](p:Option Addr)(cap:Nat)(l:List μ)(b o:Nat)(cs:List (List Value))(hp:0<l.length->p=some ⟨b,o,none⟩)(hΦ:∀ M w,Φ M w->aP b o cs l M w)(hlen:l.length<=9223372036854775807):
  ay Φ prog F.J9 #[.slice p l.length cap] (.bool (kQ l)):=by
 refine zg hΦ λhcs=>?_;refine dN (aME p l.length cap) λW R=>?_;refine bK (λn R' Z k=>∃ i:Nat,n=i/\i<=l.length/\R'=R/\Z=Φ/\k=l.length - i/\∀ j,j<i->mj l j=true) ⟨⟨R,Φ,_,γ,λw F c=>c,0,rfl,Nat.zero_le _,rfl,rfl,rfl,λj hj=>by omega⟩,?_⟩;rintro n ν θ k _ ⟨i,rfl,hi,rfl,rfl,rfl,hok⟩;refine U.intro (λhlt=>?_) (λhge=>λw F B=>⟨?_,B.left⟩)
 .have hlt:i<l.length:=by simpa using hlt
  have hp:=hp (by omega);obtain ⟨q,qc,he,hq1,js,_,_⟩:=hcs i hlt;refine ⟨by omega,aL b o hp λw G B=>⟨_,q,_,qc,_,ic (hΦ _ _ B.Γ) hlt he,λ_=>⟨ν,θ,γ,λ_ _ c=>c,U.intro (λh0=>λw F B=>⟨?_,B.left⟩) (λh0=>U.intro (λh1=>?_) (λh1=>?_))⟩⟩⟩
  .have h0:l[i].n=0:=by simpa using h0
   rw [Oy hlt];unfold mj;rw [List.getElem?_eq_getElem hlt];simp [h0]
  .have h0:¬ l[i].n=0:=by simpa using h0
   have h1:0<i:=by simpa using h1
   obtain ⟨j,rfl⟩:∃ j,i=j+1:=⟨i - 1,by omega⟩;obtain ⟨q',uT,he',QA,QB,_,_⟩:=hcs j (by omega);have hc:mj l (j+1)=decide (ew l[j] l[j+1]<0):=by
    unfold mj;simp only;rw [List.getElem?_eq_getElem hlt,List.getElem?_eq_getElem (show j<l.length by omega)];simp [h0]
   have hcmp:ay θ prog F.BV #[l[j].v q' uT,l[j+1].v q qc] (.int .i64 (ew l[j] l[j+1])):=V2 l[j] l[j+1] q' q uT qc (λM w h=>iw (hΦ M w h) _ he') (λM w h=>iw (hΦ M w h) _ he) (Fu QA QB);refine ⟨by unfold V;omega,by omega,aL b o hp ⟨l[j].time,q',l[j].row.length,uT,l[j].n,?_,?_⟩⟩
   .intro w F B;refine ⟨l[j].time,q',l[j].row.length,uT,l[j].n,?_,rfl⟩;have:=ic (hΦ _ _ B.Γ) (show j<l.length by omega) he';rw [show (((j+1:Nat):Int) - 1).toNat=j by omega];exact this
   intro w F B;refine hcmp.use B λw B=>⟨ew l[j] l[j+1],rfl,ν,θ,γ,B,?_⟩;refine U.intro (λh2=>λw F B=>⟨?_,B.left⟩) (λh2=>⟨by unfold V;omega,ν,θ,l.length - (j+1+1),γ,λw F c=>c,⟨j+1+1,rfl,hlt,rfl,rfl,rfl,λi hi=>?_⟩,by omega⟩)
   .have h2:0<=ew l[j] l[j+1]:=by simpa using h2
    rw [Oy hlt];rw [hc,decide_eq_false (by omega)]
   .have h2:¬ 0<=ew l[j] l[j+1]:=by simpa using h2
    rcases Nat.lt_or_ge i (j+1) with h|h
    .exact hok i h
    .rw [show i=j+1 by omega,hc,decide_eq_true (by omega)]
  .have h0:¬ l[i].n=0:=by simpa using h0
   have h1:i=0:=by simpa using h1
   subst h1;refine ⟨by unfold V;omega,ν,θ,l.length - 1,γ,λw F c=>c,⟨1,rfl,hlt,rfl,rfl,rfl,λi hi=>?_⟩,by omega⟩;rw [show i=0 by omega];unfold mj;simp only;rw [List.getElem?_eq_getElem hlt];simp [h0]
 .have hge:i=l.length:=Nat.le_antisymm hi (by simpa using hge);rw [V4 (hge ▸ hok)]
theorem aNy{Φ:Y}[O Φ](p:Option Addr)(cap:Nat)(l:List μ)(hΦ:∀ M w,Φ M w->ζ M w p l)(hlen:l.length<=9223372036854775807):
  ay Φ prog F.J9 #[.slice p l.length cap] (.bool (kQ l)) :=
 .pinned hΦ λb o cs hp=>a2F (Φ:=λM w=>Φ M w/\aP b o cs l M w) p cap l b o cs hp (λ_ _ h=>h.2) hlen
theorem aXk{l:List μ}(h:Norm l):kQ l=true:=V4 λj hj=>by
 unfold mj;rw [List.getElem?_eq_getElem hj];have h0:decide (l[j].n≠0)=true:=decide_eq_true (h.nz _ (List.getElem_mem _));cases j with
 | zero=>simp only [h0,Bool.true_and]
 | succ i =>
  simp only [h0,Bool.true_and,List.getElem?_eq_getElem (show i<l.length by omega)];exact decide_eq_true (List.pairwise_iff_getElem.1 h.rq i (i+1) (by omega) hj (by omega))
theorem aIi(k:Key):∀ a:List μ,(cG (a.map A5) k+cG a k) % 18446744073709551616=0
 | []=>rfl
 | x :: a=>by
  have ih:=aIi k a;have h:=NI (0 - x.n);show ((if (A5 x).key=k then (A5 x).n else 0)+cG (a.map A5) k+((if x.key=k then x.n else 0)+cG a k)) % 18446744073709551616=0;have e1:(A5 x).key=x.key:=rfl;have e2:(A5 x).n=e4 (0 - x.n):=rfl;rw [e1,e2];by_cases hk:x.key=k
  .rw [if_pos hk,if_pos hk];omega
  .rw [if_neg hk,if_neg hk];omega
theorem aV2(a:List μ)(k:Key):bg (a.map A5) k=e4 (-(bg a k)):=by
 unfold bg;apply NG;have:=aIi k a;have:=NI (cG a k);omega
theorem aV1(l:List μ)(k:Key):bg (bk l) k=bg l k:=(BS l).2 k
theorem aV3(a b:List μ)(k:Key):bg (Dc a b) k=e4 (bg a k - bg b k):=by
 unfold Dc;rw [aV1,aV0,aV2,Gs,<-Int.sub_eq_add_neg]
theorem sub_self(a:List μ):Dc a a=[]:=by
 have h:∀ k,bg [] k=bg (Dc a a) k:=λk=>by
  rw [aV3,Int.sub_self];rfl
 have:=Ox (l:=Dc a a) Norm.nil h
 rwa [show bk (Dc a a)=Dc a a from a6U _] at this
theorem aPo(a b:List μ):(v8 a b).length<=a.length+b.length:=by
 have:=wY (a++b);rw [List.length_append] at this;exact this
abbrev IK(l:List μ):Prop:=∀ x∈l,x.row.length<=1000000
end Go.Proofs.YtfijlibaeahlaaaGreatDoor
end

section
namespace Go.Vc
open Go.RowKit Go.Shelf
section
variable {P:Program}{W w w':World}{S R F:List Own}{Φ Ψ:Y}
theorem Ctx.lose[O Φ](c:Ctx W w (R++S) Φ)(h:bD (dom R) w w'):Ctx W w' S Φ:=by
 have hn:=c.nodup;rw [wh,List.nodup_append] at hn;refine c.go ⟨h.mono λx hx=>by rw [wh];exact List.mem_append_left _ hx,λb hb=>.inl (by rw [wh];exact List.mem_append_right _ hb)⟩ (λo ho=>?_) hn.2.1;exact Own.IZ (c.own o (List.mem_append_right _ ho)) λb hb=>h.block b (c.lt (qv (List.mem_append_right _ ho) hb)) λhm=>hn.2.2 b hm b (qv ho hb) rfl
theorem Ctx.aPw[O Φ]{p:Option Addr}{n cap:Nat}{cs:List Value}{e:TypeId}(c:Ctx W w (.buf p n cap cs e 1 :: S) Φ){t u ty:TypeId}{kb:Array Bool}{i:TypeInfo}
  (ht:P.underlying t=some (.slice e)) (hu:P.underlying u=some .string) (hi:P.info? e=some i) (hz:i.zero=some (.int .u8 0)) (hsize:i.size=1) (hby:i.bytes=1) (s:ByteArray)
  (hb:n+s.size<=140737488355328) (h63:n+s.size<=maxLen) :
  ∃ p' cap' w',Sem.run P (builtin Builtin.append #[t,u] ty kb #[.slice p n cap,.string s]) w=.ok (.value (.slice p' (n+s.size) cap')) w'/\Ctx W w' (.buf p' (n+s.size) cap' (cs++Lib.strCells s) e 1 :: S) Φ:=by
 have hown:=c.own _ (List.mem_cons_self);obtain ⟨bp,hown⟩:=hown;have hxl:cs.length=n:=by simpa using bp
 have hlen:(cs++Lib.strCells s).length=(n+s.size)*1:=by rw [List.length_append,hxl,Lib.strCells_length,Nat.mul_one]
 have grown:∀ (old:Nat),old<n+s.size ->
   Ctx W (w.drew.alloc (.cells (cs.toArray++(Lib.strCells s).toArray++Builtin.zeroCells (Value.int .u8 0).cells (grownCap w (n+s.size) old e - (n+s.size))) e))
    (.buf (some ⟨w.heap.size,0,none⟩) (n+s.size) (grownCap w (n+s.size) old e) (cs++Lib.strCells s) e 1 :: S) Φ:=by
  intro old ho;have hge:=grownCap_ge w (n+s.size) old e;have hcm:grownCap w (n+s.size) old e<=maxLen:=grownCap_le_maxLen w (n+s.size) old e h63;have h:=c.o8 (k:=0) (o':=.buf (some ⟨w.heap.size,0,none⟩) (n+s.size) (grownCap w (n+s.size) old e) (cs++Lib.strCells s) e 1) rfl (((bD.refl _ _).drewN 1).alloc (.cells (cs.toArray++(Lib.strCells s).toArray++Builtin.zeroCells (Value.int .u8 0).cells (grownCap w (n+s.size) old e - (n+s.size))) e)) (by simp [Own.dom]) (by simp [Own.dom])
   ⟨hlen,.inr ⟨w.heap.size,_,_,rfl,Nat.zero_le _,KJ w.drew _,hge,hcm,?_,?_⟩⟩
  .exact h
  .have hz1:(Value.int IntKind.u8 0).cells.size=1:=rfl;simp only [Array.size_append,List.size_toArray,size_zeroCells,hz1,hxl,Lib.strCells_length];omega
  .simp only [Array.toList_append,aq];rw [<-aq,<-hlen];exact List.take_left
 rcases hown with ⟨e1,rfl⟩|⟨g,cap',cur,e1,_,hg,hnc,hcm,hcs,om⟩
 .cases e1;have hx:cs=[]:=List.eq_nil_of_length_eq_zero hxl;subst hx;by_cases hm:s.size=0
  .have hn:Lib.strCells s=[]:=List.eq_nil_of_length_eq_zero (by rw [Lib.strCells_length];exact hm);refine ⟨none,0,w,r7 ?_,by rw [hm,hn];exact c⟩;have hf:=Lib.run_firstCells_string (P:=P) w 1 s;rw [hm] at hf;simp [Builtin.append_,run_underlying ht,run_underlying hu,sizeOf,typeInfo,hi,hsize,Builtin.lenOf,hm,hf]
  .have hr:=run_append_nil_string (P:=P) w t u ty e i (.int .u8 0) ht hu hi hz s (by omega) (by omega) (by rw [hby];omega);have C1:=grown 0 (by omega);simp only [Nat.zero_add,List.nil_append,Array.empty_append] at C1 ⊢;have e1:(s.data.map λb=>Value.int .u8 b.toNat)=(Lib.strCells s).toArray:=by
    apply Array.ext';simp [Lib.strCells]
   rw [e1] at hr;exact ⟨_,_,_,r7 hr,C1⟩
 .cases e1;have a7x:cur.size=cap:=by simpa using hcs
  have ht':cur.toList.take n=cs:=by simpa using om
  by_cases hroom:n+s.size<=cap
  .have hr:=Lib.run_append_room_string (P:=P) w t u ty e i ht hu hi hsize g n cap cur hg s hroom (by omega);refine ⟨_,_,_,r7 hr,?_⟩;have h:=c.o8 (k:=0) (w':=w.setRow g (cur.toList.take n++Lib.strCells s++cur.toList.drop (n+s.size)).toArray) (o':=.buf (some ⟨g,0,none⟩) (n+s.size) cap (cs++Lib.strCells s) e 1) rfl ⟨rfl,rfl,rfl,by simp,λb _ hb=>setRow_other w g b _ (by simpa [Own.dom] using hb)⟩ (by simp [Own.dom]) (by simp [Own.dom])
    ⟨hlen,.inr ⟨g,cap,_,rfl,Nat.zero_le _,setRow_heap w g cur _ e _ hg,hroom,hcm,?_,?_⟩⟩
   .exact h
   .simp only [List.size_toArray,List.length_append,List.length_take,List.length_drop,Array.length_toList,Lib.strCells_length];omega
   .rw [ht',<-hlen];exact List.take_left
  .have holds:∀ j u,cs[j]? = some u->w.cell? ((⟨g,0,none⟩:Addr).add j)=some u:=by
    intro j u hj;have hlt:j<cs.length:=(List.getElem?_eq_some_iff.1 hj).1;have h2:cur[j]? = some u:=by
     rw [<-ht',List.getElem?_take_of_lt (by omega)] at hj;simpa using hj
    rw [addr_add,Nat.zero_add];simp [World.cell?,hg,h2]
   have hr:=Lib.run_append_grow_string (P:=P) w t u ty e i (.int .u8 0) ht hu hi hz ⟨g,0,none⟩ n cap cs (by rw [hsize];simpa using hxl) holds s (by omega) (by omega) (by rw [hby];exact growslice_fits (by omega) (by omega));exact ⟨_,_,_,r7 hr,grown cap (by omega)⟩
def oG(T e:TypeId)(b:Nat)(l:List UInt8)(R:List Own):Prop :=
 ∃ (pa:Value) (p:Option Addr) (cap:Nat),(pa=.pointer none\/pa=.pointer (some ⟨b,0,none⟩))/\R=[.blk b [pa,.slice p l.length cap] T,.buf p l.length cap (Lib.byteCells l) e 1]
theorem oG.fresh[O Φ]{T e:TypeId}{b:Nat}(c:Ctx W w (.blk b [.pointer none,.slice none 0 0] T :: S) Φ):Ctx W w ([.blk b [.pointer none,.slice none 0 0] T,.buf none 0 0 [] e 1]++S) Φ :=
 ((c.zF e 1).perm (List.Perm.swap _ _ _))
theorem oG.nil{T e:TypeId}{b:Nat}:oG T e b [] [.blk b [.pointer none,.slice none 0 0] T,.buf none 0 0 [] e 1]:=⟨.pointer none,none,0,.inl rfl,rfl⟩
end
section
open Go.Proofs
variable {P:Program}{τ:Ren}
theorem aQf{a w:World}{D:List Nat}(h:bD D a w){p:Addr}(hp:p.block∈D)(n:Nat):bD D a (w.freeze p n):=by
 refine h.trans (T:=D) ?_ (λx hx=>.inl hx);unfold World.freeze;split
 .exact bD.refl _ _
 .refine ⟨rfl,rfl,rfl,by simp,λk hk hn=>?_⟩;simp only [Array.getElem?_modify];rw [if_neg (λe=>hn (by rw [<-e];exact hp))]
set_option maxHeartbeats 1000000 in
set_option maxRecDepth 100000 in
theorem aQF(L:Lays.n169 P τ)(X:Builder.Extra P τ)(b g cap:Nat)(pa:Value)(l:List UInt8)(w:World)(h0:l≠[])(hbk:w.heap[b]? = some (.cells #[pa,.slice (some ⟨g,0,none⟩) l.length cap] (τ.t 72) (0,0)))
  (hown:w.ownsRow 0 (τ.t 5) 1 (.slice (some ⟨g,0,none⟩) l.length cap) l.length (Lib.byteCells l)) :
  Calls P (τ.f 169) #[aA b 0] w λe w'=>e=.returned (.string ⟨l.toArray⟩)/\bD [g] w w':=by
 have hl0:l.length≠0:=by simpa using h0
 obtain ⟨cur,hg,hnc,hcm,hcs,om⟩:∃ cur,w.heap[g]? = some (.cells cur (τ.t 5) (0,0))/\l.length<=cap/\cap<=maxLen/\cur.size=cap*1/\cur.toList.take (l.length*1)=Lib.byteCells l:=by
  rcases hown.2 with ⟨hv,_⟩|⟨g',cap',cur,hv,_,r⟩
  .cases hv
  .cases hv;exact ⟨cur,r⟩
 have c1:w.drew.cell? ⟨b,1,none⟩=some (.slice (some ⟨g,0,none⟩) l.length cap):=by
  have:w.drew.heap[b]? = some (.cells #[pa,.slice (some ⟨g,0,none⟩) l.length cap] (τ.t 72) (0,0)):=hbk;rw [Lib.cell_of_heap this];rfl
 have WK:(Builtin.unsafeSliceData_ #[(τ.t 37)] (τ.t 127) #[.slice (some ⟨g,0,none⟩) l.length cap]).run P w.drew=.ok (aA g 0) w.drew :=
  Lib.run_unsafeSliceData_row _ _ _ _ _ _ (by omega)
 have WN:(Builtin.unsafeString_ #[(τ.t 127),(τ.t 3)] (τ.t 9) #[aA g 0,.int .i64 l.length]).run P w.drew=.ok (.string ⟨l.toArray⟩) (w.drew.freeze ⟨g,0,none⟩ l.length):=by
  refine Lib.run_unsafeString_row w.drew (τ.t 127) (τ.t 3) (τ.t 9) (τ.t 5) L.t127 X.cellsByte g cur.size (by have hg':w.drew.heap[g]? = some (.cells cur (τ.t 5) (0,0)):=hg;simp [World.shape?,hg']) l h0 (by omega) (by unfold maxLen at hcm;omega) ?_;intro j x hx;have:=hown.cells (g:=g) rfl j (.int .u8 x.toNat) (by simp [Lib.byteCells,hx]);exact this
 have mixed:=L.mixed;have t72:=L.t72;have a72:=L.a72;have z72:=L.z72;have v72:=L.v72;have Zp:=run_underlying L.t72;have t70:=L.t70;have a70:=L.a70;have z70:=L.z70;have v70:=L.v70;have Zo:=run_underlying L.t70;have t37:=L.t37;have a37:=L.a37;have z37:=L.z37;have v37:=L.v37;have Zn:=run_underlying L.t37;have t127:=L.t127;have a127:=L.a127;have z127:=L.z127;have v127:=L.v127;have Zm:=run_underlying L.t127
 have t3:=L.t3;have a3:=L.a3;have z3:=L.z3;have v3:=L.v3;have u3:=run_underlying L.t3;have t9:=L.t9;have a9:=L.a9;have z9:=L.z9;have v9:=L.v9;have Zr:=run_underlying L.t9;have t5:=X.t5;have a5:=X.a5;have z5:=X.z5;have v5:=X.v5;have Df:=run_underlying X.t5
 go_enter L.f169,Body.n169_ntmps τ
 go_wp2
 go_region_o
 all_goals (go_wp2;go_ret;exact ⟨rfl,aQf ((bD.refl _ _).drewN 1) (p:=⟨g,0,none⟩) (by simp) _⟩)
set_option maxHeartbeats 2000000 in
set_option maxRecDepth 100000 in
theorem aQC(L:Lays.n169 P τ)(X:Builder.Extra P τ)(b:Nat)(p:Value)(w:World)(hbk:w.heap[b]? = some (.cells #[p,.slice none 0 0] (τ.t 72) (0,0))):
  Calls P (τ.f 169) #[aA b 0] w λe w'=>e=.returned (.string ⟨#[]⟩)/\bD [] w w':=by
 have WN:=Any.unsafeString_none L X;have c1:w.drew.cell? ⟨b,1,none⟩=some (.slice none 0 0):=by
  have:w.drew.heap[b]? = some (.cells #[p,.slice none 0 0] (τ.t 72) (0,0)):=hbk;rw [Lib.cell_of_heap this];rfl
 have WK:(Builtin.unsafeSliceData_ #[(τ.t 37)] (τ.t 127) #[.slice none 0 0]).run P w.drew=.ok (.pointer none) w.drew:=rfl;have mixed:=L.mixed;have t72:=L.t72;have a72:=L.a72;have z72:=L.z72;have v72:=L.v72;have Zp:=run_underlying L.t72;have t70:=L.t70;have a70:=L.a70;have z70:=L.z70;have v70:=L.v70;have Zo:=run_underlying L.t70;have t37:=L.t37;have a37:=L.a37;have z37:=L.z37;have v37:=L.v37;have Zn:=run_underlying L.t37
 have t127:=L.t127;have a127:=L.a127;have z127:=L.z127;have v127:=L.v127;have Zm:=run_underlying L.t127;have t3:=L.t3;have a3:=L.a3;have z3:=L.z3;have v3:=L.v3;have u3:=run_underlying L.t3;have t9:=L.t9;have a9:=L.a9;have z9:=L.z9;have v9:=L.v9;have Zr:=run_underlying L.t9;have t5:=X.t5;have a5:=X.a5;have z5:=X.z5;have v5:=X.v5;have Df:=run_underlying X.t5
 go_enter L.f169,Body.n169_ntmps τ
 go_wp2
 go_region_o
 all_goals (go_wp2;go_ret;exact ⟨rfl,(bD.refl _ _).drewN 1⟩)
set_option maxHeartbeats 2000000 in
set_option maxRecDepth 100000 in
theorem aQD(L:Lays.n169 P τ)(X:Builder.Extra P τ)(b g:Nat)(p:Value)(cur:Array Value)(w:World)(hbk:w.heap[b]? = some (.cells #[p,.slice (some ⟨g,0,none⟩) 0 0] (τ.t 72) (0,0)))(hg:w.heap[g]? = some (.cells cur (τ.t 5) (0,0))):
  Calls P (τ.f 169) #[aA b 0] w λe w'=>e=.returned (.string ⟨#[]⟩)/\bD [] w w':=by
 have WN:=Any.unsafeString_none L X;have hlt:b<w.heap.size:=by
  rcases Nat.lt_or_ge b w.heap.size with h'|h'
  .exact h'
  .simp [Array.getElem?_eq_none h'] at hbk
 have c1:w.drew.cell? ⟨b,1,none⟩=some (.slice (some ⟨g,0,none⟩) 0 0):=by
  have:w.drew.heap[b]? = some (.cells #[p,.slice (some ⟨g,0,none⟩) 0 0] (τ.t 72) (0,0)):=hbk;rw [Lib.cell_of_heap this];rfl
 have WK:(Builtin.unsafeSliceData_ #[(τ.t 37)] (τ.t 127) #[.slice (some ⟨g,0,none⟩) 0 0]).run P w.drew=.ok (aA w.drew.heap.size 0) (w.drew.alloc (.view ⟨g,0,none⟩ (τ.t 5))) :=
  Lib.run_unsafeSliceData_zero w.drew _ _ (τ.t 5) L.t127 ⟨g,0,none⟩ 0 ((τ.t 5),cur.size) (by have hg':w.drew.heap[g]? = some (.cells cur (τ.t 5) (0,0)):=hg;simp [World.shape?,hg'])
 have c2:(w.drew.alloc (.view ⟨g,0,none⟩ (τ.t 5))).cell? ⟨b,1,none⟩=some (.slice (some ⟨g,0,none⟩) 0 0):=by
  have:(w.drew.alloc (.view ⟨g,0,none⟩ (τ.t 5))).heap[b]? = _:=(Lib.alloc_old w.drew _ b hlt).trans hbk;rw [Lib.cell_of_heap this];rfl
 have c3:(w.alloc (.view ⟨g,0,none⟩ (τ.t 5))).drew.cell? ⟨b,1,none⟩=some (.slice (some ⟨g,0,none⟩) 0 0):=c2;have c0:w.cell? ⟨b,1,none⟩=some (.slice (some ⟨g,0,none⟩) 0 0):=c1;have mixed:=L.mixed;have t72:=L.t72;have a72:=L.a72;have z72:=L.z72;have v72:=L.v72;have Zp:=run_underlying L.t72;have t70:=L.t70;have a70:=L.a70;have z70:=L.z70;have v70:=L.v70;have Zo:=run_underlying L.t70;have t37:=L.t37;have a37:=L.a37;have z37:=L.z37;have v37:=L.v37;have Zn:=run_underlying L.t37
 have t127:=L.t127;have a127:=L.a127;have z127:=L.z127;have v127:=L.v127;have Zm:=run_underlying L.t127;have t3:=L.t3;have a3:=L.a3;have z3:=L.z3;have v3:=L.v3;have u3:=run_underlying L.t3;have t9:=L.t9;have a9:=L.a9;have z9:=L.z9;have v9:=L.v9;have Zr:=run_underlying L.t9;have t5:=X.t5;have a5:=X.a5;have z5:=X.z5;have v5:=X.v5;have Df:=run_underlying X.t5
 go_enter L.f169,Body.n169_ntmps τ
 go_wp2
 go_region_o
 all_goals (go_wp2;go_ret;exact ⟨rfl,((bD.refl _ _).drewN 1).alloc _⟩)
set_option maxHeartbeats 2000000 in
set_option maxRecDepth 100000 in
theorem aQE(L:Lays.n169 P τ)(X:Builder.Extra P τ)(b g cap:Nat)(p:Value)(w:World)(hc0:cap≠0)(hbk:w.heap[b]? = some (.cells #[p,.slice (some ⟨g,0,none⟩) 0 cap] (τ.t 72) (0,0))):
  Calls P (τ.f 169) #[aA b 0] w λe w'=>e=.returned (.string ⟨#[]⟩)/\bD [] w w':=by
 have WN:=Any.unsafeString_none L X;have c1:w.drew.cell? ⟨b,1,none⟩=some (.slice (some ⟨g,0,none⟩) 0 cap):=by
  have:w.drew.heap[b]? = some (.cells #[p,.slice (some ⟨g,0,none⟩) 0 cap] (τ.t 72) (0,0)):=hbk;rw [Lib.cell_of_heap this];rfl
 have WK:(Builtin.unsafeSliceData_ #[(τ.t 37)] (τ.t 127) #[.slice (some ⟨g,0,none⟩) 0 cap]).run P w.drew=.ok (aA g 0) w.drew :=
  Lib.run_unsafeSliceData_row _ _ _ _ _ _ hc0
 clear hc0;have mixed:=L.mixed;have t72:=L.t72;have a72:=L.a72;have z72:=L.z72;have v72:=L.v72;have Zp:=run_underlying L.t72;have t70:=L.t70;have a70:=L.a70;have z70:=L.z70;have v70:=L.v70;have Zo:=run_underlying L.t70;have t37:=L.t37;have a37:=L.a37;have z37:=L.z37;have v37:=L.v37;have Zn:=run_underlying L.t37;have t127:=L.t127;have a127:=L.a127;have z127:=L.z127;have v127:=L.v127;have Zm:=run_underlying L.t127
 have t3:=L.t3;have a3:=L.a3;have z3:=L.z3;have v3:=L.v3;have u3:=run_underlying L.t3;have t9:=L.t9;have a9:=L.a9;have z9:=L.z9;have v9:=L.v9;have Zr:=run_underlying L.t9;have t5:=X.t5;have a5:=X.a5;have z5:=X.z5;have v5:=X.v5;have Df:=run_underlying X.t5
 go_enter L.f169,Body.n169_ntmps τ
 go_wp2
 go_region_o
 all_goals (go_wp2;go_ret;exact ⟨rfl,(bD.refl _ _).drewN 1⟩)
theorem oG.string{W w:World}{S R:List Own}{Φ:Y}[O Φ]{b:Nat}{l:List UInt8}(L:Lays.n169 P τ)(X:Builder.Extra P τ)(h:oG (τ.t 72) (τ.t 5) b l R)(c:Ctx W w (R++S) Φ){K:c6}
  (hk:∀ w',Ctx W w' S Φ->K (.returned (.string ⟨l.toArray⟩)) w'):Calls P (τ.f 169) #[aA b 0] w K:=by
 obtain ⟨pa,p,cap,hpa,rfl⟩:=h;have hbk:w.heap[b]? = some (.cells #[pa,.slice p l.length cap] (τ.t 72) (0,0)):=c.blk 0 rfl;have hown:w.ownsRow 0 (τ.t 5) 1 (.slice p l.length cap) l.length (Lib.byteCells l):=c.own _ (List.mem_cons_of_mem _ List.mem_cons_self);by_cases h0:l=[]
 .subst h0;rcases hown.2 with ⟨e,_⟩|⟨g,cap',cur,e,_,hg,_⟩
  .cases e;exact (aQC L X b pa w hbk).mono λe w' ⟨he,hc⟩=>by subst he;exact hk w' (c.lose (hc.mono (by simp)))
  .cases e;by_cases hc0:cap=0
   .subst hc0;exact (aQD L X b g pa cur w hbk hg).mono λe w' ⟨he,hc⟩=>by subst he;exact hk w' (c.lose (hc.mono (by simp)))
   .exact (aQE L X b g cap pa w hc0 hbk).mono λe w' ⟨he,hc⟩=>by subst he;exact hk w' (c.lose (hc.mono (by simp)))
 .have hl0:l.length≠0:=by simpa using h0
  obtain ⟨g,rfl⟩:∃ g,p=some ⟨g,0,none⟩:=by
   rcases hown.2 with ⟨_,hz⟩|⟨g,cap',cur,hv,_⟩
   .exact absurd hz hl0
   .cases hv;exact ⟨g,rfl⟩
  exact (aQF L X b g cap pa l w h0 hbk hown).mono λe w' ⟨he,hc⟩=>by subst he;exact hk w' (c.lose (hc.mono (by simp [dom,Own.dom])))
end
def Ew(P:Program)(name:String)(k:IntKind)(zs:List Int):Y:=λM w=>Lib.TabIs P w name k zs/\∀ g,P.globalNamed name=some g->g ∉ M
instance adZ(P:Program)(name:String)(k:IntKind)(zs:List Int):O (Ew P name k zs):=⟨fun {M M' w w'} hs h=>by
 obtain ⟨h1,h2⟩:=h;unfold Lib.TabIs World.var? at h1;cases hg:P.globalNamed name with
 | none=>simp [hg] at h1
 | some g =>
  simp only [hg,Option.bind_some] at h1;have hlt:g<w.heap.size:=by
   rcases Nat.lt_or_ge g w.heap.size with h'|h'
   .exact h'
   .rw [Array.getElem?_eq_none h'] at h1;simp at h1
  refine ⟨?_,λg' hg' hm=>?_⟩
  .unfold Lib.TabIs World.var?;simp only [hg,Option.bind_some];rw [hs.nY.block g hlt (h2 g hg)];exact h1
  .rw [hg] at hg';cases hg';rcases hs.sub g hm with h|h
   .exact h2 g hg h
   .omega⟩
theorem Ew.start{P:Program}{name:String}{k:IntKind}{zs:List Int}{w:World}(h:Lib.TabIs P w name k zs):Ew P name k zs [] w:=⟨h,λ_ _=>by simp⟩
theorem aQg{w:World}{k:Nat}{os:Array Obj}:bD [] w (Sort.grow (w.drewN k) os) :=
 ⟨rfl,rfl,rfl,by show w.heap.size<=(w.heap++os).size;rw [Array.size_append];omega,λj hj _=>by
  show (w.heap++os)[j]? = w.heap[j]?;rw [Array.getElem?_append_left hj]⟩
theorem aWj{P : Program}{f : FuncId}{Φ : Y}[O Φ]{name : String}(hI : ∀ (n : Int), -9223372036854775808 <= n -> n <= 9223372036854775807 -> ∀ w, Lib.TabIs P w name .u64 Lib.pow10Tab ->
   Calls P f #[.int .i64 n] w λe w'=>e=.returned (.string ⟨(Lib.itoa n).toArray⟩)/\∃ k os,w'=Sort.grow (w.drewN k) os)
  (hΦ:∀ M w,Φ M w->Ew P name .u64 Lib.pow10Tab M w) (n:Int) (h:V n):ay Φ P f #[.int .i64 n] (.string ⟨(Lib.itoa n).toArray⟩) :=
 ⟨λW w S c=>(hI n (by unfold V at h;omega) (by unfold V at h;omega) w (hΦ _ _ c.Γ).1).mono λe w' ⟨he,k,os,hw⟩=>⟨he,by rw [hw];exact c.call aQg⟩⟩
open Go.ChangeShapes Go.WideShapes Go.ChangeAt
theorem aX1{H:Type}{enc:TypeId × Value->H}{C:Checked}{os:Os}{f:FuncId}{fn:Func}{s:ChangeSpec}{conds:List PathCond}{apart fresh handsOn:Bool}{tb:TypeId}{Ql:List (String × DataW Unit)}
  (own:ownKnob C.prog.godebug=none) (started:os.Started) (noInit:C.prog.inits.idxOf? f=none) (hfn:C.prog.funcs[f]? = some fn)
  (laid:laidOutB C.prog=true) (hvars:s.vars=[]) (hspec:∀ ds:List (DataW H),ds.length=fn.params.toList.length->(s.fn H (ds++[])).results=[.lit (.bool true)]/\(s.fn H (ds++[])).args=ds/\(s.fn H (ds++[])).vars=[])
  (hres:fn.resultTypes=#[tb]) (htb:C.prog.underlying tb=some .bool)
  (types:(fn.params.toList.all λt=>C.prog.readableRec t&&decide (t<C.prog.types.size))=true)
  (witness:∃ (w:World) (tape:Tape) (i:Input),w.os=os/\(w.forCall tape i).Shaped C.prog/\i.vars=[]/\Input.okWide C.prog (w.forCall tape i) .any w.heap.size f i /\
   ((s.pre enc C.prog fn conds apart (w.forCall tape i).memory i.args/\laidMetH C.prog Ql (w.forCall tape i).memory)/\sizedMet enc C.prog fn (OpenSpec.ofChange s) apart (w.forCall tape i).memory i.args)/\Assume.holds {} C.prog (lone (Frame.enter C.prog f i.args .normal) [] (w.forCall tape i)))
  (contract:∀ (W:World) (base:Nat) (args:Array Value) (ds:List (DataW H)) (p:List MemPlace),
   (∀ (j:Nat) t v,fn.params[j]? = some t->args[j]? = some v->Value.okWide C.prog W .any base t v) ->
   DataW.TrodAll enc C.prog W 0 (λ_=>true) true fn.params.toList args.toList ds p ->
   conds.all (PathCond.test C.prog ⟨fn.params.toList,ds,s.plain.varTypes C.prog,[]⟩)=true->laidMetH C.prog Ql W ->
   Calls C.prog f args W λe W'=>∃ u,e=.returned u/\(u=.bool true/\bD [] W W')) :
  ReturnsInHanded {} C os f .any (λw args=>(s.pre enc C.prog fn conds apart w args/\laidMetH C.prog Ql w)/\sizedMet enc C.prog fn (OpenSpec.ofChange s) apart w args) (s.post enc C.prog fn apart fresh handsOn false):=by
 refine returnsInHanded_of_change_and (X:=λw _=>laidMetH C.prog Ql w) (λ_ _ _ hh h=>h.of_heap hh) own started noInit hfn witness ?_;intro W base args ds gs before hval hW aVe _ hL _;have WO:=hW;obtain ⟨p,q,hA,hV,rfl,_,_⟩:=hW;rw [hvars] at hV;obtain ⟨rfl,rfl⟩:=trodVars_none hV;simp only [List.append_nil] at WO;refine (contract W base args ds p hval hA aVe hL).mono λe W' ⟨u,he,hu,hc⟩=>?_;subst he;subst hu
 have hb:Below W.heap.size W W':=hc.below (Nat.le_refl _) (by simp);obtain ⟨e1,e2,eE⟩:=hspec ds (aIp hA).2;refine ⟨_,rfl,ds,[],p,[],p,[],WO,?_,?_,?_,hb.frame _,λh=>by cases h⟩
 .rw [e1,hres];exact trodAll_mk1 (t:=tb) (v:=.bool true) ⟨1,by simp [DataW.trod,Value.cells,htb]⟩
 .rw [e2];exact aIo laid hb types hA (λx hx=>by simpa using WO.lt x hx)
 .rw [eE,hvars];rfl
end Go.Vc
end

section
namespace Go.Vc
section
variable {P:Program}{W w:World}{R G:List Own}{Φ Ψ:Y}{f:FuncId}{args:Array Value}
class Has (Φ Ψ:Y):Prop where
 go:∀ M w,Φ M w->Ψ M w
instance(priority:=2000) ad1 (Φ:Y):Has Φ Φ:=⟨λ_ _ h=>h⟩
instance(priority:=900) acz (A υ Ψ:Y) [h:Has A Ψ]:Has (λM w=>A M w/\υ M w) Ψ:=⟨λM w x=>h.go M w x.1⟩
instance(priority:=1000) ad0 (A υ Ψ:Y) [h:Has υ Ψ]:Has (λM w=>A M w/\υ M w) Ψ:=⟨λM w x=>h.go M w x.2⟩
instance(priority:=800) acy (Φ A υ:Y) [h:Has Φ A] [k:Has Φ υ]:Has Φ (λM w=>A M w/\υ M w):=⟨λM w x=>⟨h.go M w x,k.go M w x⟩⟩
theorem Ctx.has(c:Ctx W w R Φ)[h:Has Φ Ψ]:Ctx W w R Ψ:=c.weak h.go
theorem ij.to[O Φ]{α:Type}[ι α]{l:List α}(h:ij Φ P f args l id)(c:Ctx W w (R++G) Φ){K:Option Addr->Nat->Nat->List Own->Y->Prop}
  (hk:∀ p cap,l.length<=cap->cap<=maxLen->O (λM w=>Φ M w/\ζ M w p l)->K p l.length cap R (λM w=>Φ M w/\ζ M w p l)) :
  Calls P f args w λe w'=>∃ p n c,e=.returned (.slice p n c)/\∃ R' Z,O Z/\Ctx W w' (R'++G) Z/\K p n c R' Z :=
 h.use c λp cap w' h1 h2 c=>⟨p,_,cap,rfl,R,_,γ,c,hk p cap h1 h2 γ⟩
theorem ay.Rq[O Φ]{b:Bool}(h:ay Φ P f args (.bool b))(c:Ctx W w (R++G) Φ){K:Bool->List Own->Y->Prop}(hk:K b R Φ):
  Calls P f args w λe w'=>∃ c,e=.returned (.bool c)/\∃ R' Z,O Z/\Ctx W w' (R'++G) Z/\K c R' Z :=
 h.use c λw' c=>⟨b,rfl,R,Φ,γ,c,hk⟩
theorem ay.Ge[O Φ]{n:Int}{k:IntKind}(h:ay Φ P f args (.int k n))(c:Ctx W w (R++G) Φ){K:Int->List Own->Y->Prop}(hk:K n R Φ):
  Calls P f args w λe w'=>∃ c,e=.returned (.int k c)/\∃ R' Z,O Z/\Ctx W w' (R'++G) Z/\K c R' Z :=
 h.use c λw' c=>⟨n,rfl,R,Φ,γ,c,hk⟩
theorem ay.bE[O Φ]{s:ByteArray}(h:ay Φ P f args (.string s))(c:Ctx W w (R++G) Φ){K:ByteArray->List Own->Y->Prop}(hk:K s R Φ):
  Calls P f args w λe w'=>∃ c,e=.returned (.string c)/\∃ R' Z,O Z/\Ctx W w' (R'++G) Z/\K c R' Z :=
 h.use c λw' c=>⟨s,rfl,R,Φ,γ,c,hk⟩
theorem fin[O Φ][O Ψ][hw:Has Ψ Φ]{v:Value}(c:Ctx W w (R++G) Ψ):v=v/\Ctx W w R Φ:=⟨rfl,(Ctx.has c).left⟩
end
end Go.Vc
end

