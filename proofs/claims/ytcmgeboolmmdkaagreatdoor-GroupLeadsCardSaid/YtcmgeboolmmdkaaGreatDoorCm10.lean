/-
 A journal in memory: note,Append: walked.
-/
import Derived.Test.YtcmgeboolmmdkaaGreatDoorCm9
import Derived.Test.YtcmgeboolmmdkaaGreatDoorCm6
import Derived.Test.YtcmgeboolmmdkaaGreatDoorCm8
import Derived.ArgAppend
import Derived.Laws.Entries
import Derived.Test.YtcmgeboolmmdkaaGreatDoorCm7
open Go.Proofs.Tryz
set_option linter.unusedVariables false
set_option linter.unusedSimpArgs false
section
namespace Go.Proofs.YtcmgeboolmmdkaaGreatDoor
open Go.Vc
structure za where
 ax:Nat
 cb:Nat
 p:Option Addr
 cap:Nat
 o:Own
abbrev nG(x:za)(q:ld)(j:jd):List Value:=[ε q.db 0,.int .i64 j.base,ε x.cb 0,.slice x.p j.list.length x.cap,.int .i64 (j.bytes:Int),.bool j.broken]
abbrev aL(x:za)(q:ld)(j:jd):List Own:=[x.o,.blk x.ax (nG x q j) 132,aP x.cb q j.cell]
def za.mv(x:za)(p:Option Addr)(cap:Nat)(o:Own):za:=⟨x.ax,x.cb,p,cap,o⟩
section
variable {W w:World}{S G:List Own}{Φ:θ}
theorem xI[O Φ]{A X S G}(y:Ctx W w ((A++(X++S))++G) Φ):Ctx W w (X++(A++(S++G))) Φ:=by
 rw [μ,μ] at y;exact y.perm (Ib _ _ _ _)
theorem uu[O Φ]{A X S G}(y:Ctx W w (X++(A++(S++G))) Φ):Ctx W w ((A++(X++S))++G) Φ:=by
 rw [μ,μ];exact y.perm (Ib _ _ _ _)
theorem aLp[O Φ]{a b c X S G}(y:Ctx W w (([a,b,c]++(X++S))++G) Φ):Ctx W w (c :: (X++(a :: b :: (S++G)))) Φ :=
 xI (A:=[a,b]) (X:=c :: X) y
theorem aLq[O Φ]{a b c X S G}(y:Ctx W w (c :: (X++(a :: b :: (S++G)))) Φ):Ctx W w (([a,b,c]++(X++S))++G) Φ :=
 uu (A:=[a,b]) (X:=c :: X) y
theorem a1K[O Φ]{q d}(hq:cG q d)(hkp:gk Φ q d)(hoff:∀ M w,Φ M w->jO M w)(hT:∀ M w,Φ M w->lu M w){x j b n}(hb:b<=1099511627776)(hn:n<=1099511627776)(y:Ctx W w (aL x q j++(ξ q d++S)) Φ){K}(hk:∀ u w',cG (q.mv u) (pM d j b n).1->Ctx W w' (aL x q (pM d j b n).2.1++(ξ (q.mv u) (pM d j b n).1++S)) Φ->K (.returned (.int .i64 (pM d j b n).2.2)) w'):
  Γ F.Qn #[ε x.ax 0,.int .i64 (b:Int),.int .i64 (n:Int)] w K:=by
 have h1:=qj (n:=(b:Int)) (by unfold κ;omega);have h2:=qj (n:=(n:Int)) (by unfold κ;omega);refine ak (aDY x.ax 0 (b:Int) (n:Int) (J:=K∘.returned) y ⟨_,Φ,δ,λw G y=>y,some ⟨x.cb,0,none⟩,λw G y=>⟨_,y.get 1 rfl rfl,rfl⟩,λw G y=>(Dw (Φ:=Φ) (.inl ⟨hT,by unfold κ;omega⟩)).use y λw y=>⟨_,rfl,_,Φ,δ,y,λw G y=>y,λw G y=>(Dw (Φ:=Φ) (.inl ⟨hT,by unfold κ;omega⟩)).use y λw y=>⟨_,rfl,_,Φ,δ,y,λw G y=>y,by show (iJ (b:Int)).size+(iJ (n:Int)).size<=_;omega,λw G y=>?_⟩⟩⟩)
 have e:iJ (b:Int)++iJ (n:Int)=bs (rS b n):=by
  apply ByteArray.ext;apply Array.toList_inj.1;simp [rS,bs]
 rw [e];unfold pM at hk;refine a0p (S:=x.o :: .blk x.ax (nG x q j) 132 :: (S++G)) hq hkp hoff (aLp y) λu w hq1 y=>?_;generalize kE d j.cell (rS b n)=r at hk hq1 y;obtain ⟨d1,c1,e1⟩:=r;simp only at hk hq1 y;refine ⟨e1,rfl,[x.o,.blk x.ax (nG x q j) 132,aP x.cb q c1]++(ξ (q.mv u) d1++S),Φ,δ,aLq y,λw G y=>⟨y.can 1 rfl (by show 5+1<=6;omega),λw' hw'=>?_⟩⟩;exact ⟨_,Φ,δ,y.put 1 hw' rfl,λw G y=>hk u w hq1 (Ctx.left y)⟩
end
theorem Wr(d j l):(q8 d j l).1.keep=d.keep:=by
 unfold q8;split
 .rw [BD,JS]
 .exact JS _ _ _ _
theorem aPq(d c s n):(vH d c s n).1.keep=d.keep:=by
 unfold vH
 repeat' split
 all_goals simp only [BD,JS]
theorem aAA(d c s):(kE d c s).1.keep=d.keep:=by
 unfold kE
 repeat' split
 all_goals simp only [BD,aPq]
theorem RC(d j b n):(pM d j b n).1.keep=d.keep:=aAA _ _ _
section
variable {W w:World}{S G:List Own}{Φ:θ}
theorem aCR[O Φ]{q d}(hq:cG q d)(hkp:gk Φ q d)(hoff:∀ M w,Φ M w->jO M w)(hT:∀ M w,Φ M w->lu M w){x j}(hsb:fY x.p x.cap j.list x.o){lp lc l}(bp:∀ M w,Φ M w->Δ M w lp l)(hf:(aK l).length<=1000000000)(hb:j.bytes<=1000000000)(hn:j.list.length+l.length<100000000)(y:Ctx W w (aL x q j++(ξ q d++S)) Φ){K}(hk:∀ u p c o w',fY p c (iG d j l).2.1.list o->cG (q.mv u) (iG d j l).1->Ctx W w' (aL (x.mv p c o) q (iG d j l).2.1++(ξ (q.mv u) (iG d j l).1++S)) Φ->K (.returned (.int .i64 (iG d j l).2.2)) w'):
  Γ F.WG #[ε x.ax 0,.slice lp l.length lc] w K:=by
 have hsame:∀ {e:Int} {w':World} {G:List Own},iG d j l=(d,j,e)->Ctx W w' ((aL x q j++(ξ q d++S))++G) Φ->K (.returned (.int .i64 e)) w':=by
  intro e w' G he y;rw [he] at hk;exact hk q.un x.p x.cap x.o w' hsb hq (Ctx.left y)
 refine ak (aDV x.ax 0 lp l.length lc (J:=K∘.returned) y λw G y=>(Up (Φ:=Φ) hT bp hf).use y λw y=>⟨_,rfl,_,Φ,δ,y,λw G y=>⟨_,y.get 1 rfl rfl,γ.intro (λh=>λw G y=>?_) (λh=>γ.intro (λh2=>λw G y=>?_) (λh2=>λw G y=>⟨(j.bytes:Int),y.get 1 rfl rfl,?_,γ.intro (λh3=>λw G y=>?_) (λh3=>?_)⟩))⟩⟩)
 .exact hsame (by unfold iG;rw [if_pos h]) y
 .exact hsame (by unfold iG;rw [if_neg (by rw [h];simp),if_pos (List.eq_nil_of_length_eq_zero (by have:=aN h2;omega))]) y
 .rw [dN];unfold κ;omega
 all_goals rw [dN] at *
 all_goals have h:¬ j.broken=true:=by rw [h];simp
 all_goals have h2:¬ l=[]:=λe=>Λ h2 (by rw [e];rfl)
 .exact hsame (by unfold iG;rw [if_neg h,if_neg h2,if_pos (by have:=aN h3;omega)]) y
 have h3:¬ 1048576<j.bytes+(aK l).length:=by have:=Λ h3;omega
 have a54:iG d j l=if (q8 d j l).2≠0 then ((q8 d j l).1,{ j with broken:=true },(q8 d j l).2) else nk j (j.list++l) (j.bytes+(aK l).length) (pM (q8 d j l).1 j (j.bytes+(aK l).length) (j.list.length+l.length)):=by
  unfold iG;rw [if_neg h,if_neg h2,if_neg h3]
 rw [a54] at hk;have hlk:=Wr d j l;have gw:q8 d j l=if (ct d j.base j.bytes (aK l)).2=0 then bN (ct d j.base j.bytes (aK l)).1 j.base else ct d j.base j.bytes (aK l):=rfl
 clear a54 hsame;refine ⟨_,Φ,δ,λw G y=>y,some ⟨q.db,0,none⟩,λw G y=>⟨_,y.get 1 rfl rfl,rfl⟩,j.base,λw G y=>⟨_,y.get 1 rfl rfl,rfl⟩,(j.bytes:Int),λw G y=>⟨_,y.get 1 rfl rfl,rfl⟩,λw G y=>?_⟩;have hwk:=JS d j.base j.bytes (aK l);refine TQ (S:=aL x q j++(S++G)) hq hkp (by omega) (xI y) λu w hq1 y=>?_;generalize ct d j.base j.bytes (aK l)=r at gw hq1 y hwk;obtain ⟨d1,e1⟩:=r;simp only at gw hq1 y hwk;refine ⟨e1,rfl,aL x q j++(ξ (q.mv u) d1++S),Φ,δ,uu y,?_⟩
 refine fD (λn R' η=>∃ u,n=(q8 d j l).2/\R'=aL x q j++(ξ (q.mv u) (q8 d j l).1++S)/\η=Φ/\cG (q.mv u) (q8 d j l).1) ⟨γ.intro (λh4=>?_) (λh4=>?_),?_⟩
 .rw [if_pos (aN h4)] at gw;refine ⟨_,Φ,δ,λw G y=>y,some ⟨q.db,0,none⟩,λw G y=>⟨_,y.get 1 rfl rfl,rfl⟩,j.base,λw G y=>⟨_,y.get 1 rfl rfl,rfl⟩,λw G y=>?_⟩;refine Gq (q:=q.mv u) (S:=aL x q j++(S++G)) hq1 (hkp.of hwk u) (xI y) λu w cX y=>⟨_,rfl,aL x q j++(ξ (q.mv u) (bN d1 j.base).1++S),Φ,δ,uu y,_,Φ,δ,λw G y=>y,u,by rw [gw],by rw [gw],rfl,by rw [gw];exact cX⟩
 .rw [if_neg (Λ h4)] at gw;exact ⟨_,Φ,δ,λw G y=>y,u,by rw [gw],by rw [gw],rfl,by rw [gw];exact hq1⟩
 clear gw hq1 y hwk;rintro n aW Φ st ⟨u,rfl,rfl,rfl,hq1⟩;generalize q8 d j l=r at hk hq1 hlk;obtain ⟨d1,e1⟩:=r;simp only at hk hq1 hlk ⊢;refine γ.intro (λh4=>λw G y=>⟨y.can 1 rfl (by show 5+1<=6;omega),λw' hw'=>?_⟩) (λh4=>?_)
 .rw [if_pos (aN h4)] at hk;exact ⟨aL x q { j with broken:=true }++(ξ (q.mv u) d1++S),Φ,δ,y.put 1 hw' rfl,λw G y=>hk u x.p x.cap x.o w hsb hq1 (Ctx.left y)⟩
 rw [if_neg (Λ h4)] at hk;refine ⟨_,Φ,δ,λw G y=>y,(j.bytes:Int),λw G y=>⟨_,y.get 1 rfl rfl,rfl⟩,x.p,j.list.length,x.cap,λw G y=>⟨_,_,_,y.get 1 rfl rfl,rfl⟩,by unfold κ;omega,by unfold κ;omega,λw G y=>?_⟩;rw [<-Int.natCast_add,<-Int.natCast_add];have hnk:=RC d1 j (j.bytes+(aK l).length) (j.list.length+l.length);refine a1K (S:=S++G) (q:=q.mv u) hq1 (hkp.of hlk u) hoff hT (by omega) (by omega) (by rw [<-μ (ξ _ _),<-μ];exact y) λu w cX y=>?_
 have pF:(pM d1 j (j.bytes+(aK l).length) (j.list.length+l.length)).2.1.list=j.list:=rfl;have hnb:(pM d1 j (j.bytes+(aK l).length) (j.list.length+l.length)).2.1.bytes=j.bytes:=rfl;generalize pM d1 j (j.bytes+(aK l).length) (j.list.length+l.length)=r at hk cX y hnk pF hnb;obtain ⟨d2,j2,e2⟩:=r;simp only at hk cX y hnk pF hnb;refine ⟨e2,rfl,aL x q j2++(ξ (q.mv u) d2++S),Φ,δ,by rw [<-μ (ξ _ _),<-μ] at y;exact y,γ.intro (λh5=>λw G y=>?_) (λh5=>?_)⟩
 .have e:nk j (j.list++l) (j.bytes+(aK l).length) (d2,j2,e2)=(d2,j2,e2):=by unfold nk;rw [if_pos (aN h5)]
  rw [e] at hk;exact hk u x.p x.cap x.o w (by rw [pF];exact hsb) cX (Ctx.left y)
 have e:nk j (j.list++l) (j.bytes+(aK l).length) (d2,j2,e2)=(d2,{ j2 with list:=j.list++l,bytes:=j.bytes+(aK l).length },0):=by unfold nk;rw [if_neg (Λ h5)]
 rw [e] at hk;have hsub:∀ {o1 o2 gz:Own} {X:List Own},[o2].Sublist ([o1,o2,gz]++X):=fun {o1 o2 gz X}=>.cons _ (.cons_cons _ (List.nil_sublist _));refine ⟨[],lE,δ,λw G y=>dS y (List.nil_sublist _),[.blk x.ax (nG x q j2) 132],lE,δ,λw G y=>dS y hsub,λw G y=>⟨_,_,_,y.get 1 rfl rfl,(j.bytes:Int),λw G y=>⟨(j2.bytes:Int),y.get 0 rfl rfl,by rw [hnb]⟩,by unfold κ;omega,λw G y=>?_⟩⟩;rw [pF];obtain ⟨p',cap',w',o',hr,aLL,c2⟩:=hsb.app (c2:=lc) (S:=.blk x.ax (nG x q j2) 132 :: aP x.cb q j2.cell :: ((ξ (q.mv u) d2++S)++G)) y bp (List.length_pos_iff.2 h2) hn
 refine ⟨p',_,cap',w',hr,[o',.blk x.ax (nG x q j2) 132,aP x.cb q j2.cell]++(ξ (q.mv u) d2++S),Φ,δ,c2,λw G y=>dS y (List.nil_sublist _),λw G y=>dS y hsub,λw G y=>⟨y.can 1 rfl (by show 3+1<=6;omega),λw' hw'=>?_⟩⟩;refine ⟨[o',.blk x.ax ((nG x q j2).set 3 (.slice p' (j.list.length+l.length) cap')) 132,aP x.cb q j2.cell]++(ξ (q.mv u) d2++S),Φ,δ,y.put 1 hw' rfl,λw G y=>dS y (List.nil_sublist _),trivial,λw G y=>⟨y.can 1 rfl (by show 4+1<=6;omega),λw' hw'=>?_⟩⟩
 rw [<-Int.natCast_add] at hw';refine ⟨[o',.blk x.ax (((nG x q j2).set 3 (.slice p' (j.list.length+l.length) cap')).set 4 (.int .i64 ((j.bytes+(aK l).length:Nat):Int))) 132,aP x.cb q j2.cell]++(ξ (q.mv u) d2++S),Φ,δ,y.put 1 hw' rfl,λw G y=>dS y (List.nil_sublist _),trivial,λw G y=>?_⟩;refine hk u p' cap' o' w aLL cX ?_;have bI:nG (x.mv p' cap' o') q { j2 with list:=j.list++l,bytes:=j.bytes+(aK l).length }=((nG x q j2).set 3 (.slice p' (j.list.length+l.length) cap')).set 4 (.int .i64 ((j.bytes+(aK l).length:Nat):Int)):=by
  show [_,_,_,Value.slice p' (j.list++l).length cap',_,_]=_;rw [List.length_append];rfl
 show Ctx W w (o' :: .blk x.ax (nG (x.mv p' cap' o') q { j2 with list:=j.list++l,bytes:=j.bytes+(aK l).length }) 132 :: _) Φ;rw [bI];exact Ctx.left y
end
section
variable {W w:World}{S G:List Own}{Φ:θ}
theorem aEh[O Φ]{q d}(hq:cG q d)(hkp:gk Φ q d)(hoff:∀ M w,Φ M w->jO M w)(hT:∀ M w,Φ M w->lu M w){x j}(hsb:fY x.p x.cap j.list x.o){n}(hf:(aK j.list).length<=1000000000)(y:Ctx W w (aL x q j++(ξ q d++S)) Φ){K}(hk:∀ u p c o w',fY p c (dm d j n).2.1.list o->cG (q.mv u) (dm d j n).1->Ctx W w' (aL (x.mv p c o) q (dm d j n).2.1++(ξ (q.mv u) (dm d j n).1++S)) Φ->K (.returned (.int .i64 (dm d j n).2.2)) w'):
  Γ F.WH #[ε x.ax 0,.int .i64 n] w K:=by
 have hsame:∀ {e:Int} {w':World} {G:List Own},dm d j n=(d,j,e)->Ctx W w' ((aL x q j++(ξ q d++S))++G) Φ->K (.returned (.int .i64 e)) w':=by
  intro e w' G he y;rw [he] at hk;exact hk q.un x.p x.cap x.o w' hsb hq (Ctx.left y)
 have hl:=HJ (l:=j.list) λx hx=>Nat.le_trans (yZ hx) (by omega);refine ak (aDW x.ax 0 n (J:=K∘.returned) y λw G y=>⟨_,y.get 1 rfl rfl,γ.intro (λh=>λw G y=>?_) (λh=>λw G y=>⟨_,_,_,λ_=>y.get 1 rfl rfl,γ.intro (λh2=>λw G y=>?_) (λh2=>λw G y=>⟨_,_,_,y.get 1 rfl rfl,γ.intro (λh3=>λw G y=>?_) (λh3=>λw G y=>⟨_,_,_,y.get 1 rfl rfl,?_⟩)⟩)⟩)⟩)
 .exact hsame (by unfold dm;rw [if_pos h]) y
 all_goals have h:¬ j.broken=true:=by rw [h];simp
 .have h2:n<0\/(j.list.length:Int)<n:=by simpa using h2
  exact hsame (by unfold dm;rw [if_neg h,if_pos h2]) y
 all_goals have h2:¬ (n<0\/(j.list.length:Int)<n):=by simpa using h2
 .exact hsame (by unfold dm;rw [if_neg h,if_neg h2,if_pos (aN h3)]) y
 have h3:=Λ h3;obtain ⟨k,rfl⟩:∃ k:Nat,n=k:=⟨n.toNat,by omega⟩;have hk2:k<j.list.length:=by omega
 have hcut:dm d j (k:Int)=nk j (j.list.take k) (aK (j.list.take k)).length (pM d j (aK (j.list.take k)).length k):=by
  unfold dm;rw [if_neg h,if_neg h2,if_neg h3,Int.toNat_natCast]
 rw [hcut] at hk;clear hcut hsame;obtain ⟨g,o2,hp,hcap,_,_⟩:=hsb.cutAt (k:=k) (S:=.blk x.ax (nG x q j) 132 :: aP x.cb q j.cell :: ((ξ q d++S)++G)) y hk2;have hle:(aK (j.list.take k)).length<=(aK j.list).length:=by
  have e:aK j.list=aK (j.list.take k)++aK (j.list.drop k):=by rw [<-yY,List.take_append_drop]
  rw [e,List.length_append];omega
 have hsz:∀ U∈j.list,U.size<=maxLen:=λU hy=>Nat.le_trans (yZ hy) (by unfold maxLen;omega);have a5T:(j.list.take k).length=k:=by rw [List.length_take];omega
 refine ⟨⟨by omega,by omega⟩,λw G y=>?_⟩;have c2:Ctx W w ([x.o]++(.blk x.ax (nG x q j) 132 :: aP x.cb q j.cell :: ((ξ q d++S)++G))) Φ:=y;have hform:=Up (Φ:=Go.Vc.lZ W [x.o] Φ) (p:=x.p) (cap:=x.cap) (l:=j.list.take k) (λM w h=>hT M w h.less) (λM w h=>aQ4 (hsb.sl hsz h) k) (by omega);rw [a5T] at hform;rw [show eB x.p 1 0 x.cap=x.p by rw [hp];exact ZF _ _ _,Int.toNat_natCast];refine hform.use c2.aside λw c3=>⟨_,rfl,aL x q j++(ξ q d++S),Φ,δ,c3.DJ,λw G y=>?_⟩
 have hnk:=RC d j (aK (j.list.take k)).length k;rw [dN];refine a1K (S:=S++G) hq hkp hoff hT (by omega) (by omega) (by rw [<-μ (ξ _ _),<-μ];exact y) λu w cX y=>?_;have pF:(pM d j (aK (j.list.take k)).length k).2.1.list=j.list:=rfl;generalize pM d j (aK (j.list.take k)).length k=r at hk cX y hnk pF;obtain ⟨d2,j2,e2⟩:=r;simp only at hk cX y hnk pF;refine ⟨e2,rfl,aL x q j2++(ξ (q.mv u) d2++S),Φ,δ,by rw [<-μ (ξ _ _),<-μ] at y;exact y,γ.intro (λh5=>λw G y=>?_) (λh5=>λw G y=>⟨x.p,j2.list.length,x.cap,y.get 1 rfl rfl,⟨by omega,by omega,by omega⟩,λw G y=>⟨y.can 1 rfl (by show 3+1<=6;omega),λw' hw'=>?_⟩⟩)⟩
 .have e:nk j (j.list.take k) (aK (j.list.take k)).length (d2,j2,e2)=(d2,j2,e2):=by unfold nk;rw [if_pos (aN h5)]
  rw [e] at hk;exact hk u x.p x.cap x.o w (by rw [pF];exact hsb) cX (Ctx.left y)
 have e:nk j (j.list.take k) (aK (j.list.take k)).length (d2,j2,e2)=(d2,{ j2 with list:=j.list.take k,bytes:=(aK (j.list.take k)).length },0):=by unfold nk;rw [if_neg (Λ h5)]
 rw [e] at hk;rw [show eB x.p 1 0 k=x.p by rw [hp];exact ZF _ _ _] at hw';refine ⟨[x.o,.blk x.ax ((nG x q j2).set 3 (.slice x.p k k)) 132,aP x.cb q j2.cell]++(ξ (q.mv u) d2++S),Φ,δ,y.put 1 hw' rfl,λw G y=>⟨y.can 1 rfl (by show 4+1<=6;omega),λw' hw'=>?_⟩⟩;refine ⟨[x.o,.blk x.ax (((nG x q j2).set 3 (.slice x.p k k)).set 4 (.int .i64 ((aK (j.list.take k)).length:Int))) 132,aP x.cb q j2.cell]++(ξ (q.mv u) d2++S),Φ,δ,y.put 1 hw' rfl,λw G y=>?_⟩
 have y:=Ctx.left y;obtain ⟨g3,gz,AO,_,aLM,c4⟩:=hsb.cutAt (k:=k) (S:=.blk x.ax (((nG x q j2).set 3 (.slice x.p k k)).set 4 (.int .i64 ((aK (j.list.take k)).length:Int))) 132 :: aP x.cb q j2.cell :: (ξ (q.mv u) d2++S)) y hk2;refine hk u x.p k gz w aLM cX ?_;have bI:nG (x.mv x.p k gz) q { j2 with list:=j.list.take k,bytes:=(aK (j.list.take k)).length }=((nG x q j2).set 3 (.slice x.p k k)).set 4 (.int .i64 ((aK (j.list.take k)).length:Int)):=by
  show [_,_,_,Value.slice x.p (j.list.take k).length k,_,_]=_;rw [a5T];rfl
 show Ctx W w (gz :: .blk x.ax (nG (x.mv x.p k gz) q { j2 with list:=j.list.take k,bytes:=(aK (j.list.take k)).length }) 132 :: _) Φ;rw [bI];exact c4
theorem aF6[O Φ]{q x j}(y:Ctx W w (aL x q j++S) Φ){K}(hk:∀ w',Ctx W w' (aL x q j++S) Φ->K (.returned (.int .i64 (j.list.length:Int))) w'):
  Γ F.WI #[ε x.ax 0] w K:=by
 refine ak (aDX x.ax 0 (J:=K∘.returned) y λw G y=>⟨_,_,_,y.get 1 rfl rfl,λw G y=>hk w (Ctx.left y)⟩)
end
theorem aPS{P}(w dT sT ty elem){i}(hu:P.underlying dT=some (.slice elem))(hi:P.info? elem=some i)(b q c):
  (Builtin.copy_ #[dT,sT] ty #[.slice (some ⟨b,0,none⟩) 0 0,.slice q 0 c]).run P w=.ok (Go.goInt 0) w:=by
 simp [Builtin.copy_,run_underlying hu,Builtin.lenOf,Builtin.firstCells,sizeOf,typeInfo,hi];cases q<;>simp [loadCells,loadCellsFrom,storeCells,Result.andThen]
section
variable {W w:World}{S G:List Own}{Φ:θ}
theorem aHT[O Φ]{p cap l o b}(hsb:fY p cap l o)(y:Ctx W w (.blk b (List.replicate l.length (Value.string (ByteArray.mk #[]))) 9 :: o :: S) Φ):
  ∃ w',Sem.run prog (builtin Builtin.copy #[40,40] 3 #[false,false] #[.slice (some ⟨b,0,none⟩) l.length l.length,.slice p l.length cap]) w=.ok (.value (.int .i64 l.length)) w'/\Ctx W w' (.blk b (bX l) 9 :: o :: S) Φ:=by
 obtain ⟨i,z,e1,e2,bI,bL,bz,eX⟩:=Bu (P:=prog) (ts:=40) (t:=9) (size:=1) (bytes:=16) (by kernel_rfl);by_cases h:l=[]
 .subst h;exact ⟨w,YY (aPS w _ _ _ _ e1 e2 b p cap),y⟩
 .have hpos:=List.length_pos_iff.2 h;have ep:=y.swap;obtain ⟨g,hg,_⟩:=hsb.get ep hpos;subst hg;have hsrc:∀ j v,(bX l)[j]? = some v->w.cell? ((⟨g,0,none⟩:Addr).add j)=some v:=λj v hj=>by
   have hjl:j<l.length:=by have:=(List.getElem?_eq_some_iff.1 hj).1;rw [o8] at this;exact this
   obtain ⟨g2,qg,hc⟩:=hsb.get ep hjl;cases qg;rw [List.getElem?_map,List.getElem?_eq_getElem hjl] at hj;rw [addr_add,Nat.zero_add,hc];exact hj
  have hcan:au w b 0 l.length:=y.can 0 rfl (by rw [List.length_replicate];omega);have hr:=aPT (P:=prog) w 40 40 3 9 b 0 l.length l.length ⟨g,0,none⟩ l.length cap (bX l) e1 e2 (by rw [bL,o8,Nat.mul_one];exact (Nat.min_self _).symm) hsrc (λj hj=>(hcan j (by rw [o8] at hj;exact hj)).1) (λj hj=>(hcan j (by rw [o8] at hj;exact hj)).2) (λv hv=>by
   obtain ⟨U,_,rfl⟩:=List.mem_map.1 hv;rfl)
  rw [show Nat.min l.length l.length=l.length from Nat.min_self _] at hr;refine ⟨_,YY hr,?_⟩;have c3:=y.pO 0 rfl (b:=b) (i:=0) (vs:=bX l) rfl;rw [J1 _ _ _ (by rw [o8,List.length_replicate];omega),List.take_zero,List.nil_append,o8,Nat.zero_add,List.drop_eq_nil_of_le (by rw [List.length_replicate];omega),List.append_nil] at c3;exact c3
theorem aCQ[O Φ]{q x j}(hsb:fY x.p x.cap j.list x.o)(hl:j.list.length<=1000000000)(y:Ctx W w (aL x q j++S) Φ){K}(hk:∀ b w',Ctx W w' (.blk b (bX j.list) 9 :: (aL x q j++S)) Φ->K (.returned (.slice (some ⟨b,0,none⟩) j.list.length j.list.length)) w'):
  Γ F.WE #[ε x.ax 0] w K:=by
 refine ak (aDU x.ax 0 (J:=K∘.returned) y λw G y=>⟨_,_,_,y.get 1 rfl rfl,⟨by omega,by omega,by omega,by omega⟩,λb w G y=>⟨_,_,_,y.get 2 rfl rfl,λw G y=>?_⟩⟩);rw [Int.toNat_natCast] at y ⊢;obtain ⟨w',hr,c2⟩:=aHT (S:=.blk x.ax (nG x q j) 132 :: aP x.cb q j.cell :: (S++G)) hsb y;exact ⟨_,w',hr,.blk b (bX j.list) 9 :: (aL x q j++S),Φ,δ,c2,λw G y=>hk b w (Ctx.left y)⟩
def Rk(base:Int):Nat->b7->b7 × Option jd × Int
 | 0,d=>(d,Co d base)
 | k+1,d=>if (bN d (if k=0 then base+1 else base)).2≠0 then ((bN d (if k=0 then base+1 else base)).1,none,(bN d (if k=0 then base+1 else base)).2) else Rk base k (bN d (if k=0 then base+1 else base)).1
theorem aNj{d base}(h:¬ (base<0\/14<base)):ny d base=Rk base 2 d:=by
 unfold ny;rw [if_neg h];rfl
theorem XW{d f e}(h:qD d f=(none,e)):e≠0:=by
 unfold qD at h
 repeat' split at h
 all_goals first
  | (cases h;assumption)
  | (cases h;decide)
  | cases h
theorem aNh{d q}(hq:cG q d){f e c}(h:qD d f=(some c,e)):c.value.length<=16777216/\e=0:=by
 unfold qD at h
 repeat' split at h
 all_goals first
  | (cases h;exact ⟨Nat.zero_le _,rfl⟩)
  | (cases h;exact ⟨YD hq _ _ _,rfl⟩)
  | cases h
theorem a1E[O Φ]{q d}(hq:cG q d)(hkp:gk Φ q d)(hoff:∀ M w,Φ M w->jO M w)(hN:∀ M w,Φ M w->jt M w){base}(y:Ctx W w (ξ q d++S) Φ){K}(hn:∀ u d' e w',ny d base=(d',none,e)->cG (q.mv u) d'->d'.keep=d.keep->Ctx W w' (ξ (q.mv u) d'++S) Φ->K (.returned (.tuple #[.pointer none,.int .i64 e])) w')(hs:∀ u x d' j w',ny d base=(d',some j,0)->fY x.p x.cap j.list x.o->cG (q.mv u) d'->d'.keep=d.keep->Ctx W w' (aL x q j++(ξ (q.mv u) d'++S)) Φ->K (.returned (.tuple #[ε x.ax 0,.int .i64 0])) w'):
  Γ F.Qo #[ε q.db 0,.int .i64 base] w K:=by
 refine ak (aDZ q.db 0 base (J:=K∘.returned) y λw G y=>γ.intro (λh=>λw G y=>?_) (λh=>?_))
 .have h:base<0\/14<base:=by simpa using h
  exact hn q.un d 1 w (by unfold ny;rw [if_pos h]) hq rfl (Ctx.left y)
 have h:¬ (base<0\/14<base):=by simpa using h
 have dr:=aNj (d:=d) h;refine ⟨by unfold κ;omega,λkb=>fD (λn R' η k=>∃ u d1,n=((2 - k:Nat):Int)/\k<=2/\R'=.blk kb [.int .i64 base,.int .i64 (base+1)] 3 :: (ξ (q.mv u) d1++S)/\η=Φ/\cG (q.mv u) d1/\d1.keep=d.keep/\ny d base=Rk base k d1) ⟨⟨_,Φ,2,δ,λw G y=>y,q.un,d,rfl,Nat.le_refl _,rfl,rfl,hq,rfl,dr⟩,?_⟩⟩;clear y;rintro n aW Φ k st ⟨u,d1,rfl,hk2,rfl,rfl,hq1,hkeep,dr⟩;refine γ.intro (λhlt=>⟨⟨by omega,aN hlt⟩,λw G y=>?_⟩) (λhge=>⟨by unfold κ;omega,λw G y=>?_⟩)
 .have hlt:=aN hlt;obtain ⟨k,rfl⟩:∃ m,k=m+1:=⟨k - 1,by omega⟩;have xB:w.cell? ⟨kb,0+((2 - (k+1):Nat):Int).toNat,none⟩=some (.int .i64 (if k=0 then base+1 else base)):=by
   rw [Int.toNat_natCast,Nat.zero_add];have hk:k=0\/k=1:=by omega
   rcases hk with rfl|rfl
   .exact y.get 0 rfl rfl
   .exact y.get 0 rfl rfl
  refine ⟨_,xB,λw G y=>?_⟩;have dr:ny d base=if (bN d1 (if k=0 then base+1 else base)).2≠0 then ((bN d1 (if k=0 then base+1 else base)).1,none,(bN d1 (if k=0 then base+1 else base)).2) else Rk base k (bN d1 (if k=0 then base+1 else base)).1:=dr
  have Qg:=BD d1 (if k=0 then base+1 else base);refine Gq (q:=q.mv u) (S:=.blk kb [.int .i64 base,.int .i64 (base+1)] 3 :: (S++G)) hq1 (hkp.of hkeep u) (Ff y) λu w cX y=>?_;generalize bN d1 (if k=0 then base+1 else base)=r at dr cX y Qg;obtain ⟨d2,e2⟩:=r;simp only at dr cX y Qg;refine ⟨e2,rfl,.blk kb [.int .i64 base,.int .i64 (base+1)] 3 :: (ξ (q.mv u) d2++S),Φ,δ,Fg y,γ.intro (λh4=>λw G y=>?_) (λh4=>?_)⟩
  .rw [if_pos (aN h4)] at dr;exact hn u d2 e2 w dr cX (Qg.trans hkeep) (Ctx.left (Ctx.drop1 y))
  .rw [if_neg (Λ h4)] at dr;exact ⟨by unfold κ;omega,_,Φ,k,δ,λw G y=>y,⟨u,d2,by omega,by omega,rfl,rfl,cX,Qg.trans hkeep,dr⟩,Nat.lt_succ_self _⟩
 .have hge:=Λ hge;have e9:k=0:=by omega
  subst e9;have dr:ny d base=(d1,Co d1 base):=dr;have y:Ctx W w (ξ (q.mv u) d1++(S++G)) Φ:=by
   have this:Ctx W w ((ξ (q.mv u) d1++S)++G) Φ:=y.drop1;rw [μ] at this;exact this
  unfold Co at dr;refine a0o (q:=q.mv u) hq1 hoff y (λe w ho y=>?_) (λc cb w ho y=>?_)
  .rw [ho] at dr;refine ⟨none,e,rfl,ξ (q.mv u) d1++S,Φ,δ,by rw [μ];exact y,γ.intro (λh4=>λw G y=>?_) (λh4=>absurd (Decidable.not_not.1 (Λ h4)) (XW ho))⟩;exact hn u d1 e w dr hq1 hkeep (Ctx.left y)
  .rw [ho] at dr;have VN:=(aNh hq1 ho).1;simp only at dr;unfold RF at dr;refine ⟨some ⟨cb,0,none⟩,0,rfl,aP cb q c :: (ξ (q.mv u) d1++S),Φ,δ,RZ y,γ.intro (λh4=>absurd rfl (aN h4)) (λh4=>λw G y=>?_)⟩;refine aNR (S:=(ξ (q.mv u) d1++S)++G) hN (by omega) y λw y=>?_;generalize nw c=r at dr;obtain ⟨b,m,ok⟩:=r;simp only at dr;refine ⟨b,m,ok,rfl,aP cb q c :: (ξ (q.mv u) d1++S),Φ,δ,y,γ.intro (λh5=>λw G y=>?_) (λh5=>λw G y=>?_)⟩
   .rw [if_pos (by simpa using h5)] at dr;exact hn u d1 2 w dr hq1 hkeep (Ctx.left (Ctx.drop1 y))
   rw [if_neg (by simpa using h5)] at dr;have hrl:=YD hq1 base 0 b;refine So (q:=q.mv u) (S:=aP cb q c :: (S++G)) hq1 (Ff y) λw y=>?_;generalize cj d1 base 0 b=r at dr hrl;obtain ⟨s,e⟩:=r;simp only at dr hrl;refine ⟨bs s,e,rfl,aP cb q c :: (ξ (q.mv u) d1++S),Φ,δ,Fg y,γ.intro (λh6=>λw G y=>?_) (λh6=>λw G y=>?_)⟩
   .rw [if_pos (aN h6)] at dr;exact hn u d1 e w dr hq1 hkeep (Ctx.left (Ctx.drop1 y))
   rw [if_neg (Λ h6)] at dr;refine aG8 (S:=(aP cb q c :: (ξ (q.mv u) d1++S))++G) hN hrl y (λp k cp w hr y=>?_) (λp cap l o w hr hsb y=>?_)
   .rw [hr] at dr;refine ⟨p,k,cp,false,rfl,aP cb q c :: (ξ (q.mv u) d1++S),Φ,δ,y,λw G y=>γ.intro (λ_=>λw G y=>?_) (λh7=>by simp at h7)⟩;exact hn u d1 2 w dr hq1 hkeep (Ctx.left (Ctx.drop1 y))
   .rw [hr] at dr;simp only at dr;refine ⟨p,_,cap,true,rfl,o :: aP cb q c :: (ξ (q.mv u) d1++S),Φ,δ,y,λw G y=>γ.intro (λh7=>λw G y=>?_) (λh7=>λax w G y=>?_)⟩
    .have h7:(s.length:Int)≠b:=by rw [dN] at h7;simpa using h7
     rw [if_pos h7] at dr;exact hn u d1 2 w dr hq1 hkeep (Ctx.left (Ctx.drop1 (Ctx.drop1 y)))
    .have h7:(s.length:Int)=b:=by rw [dN] at h7;simpa using h7
     rw [if_neg (λh=>h h7)] at dr;have hb:b=((b.toNat:Nat):Int):=by omega
     refine hs u ⟨ax,cb,p,cap,o⟩ d1 _ w dr hsb hq1 hkeep ?_;have y:Ctx W w ([Own.blk ax [ε q.db 0,.int .i64 base,ε cb 0,.slice p l.length cap,.int .i64 b,.bool false] 132,o]++(aP cb q c :: (ξ (q.mv u) d1++S))) Φ:=Ctx.left y;rw [hb] at y;exact y.perm (List.Perm.swap _ _ _)
end
section
variable {W w:World}{S G:List Own}{Φ:θ}
theorem aGD[O Φ]{p q ac bc}{a b:List ByteArray}(ha:∀ M w,Φ M w->Δ M w p a)(hb:∀ M w,Φ M w->Δ M w q b)(hl:a.length<=1000000000):fL Φ prog F.Pq #[.slice p a.length ac,.slice q b.length bc] (.bool (decide (a=b))):=by
 refine .there (λM w h=>(ha M w h).there) λM3=>.there (λM w h=>(hb M w h).there) λhtb=>?_;refine rW (aCo p a.length ac q b.length bc) λW R=>γ.intro (λh=>λw G y=>⟨?_,y.left⟩) (λh=>?_)
 .rw [decide_eq_false λe=>aN h (by rw [e])]
 have h:a.length=b.length:=by have:=Λ h;omega
 refine fD (λn R' η k=>∃ i:Nat,n=i/\i+k=a.length/\R'=R/\η=Φ/\a.take i=b.take i) ⟨⟨_,Φ,a.length,δ,λw G y=>y,0,rfl,by omega,rfl,rfl,by simp⟩,?_⟩;rintro n aW Φ k _ ⟨i,rfl,hik,rfl,rfl,htk⟩;refine γ.intro (λhlt=>λw G y=>?_) (λhge=>λw G y=>⟨?_,y.left⟩)
 .have hlt:i<a.length:=by have:=aN hlt;omega
  obtain ⟨k,rfl⟩:∃ m,k=m+1:=⟨k - 1,by omega⟩;obtain ⟨g,o,rfl⟩:=M3 (by omega);obtain ⟨g2,o2,rfl⟩:=htb (by omega);refine ⟨⟨by omega,by omega⟩,eu g o rfl ⟨a[i],by rw [Int.toNat_natCast];exact Nf (ha _ _ y.cy) hlt,⟨by omega,by omega⟩,eu g2 o2 rfl ⟨b[i]'(by omega),by rw [Int.toNat_natCast];exact Nf (hb _ _ y.cy) (by omega),γ.intro (λhne=>λw G y=>⟨?_,y.left⟩) (λhe=>?_)⟩⟩⟩
  .rw [decide_eq_false λe=>aN hne (by simp only [e])]
  .refine ⟨by unfold κ;omega,_,Φ,k,δ,λw G y=>y,⟨i+1,by omega,by omega,rfl,rfl,?_⟩,Nat.lt_succ_self _⟩;rw [List.take_succ_eq_append_getElem hlt,List.take_succ_eq_append_getElem (by omega:i<b.length),htk,Decidable.not_not.1 (Λ he)]
 .have hge:i=a.length:=by have:=Λ hge;omega
  subst hge;rw [List.take_length,h,List.take_length] at htk;rw [decide_eq_true htk]
structure oo(Φ:θ):Prop where
 num:∀ M w,Φ M w->jt M w
 off:∀ M w,Φ M w->jO M w
theorem oo.tab(h:oo Φ):∀ M w,Φ M w->lu M w:=λM w hp=>(h.num M w hp).1
theorem oo.weak(h:oo Φ){Ψ}(e:∀ M w,Ψ M w->Φ M w):oo Ψ:=⟨λM w hp=>h.num M w (e M w hp),λM w hp=>h.off M w (e M w hp)⟩
theorem append_nil(d){j}(h:j.broken=false):iG d j []=(d,j,0):=by
 unfold iG;rw [if_neg (by rw [h];simp),if_pos rfl]
theorem a4i(j l b r):(nk j l b r).1=r.1:=by
 unfold nk;split<;>rfl
theorem aHX(d j n):(dm d j n).1.keep=d.keep:=by
 unfold dm;split
 .rfl
 .split
  .rfl
  .split
   .rfl
   .rw [a4i,RC]
theorem aGW(d j l):(iG d j l).1.keep=d.keep:=by
 unfold iG;split
 .rfl
 .split
  .rfl
  .split
   .rfl
   .split
    .exact Wr _ _ _
    .rw [a4i,RC,Wr]
theorem Tm{f g s v}(h:ec f g)(h1:ez f.now s v)(h2:ez f.last s v):ez g.now s v/\ez g.last s v:=by
 induction h with
 | refl=>exact ⟨h1,h2⟩
 | step _ hs ih=>exact ⟨MS ih.1 ih.2 hs,MS ih.1 ih.2 hs⟩
theorem aMp{d d' j}(h:Live d j)(h1:ec (d.files j.base) (d'.files j.base))(h2:ec (d.files (j.base+1)) (d'.files (j.base+1))):Live d' j:=by
 have hc:=Tm h2 h.now h.last;exact ⟨h.base,h.file,h.bytes,h.most,hc.1,hc.2,h.enc,h1.pre h.log⟩
end
end Go.Proofs.YtcmgeboolmmdkaaGreatDoor
end

section
namespace Go.Vc
section
variable {P:Program}{W w:World}{S:List Own}{Φ:θ}
theorem aHK(w t e ty z)(ht:P.underlying t=some (.slice e))(hv:∀ w,(zeroValue e).run P w=.ok z w)(h1:∀ v∈z.cells,v.oneCell'=true)(hp:0<z.cells.size)(b o n c)(hn:0<n)(hc:∀ j,j<n*z.cells.size->(w.cell? ⟨b,o+j,none⟩).isSome=true)(hf:∀ j,j<n*z.cells.size->w.frozen? ⟨b,o+j,none⟩=false):
  (Builtin.clear_ #[t] ty #[.slice (some ⟨b,o,none⟩) n c]).run P w=.ok (.tuple #[]) (w.setCells b o (Builtin.zeroCells z.cells n).toList):=by
 have hl:(Builtin.zeroCells z.cells n).toList.length=n*z.cells.size:=by simp [Builtin.zeroCells]
 have hst:=run_storeCells_cells (P:=P) b o (Builtin.zeroCells z.cells n).toList 0 w (by rw [hl];simpa using hc) (by rw [hl];simpa using hf) (λv nE=>by
  simp only [Builtin.zeroCells,Array.toList_map,List.mem_map] at nE;obtain ⟨i,_,rfl⟩:=nE;have hlt:i % z.cells.size<z.cells.size:=Nat.mod_lt _ hp;rw [getElem!_pos z.cells _ hlt];exact h1 _ (Array.getElem_mem hlt))
 simp only [Nat.add_zero] at hst;obtain ⟨m,rfl⟩:∃ m,n=m+1:=⟨n - 1,by omega⟩;simp [Builtin.clear_,run_underlying ht,hv,hst]
theorem aPt(cs vs n):(gd cs n vs).take n=cs.take n:=by
 apply List.ext_getElem?;intro i;by_cases hi:i<n
 .rw [List.getElem?_take_of_lt hi,List.getElem?_take_of_lt hi,B6 _ _ _ _ (.inl hi)]
 .rw [List.getElem?_eq_none (by rw [List.length_take];omega),List.getElem?_eq_none (by rw [List.length_take];omega)]
theorem Ctx.aGR[O Φ]{p n cap cs t size}(c:Ctx W w (.buf p n cap cs t size :: S) Φ)(h0:0<cs.length){ts ty i z}(ht:P.underlying ts=some (.slice t))(hi:P.info? t=some i)(hz:i.zero=some z)(hs:i.size=size)(hzs:z.cells.size=size){a m c2 news}(hm:0<m)(hl:news.length=m*size)(hnews:∀ j u,news[j]? = some u->w.cell? (a.add j)=some u)(h1:∀ u∈news,ga u=true)(hbytes:(n+m)*i.bytes<=140737488355328)(hlen:n+m<=140737488355328):
  ∃ p' cap' w' X,(Builtin.append_ #[ts,ts] ty #[.slice p n cap,.slice (some a) m c2]).run P w=.ok (.slice p' (n+m) cap') w'/\Ctx W w' ((.buf p' (n+m) cap' (cs++news) t size :: X)++S) Φ /\
   ∀ {Gs w2:World} {P6:List Own} {dF:θ} [O dF],Ctx Gs w2 ((.buf p' (n+m) cap' (cs++news) t size :: X)++P6) dF->Ctx Gs w2 (.buf p n cap cs t size :: P6) dF:=by
 subst hs;have QF:∀ u∈news,u.oneCell'=true:=λu hu=>by have:=h1 u hu;cases u<;>simp_all [ga,Value.oneCell']
 obtain ⟨cW,hown⟩:=c.own _ List.mem_cons_self;have hlen':(cs++news).length=(n+m)*i.size:=by rw [List.length_append,cW,hl,Nat.add_mul]
 rcases hown with ⟨e,rfl⟩|⟨g,cap',cur,e,_,hg,hnc,hcm,hcs,oP⟩
 .cases e;rw [Nat.zero_mul] at cW;omega
 .cases e;by_cases hroom:n+m<=cap
  .have hfit:n*i.size+news.length<=cur.size:=by rw [hl,hcs,<-Nat.add_mul];exact Nat.mul_le_mul_right _ hroom
   have hr:=run_append_room (P:=P) w ts ty t i ht hi g n cap cur hg a m c2 news hl hnews QF hroom hfit;obtain ⟨p',cap',w',hr',c'⟩:=c.append 0 rfl (ty:=ty) (c2:=c2) ht hi hz rfl hzs hm hl hnews h1 hbytes hlen;have e:=hr.symm.trans hr';injection e with e1 e2;injection e1 with bI bL bz;subst bI bz;refine ⟨_,_,_,[],hr',c',λc2=>?_⟩;have c3:=Ctx.S0 (k:=n) c2 (by omega);rw [<-cW,List.take_left] at c3;exact c3
  .have holds:∀ j u,cs[j]? = some u->w.cell? ((⟨g,0,none⟩:Addr).add j)=some u:=by
    intro j u hj;have hlt:j<cs.length:=(List.getElem?_eq_some_iff.1 hj).1;have h2:cur[j]? = some u:=by
     rw [<-oP,List.getElem?_take_of_lt (by omega)] at hj;simpa using hj
    rw [addr_add,Nat.zero_add];simp [World.cell?,hg,h2]
   have hr:=run_append_grow (P:=P) w ts ty t i z ht hi hz ⟨g,0,none⟩ n cap cs cW holds a m c2 news hl hnews (by omega) (by omega) (growslice_fits (by omega) hbytes);have hge:=grownCap_ge w (n+m) cap t;have hcm2:grownCap w (n+m) cap t<=maxLen:=grownCap_le_maxLen w (n+m) cap t (by simp only [maxLen];omega);have c3:=Ctx.new' (c.draw 1) (.cells (cs.toArray++news.toArray++Builtin.zeroCells z.cells (grownCap w (n+m) cap t - (n+m))) t) (.buf (some ⟨w.heap.size,0,none⟩) (n+m) (grownCap w (n+m) cap t) (cs++news) t i.size) rfl
    ⟨hlen',.inr ⟨w.heap.size,_,_,rfl,Nat.zero_le _,Ly w.drew _,hge,hcm2,by
     simp only [Array.size_append,List.size_toArray,size_zeroCells,hzs,cW,hl,<-Nat.add_mul]
     congr 1
     omega,by
     simp only [Array.toList_append,μ];rw [<-μ,<-hlen'];exact List.take_left⟩⟩
   exact ⟨_,_,_,[.buf (some ⟨g,0,none⟩) n cap cs t i.size],hr,c3,λc4=>Ctx.drop1 c4⟩
end
end Go.Vc
namespace Go.Proofs.YtcmgeboolmmdkaaGreatDoor
open Go.Vc
abbrev ic(p:rI):List Value:=[.int .i64 p.src,.int .i64 p.to,.string p.body]
abbrev N7(p:rI):Value:=.agg #[.int .i64 p.src,.int .i64 p.to,.string p.body]
def cU(l:List rI):List Value:=l.flatMap ic
structure Jq where
 nb:Nat
 fp:Option Addr
 dn:Nat
abbrev tW(N:Jq)(n:pW):List Value:=[.slice N.fp n.aI.length N.dn,.int .i64 n.split]
def cT(N:Jq)(n:pW):List Own:=[.blk N.nb (tW N n) 84,.buf N.fp n.aI.length N.dn (cU n.aI) 100 3]
theorem RR(p l):cU (p :: l)=.int .i64 p.src :: .int .i64 p.to :: .string p.body :: cU l:=rfl
theorem Xu(a b):cU (a++b)=cU a++cU b:=by simp [cU]
theorem Ic:∀ l:List rI,(cU l).length=l.length*3
 | []=>rfl
 | p :: l=>by rw [RR];simp only [List.length_cons];rw [Ic l];omega
theorem Xv:∀ (l:List rI) (k:Nat),(cU l).drop (k*3)=cU (l.drop k)
 | l,0=>by simp
 | [],k+1=>by simp [cU]
 | p :: l,k+1=>by
  rw [RR,show (k+1)*3=k*3+1+1+1 by omega];simp only [List.drop_succ_cons];exact Xv l k
theorem a8m:∀ (l:List rI) (k:Nat),(cU l).take (k*3)=cU (l.take k)
 | l,0=>by simp [cU]
 | [],k+1=>by simp [cU]
 | p :: l,k+1=>by
  rw [RR,show (k+1)*3=k*3+1+1+1 by omega];simp only [List.take_succ_cons];rw [a8m l k];rfl
theorem aOH{l k p}(h:l[k]? = some p)(j)(hj:j<3):(cU l)[k*3+j]? = (ic p)[j]? := by
 have hk:k<l.length:=(List.getElem?_eq_some_iff.1 h).1;have e:(cU l)[k*3+j]? = ((cU l).drop (k*3))[j]? := by rw [List.getElem?_drop]
 rw [e,Xv];have e2:l.drop k=p :: l.drop (k+1):=by
  rw [List.drop_eq_getElem_cons hk]
  congr 1
  rw [List.getElem?_eq_getElem hk] at h;exact Option.some.inj h
 rw [e2,RR]
 match j,hj with
 | 0,_=>rfl
 | 1,_=>rfl
 | 2,_=>rfl
theorem aOI(l):∀ u∈cU l,ga u=true:=λu hu=>by
 unfold cU at hu;obtain ⟨p,_,hp⟩:=List.mem_flatMap.1 hu;simp only [ic,List.mem_cons,List.not_mem_nil,or_false] at hp;rcases hp with rfl|rfl|rfl<;>rfl
theorem Pn(a):Quiet prog F.IQ #[.int .i64 a] (.bool (mh a)) :=
 ⟨λw=>(aFa a w (λv w'=>v=.bool (mh a)/\w'=w) ⟨rfl,rfl⟩).mono λe w' ⟨v,he,hv,hw⟩=>⟨by rw [he,hv],hw⟩⟩
theorem a9a{P t n a}(h:0<=a)(h2:a<=64)(w):Sem.run P (binOp .shr t (.int .i64 n) (.int .i64 a)) w=.ok (.int .i64 (n / 2 ^ a.toNat)) w:=by
 rw [binOp_shr,shift_shr_i64 .i64 n a h h2];rfl
theorem aLf(n):bits .and .i64 n 65535=n % 65536:=by
 have Lc:(BitVec.ofInt 64 65535).toNat=2 ^ 16 - 1:=by decide
 have key:(BitVec.ofInt 64 n &&& BitVec.ofInt 64 65535).toNat=(n % ((2 ^ 64:Nat):Int)).toNat % 2 ^ 16:=by
  rw [BitVec.toNat_and,BitVec.toNat_ofInt,Lc,Nat.and_two_pow_sub_one_eq_mod]
 show IntKind.i64.wrap ((BitVec.ofInt 64 n &&& BitVec.ofInt 64 65535).toNat:Nat)=n % 65536;rw [key,IntKind.wrap_i64];omega
theorem aPW{P t}(n w):Sem.run P (binOp .and t (.int .i64 n) (.int .i64 65535)) w=.ok (.int .i64 (n % 65536)) w:=by
 rw [binOp_and,intBits_and,aLf];rfl
section
variable {W w:World}{S:List Own}{Φ:θ}{N:Jq}{n:pW}
theorem aFM[O Φ](y:Ctx W w S Φ){K}(hk:∀ N w',Ctx W w' (cT N ⟨[],0⟩++S) Φ->K (.returned (ε N.nb 0)) w'):Γ F.XJ #[] w K:=by
 refine ak (aDo (J:=K∘.returned) y λb w G y=>?_);have c1:=y.left.Gz 100 3;exact hk ⟨b,none,0⟩ w (c1.perm (.swap _ _ _))
theorem a1J[O Φ]{a b}(y:Ctx W w (cT N n++S) Φ){K}(hk:∀ w',Ctx W w' (cT N n++S) Φ->K (.returned (.bool (pz n.split a b))) w'):
  Γ F.R7 #[ε N.nb 0,.int .i64 a,.int .i64 b] w K:=by
 refine ak (aDj N.nb 0 a b (J:=K∘.returned) y λw G y=>⟨mh a,λw3 h=>(Pn a).PJ h,mh b,λ_ w3 h=>(Pn b).PJ h,n.split,λ_=>y.get 0 rfl rfl,n.split / 2 ^ a.toNat,λh w=>?_,ET n.split a,λ_ w=>YW _ w,n.split,λ_=>y.get 0 rfl rfl,n.split / 2 ^ b.toNat,λh w=>?_,ET n.split b,λ_ w=>YW _ w,λw G y=>?_⟩)
 .simp only [mh,Bool.and_eq_true,decide_eq_true_eq] at h;exact a9a (by omega) (by omega) w
 .simp only [mh,Bool.and_eq_true,decide_eq_true_eq] at h;exact a9a (by omega) (by omega) w
 .have e:(mh a&&mh b&&decide (ET n.split a=ET n.split b))=pz n.split a b:=by unfold pz;rw [Bool.and_assoc]
  rw [e];exact hk w y.left
theorem aFN[O Φ](hl:n.aI.length<=500){a b s}(y:Ctx W w (cT N n++S) Φ){K}(hk:∀ fp dn w',Ctx W w' (cT ⟨N.nb,fp,dn⟩ (o7 n a b s).1++S) Φ->K (.returned (.int .i64 (o7 n a b s).2)) w'):
  Γ F.XH #[ε N.nb 0,.int .i64 a,.int .i64 b,.string s] w K:=by
 unfold o7 at hk;refine ak (aDk N.nb 0 a b s (J:=K∘.returned) y λw G y=>⟨mh a,λw3 h=>(Pn a).at h,mh b,λ_ w3 h=>(Pn b).at h,γ.intro (λh=>λw G y=>?_) (λh=>λw G y=>?_)⟩)
 .rw [if_pos (by
   simp only [Bool.or_eq_true,Bool.not_eq_true',decide_eq_true_eq] at h;rcases h with (h|h)|h
   .rw [h];rfl
   .rw [h];simp
   .simp [h])] at hk
  exact hk N.fp N.dn w y.left
 .rw [if_neg (by
   simp only [Bool.or_eq_false_iff,Bool.not_eq_false',decide_eq_false_iff_not] at h;rw [h.1.1,h.1.2];simp [h.2])] at hk
  refine a1J (N:=N) (n:=n) (S:=S++G) (by rw [<-μ];exact y) λw y=>⟨_,rfl,cT N n++S,Φ,δ,by rw [μ];exact y,γ.intro (λh=>λw G y=>?_) (λh=>λw G y=>⟨_,_,_,y.get 0 rfl rfl,γ.intro (λh2=>λw G y=>?_) (λh2=>λw G y=>⟨_,_,_,y.get 0 rfl rfl,λk w G y=>?_⟩)⟩)⟩
  .rw [if_pos (by simpa using h)] at hk;exact hk N.fp N.dn w y.left
  .rw [if_neg (by simpa using h),if_pos (by have:=aN h2;omega)] at hk;exact hk N.fp N.dn w y.left
  .rw [if_neg (by simpa using h),if_neg (by have:=Λ h2;omega)] at hk;obtain ⟨p',c',w',hr,_,ep⟩:=((y.perm (show (Own.blk k [Value.int .i64 a,.int .i64 b,.string s] 100 :: (cT N n++S)++G).Perm (Own.blk k [Value.int .i64 a,.int .i64 b,.string s] 100 :: Own.buf N.fp n.aI.length N.dn (cU n.aI) 100 3 :: (.blk N.nb (tW N n) 84 :: S++G)) from List.Perm.cons _ (List.Perm.swap _ _ _)))).yM (ts:=82) (ty:=82) (kb:=#[false,false]) (bytes:=32) (P:=prog) (by kernel_rfl) (by omega) rfl rfl (by omega) (by omega)
   refine ⟨_,_,_,_,hr,Own.buf p' (n.aI.length+1) c' (cU n.aI++ic ⟨a,b,s⟩) 100 3 :: (.blk N.nb (tW N n) 84 :: S),Φ,δ,ep,λw G y=>⟨y.can 1 rfl (by show 0+1<=2;omega),λw' hw'=>⟨Own.buf p' (n.aI.length+1) c' (cU n.aI++ic ⟨a,b,s⟩) 100 3 :: (.blk N.nb [.slice p' (n.aI.length+1) c',.int .i64 n.split] 84 :: S),Φ,δ,y.put 1 hw' rfl,λw G y=>?_⟩⟩⟩;have e1:cU n.aI++ic ⟨a,b,s⟩=cU (n.aI++[⟨a,b,s⟩]):=by rw [Xu];rfl
   have e2:n.aI.length+1=(n.aI++[(⟨a,b,s⟩:rI)]).length:=by simp
   rw [e1,e2] at y;exact hk p' c' w (y.left.perm (.swap _ _ _))
theorem aSB:∀ w:World,(zeroValue 100).run prog w=.ok (.agg #[.int .i64 0,.int .i64 0,.string (ByteArray.mk #[])]) w:=λw=>by kernel_rfl
theorem erase_eq(l:List rI)(i):l.eraseIdx i=l.take i++l.drop (i+1):=List.eraseIdx_eq_take_drop_succ l i
theorem aFX[O Φ]{g cap l i}(hi:i<l.length)(hlen:l.length<=500)(y:Ctx W w (.buf (some ⟨g,0,none⟩) l.length cap (cU l) 100 3 :: S) Φ){K}(hk:∀ w',Ctx W w' (.buf (some ⟨g,0,none⟩) (l.eraseIdx i).length cap (cU (l.eraseIdx i)) 100 3 :: S) Φ->K (.returned (.slice (some ⟨g,0,none⟩) (l.eraseIdx i).length cap)) w'):
  Γ F.Z1 #[.slice (some ⟨g,0,none⟩) l.length cap,.int .i64 (i:Int),.int .i64 ((i:Int)+1)] w K:=by
 obtain ⟨_,hnc,hcm⟩:=y.uS 0 rfl;have hel:(l.eraseIdx i).length=l.length - 1:=List.length_eraseIdx_of_lt hi;have hpl:=Ic l;refine ak (aEI (some ⟨g,0,none⟩) l.length cap (i:Int) ((i:Int)+1) (J:=K∘.returned) y ⟨by omega,γ.intro (λh=>by have:=aN h;omega) (λ_=>⟨[],lE,δ,λw G y=>(Ctx.right y).weak λ_ _ _=>trivial,by omega,by omega,λw G y=>?_⟩)⟩);obtain ⟨inf,z,e1,e2,bI,bL,bz,eX⟩:=Bu (P:=prog) (ts:=82) (t:=100) (size:=3) (bytes:=32) (by kernel_rfl)
 have hj:((i:Int)+1).toNat=i+1:=by omega
 have hi0:((i:Int)).toNat=i:=Int.toNat_natCast i;rw [hj,hi0];have s0:eB (some (⟨g,0,none⟩:Addr)) 3 0 cap=some ⟨g,0,none⟩:=by unfold eB;split<;>simp [Addr.add]
 rw [s0];obtain ⟨a,ha,hsrc⟩:∃ a:Addr,eB (some (⟨g,0,none⟩:Addr)) 3 (i+1) cap=some a/\∀ j u,(cU (l.drop (i+1)))[j]? = some u->w.cell? (a.add j)=some u:=by
  unfold eB;by_cases hc:cap=i+1
  .rw [if_pos hc];refine ⟨_,rfl,λj u hu=>?_⟩;rw [List.drop_eq_nil_of_le (by omega)] at hu;simp [cU] at hu
  .rw [if_neg hc,Option.map_some,Addr.add_lit,Nat.zero_add];refine ⟨_,rfl,λj u hu=>?_⟩;rw [<-Xv,List.getElem?_drop] at hu;rw [Addr.add_lit];exact y.a2q 0 rfl rfl hu
 rw [ha];have jz:(cU (l.drop (i+1))).length=(l.length - (i+1))*3:=by rw [Ic,List.length_drop]
 have can:au w g (i*3) ((l.length - (i+1))*3):=y.Tf 0 rfl rfl (by rw [hpl];omega);have hr:=run_append_room_cells (P:=prog) (w:=w) 82 82 100 inf e1 e2 g 0 i cap a (l.length - (i+1)) (cap - (i+1)) (cU (l.drop (i+1))) (by rw [jz,bL]) hsrc
  (λu hu=>by have:=aOI _ u hu;cases u<;>simp_all [ga,Value.oneCell']) (by omega) (λj hj=>by rw [jz] at hj;rw [bL,Nat.zero_add];exact (can j hj).1) (λj hj=>by rw [jz] at hj;rw [bL,Nat.zero_add];exact (can j hj).2)
 rw [bL,Nat.zero_add] at hr;have c1:=y.PO 0 rfl rfl (by rw [hpl];omega) (by rw [jz,hpl];omega) (w':=w.setCells g (i*3) (cU (l.drop (i+1)))) rfl;refine ⟨_,_,_,_,zB hr,.buf (some ⟨g,0,none⟩) l.length cap (gd (cU l) (i*3) (cU (l.drop (i+1)))) 100 3 :: S,Φ,δ,c1,by omega,λw G y=>?_⟩;have a5S:((i+(l.length - (i+1)):Nat):Int).toNat=l.length - 1:=by omega
 rw [a5S];have hne:¬ cap=l.length - 1:=by omega
 have s1:eB (some (⟨g,0,none⟩:Addr)) 3 (l.length - 1) cap=some ⟨g,(l.length - 1)*3,none⟩:=by unfold eB;rw [if_neg hne,Option.map_some,Addr.add_lit,Nat.zero_add]
 have AM:((l.length:Nat):Int).toNat - (l.length - 1)=1:=by omega
 rw [s1,AM];have bp:(gd (cU l) (i*3) (cU (l.drop (i+1)))).length=l.length*3:=by rw [Nc,hpl]
 have a3W:au w g ((l.length - 1)*3) (1*3):=y.Tf 0 rfl rfl (by rw [bp];omega);have cW:=aHK (P:=prog) w 82 100 0 _ e1 aSB (by decide) (by decide) g ((l.length - 1)*3) 1 (cap - (l.length - 1)) (by omega) (λj hj=>(a3W j hj).1) (λj hj=>(a3W j hj).2);have hzl:(Builtin.zeroCells (Value.agg #[.int .i64 0,.int .i64 0,.string (ByteArray.mk #[])]).cells 1).toList.length=3:=by
  simp only [Builtin.zeroCells,Array.toList_map,List.length_map];rw [Array.length_toList,Array.size_range];rfl
 have c2:=y.PO 0 rfl rfl (by rw [bp];omega) (by rw [bp,hzl];omega) (w':=w.setCells g ((l.length - 1)*3) (Builtin.zeroCells (Value.agg #[.int .i64 0,.int .i64 0,.string (ByteArray.mk #[])]).cells 1).toList) rfl;have c3:=Ctx.S0 (k:=l.length - 1) c2 (by omega);rw [aPt,J1 _ _ _ (by rw [jz,hpl];omega)] at c3;have iT:((cU l).take (i*3)++cU (l.drop (i+1))++(cU l).drop (i*3+(cU (l.drop (i+1))).length)).take ((l.length - 1)*3)=cU (l.eraseIdx i):=by
  rw [erase_eq,Xu,a8m];exact List.take_left' (by rw [List.length_append,jz,Ic,List.length_take,Nat.min_eq_left (by omega)];omega)
 rw [iT] at c3;refine ⟨_,NO cW,.buf (some ⟨g,0,none⟩) (l.eraseIdx i).length cap (cU (l.eraseIdx i)) 100 3 :: S,Φ,δ,by rw [hel];exact c3,λw G y=>?_⟩;have nB:i+(l.length - (i+1))=(l.eraseIdx i).length:=by omega
 rw [nB];exact hk w y.left
theorem a8n{l p cap}(y:Ctx W w (.buf p l.length cap (cU l) 100 3 :: S) Φ)(h:0<l.length):∃ g,p=some ⟨g,0,none⟩:=by
 obtain ⟨b,hb,_⟩:=y.uR 0 rfl (by rw [Ic];omega);exact ⟨b,hb⟩
theorem a8o{l g cap}(y:Ctx W w (.buf (some ⟨g,0,none⟩) l.length cap (cU l) 100 3 :: S) Φ){i p}(h:l[i]? = some p):bS w g (0+i*3) (ic p):=by
 rw [Nat.zero_add];refine y.Tg 0 rfl rfl λj hj=>?_;rw [aOH h j hj,List.getElem?_eq_getElem hj]
def iM(n:pW)(i:Int):Option rI:=if i<0 then none else n.aI[i.toNat]?
abbrev N6:rI:=⟨0,0,ByteArray.mk #[]⟩
theorem aQf{i}(h:iM n i=none):i<0\/(n.aI.length:Int)<=i:=by
 unfold iM at h;split at h
 .exact .inl ‹_›
 .have:=List.getElem?_eq_none_iff.1 h;omega
theorem aAp{i p}(h:iM n i=some p):0<=i/\i<n.aI.length/\n.aI[i.toNat]? = some p:=by
 unfold iM at h;split at h
 .cases h
 .have:=(List.getElem?_eq_some_iff.1 h).1;exact ⟨by omega,by omega,h⟩
theorem a7X[O Φ](hl:n.aI.length<=500){i}(y:Ctx W w (cT N n++S) Φ){K}(h0:∀ w',iM n i=none->Ctx W w' (cT N n++S) Φ->K (.returned (.tuple #[N7 N6,.bool false])) w')(h1:∀ p w',iM n i=some p->Ctx W w' (cT N (takeN n i.toNat)++S) Φ->K (.returned (.tuple #[N7 p,.bool true])) w'):
  Γ F.R8 #[ε N.nb 0,.int .i64 i] w K:=by
 refine ak (aDm N.nb 0 i (J:=K∘.returned) y λ_ w G y=>⟨_,_,_,λ_=>y.get 0 rfl rfl,γ.intro (λh=>λw G y=>?_) (λh=>λw G y=>⟨_,_,_,y.get 0 rfl rfl,?_⟩)⟩)
 .refine h0 w ?_ y.left;simp only [Bool.or_eq_true,decide_eq_true_eq] at h;unfold iM;split
  .rfl
  .exact List.getElem?_eq_none (by omega)
 .simp only [Bool.or_eq_false_iff,decide_eq_false_iff_not] at h;obtain ⟨k,rfl⟩:∃ k:Nat,i=k:=⟨i.toNat,by omega⟩;have hk:k<n.aI.length:=by omega
  obtain ⟨pk,hp⟩:∃ p,n.aI[k]? = some p:=⟨_,List.getElem?_eq_getElem hk⟩;have Fu:∀ {w:World} {G:List Own},Ctx W w ((cT N n++S)++G) Φ->Ctx W w (.buf N.fp n.aI.length N.dn (cU n.aI) 100 3 :: (.blk N.nb (tW N n) 84 :: S++G)) Φ:=λy=>y.perm (.swap _ _ _);obtain ⟨g,hg⟩:=a8n (Fu y) (by omega);have ht:iM n (k:Int)=some pk:=by unfold iM;rw [if_neg (by omega),Int.toNat_natCast];exact hp
  refine ⟨by omega,eu g 0 hg λw G y=>⟨pk.src,pk.to,pk.body,by
   have c1:=Fu y;rw [hg] at c1;rw [Int.toNat_natCast];exact a8o c1 hp,λ_ w G y=>⟨_,_,_,y.get 0 rfl rfl,by unfold κ;omega,λw G y=>?_⟩⟩⟩
  have c1:=Fu y;rw [hg] at c1 ⊢;refine aFX hk hl c1 λw y=>⟨_,_,_,rfl,.buf (some ⟨g,0,none⟩) (n.aI.eraseIdx k).length N.dn (cU (n.aI.eraseIdx k)) 100 3 :: (.blk N.nb (tW N n) 84 :: S),Φ,δ,y,λw G y=>⟨y.can 1 rfl (by show 0+1<=2;omega),λw' hw'=>⟨.buf (some ⟨g,0,none⟩) (n.aI.eraseIdx k).length N.dn (cU (n.aI.eraseIdx k)) 100 3 :: (.blk N.nb [.slice (some ⟨g,0,none⟩) (n.aI.eraseIdx k).length N.dn,.int .i64 n.split] 84 :: S),Φ,δ,y.put 1 hw' rfl,λw G y=>?_⟩⟩⟩
  refine h1 pk w ht ?_;rw [Int.toNat_natCast];have c2:=y.left.perm (.swap _ _ _);show Ctx W w (.blk N.nb [.slice N.fp _ N.dn,_] 84 :: .buf N.fp _ N.dn _ 100 3 :: S) Φ;rw [hg];exact c2
theorem aFI[O Φ](hl:n.aI.length<=500){i}(y:Ctx W w (cT N n++S) Φ){K}(h0:∀ w',iM n i=none->Ctx W w' (cT N n++S) Φ->K (.returned (.tuple #[N7 N6,.int .i64 4])) w')(h1:∀ p w',iM n i=some p->pz n.split p.src p.to=false->Ctx W w' (cT N (takeN n i.toNat)++S) Φ->K (.returned (.tuple #[N7 N6,.int .i64 10])) w')(h2:∀ p w',iM n i=some p->pz n.split p.src p.to=true->Ctx W w' (cT N (takeN n i.toNat)++S) Φ->K (.returned (.tuple #[N7 p,.int .i64 0])) w'):
  Γ F.XD #[ε N.nb 0,.int .i64 i] w K:=by
 refine ak (aDf N.nb 0 i (J:=K∘.returned) y λ_ w G y=>?_);refine a7X (N:=N) (n:=n) (S:=S++G) hl (by rw [<-μ];exact y) (λw ht y=>⟨_,_,_,_,rfl,cT N n++S,Φ,δ,by rw [μ];exact y,λ_=>γ.intro (λh=>λw G y=>h0 w ht y.left) (λh=>by cases h)⟩) (λp w ht y=>⟨_,_,_,_,rfl,cT N (takeN n i.toNat)++S,Φ,δ,by rw [μ];exact y,λ_=>γ.intro (λh=>by cases h) (λh=>λw G y=>?_)⟩);refine a1J (N:=N) (n:=takeN n i.toNat) (S:=S++G) (by rw [<-μ];exact y) λw y=>⟨_,rfl,cT N (takeN n i.toNat)++S,Φ,δ,by rw [μ];exact y,γ.intro (λh=>λw G y=>h1 p w ht (by have h:(!pz n.split p.src p.to)=true:=h;simpa using h) y.left) (λh=>λw G y=>h2 p w ht (by have h:(!pz n.split p.src p.to)=false:=h;simpa using h) y.left)⟩
theorem aFK[O Φ](hl:n.aI.length<=500){i}(y:Ctx W w (cT N n++S) Φ){K}(h0:∀ w',iM n i=none->Ctx W w' (cT N n++S) Φ->K (.returned (.int .i64 4)) w')(h1:∀ p w',iM n i=some p->Ctx W w' (cT N (takeN n i.toNat)++S) Φ->K (.returned (.int .i64 0)) w'):
  Γ F.XF #[ε N.nb 0,.int .i64 i] w K:=by
 refine ak (aDh N.nb 0 i (J:=K∘.returned) y λw G y=>?_);refine a7X (N:=N) (n:=n) (S:=S++G) hl (by rw [<-μ];exact y) (λw ht y=>⟨_,_,_,_,rfl,cT N n++S,Φ,δ,by rw [μ];exact y,λ_=>γ.intro (λh=>λw G y=>h0 w ht y.left) (λh=>by cases h)⟩) (λp w ht y=>⟨_,_,_,_,rfl,cT N (takeN n i.toNat)++S,Φ,δ,by rw [μ];exact y,λ_=>γ.intro (λh=>by cases h) (λh=>λw G y=>h1 p w ht y.left)⟩)
theorem aFJ[O Φ](hl:n.aI.length<=500){i}(y:Ctx W w (cT N n++S) Φ){K}(h0:∀ w',iM n i=none->Ctx W w' (cT N n++S) Φ->K (.returned (.int .i64 4)) w')(h1:∀ p w',iM n i=some p->500<=n.aI.length->Ctx W w' (cT N n++S) Φ->K (.returned (.int .i64 6)) w')(h2:∀ p fp dn w',iM n i=some p->¬ 500<=n.aI.length->Ctx W w' (cT ⟨N.nb,fp,dn⟩ { n with aI:=n.aI++[p] }++S) Φ->K (.returned (.int .i64 0)) w'):
  Γ F.XE #[ε N.nb 0,.int .i64 i] w K:=by
 refine ak (aDg N.nb 0 i (J:=K∘.returned) y λw G y=>⟨_,_,_,λ_=>y.get 0 rfl rfl,γ.intro (λh=>λw G y=>?_) (λh=>λw G y=>⟨_,_,_,y.get 0 rfl rfl,?_⟩)⟩)
 .refine h0 w ?_ y.left;simp only [Bool.or_eq_true,decide_eq_true_eq] at h;unfold iM;split
  .rfl
  .exact List.getElem?_eq_none (by omega)
 simp only [Bool.or_eq_false_iff,decide_eq_false_iff_not] at h;obtain ⟨k,rfl⟩:∃ k:Nat,i=k:=⟨i.toNat,by omega⟩;have hk:k<n.aI.length:=by omega
 obtain ⟨pk,hp⟩:∃ p,n.aI[k]? = some p:=⟨_,List.getElem?_eq_getElem hk⟩;have ht:iM n (k:Int)=some pk:=by unfold iM;rw [if_neg (by omega),Int.toNat_natCast];exact hp
 have Fu:∀ {w:World} {G:List Own},Ctx W w ((cT N n++S)++G) Φ->Ctx W w (.buf N.fp n.aI.length N.dn (cU n.aI) 100 3 :: (.blk N.nb (tW N n) 84 :: S++G)) Φ:=λy=>y.perm (.swap _ _ _);obtain ⟨g,hg⟩:=a8n (Fu y) (by omega);refine γ.intro (λh5=>λw G y=>h1 pk w ht (by have:=aN h5;omega) y.left) (λh5=>?_);have h5:¬ 500<=n.aI.length:=by have:=Λ h5;omega
 refine ⟨.buf N.fp n.aI.length N.dn (cU n.aI) 100 3 :: [.blk N.nb (tW N n) 84],lE,δ,λw G y=>((Fu y).sub (by simp)).weak λ_ _ _=>trivial,_,_,_,λw G y=>⟨_,_,_,y.get 1 rfl rfl,rfl⟩,_,_,_,λw G y=>⟨_,_,_,y.get 1 rfl rfl,rfl⟩,by omega,eu g 0 hg ⟨pk.src,pk.to,pk.body,λw G y=>⟨_,_,_,by
  rw [hg] at y;rw [Int.toNat_natCast];exact a8o y hp,rfl⟩,λb=>⟨λw G y=>((Fu (Ctx.drop1 y)).sub (by simp)).weak λ_ _ _=>trivial,λw G y=>?_⟩⟩⟩
 have c1:Ctx W w (.buf N.fp n.aI.length N.dn (cU n.aI) 100 3 :: (.blk b (ic pk) 100 :: .blk N.nb (tW N n) 84 :: S++G)) Φ:=y.perm (by
  show (Own.blk b (ic pk) 100 :: .blk N.nb (tW N n) 84 :: .buf N.fp n.aI.length N.dn (cU n.aI) 100 3 :: (S++G)).Perm (.buf N.fp n.aI.length N.dn (cU n.aI) 100 3 :: .blk b (ic pk) 100 :: .blk N.nb (tW N n) 84 :: (S++G));exact (List.Perm.cons _ (.swap _ _ _)).trans (.swap _ _ _))
 obtain ⟨inf,z,e1,e2,bI,bL,bz,eX⟩:=Bu (P:=prog) (ts:=82) (t:=100) (size:=3) (bytes:=32) (by kernel_rfl);obtain ⟨p',c',w',X,hr,c2,back⟩:=Ctx.aGR (P:=prog) (ts:=82) (ty:=82) c1 (by rw [Ic];omega) e1 e2 bI bL bz (a:=⟨b,0,none⟩) (m:=1) (c2:=1) (news:=ic pk) (by omega) rfl (λj u hj=>by rw [Addr.add_lit,Nat.zero_add];exact c1.get 1 rfl hj) (λu hu=>by simp only [ic,List.mem_cons,List.not_mem_nil,or_false] at hu;rcases hu with rfl|rfl|rfl<;>rfl) (by rw [eX];omega) (by omega)
 refine ⟨_,_,_,_,zB hr,(.buf p' (n.aI.length+1) c' (cU n.aI++ic pk) 100 3 :: X)++(.blk N.nb (tW N n) 84 :: S),Φ,δ,by
   have:=c2.perm (show ((Own.buf p' (n.aI.length+1) c' (cU n.aI++ic pk) 100 3 :: X)++(.blk b (ic pk) 100 :: (.blk N.nb (tW N n) 84 :: S++G))).Perm (.blk b (ic pk) 100 :: ((Own.buf p' (n.aI.length+1) c' (cU n.aI++ic pk) 100 3 :: X)++(.blk N.nb (tW N n) 84 :: S++G))) from List.perm_middle);have:=Ctx.drop1 this;rw [μ];exact this,λw G y=>((back (by rw [μ] at y;exact y)).sub (by simp)).weak λ_ _ _=>trivial,λw G y=>?_⟩
 have c3:Ctx W w (.blk N.nb (tW N n) 84 :: ((.buf p' (n.aI.length+1) c' (cU n.aI++ic pk) 100 3 :: X)++(S++G))) Φ:=by
  rw [μ] at y;exact y.perm List.perm_middle
 refine ⟨c3.can 0 rfl (by show 0+1<=2;omega),λw' hw'=>⟨.blk N.nb [.slice p' (n.aI.length+1) c',.int .i64 n.split] 84 :: .buf p' (n.aI.length+1) c' (cU n.aI++ic pk) 100 3 :: S,Φ,δ,(c3.put 0 hw' rfl).sub (by
  show (Own.blk N.nb [.slice p' (n.aI.length+1) c',.int .i64 n.split] 84 :: .buf p' (n.aI.length+1) c' (cU n.aI++ic pk) 100 3 :: (S++G)).Sublist (_ :: (_ :: X++(S++G)));exact List.Sublist.cons_cons _ (List.Sublist.cons_cons _ (List.sublist_append_right _ _))),λw G y=>?_⟩⟩
 have iT:cU n.aI++ic pk=cU (n.aI++[pk]):=by rw [Xu];rfl
 have nB:n.aI.length+1=(n.aI++[pk]).length:=by simp
 rw [iT,nB] at y;exact h2 pk p' c' w ht h5 y.left
theorem aFO[O Φ]{m}(y:Ctx W w (cT N n++S) Φ){K}(hk:∀ w',Ctx W w' (cT N { n with split:=m % 65536 }++S) Φ->K (.returned (.tuple #[])) w'):
  Γ F.XI #[ε N.nb 0,.int .i64 m] w K:=by
 refine ak (aDl N.nb 0 m (J:=K∘.returned) y ⟨m % 65536,λw=>aPW m w,λw G y=>⟨y.can 0 rfl (by show 1+1<=2;omega),λw' hw'=>⟨cT N { n with split:=m % 65536 }++S,Φ,δ,y.put 0 hw' rfl,λw G y=>hk w y.left⟩⟩⟩)
theorem aFL[O Φ](y:Ctx W w (cT N n++S) Φ){K}(hk:∀ w',Ctx W w' (cT N { n with split:=0 }++S) Φ->K (.returned (.tuple #[])) w'):
  Γ F.XG #[ε N.nb 0] w K:=by
 refine ak (aDi N.nb 0 (J:=K∘.returned) y λw G y=>⟨y.can 0 rfl (by show 1+1<=2;omega),λw' hw'=>⟨cT N { n with split:=0 }++S,Φ,δ,y.put 0 hw' rfl,λw G y=>hk w y.left⟩⟩)
theorem aFH[O Φ](y:Ctx W w (cT N n++S) Φ){K}(hk:∀ w',Ctx W w' (cT N n++S) Φ->K (.returned (.int .i64 (n.aI.length:Int))) w'):
  Γ F.XC #[ε N.nb 0] w K:=by
 refine ak (aDe N.nb 0 (J:=K∘.returned) y λw G y=>⟨_,_,_,y.get 0 rfl rfl,λw G y=>hk w y.left⟩)
end
end Go.Proofs.YtcmgeboolmmdkaaGreatDoor
end

section
namespace Go.Proofs.YtcmgeboolmmdkaaGreatDoor
open Go.Vc
def Jh(W:World)(J:Int->List Own->θ->Prop):List (FuncId × Array Value)->List Own->θ->Prop
 | [],R,Φ=>J 0 R Φ
 | f :: fs,R,Φ=>nx prog f.1=true/\∀ w G,Ctx W w (R++G) Φ->Calls prog f.1 f.2 w λe w'=>∃ n:Int,e=.returned (.int .i64 n)/\∃ R' η,O η/\Ctx W w' (R'++G) η/\(n≠0->J n R' η)/\(n=0->Jh W J fs R' η)
abbrev En(fs:List (FuncId × Array Value)):List Value:=fs.map λf=>Value.func (.func f.1) #[] f.2
theorem a0v{W w S}{Φ:θ}[O Φ]{J fs k}(hl:fs.length<=1000)(y:Ctx W w (.blk k (En fs) 91 :: S) Φ)(h:Jh W J fs S Φ){K}(hk:∀ n S' η w',O η->J n S' η->Ctx W w' S' η->K (.returned (.int .i64 n)) w'):Γ F.QB #[.slice (some ⟨k,0,none⟩) fs.length fs.length] w K:=by
 refine ak (aDK (some ⟨k,0,none⟩) fs.length fs.length (J:=K∘.returned) y ?_);refine fD (λfH R' η bY=>∃ (i:Nat) (S':List Own),fH=i/\i<=fs.length/\bY=fs.length - i/\R'=.blk k (En fs) 91 :: S'/\Jh W J (fs.drop i) S' η) ⟨⟨_,Φ,_,δ,λw G y=>y,0,S,rfl,Nat.zero_le _,rfl,rfl,h⟩,?_⟩;rintro fH R' η bY hst ⟨i,S',rfl,hi,rfl,rfl,hF⟩;refine γ.intro (λhlt=>?_) (λhge=>λw G y=>?_)
 .have hlt:i<fs.length:=by have:=aN hlt;omega
  have ed:fs.drop i=fs[i] :: fs.drop (i+1):=List.drop_eq_getElem_cons hlt;rw [ed] at hF;obtain ⟨hok,hF⟩:=hF;refine ⟨by omega,eu k 0 rfl λw G y=>⟨fs[i].1,#[],fs[i].2,?_,λw G y=>⟨hok,?_⟩⟩⟩
  .refine y.get 0 rfl ?_;rw [Nat.zero_add,Int.toNat_natCast,List.getElem?_map,List.getElem?_eq_getElem hlt];rfl
  .refine (hF w (.blk k (En fs) 91 :: G) (y.perm List.perm_middle.symm)).mono λe w' ⟨n,he,aW,ψ,h1,c1,h2,h3⟩=>?_
   haveI:=h1
   refine ⟨n,he,.blk k (En fs) 91 :: aW,ψ,h1,c1.perm List.perm_middle,γ.intro (λhn=>λw G y=>?_) (λhn=>⟨by unfold κ;omega,_,ψ,_,h1,λw G y=>y,⟨i+1,aW,by omega,by omega,rfl,rfl,h3 (by simpa using hn)⟩,by omega⟩)⟩;exact hk n aW ψ w h1 (h2 (aN hn)) (Ctx.drop1 y.left)
 .have he:i=fs.length:=by have:=Λ hge;omega
  subst he;rw [List.drop_length] at hF;exact hk 0 S' η w hst hF (Ctx.drop1 y.left)
section
variable {W w:World}{S:List Own}{Φ:θ}
theorem aK2[O Φ](hN:∀ M w,Φ M w->jt M w){cb q c}(hl:c.value.length<=1000000000)(y:Ctx W w (aP cb q c :: S) Φ){K}(hk:∀ w',Ctx W w' (aP cb q c :: S) Φ->K (.returned (.agg #[.int .i64 (jy c).1,.int .i64 (jy c).2])) w'):Γ F.V3 #[ε cb 0] w K:=by
 unfold jy at hk;refine ak (aDL cb 0 (J:=K∘.returned) y λ_ w G y=>a0n (S:=S++G) y λw y=>⟨_,_,rfl,aP cb q c :: S,Φ,δ,y,γ.intro (λh=>λw G y=>?_) (λh=>λw G y=>?_)⟩)
 .have h:c.slot=0:=by
   have:¬ 0<c.slot:=by simpa using h
   omega
  rw [if_pos h] at hk;exact hk w y.left
 .have h:¬ c.slot=0:=by
   have:0<c.slot:=by simpa using h
   omega
  rw [if_neg h] at hk;have hlen:(eA (c.value,false)).2.1.length<=c.value.length:=DE 59 _ (c.value,false);refine Jr c.value y λb w y=>⟨_,rfl,rd b (c.value,false) :: aP cb q c :: S,Φ,δ,y,λw G y=>KB (S:=aP cb q c :: S) hN (by show c.value.length<=_;omega) y (λw G y=>KB (S:=aP cb q c :: S) hN (by omega) y (λw G y=>hk w (Ctx.left (Ctx.drop1 y))))⟩
theorem a4B[O Φ](hN:∀ M w,Φ M w->jt M w){q x j}(hsb:fY x.p x.cap j.list x.o)(hl:j.list.length<=1000000)(hsz:∀ s∈j.list,s.size<=100000000)(hok:∀ s∈j.list,(gV s).bA)(y:Ctx W w (aL x q j++S) Φ){K}(hk:∀ p c w',Ctx W w' (aL x q j++S) (λM w=>Φ M w/\Δ M w p (j.list.map gV))->K (.returned (.slice p (j.list.map gV).length c)) w'):
  Γ F.QA #[ε x.ax 0] w K:=by
 refine ak (aDJ x.ax 0 (J:=K∘.returned) y λw G y=>aCQ (S:=S++G) hsb (by omega) y λb w y=>⟨_,_,_,rfl,.blk b (bX j.list) 9 :: (aL x q j++S),Φ,δ,y,?_⟩);refine fD (λp k c fH R' η bY=>∃ i:Nat,fH=i/\i<=j.list.length/\bY=j.list.length - i/\k=((j.list.take i).map gV).length/\R'=.buf p k c (dZ ((j.list.take i).map gV)) 76 2 :: .blk b (bX j.list) 9 :: (aL x q j++S)/\η=Φ) ⟨⟨_,Φ,_,δ,λw G y=>y.Gz 76 2,0,rfl,Nat.zero_le _,rfl,rfl,rfl,rfl⟩,?_⟩
 rintro p k c fH R' η bY hst ⟨i,rfl,hi,rfl,rfl,rfl,rfl⟩;refine γ.intro (λhlt=>?_) (λhge=>λw G y=>?_)
 .have hlt:i<j.list.length:=by have:=aN hlt;omega
  have hmem:j.list[i]∈j.list:=List.getElem_mem hlt;refine ⟨by omega,eu b 0 rfl λw G y=>⟨j.list[i],?_,λw G y=>?_⟩⟩
  .refine y.get 1 rfl ?_;rw [Nat.zero_add,Int.toNat_natCast,List.getElem?_map,List.getElem?_eq_getElem hlt];rfl
  .have hr:=aG7 (Φ:=η) hN j.list[i].data.toList (by rw [qq];have:=hsz _ hmem;omega);have ex:∃ U:Bool,a9V (D2 j.list[i].data.toList)=.tuple #[(gV j.list[i]).v,.bool U]:=by
    unfold gV;cases D2 j.list[i].data.toList with
    | none=>exact ⟨false,rfl⟩
    | some U=>exact ⟨true,rfl⟩
   obtain ⟨U,hy⟩:=ex;rw [hy] at hr;obtain ⟨z,hz⟩:∃ z,gV j.list[i]=z:=⟨_,rfl⟩;rw [hz] at hr;refine hr.use y λw y=>⟨z.term,z.data,U,rfl,_,η,δ,y,λ_ b2 w G y=>?_⟩;obtain ⟨p',c',w',hrun,c2⟩:=a2X (x:=z) (by rw [List.length_map,List.length_take];omega) y;have et:(j.list.take i).map gV++[z]=(j.list.take (i+1)).map gV:=by
    rw [List.take_add_one,List.getElem?_eq_getElem hlt,List.map_append,<-hz];rfl
   rw [et] at hrun c2;exact ⟨_,_,_,w',hrun,_,η,δ,c2,by unfold κ;omega,_,η,_,δ,λw G y=>y,⟨i+1,by omega,by omega,rfl,rfl,rfl,rfl⟩,by omega⟩
 .have he:i=j.list.length:=by have:=Λ hge;omega
  subst he;rw [List.take_length] at y ⊢;have c1:Ctx W w (.buf p (j.list.map gV).length c (dZ (j.list.map gV)) 76 2 :: .blk b (bX j.list) 9 :: ((aL x q j++S)++G)) η:=y;obtain ⟨c2,hs,_⟩:=Ctx.freeze (α:=aS) c1 (Ik λU hy=>by
   obtain ⟨s,hs,rfl⟩:=List.mem_map.1 hy;exact hok s hs)
  have hs':Δ (dom (.blk b (bX j.list) 9 :: ((aL x q j++S)++G))) w p (j.list.map gV):=hs;exact hk p c w ((c2.add (Ψ:=λM w=>Δ M w p (j.list.map gV)) hs').drop1.left)
abbrev bQ:Value:=.pointer none
def wF(cs:List Value)(mO:Nat):List Value:=((cs.set (mO+1) bQ).set (mO+2) bQ).set (mO+3) bQ
theorem ZB[O Φ]{gb mO cs}(hm:mO+4<=cs.length)(y:Ctx W w (.blk gb cs 57 :: S) Φ){K}(hk:∀ w',Ctx W w' (.blk gb (wF cs mO) 57 :: S) Φ->K (.returned (.tuple #[])) w'):
  Γ F.Lb #[ε gb mO] w K:=by
 refine ak (aDQ gb mO (J:=K∘.returned) y λw G y=>⟨y.can 0 rfl (by omega),λw' hw'=>⟨.blk gb (cs.set (mO+1) bQ) 57 :: S,Φ,δ,y.put 0 hw' rfl,λw G y=>⟨y.can 0 rfl (by rw [List.length_set];omega),λw' hw'=>⟨.blk gb ((cs.set (mO+1) bQ).set (mO+2) bQ) 57 :: S,Φ,δ,y.put 0 hw' rfl,λw G y=>⟨y.can 0 rfl (by rw [List.length_set,List.length_set];omega),λw' hw'=>⟨.blk gb (wF cs mO) 57 :: S,Φ,δ,y.put 0 hw' rfl,λw G y=>hk w y.left⟩⟩⟩⟩⟩⟩)
abbrev pA(b:Nat):Value:=.pointer (some ⟨b,0,none⟩)
abbrev aO(k0 gb mO:Nat):Own:=.blk k0 [ε gb mO] 63
abbrev bx(k1:Nat)(v:Value):Own:=.blk k1 [v] 50
abbrev cD(k2:Nat)(v:Value):Own:=.blk k2 [v] 51
abbrev ω(gb:Nat)(cs:List Value):Own:=.blk gb cs 57
theorem aNl[O Φ]{k0 gb mO cs q d}(hcs:cs[mO]? = some (ε q.db 0))(hq:cG q d)(hkp:gk Φ q d)(y:Ctx W w (aO k0 gb mO :: ω gb cs :: (ξ q d++S)) Φ){K}(hk:∀ u w',cG (q.mv u) (bN d 2).1->Ctx W w' (aO k0 gb mO :: ω gb cs :: (ξ (q.mv u) (bN d 2).1++S)) Φ->K (.returned (.int .i64 (bN d 2).2)) w'):
  Γ F.LY #[ε k0 0] w K:=by
 refine ak (aDM k0 0 (J:=K∘.returned) y λw G y=>⟨_,y.get 0 rfl rfl,eu gb mO rfl λw G y=>⟨some ⟨q.db,0,none⟩,y.get 1 rfl hcs,λw G y=>?_⟩⟩);refine Gq (S:=[aO k0 gb mO,ω gb cs]++(S++G)) hq hkp (xI (A:=[aO k0 gb mO,ω gb cs]) y) λu w hq1 y=>⟨_,rfl,[aO k0 gb mO,ω gb cs]++(ξ (q.mv u) (bN d 2).1++S),Φ,δ,uu y,λw G y=>hk u w hq1 y.left⟩
theorem aNm[O Φ](hoff:∀ M w,Φ M w->jO M w)(hN:∀ M w,Φ M w->jt M w){k1 k0 gb mO jp cs q d}(hcs:cs[mO]? = some (ε q.db 0))(hq:cG q d)(hkp:gk Φ q d)(y:Ctx W w (bx k1 jp :: aO k0 gb mO :: ω gb cs :: (ξ q d++S)) Φ){K}(hn:∀ u d' e w',ny d 0=(d',none,e)->cG (q.mv u) d'->d'.keep=d.keep->Ctx W w' (bx k1 bQ :: aO k0 gb mO :: ω gb cs :: (ξ (q.mv u) d'++S)) Φ->K (.returned (.int .i64 e)) w')(hs:∀ u x d' j w',ny d 0=(d',some j,0)->fY x.p x.cap j.list x.o->cG (q.mv u) d'->d'.keep=d.keep->Ctx W w' (bx k1 (pA x.ax) :: aO k0 gb mO :: ω gb cs :: (aL x q j++(ξ (q.mv u) d'++S))) Φ->K (.returned (.int .i64 0)) w'):
  Γ F.LZ #[ε k0 0,ε k1 0] w K:=by
 refine ak (aDN k0 0 k1 0 (J:=K∘.returned) y λw G y=>⟨_,y.get 1 rfl rfl,eu gb mO rfl λw G y=>⟨some ⟨q.db,0,none⟩,y.get 2 rfl hcs,λw G y=>?_⟩⟩);refine a1E (S:=[bx k1 jp,aO k0 gb mO,ω gb cs]++(S++G)) hq hkp hoff hN (xI (A:=[bx k1 jp,aO k0 gb mO,ω gb cs]) y) (λu d' e w ho hq1 k3 y=>?_) (λu x d' j w ho hsb hq1 k3 y=>?_)
 .exact ⟨_,_,rfl,[bx k1 jp,aO k0 gb mO,ω gb cs]++(ξ (q.mv u) d'++S),Φ,δ,uu y,λw G y=>⟨y.can 0 rfl (by show 0+1<=1;omega),λw' hw'=>⟨bx k1 bQ :: aO k0 gb mO :: ω gb cs :: (ξ (q.mv u) d'++S),Φ,δ,y.put 0 hw' rfl,λw G y=>hn u d' e w ho hq1 k3 y.left⟩⟩⟩
 .have c1:Ctx W w ((aL x q j++ξ (q.mv u) d')++([bx k1 jp,aO k0 gb mO,ω gb cs]++(S++G))) Φ:=by rw [μ];exact y
  have c2:=uu (A:=[bx k1 jp,aO k0 gb mO,ω gb cs]) c1;rw [μ (aL x q j)] at c2;exact ⟨_,_,rfl,[bx k1 jp,aO k0 gb mO,ω gb cs]++(aL x q j++(ξ (q.mv u) d'++S)),Φ,δ,c2,λw G y=>⟨y.can 0 rfl (by show 0+1<=1;omega),λw' hw'=>⟨bx k1 (pA x.ax) :: aO k0 gb mO :: ω gb cs :: (aL x q j++(ξ (q.mv u) d'++S)),Φ,δ,y.put 0 hw' rfl,λw G y=>hs u x d' j w ho hsb hq1 k3 y.left⟩⟩⟩
theorem aNn[O Φ](hoff:∀ M w,Φ M w->jO M w){k2 k0 gb mO cp cs q d}(hcs:cs[mO]? = some (ε q.db 0))(hq:cG q d)(y:Ctx W w (cD k2 cp :: aO k0 gb mO :: ω gb cs :: (ξ q d++S)) Φ){K}(hn:∀ e w',qD d 2=(none,e)->Ctx W w' (cD k2 bQ :: aO k0 gb mO :: ω gb cs :: (ξ q d++S)) Φ->K (.returned (.int .i64 e)) w')(hs:∀ c cb w',qD d 2=(some c,0)->Ctx W w' (cD k2 (pA cb) :: aO k0 gb mO :: ω gb cs :: (aP cb q c :: (ξ q d++S))) Φ->K (.returned (.int .i64 0)) w'):
  Γ F.La #[ε k0 0,ε k2 0] w K:=by
 refine ak (aDO k0 0 k2 0 (J:=K∘.returned) y λw G y=>⟨_,y.get 1 rfl rfl,eu gb mO rfl λw G y=>⟨some ⟨q.db,0,none⟩,y.get 2 rfl hcs,λw G y=>?_⟩⟩);refine a0o (S:=[cD k2 cp,aO k0 gb mO,ω gb cs]++(S++G)) hq hoff (xI (A:=[cD k2 cp,aO k0 gb mO,ω gb cs]) y) (λe w ho y=>?_) (λc cb w ho y=>?_)
 .exact ⟨_,_,rfl,[cD k2 cp,aO k0 gb mO,ω gb cs]++(ξ q d++S),Φ,δ,uu y,λw G y=>⟨y.can 0 rfl (by show 0+1<=1;omega),λw' hw'=>⟨cD k2 bQ :: aO k0 gb mO :: ω gb cs :: (ξ q d++S),Φ,δ,y.put 0 hw' rfl,λw G y=>hn e w ho y.left⟩⟩⟩
 .have c2:=uu (A:=[cD k2 cp,aO k0 gb mO,ω gb cs]) (X:=aP cb q c :: ξ q d) (S:=S) (G:=G) y;exact ⟨_,_,rfl,[cD k2 cp,aO k0 gb mO,ω gb cs]++(aP cb q c :: (ξ q d++S)),Φ,δ,c2,λw G y=>⟨y.can 0 rfl (by show 0+1<=1;omega),λw' hw'=>⟨cD k2 (pA cb) :: aO k0 gb mO :: ω gb cs :: (aP cb q c :: (ξ q d++S)),Φ,δ,y.put 0 hw' rfl,λw G y=>hs c cb w ho y.left⟩⟩⟩
def DK(cs:List Value)(mO j c r:Nat):List Value:=((cs.set (mO+1) (pA j)).set (mO+2) (pA c)).set (mO+3) (pA r)
structure Gc(id:Nat)(up:kz):Prop where
 new:s9 id up.r.term up.r.ρ up.r.log=true
 len:up.j.list.length<=1000000
 size:∀ s∈up.j.list,s.size<=100000000
 ok:∀ s∈up.j.list,(gV s).bA
 val:up.c.value.length<=1000000000
def aFV(id:Nat)(d:b7)(q:ld)(k0 k1 k2 gb mO:Nat)(cs:List Value)(S:List Own)(Φ:θ)(n:Int)(R:List Own)(η:θ):Prop :=
 η=Φ/\((n≠0/\∃ (Dl:List Own) (u:BX),(bM id d).2.1=none/\(bM id d).2.2=n/\cG (q.mv u) (bM id d).1/\(bM id d).1.keep=d.keep/\R=Dl++(ω gb cs :: (ξ (q.mv u) (bM id d).1++S))) \/ (n=0/\∃ (u:BX) (x:za) (cb:Nat) (c:pT) (d':b7) (j:jd),bM id d=(d',some ⟨j,c,fR id (jy c).1 (jy c).2 (j.list.map gV)⟩,0)/\fY x.p x.cap j.list x.o/\cG (q.mv u) d'/\d'.keep=d.keep /\ R=cD k2 (pA cb) :: bx k1 (pA x.ax) :: aO k0 gb mO :: ω gb cs :: (aL x q j++(aP cb q c :: (ξ (q.mv u) d'++S)))))
theorem a7f{d d' b e}(h:ny d b=(d',none,e)):e≠0:=by
 unfold ny at h;split at h
 .injection h with _ h;injection h with _ h;omega
 split at h
 .injection h with _ h;injection h with _ h;omega
 split at h
 .injection h with _ h;injection h with _ h;omega
 injection h with h1 h2;unfold Co at h2;split at h2
 .rename_i e' ho;injection h2 with _ h2;rw [<-h2];exact XW ho
 .unfold RF at h2;split at h2
  .injection h2 with _ h2;omega
  split at h2
  .injection h2 with _ h2;omega
  split at h2
  .injection h2 with _ h2;omega
  split at h2
  .injection h2 with _ h2;omega
  .injection h2 with h2 _;cases h2
theorem aNi[O Φ](hoff:∀ M w,Φ M w->jO M w)(hN:∀ M w,Φ M w->jt M w){id gb mO k0 k1 k2 cs q d}(hcs:cs[mO]? = some (ε q.db 0))(hq:cG q d)(hkp:gk Φ q d):
  Jh W (aFV id d q k0 k1 k2 gb mO cs S Φ) [(F.LY,#[pA k0]),(F.LZ,#[pA k0,pA k1]),(F.La,#[pA k0,pA k2])] (cD k2 bQ :: bx k1 bQ :: aO k0 gb mO :: ω gb cs :: (ξ q d++S)) Φ:=by
 refine ⟨by kernel_rfl,λw G y=>?_⟩;have c1:Ctx W w (aO k0 gb mO :: ω gb cs :: (ξ q d++(cD k2 bQ :: bx k1 bQ :: (S++G)))) Φ:=by
  have c2:=xI (A:=[cD k2 bQ,bx k1 bQ,aO k0 gb mO,ω gb cs]) (X:=ξ q d) (S:=S) (G:=G) y;exact c2.perm ((List.perm_append_comm_assoc (ξ q d) [cD k2 bQ,bx k1 bQ,aO k0 gb mO,ω gb cs] (S++G)).trans ((List.perm_append_comm_assoc [cD k2 bQ,bx k1 bQ] [aO k0 gb mO,ω gb cs] (ξ q d++(S++G))).trans (.append_left _ (List.perm_append_comm_assoc [cD k2 bQ,bx k1 bQ] (ξ q d) (S++G)))))
 refine aNl hcs hq hkp c1 λu w hq1 y=>?_;have lS:gk Φ (q.mv u) (bN d 2).1:=⟨by rw [BD];exact hkp.le,λM w h=>by rw [BD];exact hkp.sl M w h⟩;obtain ⟨⟨d1,e1⟩,hs1⟩:∃ x,bN d 2=x:=⟨_,rfl⟩;have xC:d1.keep=d.keep:=by rw [<-BD d 2,hs1]
 rw [hs1] at hq1 y lS;simp only at hq1 y lS;refine ⟨e1,by rw [hs1],cD k2 bQ :: bx k1 bQ :: aO k0 gb mO :: ω gb cs :: (ξ (q.mv u) d1++S),Φ,δ,by
  refine uu (A:=[cD k2 bQ,bx k1 bQ,aO k0 gb mO,ω gb cs]) (X:=ξ (q.mv u) d1) (S:=S) (G:=G) (y.perm ?_);exact ((List.perm_append_comm_assoc (ξ (q.mv u) d1) [cD k2 bQ,bx k1 bQ,aO k0 gb mO,ω gb cs] (S++G)).trans ((List.perm_append_comm_assoc [cD k2 bQ,bx k1 bQ] [aO k0 gb mO,ω gb cs] (ξ (q.mv u) d1++(S++G))).trans (.append_left _ (List.perm_append_comm_assoc [cD k2 bQ,bx k1 bQ] (ξ (q.mv u) d1) (S++G))))).symm,λhne=>?_,λhe=>?_⟩
 .have e:bM id d=(d1,none,e1):=by unfold bM;rw [hs1,if_pos hne]
  refine ⟨rfl,.inl ⟨hne,[cD k2 bQ,bx k1 bQ,aO k0 gb mO],u,by rw [e],by rw [e],by rw [e];exact hq1,by rw [e];exact xC,?_⟩⟩;rw [e];rfl
 have a45:bM id d=FZ id d1:=by unfold bM;rw [hs1,if_neg (by simp [he])]
 refine ⟨by kernel_rfl,λw G y=>?_⟩;have c1:Ctx W w (bx k1 bQ :: aO k0 gb mO :: ω gb cs :: (ξ (q.mv u) d1++(cD k2 bQ :: (S++G)))) Φ:=by
  have c2:=xI (A:=[cD k2 bQ,bx k1 bQ,aO k0 gb mO,ω gb cs]) (X:=ξ (q.mv u) d1) (S:=S) (G:=G) y;exact c2.perm ((List.perm_append_comm_assoc (ξ (q.mv u) d1) [cD k2 bQ,bx k1 bQ,aO k0 gb mO,ω gb cs] (S++G)).trans ((List.perm_append_comm_assoc [cD k2 bQ] [bx k1 bQ,aO k0 gb mO,ω gb cs] (ξ (q.mv u) d1++(S++G))).trans (.append_left _ (List.perm_append_comm_assoc [cD k2 bQ] (ξ (q.mv u) d1) (S++G)))))
 refine aNm (q:=q.mv u) hoff hN hcs hq1 lS c1 (λu2 d2 e w ho cX k3 y=>?_) (λu2 x d2 j w ho hsb cX k3 y=>?_)
 .have hee:e≠0:=a7f ho;have p9:bM id d=(d2,none,e):=by rw [a45];unfold FZ;rw [ho]
  refine ⟨e,rfl,cD k2 bQ :: bx k1 bQ :: aO k0 gb mO :: ω gb cs :: (ξ (q.mv u2) d2++S),Φ,δ,?_,λ_=>⟨rfl,.inl ⟨hee,[cD k2 bQ,bx k1 bQ,aO k0 gb mO],u2,by rw [p9],by rw [p9],by rw [p9];exact cX,by rw [p9];exact k3.trans xC,by rw [p9];rfl⟩⟩,λh0=>absurd h0 hee⟩;refine uu (A:=[cD k2 bQ,bx k1 bQ,aO k0 gb mO,ω gb cs]) (X:=ξ (q.mv u2) d2) (S:=S) (G:=G) (Ctx.perm y ?_);exact ((List.perm_append_comm_assoc (ξ (q.mv u2) d2) [cD k2 bQ,bx k1 bQ,aO k0 gb mO,ω gb cs] (S++G)).trans ((List.perm_append_comm_assoc [cD k2 bQ] [bx k1 bQ,aO k0 gb mO,ω gb cs] (ξ (q.mv u2) d2++(S++G))).trans (.append_left _ (List.perm_append_comm_assoc [cD k2 bQ] (ξ (q.mv u2) d2) (S++G))))).symm
 .have p9:bM id d=Fa id d2 j:=by rw [a45];unfold FZ;rw [ho]
  have a3R:Ctx W w ([cD k2 bQ,bx k1 (pA x.ax),aO k0 gb mO,ω gb cs]++((aL x q j++ξ (q.mv u2) d2)++(S++G))) Φ:=by
   have c3:Ctx W w ([bx k1 (pA x.ax),aO k0 gb mO,ω gb cs]++((aL x q j++ξ (q.mv u2) d2)++([cD k2 bQ]++(S++G)))) Φ:=by rw [μ (aL x q j)];exact y
   exact c3.perm (((List.perm_append_comm_assoc (aL x q j++ξ (q.mv u2) d2) [cD k2 bQ] (S++G)).append_left [bx k1 (pA x.ax),aO k0 gb mO,ω gb cs]).trans (List.perm_append_comm_assoc [bx k1 (pA x.ax),aO k0 gb mO,ω gb cs] [cD k2 bQ] _))
  refine ⟨0,rfl,cD k2 bQ :: bx k1 (pA x.ax) :: aO k0 gb mO :: ω gb cs :: (aL x q j++(ξ (q.mv u2) d2++S)),Φ,δ,by
   show Ctx W w (([cD k2 bQ,bx k1 (pA x.ax),aO k0 gb mO,ω gb cs]++(aL x q j++(ξ (q.mv u2) d2++S)))++G) Φ;simp only [μ] at a3R ⊢;exact a3R,λh=>absurd rfl h,λ_=>?_⟩
  refine ⟨by kernel_rfl,λw G y=>?_⟩;have c4:Ctx W w (cD k2 bQ :: aO k0 gb mO :: ω gb cs :: (ξ (q.mv u2) d2++(bx k1 (pA x.ax) :: (aL x q j++(S++G))))) Φ:=by
   have c5:Ctx W w ([cD k2 bQ,bx k1 (pA x.ax),aO k0 gb mO,ω gb cs]++(aL x q j++(ξ (q.mv u2) d2++(S++G)))) Φ:=by
    have rO:Ctx W w (([cD k2 bQ,bx k1 (pA x.ax),aO k0 gb mO,ω gb cs]++(aL x q j++(ξ (q.mv u2) d2++S)))++G) Φ:=y;simp only [μ] at rO ⊢;exact rO
   refine c5.perm ?_;show (cD k2 bQ :: bx k1 (pA x.ax) :: ([aO k0 gb mO,ω gb cs]++(aL x q j++(ξ (q.mv u2) d2++(S++G))))).Perm _;refine .cons _ (((List.perm_append_comm_assoc (aL x q j) (ξ (q.mv u2) d2) (S++G)).append_left (bx k1 (pA x.ax) :: [aO k0 gb mO,ω gb cs])).trans ?_);exact (List.perm_append_comm_assoc [bx k1 (pA x.ax)] [aO k0 gb mO,ω gb cs] _).trans (.append_left [aO k0 gb mO,ω gb cs] (List.perm_append_comm_assoc [bx k1 (pA x.ax)] (ξ (q.mv u2) d2) (aL x q j++(S++G))))
  have back:∀ {w:World} {v:Value} {Y:List Own},Ctx W w (cD k2 v :: aO k0 gb mO :: ω gb cs :: (Y++(ξ (q.mv u2) d2++(bx k1 (pA x.ax) :: (aL x q j++(S++G)))))) Φ->Ctx W w ((cD k2 v :: bx k1 (pA x.ax) :: aO k0 gb mO :: ω gb cs :: (aL x q j++(Y++(ξ (q.mv u2) d2++S))))++G) Φ:=fun {w v Y} c=>by
   have p1:(cD k2 v :: aO k0 gb mO :: ω gb cs :: (Y++(ξ (q.mv u2) d2++(bx k1 (pA x.ax) :: (aL x q j++(S++G)))))).Perm (cD k2 v :: bx k1 (pA x.ax) :: aO k0 gb mO :: ω gb cs :: (aL x q j++(Y++(ξ (q.mv u2) d2++(S++G))))):=by
    refine .cons _ ?_;have p2:(Y++(ξ (q.mv u2) d2++(bx k1 (pA x.ax) :: (aL x q j++(S++G))))).Perm (bx k1 (pA x.ax) :: (aL x q j++(Y++(ξ (q.mv u2) d2++(S++G))))):=by
     refine (((List.perm_append_comm_assoc (ξ (q.mv u2) d2) (bx k1 (pA x.ax) :: aL x q j) (S++G)).append_left Y).trans ?_);exact List.perm_append_comm_assoc Y (bx k1 (pA x.ax) :: aL x q j) _
    refine ((p2.append_left [aO k0 gb mO,ω gb cs]).trans ?_);exact List.perm_append_comm_assoc [aO k0 gb mO,ω gb cs] [bx k1 (pA x.ax)] _
   have vi:=c.perm p1;show Ctx W w (([cD k2 v,bx k1 (pA x.ax),aO k0 gb mO,ω gb cs]++(aL x q j++(Y++(ξ (q.mv u2) d2++S))))++G) Φ;simp only [μ];exact vi
  refine aNn (q:=q.mv u2) hoff hcs cX c4 (λe w hc y=>?_) (λc cb w hc y=>?_)
  .have hee:e≠0:=XW hc;have e2:bM id d=(d2,none,e):=by rw [p9];unfold Fa;rw [hc]
   have nh:Ctx W w (([cD k2 bQ,bx k1 (pA x.ax),aO k0 gb mO,ω gb cs]++(aL x q j++(ξ (q.mv u2) d2++S)))++G) Φ:=back (Y:=[]) y;refine ⟨e,rfl,cD k2 bQ :: bx k1 (pA x.ax) :: aO k0 gb mO :: ω gb cs :: (ξ (q.mv u2) d2++S),Φ,δ,nh.sub (aAf (.append_left (List.sublist_append_right _ _) [cD k2 bQ,bx k1 (pA x.ax),aO k0 gb mO,ω gb cs])),λ_=>⟨rfl,.inl ⟨hee,[cD k2 bQ,bx k1 (pA x.ax),aO k0 gb mO],u2,by rw [e2],by rw [e2],by rw [e2];exact cX,by rw [e2];exact k3.trans xC,by rw [e2];rfl⟩⟩,λh0=>absurd h0 hee⟩
  .have e2:bM id d=(d2,some ⟨j,c,fR id (jy c).1 (jy c).2 (j.list.map gV)⟩,0):=by rw [p9];unfold Fa;rw [hc]
   refine ⟨0,rfl,_,Φ,δ,back (Y:=[aP cb q c]) y,λh=>absurd rfl h,λ_=>⟨rfl,.inr ⟨rfl,u2,x,cb,c,d2,j,e2,hsb,cX,k3.trans xC,rfl⟩⟩⟩
theorem a7h[O Φ](hoff:∀ M w,Φ M w->jO M w)(hN:∀ M w,Φ M w->jt M w){id gb mO cs q d}(hcs:cs[mO]? = some (ε q.db 0))(hm:mO+4<=cs.length)(hq:cG q d)(hkp:gk Φ q d)(VX:∀ up,(bM id d).2.1=some up->Gc id up)(y:Ctx W w (ω gb cs :: (ξ q d++S)) Φ){K}(hn:∀ u w',(bM id d).2.1=none->(bM id d).2.2≠0->cG (q.mv u) (bM id d).1->(bM id d).1.keep=d.keep->Ctx W w' (ω gb cs :: (ξ (q.mv u) (bM id d).1++S)) Φ->K (.returned (.int .i64 (bM id d).2.2)) w')(hs:∀ u x cb rb rp rc up w',(bM id d).2.1=some up->(bM id d).2.2=0->fY x.p x.cap up.j.list x.o->cG (q.mv u) (bM id d).1->(bM id d).1.keep=d.keep->Ctx W w' (ω gb (DK cs mO x.ax cb rb) :: (Θ rb up.r rp rc++(aL x q up.j++(aP cb q up.c :: (ξ (q.mv u) (bM id d).1++S))))) Φ->K (.returned (.int .i64 0)) w'):
  Γ F.QC #[ε gb mO,.int .i64 (id:Int)] w K:=by
 refine ak (aDP gb mO (id:Int) (J:=K∘.returned) y λk0 k1 k2 b8 w ag y=>?_);have c0:Ctx W w (.blk b8 (En [(F.LY,#[pA k0]),(F.LZ,#[pA k0,pA k1]),(F.La,#[pA k0,pA k2])]) 91 :: (cD k2 bQ :: bx k1 bQ :: aO k0 gb mO :: ω gb cs :: (ξ q d++(S++ag)))) Φ:=by
  rw [<-μ];exact y
 refine a0v (fs:=[(F.LY,#[pA k0]),(F.LZ,#[pA k0,pA k1]),(F.La,#[pA k0,pA k2])]) (by show 3<=1000;omega) c0 (aNi (id:=id) hoff hN hcs hq hkp) λn S' η w hst iw y=>?_;obtain ⟨rfl,h|h⟩:=iw
 .obtain ⟨hne,Dl,u,o1,o2,hq1,k3,rfl⟩:=h;refine ⟨n,rfl,ω gb cs :: (ξ (q.mv u) (bM id d).1++S),η,δ,by
   have c1:=y.sub (List.sublist_append_right Dl _);rw [<-μ] at c1;exact c1,γ.intro (λh0=>absurd (aN h0) hne) (λ_=>λw G y=>?_)⟩
  rw [<-o2];exact hn u w o1 (by rw [o2];exact hne) hq1 k3 y.left
 .obtain ⟨rfl,u,x,cb,c,d',j,p9,hsb,hq1,k3,rfl⟩:=h;have hg:=VX _ (by rw [p9]);have h1:(bM id d).1=d':=by rw [p9]
  have h2:(bM id d).2.1=some ⟨j,c,fR id (jy c).1 (jy c).2 (j.list.map gV)⟩:=by rw [p9]
  have h3:(bM id d).2.2=0:=by rw [p9]
  obtain ⟨A,hA⟩:∃ A,A=cD k2 (pA cb) :: bx k1 (pA x.ax) :: aO k0 gb mO :: ω gb cs :: (aL x q j++(aP cb q c :: (ξ (q.mv u) d'++S))):=⟨_,rfl⟩;have ew:List.Sublist [cD k2 (pA cb),bx k1 (pA x.ax),aO k0 gb mO] A:=by
   rw [hA];exact List.sublist_append_left [cD k2 (pA cb),bx k1 (pA x.ax),aO k0 gb mO] _
  have bL:(fR id (jy c).1 (jy c).2 (j.list.map gV)).log=j.list.map gV:=rfl;refine ⟨0,rfl,A,η,δ,by
   rw [hA];show Ctx W w (([cD k2 (pA cb),bx k1 (pA x.ax),aO k0 gb mO,ω gb cs]++(aL x q j++([aP cb q c]++(ξ (q.mv u) d'++S))))++ag) η;simp only [μ];exact y,γ.intro (λ_=>?_) (λh0=>absurd rfl (Λ h0))⟩
  refine ⟨[cD k2 (pA cb),bx k1 (pA x.ax),aO k0 gb mO],lE,δ,λw G y=>dS y ew,some ⟨gb,mO,none⟩,λw G y=>⟨_,y.get 2 rfl rfl,rfl⟩,some ⟨gb,mO,none⟩,λw G y=>⟨_,y.get 2 rfl rfl,rfl⟩,some ⟨gb,mO,none⟩,λw G y=>⟨_,y.get 2 rfl rfl,rfl⟩,some ⟨x.ax,0,none⟩,λw G y=>⟨_,y.get 1 rfl rfl,rfl⟩,some ⟨cb,0,none⟩,λw G y=>⟨_,y.get 0 rfl rfl,rfl⟩,some ⟨cb,0,none⟩,λw G y=>⟨_,y.get 0 rfl rfl,rfl⟩,some ⟨x.ax,0,none⟩,λw G y=>⟨_,y.get 1 rfl rfl,rfl⟩,λw G y=>?_⟩
  have pc:(A++G).Perm (aP cb q c :: ([cD k2 (pA cb),bx k1 (pA x.ax),aO k0 gb mO,ω gb cs]++(aL x q j++(ξ (q.mv u) d'++S))++G)):=by
   rw [hA];show ((([cD k2 (pA cb),bx k1 (pA x.ax),aO k0 gb mO,ω gb cs]++aL x q j)++(aP cb q c :: (ξ (q.mv u) d'++S)))++G).Perm (aP cb q c :: ((([cD k2 (pA cb),bx k1 (pA x.ax),aO k0 gb mO,ω gb cs]++aL x q j)++(ξ (q.mv u) d'++S))++G));exact (List.perm_middle).append_right G
  refine aK2 hN hg.val (y.perm pc) λw y=>⟨_,_,rfl,A,η,δ,y.perm pc.symm,λw G y=>dS y ew,λw G y=>?_⟩;have pj:∀ G,(A++G).Perm (aL x q j++([cD k2 (pA cb),bx k1 (pA x.ax),aO k0 gb mO,ω gb cs]++((aP cb q c :: (ξ (q.mv u) d'++S))++G))):=λG=>by
   rw [hA];show (([cD k2 (pA cb),bx k1 (pA x.ax),aO k0 gb mO,ω gb cs]++(aL x q j++(aP cb q c :: (ξ (q.mv u) d'++S))))++G).Perm _;rw [μ,μ (aL x q j)];exact List.perm_append_comm_assoc _ _ _
  refine a4B hN hsb hg.len hg.size hg.ok (y.perm (pj G)) λp c2 w y=>⟨_,_,_,rfl,A,_,δ,y.perm (pj G).symm,λw G y=>dS y ew,λw G y=>?_⟩;refine aFP y (id:Int) (jy c).1 (jy c).2 (j.list.map gV) p c2 (λM w h=>h.2) (by have:j.list.length<=1000000:=hg.len;rw [List.length_map];omega) (λh0=>by
   have:=hg.new;rw [show s9 id (fR id (jy c).1 (jy c).2 (j.list.map gV)).term (fR id (jy c).1 (jy c).2 (j.list.map gV)).ρ (fR id (jy c).1 (jy c).2 (j.list.map gV)).log=s9 id (jy c).1 (jy c).2 (j.list.map gV) from rfl,h0] at this;cases this) (λ_ rb rp rc w y=>?_)
  rw [Int.toNat_natCast] at y;obtain ⟨r,hr⟩:∃ r,fR id (jy c).1 (jy c).2 (j.list.map gV)=r:=⟨_,rfl⟩;rw [hr] at y h2;obtain ⟨dF,WA⟩:∃ dF:θ,dF=λM w=>η M w/\Δ M w p (j.list.map gV):=⟨_,rfl⟩
  haveI:O dF:=by rw [WA];infer_instance
  have dw:∀ M w,dF M w->η M w:=by rw [WA];exact λM w h=>h.1
  rw [<-WA] at y
  let Z:List Value->List Own:=λcs=>cD k2 (pA cb) :: bx k1 (pA x.ax) :: aO k0 gb mO :: ω gb cs :: (aL x q j++(aP cb q c :: (ξ (q.mv u) d'++S)))
  have Yk:∀ cs,List.Sublist [cD k2 (pA cb),bx k1 (pA x.ax),aO k0 gb mO] (Θ rb r rp rc++Z cs):=λcs=>(List.sublist_append_left [cD k2 (pA cb),bx k1 (pA x.ax),aO k0 gb mO] _).trans (List.sublist_append_right _ _);refine ⟨_,rfl,Θ rb r rp rc++Z cs,dF,δ,by rw [hA] at y;exact y,λw G y=>dS y (Yk _),eu gb mO rfl λw G y=>⟨y.can 5 rfl (by omega),λw' hw'=>⟨Θ rb r rp rc++Z (cs.set (mO+1) (pA x.ax)),dF,δ,y.put 5 hw' rfl,λw G y=>dS y (Yk _),eu gb mO rfl λw G y=>⟨y.can 5 rfl (by rw [List.length_set];omega),λw' hw'=>⟨Θ rb r rp rc++Z ((cs.set (mO+1) (pA x.ax)).set (mO+2) (pA cb)),dF,δ,y.put 5 hw' rfl,λw G y=>dS y (Yk _),eu gb mO rfl λw G y=>⟨y.can 5 rfl (by rw [List.length_set,List.length_set];omega),λw' hw'=>⟨Θ rb r rp rc++Z (DK cs mO x.ax cb rb),dF,δ,y.put 5 hw' rfl,λw G y=>?_⟩⟩⟩⟩⟩⟩⟩
  refine hs u x cb rb rp rc ⟨j,c,r⟩ w h2 h3 hsb (by rw [h1];exact hq1) (by rw [h1];exact k3) ?_;rw [h1];have c9:Ctx W w (Θ rb r rp rc++(ω gb (DK cs mO x.ax cb rb) :: (aL x q j++(aP cb q c :: (ξ (q.mv u) d'++S))))) dF:=by
   refine (Ctx.left y).sub ?_;show List.Sublist (Θ rb r rp rc++(ω gb (DK cs mO x.ax cb rb) :: _)) (Θ rb r rp rc++(cD k2 (pA cb) :: bx k1 (pA x.ax) :: aO k0 gb mO :: ω gb (DK cs mO x.ax cb rb) :: _));exact List.Sublist.append_left (((List.Sublist.refl _).cons _).cons _ |>.cons _) _
  exact (c9.weak dw).perm (List.perm_middle)
end
structure Node where
 rep:aG
 vK:Int
 BC:Int
 vJ:List aS
 stop:Int
structure cJ where
 nd:Nat->Node
 sent:List aH
def Z7(i:Nat)(n:Node):Node:={ n with stop:=0,rep:=fR i n.vK n.BC n.vJ }
def NW(n:Node)(o:fN):Node:=if o.save=true then { n with vK:=o.term,BC:=o.ρ } else n
def k4(n:Node)(o:fN):Node:=if 0<o.src then { n with vJ:=n.vJ.take (min (o.src - 1) (n.vJ.length:Int)).toNat++o.ζ } else n
def th(C:cJ)(i:Nat):cJ:={ C with nd:=put C.nd i (Z7 i (C.nd i)) }
def Fl(C:cJ)(i:Nat)(r:aG):cJ:={ C with nd:=put C.nd i { C.nd i with rep:=r } }
def a3x(C:cJ)(i:Nat)(o:fN):cJ :=
 if (C.nd i).stop=1 then th C i
 else
  let y9:cJ:={ C with nd:=put C.nd i (k4 (NW (C.nd i) o) o) }
  if (C.nd i).stop=2 then th y9 i
  else { y9 with sent:=C.sent++o.send.take (300 - C.sent.length) }
def iA(n m:Int):Int:=if m<1 then 0 else n.emod m
theorem a8l{n m}(h:0<m):0<=iA n m/\iA n m<m:=by
 unfold iA;rw [if_neg (by omega)];exact ⟨Int.emod_nonneg _ (by omega),Int.emod_lt_of_pos _ h⟩
theorem ZP{n m:Int}(h:0<m):(if n.tmod m<0 then n.tmod m+m else n.tmod m)=n.emod m:=by
 have h1:=Int.emod_nonneg n (show m≠0 by omega);have h2:=Int.emod_lt_of_pos n h;rcases Int.le_total 0 n with hn|hn
 .rw [Int.tmod_eq_emod_of_nonneg hn,if_neg (by omega)];rfl
 .have h3:n.tmod m<=0:=by
   have:=Int.tmod_nonneg m (show 0 <= -n by omega);rw [Int.neg_tmod] at this;omega
  have h4 : -m<n.tmod m:=by
   have:=Int.tmod_lt_of_pos (-n) h;rw [Int.neg_tmod] at this;omega
  have h5:(n.tmod m).emod m=n.emod m:=by
   have e:=Int.tmod_add_mul_tdiv n m;have:n=n.tmod m+m*n.tdiv m:=by omega
   conv=>rhs;rw [this]
   exact (Int.add_mul_emod_self_left _ _ _).symm
  by_cases hz:n.tmod m<0
  .rw [if_pos hz];have:(n.tmod m+m).emod m=n.emod m:=by
    rw [<-h5];have:=Int.add_mul_emod_self_left (n.tmod m) m 1
    rwa [Int.mul_one] at this
   rw [<-this];exact (Int.emod_eq_of_lt (by omega) (by omega)).symm
  .rw [if_neg hz,<-h5];exact (Int.emod_eq_of_lt (by omega) (by omega)).symm
structure aFS where
 op:Int
 who:Int
 n:Int
 data:ByteArray
instance:aB aFS:=aB.via (β:=Int × Int × Int × ByteArray) (λx=>(x.op,x.who,x.n,x.data)) (λU=>⟨U.1,U.2.1,U.2.2.1,U.2.2.2⟩) (λ_=>rfl)
theorem cF{α}(f:Nat->α)(i x):put f i x i=x:=if_pos rfl
theorem dD{α}(f:Nat->α){i j}(x)(h:j≠i):put f i x j=f j:=if_neg h
theorem Y0{α}(f:Nat->α)(i):put f i (f i)=f:=by
 funext j;unfold put;split
 .rename_i h;rw [h]
 .rfl
structure aG.bq(r:aG):Prop where
 ok:r.bA
 one:r.role≠0->1<=r.term
structure Fits(r r':aG)(o:fN):Prop where
 id:r'.id=r.id
 save:o.save=true->o.term=r'.term/\o.ρ=r'.ρ
 keep:o.save=false->r'.term=r.term/\r'.ρ=r.ρ
 log:0<o.src->r'.log=r.log.take (min (o.src - 1) (r.log.length:Int)).toNat++o.ζ
 same:¬ 0<o.src->r'.log=r.log
 term:r.term<=r'.term
theorem Fits.refl(r):Fits r r er:=⟨rfl,λh=>(by cases h),λ_=>⟨rfl,rfl⟩,λh=>(by cases h),λ_=>rfl,Int.le_refl _⟩
theorem Z4{l t}(h:nc l t)(k):nc (l.take k) t :=
 ⟨λx hx=>h.lo x (List.mem_of_mem_take hx),λx hx=>h.hi x (List.mem_of_mem_take hx),λx hx=>h.data x (List.mem_of_mem_take hx),λi j hij hj hi=>by
  rw [List.getElem_take,List.getElem_take];exact h.iq i j hij (by simp at hj;omega) (by simp at hi;omega)⟩
theorem aQ7{a b t}(ha:nc a t)(hb:nc b t)(h:∀ x∈a,∀ U∈b,x.term<=U.term):nc (a++b) t:=by
 refine ⟨λx hx=>?_,λx hx=>?_,λx hx=>?_,λi j hij hj hi=>?_⟩
 .rcases List.mem_append.1 hx with hx|hx
  .exact ha.lo x hx
  .exact hb.lo x hx
 .rcases List.mem_append.1 hx with hx|hx
  .exact ha.hi x hx
  .exact hb.hi x hx
 .rcases List.mem_append.1 hx with hx|hx
  .exact ha.data x hx
  .exact hb.data x hx
 .rw [List.length_append] at hj hi;by_cases QU:j<a.length
  .rw [List.getElem_append_left QU,List.getElem_append_left (by omega)];exact ha.iq i j hij QU (by omega)
  .rw [List.getElem_append_right (show a.length<=j by omega)];by_cases Lt:i<a.length
   .rw [List.getElem_append_left Lt];exact h _ (List.getElem_mem Lt) _ (List.getElem_mem _)
   .rw [List.getElem_append_right (show a.length<=i by omega)];exact hb.iq (i - a.length) (j - a.length) (by omega) (by omega) (by omega)
theorem Z5{l t u}(h:nc l t)(hu:t<=u):nc l u:=⟨h.lo,λx hx=>Int.le_trans (h.hi x hx) hu,h.data,h.iq⟩
theorem aAK{l t}(h:nc l t)(k):nc (l.drop k) t :=
 ⟨λx hx=>h.lo x (List.mem_of_mem_drop hx),λx hx=>h.hi x (List.mem_of_mem_drop hx),λx hx=>h.data x (List.mem_of_mem_drop hx),λi j hij hj hi=>by
  rw [List.getElem_drop,List.getElem_drop];exact h.iq (k+i) (k+j) (by omega) (by simp at hj;omega) (by simp at hi;omega)⟩
theorem aPJ{id}{m:aH}(h:m.eO id):nc m.ζ m.term/\∀ x∈m.ζ,m.prev<=x.term:=by
 obtain ⟨h1,h2⟩:=aAL _ _ _ h.sound;exact ⟨⟨λx hx=>by have:=(h1 x hx).1;omega,λx hx=>(h1 x hx).2.1,λx hx=>(h1 x hx).2.2,h2⟩,λx hx=>by have:=(h1 x hx).1;omega⟩
theorem aMS{l t}(h:nc l t){k}(hk:k<=l.length):∀ x∈l.take k,x.term<=bB l k:=by
 intro x hx;obtain ⟨i,hi,rfl⟩:=List.getElem_of_mem hx;rw [List.length_take] at hi;rw [List.getElem_take];obtain ⟨j,rfl⟩:∃ j,k=j+1:=⟨k - 1,by omega⟩;rw [BE (by omega)];exact h.iq i j (by omega) (by omega) (by omega)
theorem KH:∀ (a b:List aS) (i:Nat),i<agree a b->∃ (ha:i<a.length) (hb:i<b.length),a[i].term=b[i].term
 | [],b,i,h=>by cases b<;>simp [agree] at h
 | x :: a,[],i,h=>by simp [agree] at h
 | x :: a,U :: b,i,h=>by
  unfold agree at h;split at h
  .rename_i hxy;cases i with
   | zero=>exact ⟨by simp,by simp,by simpa using hxy⟩
   | succ i =>
    obtain ⟨h1,h2,h3⟩:=KH a b i (by omega);exact ⟨by simp;omega,by simp;omega,by simpa using h3⟩
  .omega
theorem aGU{r}(hr:r.bA){m:aH}(hm:m.eO r.id)(ht:¬ m.term<r.term)(hle:m.index.toNat<=r.log.length)(hp:bB r.log m.index.toNat=m.prev):nc (r.log.take (m.index.toNat+cS r m)++m.ζ.drop (cS r m)) m.term:=by
 obtain ⟨h1,h2⟩:=aPJ hm;have hk:=KG (r.log.drop m.index.toNat) m.ζ;rw [List.length_drop] at hk;refine aQ7 (Z5 (Z4 hr.log _) (by omega)) (aAK h1 _) λx hx U hy=>?_;have Lw:m.index.toNat+cS r m<=r.log.length:=by unfold cS;omega
 have hx:=aMS hr.log Lw x hx;refine Int.le_trans hx ?_;obtain ⟨j,hj,rfl⟩:=List.getElem_of_mem hy;rw [List.getElem_drop];have hj2:cS r m+j<m.ζ.length:=by rw [List.length_drop] at hj;omega
 by_cases hz:cS r m=0
 .have e:bB r.log (m.index.toNat+cS r m)=m.prev:=by rw [hz,Nat.add_zero,hp]
  rw [e];exact h2 _ (List.getElem_mem _)
 .obtain ⟨i,hi⟩:∃ i,cS r m=i+1:=⟨cS r m - 1,by omega⟩;obtain ⟨a1,a2,a3⟩:=KH (r.log.drop m.index.toNat) m.ζ i (by unfold cS at hi;omega);rw [List.getElem_drop] at a3;have e:bB r.log (m.index.toNat+cS r m)=m.ζ[i].term:=by
   rw [hi,show m.index.toNat+(i+1)=m.index.toNat+i+1 by omega,BE (by omega),a3]
  rw [e];exact h1.iq i (cS r m+j) (by omega) hj2 a2
theorem KI{r}{m:aH}(hle:m.index.toNat<=r.log.length):(r.log.take (m.index.toNat+cS r m)++m.ζ.drop (cS r m)).length=m.index.toNat+m.ζ.length:=by
 have hk:=KG (r.log.drop m.index.toNat) m.ζ;have hk2:=KF (r.log.drop m.index.toNat) m.ζ;rw [List.length_drop] at hk;rw [List.length_append,List.length_take,List.length_drop];unfold cS;omega
theorem aRI{r}(h:r.bq){m}(h1:0<=m.src/\m.src<=2):(cV r m).1.bq/\(cV r m).1.id=r.id/\(cV r m).1.term=r.term/\(cV r m).1.log=r.log/\(cV r m).2.src=0:=by
 unfold cV;split
 .exact ⟨⟨⟨h.ok.id,h.ok.jn,h.ok.gf,by show -1<=m.src;omega,h1.2,h.ok.log,h.ok.len,h.ok.role,h.ok.υ,h.ok.next,h.ok.bound⟩,h.one⟩,rfl,rfl,rfl,rfl⟩
 .exact ⟨h,rfl,rfl,rfl,rfl⟩
theorem aRP{r}(h:r.bq){m}:(eC r m).1.bq/\(eC r m).1.id=r.id/\(eC r m).1.term=r.term/\(eC r m).1.ρ=r.ρ/\(eC r m).1.log=r.log/\(eC r m).2.src=0:=by
 by_cases hc:(decide (r.role≠1)||decide (m.term≠r.term) || !m.yes)=true
 .rw [DN hc];exact ⟨h,rfl,rfl,rfl,rfl,rfl⟩
 have hc:(decide (r.role≠1)||decide (m.term≠r.term) || !m.yes)=false:=by simpa using hc
 have cI:r.role=1:=by simp only [Bool.or_eq_false_iff,decide_eq_false_iff_not] at hc;exact Decidable.not_not.1 hc.1.1
 by_cases h2:ni (fU r m).bh<2
 .rw [DL hc h2];exact ⟨⟨⟨h.ok.id,h.ok.jn,h.ok.gf,h.ok.sJ,h.ok.sK,h.ok.log,h.ok.len,h.ok.role,h.ok.υ,h.ok.next,h.ok.bound⟩,h.one⟩,rfl,rfl,rfl,rfl,rfl⟩
 .rw [DM hc h2];exact ⟨⟨Wl h.ok m,λ_=>h.one (by rw [cI];decide)⟩,rfl,rfl,rfl,rfl,rfl⟩
theorem PF{r}(h:r.bq){m}(hi:0<=m.index):(dQ r m).1.bq/\(dQ r m).1.id=r.id/\(dQ r m).1.term=r.term/\(dQ r m).1.ρ=r.ρ/\(dQ r m).1.log=r.log/\(dQ r m).2.src=0:=by
 by_cases hc:(decide (r.role≠2)||decide (m.term≠r.term)||m.yes&&decide ((r.log.length:Int)<m.index))=true
 .rw [EO hc];exact ⟨h,rfl,rfl,rfl,rfl,rfl⟩
 have hc:(decide (r.role≠2)||decide (m.term≠r.term)||m.yes&&decide ((r.log.length:Int)<m.index))=false:=by simpa using hc
 have cI:r.role=2:=by simp only [Bool.or_eq_false_iff,decide_eq_false_iff_not] at hc;exact Decidable.not_not.1 hc.1.1
 cases hy:m.yes with
 | false =>
  rw [EM hc hy];exact ⟨⟨a2l h.ok cI m,h.one⟩,rfl,rfl,rfl,rfl,rfl⟩
 | true =>
  rw [EN hc hy];have nD:m.index.toNat<=r.log.length:=by
   simp only [Bool.or_eq_false_iff,decide_eq_false_iff_not,hy,Bool.true_and] at hc;have:=hc.2;omega
  have ha:=a2O (a4Y h.ok cI m nD) cI;obtain ⟨e1,e2,bI,bL,bz,eX,iT⟩:=wY (cB r m);have hw:(cA (cB r m)).bq:=⟨ha,λ_=>by rw [eX];exact h.one (by rw [cI];decide)⟩;split
  .exact ⟨hw,bz,eX,iT,e2,rfl⟩
  .exact ⟨hw,bz,eX,iT,e2,rfl⟩
theorem a4Q{r}(h:r.bq):(l6 r).bq:=⟨⟨h.ok.id,h.ok.jn,h.ok.gf,h.ok.sJ,h.ok.sK,h.ok.log,h.ok.len,.inl rfl,h.ok.υ,λhr=>(by cases (show (0:Int)=2 from hr)),h.ok.bound⟩,λhr=>absurd rfl hr⟩
theorem aGd{r}(h:r.bq){m}(hm:m.eO r.id)(heq:m.term<=r.term):(cM r m).1.bq/\(cM r m).1.id=r.id/\(cM r m).1.term=r.term/\(cM r m).1.ρ=r.ρ /\
  (0<(cM r m).2.src->(cM r m).1.log=r.log.take (min ((cM r m).2.src - 1) (r.log.length:Int)).toNat++(cM r m).2.ζ)/\(¬ 0<(cM r m).2.src->(cM r m).1.log=r.log)/\(cM r m).2.save=false:=by
 by_cases h1:m.term<r.term
 .rw [EK h1];exact ⟨h,rfl,rfl,rfl,λh=>(by cases h),λ_=>rfl,rfl⟩
 by_cases h2:r.role=2
 .rw [EI h1 h2];exact ⟨h,rfl,rfl,rfl,λh=>(by cases h),λ_=>rfl,rfl⟩
 by_cases h3:(decide ((r.log.length:Int)<m.index)||decide (bB r.log m.index.toNat≠m.prev))=true
 .rw [EH h1 h2 h3];exact ⟨a4Q h,rfl,rfl,rfl,λh=>(by cases h),λ_=>rfl,rfl⟩
 have h3:(decide ((r.log.length:Int)<m.index)||decide (bB r.log m.index.toNat≠m.prev))=false:=by simpa using h3
 have a5W:=hm.index;have hm2:=hm.υ;obtain ⟨hle,hp⟩:m.index.toNat<=r.log.length/\bB r.log m.index.toNat=m.prev:=by
  simp only [Bool.or_eq_false_iff,decide_eq_false_iff_not] at h3;exact ⟨by omega,Decidable.not_not.1 h3.2⟩
 have hk:=KG (r.log.drop m.index.toNat) m.ζ;have hk2:=KF (r.log.drop m.index.toNat) m.ζ;rw [List.length_drop] at hk;by_cases h4:cS r m<m.ζ.length
 .by_cases h5:m.index.toNat+cS r m+1<=r.υ
  .rw [EG h1 h2 h3 h4 h5];exact ⟨a4Q h,rfl,rfl,rfl,λh=>(by cases h),λ_=>rfl,rfl⟩
  .rw [EJ h1 h2 h3 h4 h5];have hs:=aGU h.ok hm h1 hle hp;have hl:=KI (r:=r) (m:=m) hle;have hft:=hm.fits;refine ⟨⟨⟨h.ok.id,h.ok.jn,h.ok.gf,h.ok.sJ,h.ok.sK,Z5 hs heq,?_,.inl rfl,?_,λhr=>(by cases (show (0:Int)=2 from hr)),h.ok.bound⟩,λhr=>absurd rfl hr⟩,rfl,rfl,rfl,λ_=>?_,λhn=>?_,rfl⟩
   .show (r.log.take (m.index.toNat+cS r m)++m.ζ.drop (cS r m)).length<=4000;omega
   .show yN r m<=(r.log.take (m.index.toNat+cS r m)++m.ζ.drop (cS r m)).length;rw [hl];unfold yN;omega
   .show r.log.take (m.index.toNat+cS r m)++m.ζ.drop (cS r m)=r.log.take (min (((m.index.toNat+cS r m+1:Nat):Int) - 1) (r.log.length:Int)).toNat++m.ζ.drop (cS r m)
    congr 2
    unfold cS;omega
   .exfalso;apply hn;show (0:Int)<((m.index.toNat+cS r m+1:Nat):Int);omega
 .rw [EL h1 h2 h3 h4];have hcm:=h.ok.υ;refine ⟨⟨⟨h.ok.id,h.ok.jn,h.ok.gf,h.ok.sJ,h.ok.sK,h.ok.log,h.ok.len,.inl rfl,?_,λhr=>(by cases (show (0:Int)=2 from hr)),h.ok.bound⟩,λhr=>absurd rfl hr⟩,rfl,rfl,rfl,λh=>(by cases h),λ_=>rfl,rfl⟩;show yN r m<=r.log.length;unfold yN;unfold cS at h4;omega
theorem SD{r}(h:r.bq){m}(hm:m.eO r.id)(ht:r.term<m.term):(jr r m).bq:=⟨aBG h.ok m hm ht,λhr=>absurd rfl hr⟩
theorem Pw{r x}(h1:x.1.id=r.id)(h2:r.term<=x.1.term)(hs:x.2.save=false)(hl:0<x.2.src->x.1.log=r.log.take (min (x.2.src - 1) (r.log.length:Int)).toNat++x.2.ζ)(hn:¬ 0<x.2.src->x.1.log=r.log):Fits r (mD r x).1 (mD r x).2:=by
 unfold mD;split
 .rename_i he;simp only [Bool.and_eq_true,decide_eq_true_eq] at he;exact ⟨h1,λh=>(by rw [hs] at h;cases h),λ_=>he,hl,hn,h2⟩
 .exact ⟨h1,λ_=>⟨rfl,rfl⟩,λh=>(by cases h),hl,hn,h2⟩
theorem C3{r x}:(mD r x).1=x.1:=by unfold mD;split<;>rfl
theorem Un{r x}:(mD r x).2.send=x.2.send:=by unfold mD;split<;>rfl
theorem aRE(r m):(cV r m).2.save=false:=by unfold cV;split<;>rfl
theorem aRM(r m):(eC r m).2.save=false:=by
 unfold eC;split
 .rfl
 .simp only;split<;>rfl
theorem aGf(r m):(dQ r m).2.save=false:=by
 unfold dQ;split
 .rfl
 .simp only;split
  .rfl
  .split<;>rfl
theorem CF{r}(h:r.bq){m}:(aU r m).1.bq/\Fits r (aU r m).1 (aU r m).2:=by
 cases hy:kC r.id m with
 | false=>rw [uj hy];exact ⟨h,Fits.refl r⟩
 | true =>
  rw [xA hy];have hm:=sE.1 hy;obtain ⟨r1,gx,hw1,ht1,Hj,QW,aKi⟩:∃ r1,(if r.term<m.term then jr r m else r)=r1/\r1.bq/\r.term<=r1.term/\r1.id=r.id/\r1.log=r.log/\m.term<=r1.term:=by
   split
   .rename_i ht;exact ⟨_,rfl,SD h hm ht,by show r.term<=m.term;omega,rfl,rfl,Int.le_refl _⟩
   .rename_i ht;exact ⟨_,rfl,h,Int.le_refl _,rfl,rfl,by omega⟩
  rw [gx];have a5W:m.eO r1.id:=by rw [Hj];exact hm
  unfold cv;split
  .obtain ⟨a1,a2,a3,a4,a5⟩:=aRI hw1 (m:=m) hm.src.2;exact ⟨by rw [C3];exact a1,Pw (by rw [a2,Hj]) (by rw [a3];exact ht1) (aRE _ _) (λhh=>by rw [a5] at hh;cases hh) (λ_=>by rw [a4,QW])⟩
  .split
   .obtain ⟨a1,a2,a3,a4,a5,a6⟩:=aRP hw1 (m:=m);exact ⟨by rw [C3];exact a1,Pw (by rw [a2,Hj]) (by rw [a3];exact ht1) (aRM _ _) (λhh=>by rw [a6] at hh;cases hh) (λ_=>by rw [a5,QW])⟩
   .split
    .obtain ⟨a1,a2,a3,a4,a5,a6,a7⟩:=aGd hw1 a5W aKi;rw [QW] at a5 a6;exact ⟨by rw [C3];exact a1,Pw (by rw [a2,Hj]) (by rw [a3];exact ht1) a7 a5 a6⟩
    .obtain ⟨a1,a2,a3,a4,a5,a6⟩:=PF hw1 (m:=m) hm.index.1;exact ⟨by rw [C3];exact a1,Pw (by rw [a2,Hj]) (by rw [a3];exact ht1) (aGf _ _) (λhh=>by rw [a6] at hh;cases hh) (λ_=>by rw [a5,QW])⟩
theorem Nl{r}(h:r.bq):(cr r).1.bq/\Fits r (cr r).1 (cr r).2:=by
 by_cases h1:r.role=2
 .rw [DI h1];exact ⟨h,Fits.refl r |>.id,λh=>(by cases h),λ_=>⟨rfl,rfl⟩,λh=>(by cases h),λ_=>rfl,Int.le_refl _⟩
 by_cases h2:r.term=1099511627776
 .rw [JB h1 h2];exact ⟨h,Fits.refl r⟩
 rw [DH h1 h2];have:=h.ok.jn;exact ⟨⟨PI h.ok h1 h2,λ_=>by show 1<=r.term+1;omega⟩,rfl,λ_=>⟨rfl,rfl⟩,λh=>(by cases h),λh=>(by cases h),λ_=>rfl,by show r.term<=r.term+1;omega⟩
theorem Ig{r}(h:r.bq)(data):(aq r data).1.bq/\Fits r (aq r data).1 (aq r data).2.2.2:=by
 by_cases h1:r.role≠2
 .rw [yx h1];exact ⟨h,Fits.refl r⟩
 by_cases h2:2000<(data.size:Int)
 .rw [Ay h1 h2];exact ⟨h,Fits.refl r⟩
 by_cases h3:r.log.length=4000
 .rw [Az h1 h2 h3];exact ⟨h,Fits.refl r⟩
 rw [yy h1 h2 h3];have hr:r.role=2:=Decidable.not_not.1 h1;refine ⟨⟨a8u h.ok hr (h.one (by rw [hr];decide)) h2 h3,h.one⟩,rfl,λh=>(by cases h),λ_=>⟨rfl,rfl⟩,λ_=>?_,λhn=>?_,Int.le_refl _⟩
 .show r.log++[⟨r.term,data⟩]=r.log.take (min (((r.log.length+1:Nat):Int) - 1) (r.log.length:Int)).toNat++[⟨r.term,data⟩];rw [show (min (((r.log.length+1:Nat):Int) - 1) (r.log.length:Int)).toNat=r.log.length by omega,List.take_length]
 .exfalso;apply hn;show (0:Int)<((r.log.length+1:Nat):Int);omega
theorem XL{i t v l}(hi:i<=2)(h0:0<=t)(gu:t<=1099511627776)(hv0 : -1<=v)(aLS:v<=2)(hl:nc l t)(hlen:l.length<=4000):(fR i t v l).bq :=
 ⟨⟨hi,h0,gu,hv0,aLS,hl,hlen,.inl rfl,Nat.zero_le _,λhr=>(by cases (show (0:Int)=2 from hr)),λi=>⟨by show 0<=4001;omega,by show 0<=4000;omega⟩⟩,λhr=>absurd rfl hr⟩
theorem Z6:∀ (l:List aS) (least most:Int),(∀ x∈l,least<=x.term)->(∀ x∈l,x.term<=most)->(∀ x∈l,x.data.size<=2000)->(∀ i j,i<=j->(hj:j<l.length)->(hi:i<l.length)->l[i].term<=l[j].term)->r7 l least most=true
 | [],_,_,_,_,_,_=>rfl
 | x :: l,least,most,h1,h2,h3,h4=>by
  unfold r7;rw [if_neg]
  .refine Z6 l x.term most (λU hy=>?_) (λU hy=>h2 U (List.mem_cons_of_mem _ hy)) (λU hy=>h3 U (List.mem_cons_of_mem _ hy)) (λi j hij hj hi=>?_)
   .obtain ⟨j,hj,rfl⟩:=List.getElem_of_mem hy;exact h4 0 (j+1) (by omega) (by simp;omega) (by simp)
   .exact h4 (i+1) (j+1) (by omega) (by simp;omega) (by simp;omega)
  .have a:=h1 x (by simp);have b:=h2 x (by simp);have c:=h3 x (by simp);simp only [Bool.or_eq_true,decide_eq_true_eq,not_or];omega
theorem aNK{i:Nat}{r:aG}(hi:i<=2)(h:r.bA):s9 i r.term r.ρ r.log=true:=by
 have h1:=h.jn;have h2:=h.gf;have h3:=h.sJ;have h4:=h.sK;have h5:=h.len;unfold s9;rw [Z6 r.log 1 r.term h.log.lo h.log.hi h.log.data h.log.iq,Bool.and_true];simp only [Bool.and_eq_true,decide_eq_true_eq];omega
theorem Y1{α}(f:Nat->α)(i x U):put (put f i x) i U=put f i U:=by
 funext j;unfold put;split<;>rfl
structure Small(o:fN):Prop where
 ζ:o.ζ.length<=4000
 src:o.src<=4001
 send:o.send.length<=2
theorem DD:Small er:=⟨by simp,by simp,by simp⟩
theorem B9{l}(h:l.length<=2):Small (gL l):=⟨by simp,by simp,h⟩
theorem PC(r):(bT r).length<=2:=by unfold bT;rw [List.length_map,Fc];exact Nat.le_refl _
theorem ZO(r):Small (cr r).2:=by
 unfold cr;split
 .exact B9 (PC r)
 split
 .exact DD
 .exact ⟨by simp,by simp,by simp [Fc]⟩
theorem aRF(r m):Small (cV r m).2:=by
 unfold cV;split
 .exact B9 (by simp)
 .exact B9 (by simp)
theorem aRN(r m):Small (eC r m).2:=by
 unfold eC;split
 .exact DD
 .simp only;split
  .exact DD
  .exact B9 (PC _)
theorem aGc(r){m:aH}(h1:m.ζ.length<=8)(h2:m.index+m.ζ.length<=4000)(h3:0<=m.index):Small (cM r m).2:=by
 unfold cM;split
 .exact B9 (by simp)
 split
 .exact DD
 simp only;split
 .exact B9 (by simp)
 split
 .rename_i hk;split
  .exact DD
  .exact ⟨by simp;omega,by simp only;omega,by simp⟩
 .exact B9 (by simp)
theorem aGg(r m):Small (dQ r m).2:=by
 unfold dQ;split
 .exact DD
 simp only;split
 .exact B9 (by simp)
 split
 .exact B9 (by simp)
 .exact DD
theorem aJT{r x}(h:Small x.2):Small (mD r x).2:=by
 unfold mD;split
 .exact h
 .exact ⟨h.ζ,h.src,h.send⟩
theorem a5L(r m):Small (aU r m).2:=by
 cases hy:kC r.id m with
 | false=>rw [uj hy];exact DD
 | true =>
  have hm:=sE.1 hy;rw [xA hy];refine aJT ?_;unfold cv;split
  .exact aRF _ m
  split
  .exact aRN _ m
  split
  .exact aGc _ hm.len hm.fits hm.index.1
  .exact aGg _ m
structure cJ.bq(C:cJ):Prop where
 rep:∀ i,i<3->(C.nd i).rep.bq/\(C.nd i).rep.id=i
 rX:∀ i,i<3->(C.nd i).vK=(C.nd i).rep.term/\(C.nd i).BC=(C.nd i).rep.ρ/\(C.nd i).vJ=(C.nd i).rep.log
 stop:∀ i,i<3->(C.nd i).stop=0\/(C.nd i).stop=1\/(C.nd i).stop=2
 sent:0<=C.sent.length
def CA(n:Node)(r:aG):Node:=⟨r,r.term,r.ρ,r.log,n.stop⟩
def x6(C:cJ)(i:Nat)(r:aG):cJ:={ C with nd:=put C.nd i (CA (C.nd i) r) }
def zn(C:cJ)(i:Nat)(x:aG × fN):cJ:=a3x (Fl C i x.1) i x.2
theorem aMH{n r o}(h1:n.vK=n.rep.term)(h2:n.BC=n.rep.ρ)(h3:n.vJ=n.rep.log)(hf:Fits n.rep r o):k4 (NW { n with rep:=r } o) o=CA n r:=by
 have hs:NW { n with rep:=r } o=⟨r,r.term,r.ρ,n.vJ,n.stop⟩:=by
  unfold NW;cases F7:o.save with
  | true=>obtain ⟨a,b⟩:=hf.save F7;rw [if_pos rfl,a,b]
  | false=>obtain ⟨a,b⟩:=hf.keep F7;rw [if_neg (by simp),h1,h2,<-a,<-b]
 rw [hs];unfold k4 CA;by_cases hp:0<o.src
 .rw [if_pos hp,hf.log hp,<-h3]
 .rw [if_neg hp,hf.same hp,<-h3]
theorem aQG(C i r):th (Fl C i r) i=th C i:=by
 unfold th Fl;simp only [Y1,cF];rfl
theorem Tk{C}(h:C.bq){i}(hi:i<3){x}(hf:Fits (C.nd i).rep x.1 x.2):
  zn C i x=if (C.nd i).stop=1 then th C i else if (C.nd i).stop=2 then th (x6 C i x.1) i else { x6 C i x.1 with sent:=C.sent++x.2.send.take (300 - C.sent.length) }:=by
 obtain ⟨h1,h2,h3⟩:=h.rX i hi;have hn:(Fl C i x.1).nd i={ C.nd i with rep:=x.1 }:=cF _ _ _;have hk:put (Fl C i x.1).nd i (k4 (NW ((Fl C i x.1).nd i) x.2) x.2)=(x6 C i x.1).nd:=by
  rw [hn,aMH h1 h2 h3 hf];unfold Fl x6;simp only [Y1]
 unfold zn a3x;simp only [hk];rw [aQG,hn];rfl
theorem Z8{C}(h:C.bq){i}(hi:i<3):(th C i).bq:=by
 obtain ⟨h1,h2,h3⟩:=h.rX i hi;obtain ⟨hw,hid⟩:=h.rep i hi;have M1:(th C i).nd i=Z7 i (C.nd i):=cF _ _ _;have hne:∀ j,j≠i->(th C i).nd j=C.nd j:=λj hj=>dD _ _ hj;refine ⟨λj hj=>?_,λj hj=>?_,λj hj=>?_,h.sent⟩;all_goals
  by_cases hji:j=i
  .subst hji;rw [M1];unfold Z7;first
    | exact ⟨XL (by omega) (by rw [h1];exact hw.ok.jn) (by rw [h1];exact hw.ok.gf) (by rw [h2];exact hw.ok.sJ) (by rw [h2];exact hw.ok.sK) (by rw [h1,h3];exact hw.ok.log) (by rw [h3];exact hw.ok.len),rfl⟩
    | exact ⟨rfl,rfl,rfl⟩
    | exact .inl rfl
  .rw [hne j hji];first
    | exact h.rep j hj
    | exact h.rX j hj
    | exact h.stop j hj
theorem VJ{C}(h:C.bq){i}(hi:i<3){r}(hr:r.bq)(hid:r.id=i):(x6 C i r).bq:=by
 have M1:(x6 C i r).nd i=CA (C.nd i) r:=cF _ _ _;have hne:∀ j,j≠i->(x6 C i r).nd j=C.nd j:=λj hj=>dD _ _ hj;refine ⟨λj hj=>?_,λj hj=>?_,λj hj=>?_,h.sent⟩;all_goals
  by_cases hji:j=i
  .subst hji;rw [M1];unfold CA;first
    | exact ⟨hr,hid⟩
    | exact ⟨rfl,rfl,rfl⟩
    | exact h.stop j hj
  .rw [hne j hji];first
    | exact h.rep j hj
    | exact h.rX j hj
    | exact h.stop j hj
theorem aH9{C}(h:C.bq){i}(hi:i<3){x}(hx:x.1.bq)(hf:Fits (C.nd i).rep x.1 x.2):(zn C i x).bq:=by
 rw [Tk h hi hf];have hh:(x6 C i x.1).bq:=VJ h hi hx (by rw [hf.id];exact (h.rep i hi).2);split
 .exact Z8 h hi
 split
 .exact Z8 hh hi
 .refine ⟨hh.rep,hh.rX,hh.stop,?_⟩;have:=h.sent;simp only [List.length_append,List.length_take];omega
def a9Q{α:Type}(l:List α)(n:Nat):List α:=l.take n++l.drop (n+1)
def yU(C:cJ)(n:Nat):cJ:={ C with sent:=a9Q C.sent n }
def rP(C:cJ)(m:aH):cJ:=zn C (iA m.to 3).toNat (aU (C.nd (iA m.to 3).toNat).rep m)
def Gw(C:cJ)(n:Int)(keep:Bool):cJ :=
 match C.sent[(iA n C.sent.length).toNat]? with
 | none=>C
 | some m=>rP (if keep then C else yU C (iA n C.sent.length).toNat) m
theorem a44{C}(h:C.bq){n}(hn:n<C.sent.length):(yU C n).bq :=
 ⟨h.rep,h.rX,h.stop,Nat.zero_le _⟩
theorem aGj{C n keep}{j:Nat}{m}(hj:iA n C.sent.length=j)(hm:C.sent[j]? = some m):Gw C n keep=rP (if keep then C else yU C j) m:=by
 unfold Gw;rw [hj,Int.toNat_natCast,hm]
def aQh(C:cJ)(i:Nat):cJ:=zn C i (cr (C.nd i).rep)
theorem aC5(n):(iA n 3).toNat<3:=by
 have hp:=a8l (n:=n) (show (0:Int)<3 by decide);omega
theorem aOO{r}(h:r.bq)(data):Fits r (aq r data).1 (aq r data).2.2.2:=(Ig h data).2
def nd0(i:Nat):Node:=⟨fR i 0 (-1) [],0,-1,[],0⟩
def EW:cJ:=⟨nd0,[]⟩
theorem aHH:EW.bq :=
 ⟨λi hi=>⟨XL (by omega) (by decide) (by decide) (by decide) (by decide) ⟨by simp,by simp,by simp,by simp⟩ (by simp),rfl⟩,λi hi=>⟨rfl,rfl,rfl⟩,λi hi=>.inl rfl,Nat.zero_le _⟩
end Go.Proofs.YtcmgeboolmmdkaaGreatDoor
end

section
namespace Go.Proofs.YtcmgeboolmmdkaaGreatDoor
open Go.Vc
theorem Fk{x}(h:κ x.term)(h2:x.data.size<=1000000):gV (dU x)=x:=by
 unfold gV dU;rw [vh,aP9 h h2];rfl
structure pV(l:List aS):Prop where
 Eh:∀ x∈l,κ x.term/\x.data.size<=1000000
 size:(aK (l.map dU)).length<=1048576
theorem pV.read{l}(h:pV l):(l.map dU).map gV=l:=by
 rw [List.map_map]
 conv=>rhs;rw [<-List.map_id l]
 exact List.map_congr_left λx hx=>Fk (h.Eh x hx).1 (h.Eh x hx).2
theorem a4X(l n):(aK (l.take n)).length<=(aK l).length:=by
 conv=>rhs;rw [<-List.take_append_drop n l,yY,List.length_append]
 omega
theorem pV.take{l}(h:pV l)(n):pV (l.take n) :=
 ⟨λx hx=>h.Eh x (List.mem_of_mem_take hx),Nat.le_trans (by rw [List.map_take];exact a4X _ n) h.size⟩
theorem pV.nil:pV []:=⟨by simp,by simp [aK]⟩
def Oa(s:Nat)(v:cz)(t gh:Int):Prop:=(s=0/\t=0/\gh = -1)\/(s≠0/\v=ug t gh)
theorem aK1{s v t gh f b}(h:Oa s v t gh)(ht:κ t)(hv:κ gh):jy ⟨f,s,v,b⟩=(t,gh):=by
 unfold jy;rcases h with ⟨rfl,rfl,rfl⟩|⟨hs,rfl⟩
 .rfl
 .have e1:eA (ug t gh,false)=(t,((iJ gh).data.toList,false)):=Qm ht;have e2:eA ((iJ gh).data.toList,false)=(gh,([],false)):=by
   have:=Qm (n:=gh) (r:=[]) (bad:=false) hv
   rwa [List.append_nil] at this
  show (if s=0 then _ else _)=_;rw [if_neg hs];show ((eA (ug t gh,false)).1,(eA (eA (ug t gh,false)).2).1)=_;rw [e1];simp only;rw [e2]
theorem aK0{t v}(ht:κ t)(hv:κ v):(ug t v).length<=42:=by
 unfold ug;rw [List.length_append,qq,qq];have:=(qj ht).2;have:=(qj hv).2;omega
structure iR(d:b7)(u:kz):Prop where
 w:fo d
 live:Live d u.j
 base:u.j.base=0
 ok:u.j.broken=false
 file:u.c.file=2
 now:ez (d.files 2).now u.c.slot u.c.value
 last:ez (d.files 2).last u.c.slot u.c.value
 enc:Oa u.c.slot u.c.value u.r.term u.r.ρ
 log:u.j.list=u.r.log.map dU
 rX:κ u.r.term/\κ u.r.ρ
 lw:pV u.r.log
def GR(d:b7)(H:Int->Int->Prop):Prop:=oh (d.files 2) λs v=>∃ t gh,Oa s v t gh/\(κ t/\κ gh)/\H t gh
def Bc(d:b7)(P:List aS->Prop):Prop:=pU d 0 λl=>∃ lg,l=lg.map dU/\pV lg/\P lg
def kj(d:b7)(Q:Int->Int->List aS->Prop):Prop:=fo d/\∃ (H:Int->Int->Prop) (P:List aS->Prop),(∀ t v l,H t v->P l->Q t v l)/\GR d H/\Bc d P
theorem kj.mono{d Q Q'}(h:kj d Q)(hq:∀ t v l,Q t v l->Q' t v l):kj d Q':=by
 obtain ⟨hw,H,P,h1,h2,h3⟩:=h;exact ⟨hw,H,P,λt v l a b=>hq t v l (h1 t v l a b),h2,h3⟩
theorem kj.ev{d d' Q}(h:kj d Q)(hw:fo d')(he:∀ G,ec (d.files G) (d'.files G)):kj d' Q:=by
 obtain ⟨_,H,P,h1,h2,h3⟩:=h;exact ⟨hw,H,P,h1,(he 2).rU h2,h3.ev (he _) (he _)⟩
theorem kj.frame{d d' Q}(h:kj d Q)(hq:d'.queue=d.queue)(hf:d'.files=d.files):kj d' Q :=
 h.ev (λp hp=>h.1 p (by rw [<-hq];exact hp)) λG=>by rw [hf];exact .refl _
theorem iR.a6l{d u}(h:iR d u){P}(hP:P u.r.log):Bc d P:=by
 have:=h.live.rU (P:=λl=>∃ lg,l=lg.map dU/\pV lg/\P lg) ⟨u.r.log,h.log,h.lw,hP⟩;rw [h.base] at this;exact this
theorem iR.a3X{d u}(h:iR d u){H}(hH:H u.r.term u.r.ρ):GR d H:=vl h.now h.last ⟨_,_,h.enc,h.rX,hH⟩
theorem iR.qY{d u}(h:iR d u){Q}(hQ:Q u.r.term u.r.ρ u.r.log):kj d Q :=
 ⟨h.w,λt v=>t=u.r.term/\v=u.r.ρ,λl=>l=u.r.log,λt v l a b=>by rw [a.1,a.2,b];exact hQ,h.a3X ⟨rfl,rfl⟩,h.a6l rfl⟩
theorem iR.frame{d d' u}(h:iR d u)(hq:d'.queue=d.queue)(hf:d'.files=d.files):iR d' u :=
 ⟨λp hp=>h.w p (by rw [<-hq];exact hp),h.live.frame hf,h.base,h.ok,h.file,by rw [hf];exact h.now,by rw [hf];exact h.last,h.enc,h.log,h.rX,h.lw⟩
theorem a7e{d f c e}(h:qD d f=(some c,e)):d.down=false:=by
 cases hd:d.down with
 | false=>rfl
 | true =>
  unfold qD at h;have hr:(cj d f 0 5).2≠0:=by
   unfold cj j4;rw [if_pos hd,if_pos (by decide:(9:Int)≠0)];show (9:Int)≠0;decide
  rw [if_pos hr] at h;injection h with h1;cases h1
theorem aNk{d d1 b e j}(h:ny d b=(d1,some j,e)):d1.down=false:=by
 unfold ny at h;split at h
 .injection h with _ h;injection h with h;cases h
 split at h
 .injection h with _ h;injection h with h;cases h
 split at h
 .injection h with _ h;injection h with h;cases h
 injection h with h1 h2;rw [<-h1];unfold Co at h2;split at h2
 .cases h2
 .rename_i c e' ho;exact a7e ho
structure aFT(id:Nat)(d:b7)(Q:Int->Int->List aS->Prop)(r:b7 × Option kz × Int):Prop where
 w:fo r.1
 iu:gl d->gl r.1/\r.2.2=0
 or:(∃ u,r.2.1=some u/\r.2.2=0/\iR r.1 u/\u.r=fR id u.r.term u.r.ρ u.r.log/\Q u.r.term u.r.ρ u.r.log)\/(r.2.1=none/\(r.2.2=9\/r.2.2=10)/\kj r.1 Q)
theorem RG{id d Q}(h:kj d Q):aFT id d Q (bM id d):=by
 obtain ⟨hw,H,P,hQ,hC,hL⟩:=h;unfold bM;obtain ⟨a1,a2,a3,a4⟩:=Fv (d:=d) (F:=2) (by decide) hw;obtain ⟨⟨d1,e1⟩,h1⟩:∃ x,bN d 2=x:=⟨_,rfl⟩;rw [h1] at a1 a2 a3 a4 ⊢;simp only at a1 a2 a3 a4 ⊢;have iI:Bc d1 P:=hL.ev (a2 _ (by decide)) (a2 _ (by decide));by_cases fP:e1≠0
 .rw [if_pos fP];rcases a4 with ⟨h',_⟩|⟨h',h2⟩
  .exact absurd h' fP
  .exact ⟨a1,λh=>absurd (a3 h).2 fP,.inr ⟨rfl,h',a1,H,P,hQ,h2.rU hC,iI⟩⟩
 rw [if_neg fP];have fP:e1=0:=Decidable.not_not.1 fP;obtain ⟨hdn,f1⟩:d1.down=false/\d1.files 2=⟨(d.files 2).now,(d.files 2).now⟩:=by
  rcases a4 with ⟨_,h1,h2⟩|⟨h,_⟩
  .exact ⟨h1,h2⟩
  .rw [fP] at h;omega
 obtain ⟨⟨s,v,k1,t,gh,k2,b8,cQ⟩,_⟩:=hC;have gB:ez (d1.files 2).now s v:=by rw [f1];exact k1
 have jH:ez (d1.files 2).last s v:=by rw [f1];exact k1
 have qd:=XX (d:=d1) (b:=0) (by decide) a1 iI;unfold FZ;obtain ⟨⟨d2,a5v,e2⟩,h2⟩:∃ x,ny d1 0=x:=⟨_,rfl⟩;rw [h2] at qd ⊢;have pN:ec (d1.files 2) (d2.files 2):=by
  rcases qd.other 2 with h|h
  .exact h
  .omega
 obtain ⟨jI,pH⟩:=Tm pN gB jH;rcases qd.or with ⟨j,g1,g2,g3,⟨lg,g4,g5,g6⟩,g7,g8⟩|⟨g1,g2,g3⟩
 .have g1:a5v=some j:=g1;have g2:e2=0:=g2;subst g1;have Ex:=aNk h2;have vt:=a7d (d:=d2) (F:=2) Ex (by decide) jI;simp only;unfold Fa;rw [vt];simp only;have hh:=aK1 (f:=2) (b:=false) k2 b8.1 b8.2;rw [hh,g4,g5.read];refine ⟨qd.w,λh=>⟨(qd.iu (a3 h).1).1,rfl⟩,.inl ⟨_,rfl,rfl,⟨qd.w,g3,g7,g8,rfl,jI,pH,k2,g4,b8,g5⟩,rfl,hQ _ _ _ cQ g6⟩⟩
 .have g1:a5v=none:=g1;subst g1;simp only;refine ⟨qd.w,λh=>⟨(qd.iu (a3 h).1).1,(qd.iu (a3 h).1).2⟩,.inr ⟨rfl,g2,qd.w,λa b=>a=t/\b=gh,P,λa b l x U=>by rw [x.1,x.2];exact hQ _ _ _ cQ U,vl jI pH ⟨t,gh,k2,b8,rfl,rfl⟩,g3⟩⟩
def a1P(r r':aG)(o:fN)(t v:Int)(l:List aS):Prop :=
 ((t=r.term/\v=r.ρ)/\l=r.log)\/((t=r'.term/\v=r'.ρ)/\(l=r.log\/(0<o.src/\l=r.log.take (min (o.src - 1) (r.log.length:Int)).toNat)\/l=r'.log))
structure aGG(d:b7)(r r':aG)(o:fN)(x:b7 × kz × Int):Prop where
 w:fo x.1
 iu:gl d->gl x.1/\x.2.2=0
 or:(x.2.2=0/\iR x.1 x.2.1/\x.2.1.r=r')\/((x.2.2=9\/x.2.2=10)/\kj x.1 (a1P r r' o))
theorem aPd{d u r r' o}(h:iR d { u with r:=r })(hf:Fits r r' o)(hh:κ r'.term/\κ r'.ρ):
  fo (lW d u o).1/\(gl d->gl (lW d u o).1/\(lW d u o).2.2=0)/\(∀ G,G≠2->ec (d.files G) ((lW d u o).1.files G)) /\
   (((lW d u o).2.2=0/\iR (lW d u o).1 { u with r:={ r' with log:=r.log },c:=(lW d u o).2.1 })\/(((lW d u o).2.2=9\/(lW d u o).2.2=10)/\GR (lW d u o).1 λt v=>(t=r.term/\v=r.ρ)\/(t=r'.term/\v=r'.ρ))):=by
 unfold lW;cases hs:o.save with
 | false =>
  obtain ⟨e1,e2⟩:=hf.keep hs;rw [if_neg (by simp)];refine ⟨h.w,λh=>⟨h,rfl⟩,λG _=>.refl _,.inl ⟨rfl,h.w,h.live,h.base,h.ok,h.file,h.now,h.last,?_,h.log,hh,h.lw⟩⟩;show Oa u.c.slot u.c.value r'.term r'.ρ;rw [e1,e2];exact h.enc
 | true =>
  obtain ⟨e1,e2⟩:=hf.save hs;rw [if_pos rfl,e1,e2];have xB:u.c.file=2:=h.file;have hS:=aAB (d:=d) (c:=u.c) (s:=ug r'.term r'.ρ) (by rw [xB];decide) h.w (by have:=aK0 hh.1 hh.2;omega) (by rw [xB];exact h.now) (by rw [xB];exact h.last);obtain ⟨⟨d1,c1,x1⟩,hx⟩:∃ x,kE d u.c (ug r'.term r'.ρ)=x:=⟨_,rfl⟩;rw [hx] at hS ⊢;have pN:∀ G,G≠2->ec (d.files G) (d1.files G):=λG hG=>hS.other G (by rw [xB];exact hG)
  have AP:((if u.c.slot=1 then 2 else 1):Nat)≠0:=by split<;>decide
  refine ⟨hS.w,hS.iu,pN,?_⟩;by_cases he:x1=0
  .left
   obtain ⟨h1,h2,X,h3,h4⟩:=hS.ok he;have h1:c1.slot=if u.c.slot=1 then 2 else 1:=h1
   have h2:c1.value=ug r'.term r'.ρ:=h2;have h3:d1.files u.c.file=⟨X,X⟩:=h3;rw [xB] at h3;rw [<-h1,<-h2] at h4;have Lq:c1.file=2:=by have:=hS.file;rw [xB] at this;exact this
   have hbase:u.j.base=0:=h.base;refine ⟨he,hS.w,aMp h.live ?_ ?_,h.base,h.ok,Lq,?_,?_,.inr ⟨by show c1.slot≠0;rw [h1];exact AP,h2⟩,h.log,hh,h.lw⟩
   .exact pN _ (by show u.j.base≠2;rw [hbase];decide)
   .exact pN _ (by show u.j.base+1≠2;rw [hbase];decide)
   .show ez (d1.files 2).now c1.slot c1.value;rw [h3];exact h4
   .show ez (d1.files 2).last c1.slot c1.value;rw [h3];exact h4
  .right
   obtain ⟨h1,h2⟩:=hS.bad he;refine ⟨h1,?_⟩;have h2:oh (d1.files u.c.file) _:=h2;rw [xB] at h2;refine oh.mono h2 λs v hv=>?_;rcases hv with ⟨rfl,rfl⟩|⟨rfl,rfl⟩
   .exact ⟨_,_,h.enc,h.rX,.inl ⟨rfl,rfl⟩⟩
   .exact ⟨_,_,.inr ⟨AP,rfl⟩,hh,.inr ⟨rfl,rfl⟩⟩
theorem iR.a5w{d d1 u j1 lg}(h:iR d u)(hw:fo d1)(pN:∀ G,ec (d.files G) (d1.files G)\/(G=u.j.base\/G=u.j.base+1))(hl:Live d1 j1)(hb:j1.base=u.j.base)(hk:j1.broken=false)(hg:j1.list=lg.map dU)(yd:pV lg):
  iR d1 { u with j:=j1,r:={ u.r with log:=lg } }:=by
 have hbase:=h.base;have h2:ec (d.files 2) (d1.files 2):=by
  rcases pN 2 with e|e
  .exact e
  .rw [hbase] at e;omega
 obtain ⟨c1,c2⟩:=Tm h2 h.now h.last;exact ⟨hw,hl,by show j1.base=0;rw [hb,hbase],hk,h.file,c1,c2,h.enc,hg,h.rX,yd⟩
theorem iR.a3Y{d d1 u}(h:iR d u)(pN:∀ G,ec (d.files G) (d1.files G)\/(G=u.j.base\/G=u.j.base+1)){H}(hH:H u.r.term u.r.ρ):GR d1 H:=by
 have hbase:=h.base;have h2:ec (d.files 2) (d1.files 2):=by
  rcases pN 2 with e|e
  .exact e
  .rw [hbase] at e;omega
 exact h2.rU (h.a3X hH)
theorem aMF{d u r r' o}(h:iR d { u with r:={ r' with log:=r.log } })(hf:Fits r r' o)(yd:pV r'.log):
  fo (nK d u o).1/\(gl d->gl (nK d u o).1/\(nK d u o).2.2=0) /\
   (((nK d u o).2.2=0/\iR (nK d u o).1 { u with r:=r',j:=(nK d u o).2.1 })\/(((nK d u o).2.2=9\/(nK d u o).2.2=10)/\GR (nK d u o).1 (λt v=>t=r'.term/\v=r'.ρ) /\
    Bc (nK d u o).1 λl=>l=r.log\/(0<o.src/\l=r.log.take (min (o.src - 1) (r.log.length:Int)).toNat)\/l=r'.log)):=by
 have hbase:u.j.base=0:=h.base;have QV:u.j.list=r.log.map dU:=h.log;have hlen:u.j.list.length=r.log.length:=by rw [QV,List.length_map]
 have hlr:pV r.log:=h.lw;unfold nK;by_cases hp:0<o.src
 rotate_left 1
 .rw [if_neg hp];refine ⟨h.w,λh=>⟨h,rfl⟩,.inl ⟨rfl,?_⟩⟩;have:=hf.same hp;have e:({ r' with log:=r.log }:aG)=r':=by rw [<-this]
  rw [e] at h;exact h
 rw [if_pos hp];have gw:=hf.log hp;simp only;obtain ⟨n,hn,pF⟩:∃ n:Nat,min (o.src - 1) (u.j.list.length:Int)=(n:Int)/\n<=u.j.list.length:=⟨(min (o.src - 1) (u.j.list.length:Int)).toNat,by omega,by omega⟩;have hn2:(min (o.src - 1) (r.log.length:Int)).toNat=n:=by rw [<-hlen,hn];exact Int.toNat_natCast n
 rw [hn2] at gw;rw [hn2,hn];have hcut:fo (dm d u.j n).1/\(gl d->gl (dm d u.j n).1/\(dm d u.j n).2.2=0)/\(((dm d u.j n).2.2=0/\iR (dm d u.j n).1 { u with r:={ r' with log:=r.log.take n },j:=(dm d u.j n).2.1 }) \/
   (((dm d u.j n).2.2=9\/(dm d u.j n).2.2=10)/\GR (dm d u.j n).1 (λt v=>t=r'.term/\v=r'.ρ)/\Bc (dm d u.j n).1 λl=>l=r.log\/l=r.log.take n)):=by
  by_cases he:n=u.j.list.length
  .have e:dm d u.j n=(d,u.j,0):=by
    unfold dm;rw [if_neg (by rw [h.ok];simp),if_neg (by omega),if_pos (by rw [he])]
   rw [e];refine ⟨h.w,λh=>⟨h,rfl⟩,.inl ⟨rfl,?_⟩⟩;have e2:r.log.take n=r.log:=List.take_of_length_le (by omega);rw [e2];exact h
  .have ho:=aHa h.live h.ok h.w (n:=n) (by show n<u.j.list.length;omega);refine ⟨ho.w,ho.iu,?_⟩;rcases ho.or with ⟨e,g1,g2,g3⟩|⟨e,g1,g2,g3⟩
   .refine .inl ⟨e,?_⟩;have:=h.a5w ho.w ho.other g3 ho.base g1 (lg:=r.log.take n) (by rw [g2];show u.j.list.take n=_;rw [QV,List.map_take]) (hlr.take n);exact this
   .refine .inr ⟨e,h.a3Y ho.other ⟨rfl,rfl⟩,?_⟩;have g3:pU _ u.j.base _:=g3;rw [hbase] at g3;refine pU.mono g3 λl hl=>?_;rcases hl with rfl|rfl
    .exact ⟨r.log,QV,hlr,.inl rfl⟩
    .exact ⟨r.log.take n,by show u.j.list.take n=_;rw [QV,List.map_take],hlr.take n,.inr rfl⟩
 obtain ⟨⟨d1,j1,e1⟩,hc⟩:∃ x,dm d u.j n=x:=⟨_,rfl⟩;rw [hc] at hcut ⊢;simp only at hcut ⊢;obtain ⟨c1,c2,c3⟩:=hcut;by_cases fP:e1≠0
 .rw [if_pos fP];refine ⟨c1,λh=>absurd (c2 h).2 fP,.inr ?_⟩;rcases c3 with ⟨e,_⟩|⟨e,g1,g2⟩
  .exact absurd e fP
  .exact ⟨e,g1,g2.mono λl ⟨lg,a,b,c⟩=>⟨lg,a,b,c.elim .inl λc=>.inr (.inl ⟨hp,c⟩)⟩⟩
 rw [if_neg fP];have fP:e1=0:=Decidable.not_not.1 fP;have cn:iR d1 { u with r:={ r' with log:=r.log.take n },j:=j1 }:=by
  rcases c3 with ⟨_,g⟩|⟨e,_⟩
  .exact g
  .omega
 have hmap:(r.log.take n).map dU++o.ζ.map dU=r'.log.map dU:=by rw [gw,List.map_append]
 by_cases Vu:o.ζ=[]
 .have e:iG d1 j1 (o.ζ.map dU)=(d1,j1,0):=by
   unfold iG;rw [if_neg (by rw [cn.ok];simp),if_pos (by rw [Vu];rfl)]
  rw [e];refine ⟨c1,λh=>⟨(c2 h).1,rfl⟩,.inl ⟨rfl,?_⟩⟩;have e2:({ r' with log:=r.log.take n }:aG)=r':=by
   rw [Vu,List.append_nil] at gw;rw [<-gw]
  rw [e2] at cn;exact cn
 have Ho:j1.list=(r.log.take n).map dU:=cn.log;have oN:j1.bytes=(aK j1.list).length:=cn.live.bytes;have aK6:j1.base=0:=cn.base;have ho:=aGa (l:=o.ζ.map dU) cn.live cn.ok cn.w (by simpa using Vu) (by
  show j1.bytes+_<=_;rw [oN,Ho,<-List.length_append,<-yY,hmap];exact yd.size)
 have ho:Dm d1 j1 (j1.list++o.ζ.map dU) (iG d1 j1 (o.ζ.map dU)):=ho;refine ⟨ho.w,λh=>ho.iu (c2 h).1,?_⟩;rcases ho.or with ⟨e,g1,g2,g3⟩|⟨e,g1,g2,g3⟩
 .refine .inl ⟨e,?_⟩;have:=cn.a5w ho.w ho.other g3 ho.base g1 (lg:=r'.log) (by rw [g2,Ho,hmap]) yd;exact this
 .refine .inr ⟨e,cn.a3Y ho.other ⟨rfl,rfl⟩,?_⟩;rw [aK6] at g3;refine pU.mono g3 λl hl=>?_;rcases hl with rfl|rfl
  .exact ⟨r.log.take n,Ho,hlr.take n,.inr (.inl ⟨hp,rfl⟩)⟩
  .exact ⟨r'.log,by rw [Ho,hmap],yd,.inr (.inr rfl)⟩
theorem aAY{d}{u:kz}{r r' o}(h:iR d { u with r:=r })(hf:Fits r r' o)(hh:κ r'.term/\κ r'.ρ)(yd:pV r'.log):aGG d r r' o (ck d { u with r:=r' } o):=by
 have hs:=aPd h hf hh;have hlr:pV r.log:=h.lw;unfold ck;simp only;have e0:lW d { u with r:=r' } o=lW d u o:=rfl;rw [e0];obtain ⟨⟨d1,c1,e1⟩,hx⟩:∃ x,lW d u o=x:=⟨_,rfl⟩;rw [hx] at hs ⊢;simp only at hs ⊢;obtain ⟨a1,a2,a3,a4⟩:=hs;by_cases he:e1≠0
 .rw [if_pos he];refine ⟨a1,λh=>absurd (a2 h).2 he,.inr ?_⟩;rcases a4 with ⟨e,_⟩|⟨e,g⟩
  .exact absurd e he
  .refine ⟨e,a1,_,λl=>l=r.log,λt v l x U=>?_,g,?_⟩
   .rcases x with x|x
    .exact .inl ⟨x,U⟩
    .exact .inr ⟨x,.inl U⟩
   .have hl:Bc d λl=>l=r.log:=h.a6l (P:=λl=>l=r.log) rfl;exact hl.ev (a3 _ (by decide)) (a3 _ (by decide))
 rw [if_neg he];have he:e1=0:=Decidable.not_not.1 he;have cn:iR d1 { u with r:={ r' with log:=r.log },c:=c1 }:=by
  rcases a4 with ⟨_,g⟩|⟨e,_⟩
  .exact g
  .omega
 have hk:=aMF (u:={ u with c:=c1 }) (r:=r) (r':=r') (o:=o) cn hf yd;have e1:nK d1 { u with r:=r' } o=nK d1 { u with c:=c1 } o:=rfl;rw [e1];obtain ⟨⟨d2,j2,e2⟩,hy⟩:∃ x,nK d1 { u with c:=c1 } o=x:=⟨_,rfl⟩;rw [hy] at hk ⊢;simp only at hk ⊢;obtain ⟨b1,b2,b3⟩:=hk;refine ⟨b1,λh=>b2 (a2 h).1,?_⟩;rcases b3 with ⟨e,g⟩|⟨e,g1,g2⟩
 .exact .inl ⟨e,g,rfl⟩
 .exact .inr ⟨e,b1,_,_,λt v l x U=>.inr ⟨x,U⟩,g1,g2⟩
theorem a3f{d}(hw:fo d):fo (yR d)/\(∀ G,ec (d.files G) ((yR d).files G))/\gl (yR d):=by
 have hw':fo (jR (k5 d 0) 0 []):=hw;refine ⟨Pb hw' [],λG=>Kb hw' [] G,rfl,?_,?_⟩
 .show (dj (jR (k5 d 0) 0 []) []).eP=0;unfold dj;split
  .rfl
  .rfl
 .show (dj (jR (k5 d 0) 0 []) []).lost=0;unfold dj;split
  .rfl
  .rfl
theorem ZC{d Q}(h:kj d Q):∃ t v,Q t v (tq d):=by
 obtain ⟨hw,H,P,hQ,hC,hL⟩:=h;obtain ⟨c1,c2,c3⟩:=a3f hw;obtain ⟨⟨s,v,k1,t,gh,k2,b8,cQ⟩,_⟩:=hC;have iI:Bc (yR d) P:=hL.ev (c2 _) (c2 _);have qd:=XX (d:=yR d) (b:=0) (by decide) c1 iI;refine ⟨t,gh,?_⟩;unfold tq;rcases qd.or with ⟨j,g1,g2,g3,⟨lg,g4,g5,g6⟩,g7,g8⟩|⟨g1,g2,g3⟩
 .rw [g1];show Q t gh (j.list.map gV);rw [g4,g5.read];exact hQ _ _ _ cQ g6
 .have:=(qd.iu c3).2;omega
theorem aAZ{d u}(h:iR d u):tq d=u.r.log:=by
 obtain ⟨t,v,hq⟩:=ZC (h.qY (Q:=λt v l=>l=u.r.log) rfl);exact hq
theorem a3t:kj mB λt v l=>t=0/\v = -1/\l=[] :=
 ⟨aHt,λt v=>t=0/\v = -1,λl=>l=[],λt v l a b=>⟨a.1,a.2,b⟩,
  vl (s:=0) (v:=[]) (.inl ⟨rfl,rfl,rfl⟩) (.inl ⟨rfl,rfl,rfl⟩) ⟨0,-1,.inl ⟨rfl,rfl,rfl⟩,⟨by unfold κ;decide,by unfold κ;decide⟩,rfl,rfl⟩,
  (aNJ 0).mono λl hl=>⟨[],by rw [hl];rfl,.nil,rfl⟩⟩
end Go.Proofs.YtcmgeboolmmdkaaGreatDoor
end

