/-
 A journal in memory: note,Append: walked.
-/
import Derived.Test.YtnlkemjhgdbfkaaGreatDoorCs9
import Derived.Test.YtnlkemjhgdbfkaaGreatDoorCs6
import Derived.Test.YtnlkemjhgdbfkaaGreatDoorCs8
import Derived.ArgAppend
import Derived.Laws.Entries
import Derived.Test.YtnlkemjhgdbfkaaGreatDoorCs7
open Go.Proofs.Tryz
set_option linter.unusedVariables false
set_option linter.unusedSimpArgs false
section
namespace Go.Proofs.YtnlkemjhgdbfkaaGreatDoor
open Go.Vc
structure JoP where
 jb:Nat
 cb:Nat
 p:Option Addr
 cap:Nat
 o:Own
abbrev joB(x:JoP)(q:DkP)(j:tG):List Value:=[.pointer (some ⟨q.db,0,none⟩),.int .i64 j.base,.pointer (some ⟨x.cb,0,none⟩),.slice x.p j.list.length x.cap,.int .i64 (j.bytes:Int),.bool j.broken]
abbrev eJ(x:JoP)(q:DkP)(j:tG):List Own:=[x.o,.blk x.jb (joB x q j) 335,eX x.cb q j.cell]
def JoP.mv(x:JoP)(p:Option Addr)(cap:Nat)(o:Own):JoP:=⟨x.jb,x.cb,p,cap,o⟩
section
variable {W w:World}{S G:List Own}{Φ:PW}
theorem JS[aB Φ]{A X S G}(cx:Ctx W w ((A++(X++S))++G) Φ):Ctx W w (X++(A++(S++G))) Φ:=by
 rw [aX,aX] at cx;exact cx.perm (a3I _ _ _ _)
theorem uR[aB Φ]{A X S G}(cx:Ctx W w (X++(A++(S++G))) Φ):Ctx W w ((A++(X++S))++G) Φ:=by
 rw [aX,aX];exact cx.perm (a3I _ _ _ _)
theorem aWN[aB Φ]{a b c X S G}(cx:Ctx W w (([a,b,c]++(X++S))++G) Φ):Ctx W w (c :: (X++(a :: b :: (S++G)))) Φ :=
 JS (A:=[a,b]) (X:=c :: X) cx
theorem aQT[aB Φ]{a b c X S G}(cx:Ctx W w (c :: (X++(a :: b :: (S++G)))) Φ):Ctx W w (([a,b,c]++(X++S))++G) Φ :=
 uR (A:=[a,b]) (X:=c :: X) cx
theorem a8m[aB Φ]{q d}(hq:pL q d)(hkp:JR Φ q d)(hoff:∀ M w,Φ M w->sS M w)(hT:∀ M w,Φ M w->yT M w){x j b n}(hb:b<=1099511627776)(hn:n<=1099511627776)(cx:Ctx W w (eJ x q j++(b8 q d++S)) Φ){K}(hk:∀ u w',pL (q.mv u) (tN d j b n).1->Ctx W w' (eJ x q (tN d j b n).2.1++(b8 (q.mv u) (tN d j b n).1++S)) Φ->K (.returned (.int .i64 (tN d j b n).2.2)) w'):
  aD F.jY #[.pointer (some ⟨x.jb,0,none⟩),.int .i64 (b:Int),.int .i64 (n:Int)] w K:=by
 have h1:=gE (n:=(b:Int)) (by unfold aY;omega);have h2:=gE (n:=(n:Int)) (by unfold aY;omega);refine gC (zX x.jb 0 (b:Int) (n:Int) (J:=K∘.returned) cx ⟨_,Φ,aM,λw G cx=>cx,some ⟨x.cb,0,none⟩,λw G cx=>⟨_,cx.get 1 rfl rfl,rfl⟩,λw G cx=>(OJ (Φ:=Φ) (.inl ⟨hT,by unfold aY;omega⟩)).use cx λw cx=>⟨_,rfl,_,Φ,aM,cx,λw G cx=>cx,λw G cx=>(OJ (Φ:=Φ) (.inl ⟨hT,by unfold aY;omega⟩)).use cx λw cx=>⟨_,rfl,_,Φ,aM,cx,λw G cx=>cx,by show (pH (b:Int)).size+(pH (n:Int)).size<=_;omega,λw G cx=>?_⟩⟩⟩)
 have e:pH (b:Int)++pH (n:Int)=bs (OP b n):=by
  apply ByteArray.ext;apply Array.toList_inj.1;simp [OP,bs]
 rw [e];unfold tN at hk;refine a8j (S:=x.o :: .blk x.jb (joB x q j) 335 :: (S++G)) hq hkp hoff (aWN cx) λu w hq1 cx=>?_;generalize uN d j.cell (OP b n)=r at hk hq1 cx;obtain ⟨d1,c1,e1⟩:=r;simp only at hk hq1 cx;refine ⟨e1,rfl,[x.o,.blk x.jb (joB x q j) 335,eX x.cb q c1]++(b8 (q.mv u) d1++S),Φ,aM,aQT cx,λw G cx=>⟨cx.can 1 rfl (by show 5+1<=6;omega),λw' hw'=>?_⟩⟩;exact ⟨_,Φ,aM,cx.put 1 hw' rfl,λw G cx=>hk u w hq1 (Ctx.left cx)⟩
end
theorem a0V(d j l):(JH d j l).1.keep=d.keep:=by
 unfold JH;split
 .rw [oP,uQ]
 .exact uQ _ _ _ _
theorem aA1(d c s n):(DD d c s n).1.keep=d.keep:=by
 unfold DD
 repeat' split
 all_goals simp only [oP,uQ]
theorem a3M(d c s):(uN d c s).1.keep=d.keep:=by
 unfold uN
 repeat' split
 all_goals simp only [oP,aA1]
theorem KR(d j b n):(tN d j b n).1.keep=d.keep:=a3M _ _ _
section
variable {W w:World}{S G:List Own}{Φ:PW}
theorem aA2[aB Φ]{q d}(hq:pL q d)(hkp:JR Φ q d)(hoff:∀ M w,Φ M w->sS M w)(hT:∀ M w,Φ M w->yT M w){x j}(hsb:SB x.p x.cap j.list x.o){lp lc l}(mF:∀ M w,Φ M w->Sl M w lp l)(hf:(aQ l).length<=1000000000)(hb:j.bytes<=1000000000)(hn:j.list.length+l.length<100000000)(cx:Ctx W w (eJ x q j++(b8 q d++S)) Φ){K}(hk:∀ u p c o w',SB p c (dK d j l).2.1.list o->pL (q.mv u) (dK d j l).1->Ctx W w' (eJ (x.mv p c o) q (dK d j l).2.1++(b8 (q.mv u) (dK d j l).1++S)) Φ->K (.returned (.int .i64 (dK d j l).2.2)) w'):
  aD F.mH #[.pointer (some ⟨x.jb,0,none⟩),.slice lp l.length lc] w K:=by
 have hsame:∀ {e:Int} {w':World} {G:List Own},dK d j l=(d,j,e)->Ctx W w' ((eJ x q j++(b8 q d++S))++G) Φ->K (.returned (.int .i64 e)) w':=by
  intro e w' G he cx;rw [he] at hk;exact hk q.un x.p x.cap x.o w' hsb hq (Ctx.left cx)
 refine gC (xJ x.jb 0 lp l.length lc (J:=K∘.returned) cx λw G cx=>(a5t (Φ:=Φ) hT mF hf).use cx λw cx=>⟨_,rfl,_,Φ,aM,cx,λw G cx=>⟨_,cx.get 1 rfl rfl,Br.intro (λh=>λw G cx=>?_) (λh=>Br.intro (λh2=>λw G cx=>?_) (λh2=>λw G cx=>⟨(j.bytes:Int),cx.get 1 rfl rfl,?_,Br.intro (λh3=>λw G cx=>?_) (λh3=>?_)⟩))⟩⟩)
 .exact hsame (by unfold dK;rw [if_pos h]) cx
 .exact hsame (by unfold dK;rw [if_neg (by rw [h];simp),if_pos (List.eq_nil_of_length_eq_zero (by have:=eR h2;omega))]) cx
 .rw [bL];unfold aY;omega
 all_goals rw [bL] at *
 all_goals have h:¬ j.broken=true:=by rw [h];simp
 all_goals have h2:¬ l=[]:=λe=>dD h2 (by rw [e];rfl)
 .exact hsame (by unfold dK;rw [if_neg h,if_neg h2,if_pos (by have:=eR h3;omega)]) cx
 have h3:¬ 1048576<j.bytes+(aQ l).length:=by have:=dD h3;omega
 have aWO:dK d j l=if (JH d j l).2≠0 then ((JH d j l).1,{ j with broken:=true },(JH d j l).2) else DF j (j.list++l) (j.bytes+(aQ l).length) (tN (JH d j l).1 j (j.bytes+(aQ l).length) (j.list.length+l.length)):=by
  unfold dK;rw [if_neg h,if_neg h2,if_neg h3]
 rw [aWO] at hk;have hlk:=a0V d j l;have qT:JH d j l=if (bX d j.base j.bytes (aQ l)).2=0 then bH (bX d j.base j.bytes (aQ l)).1 j.base else bX d j.base j.bytes (aQ l):=rfl
 clear aWO hsame;refine ⟨_,Φ,aM,λw G cx=>cx,some ⟨q.db,0,none⟩,λw G cx=>⟨_,cx.get 1 rfl rfl,rfl⟩,j.base,λw G cx=>⟨_,cx.get 1 rfl rfl,rfl⟩,(j.bytes:Int),λw G cx=>⟨_,cx.get 1 rfl rfl,rfl⟩,λw G cx=>?_⟩;have hwk:=uQ d j.base j.bytes (aQ l);refine UU (S:=eJ x q j++(S++G)) hq hkp (by omega) (JS cx) λu w hq1 cx=>?_;generalize bX d j.base j.bytes (aQ l)=r at qT hq1 cx hwk;obtain ⟨d1,e1⟩:=r;simp only at qT hq1 cx hwk
 refine ⟨e1,rfl,eJ x q j++(b8 (q.mv u) d1++S),Φ,aM,uR cx,?_⟩;refine dN (λn R' aU=>∃ u,n=(JH d j l).2/\R'=eJ x q j++(b8 (q.mv u) (JH d j l).1++S)/\aU=Φ/\pL (q.mv u) (JH d j l).1) ⟨Br.intro (λh4=>?_) (λh4=>?_),?_⟩
 .rw [if_pos (eR h4)] at qT;refine ⟨_,Φ,aM,λw G cx=>cx,some ⟨q.db,0,none⟩,λw G cx=>⟨_,cx.get 1 rfl rfl,rfl⟩,j.base,λw G cx=>⟨_,cx.get 1 rfl rfl,rfl⟩,λw G cx=>?_⟩;refine DI (q:=q.mv u) (S:=eJ x q j++(S++G)) hq1 (hkp.of hwk u) (JS cx) λu w rN cx=>⟨_,rfl,eJ x q j++(b8 (q.mv u) (bH d1 j.base).1++S),Φ,aM,uR cx,_,Φ,aM,λw G cx=>cx,u,by rw [qT],by rw [qT],rfl,by rw [qT];exact rN⟩
 .rw [if_neg (dD h4)] at qT;exact ⟨_,Φ,aM,λw G cx=>cx,u,by rw [qT],by rw [qT],rfl,by rw [qT];exact hq1⟩
 clear qT hq1 cx hwk;rintro n R1 Φ st ⟨u,rfl,rfl,rfl,hq1⟩;generalize JH d j l=r at hk hq1 hlk;obtain ⟨d1,e1⟩:=r;simp only at hk hq1 hlk ⊢;refine Br.intro (λh4=>λw G cx=>⟨cx.can 1 rfl (by show 5+1<=6;omega),λw' hw'=>?_⟩) (λh4=>?_)
 .rw [if_pos (eR h4)] at hk;exact ⟨eJ x q { j with broken:=true }++(b8 (q.mv u) d1++S),Φ,aM,cx.put 1 hw' rfl,λw G cx=>hk u x.p x.cap x.o w hsb hq1 (Ctx.left cx)⟩
 rw [if_neg (dD h4)] at hk;refine ⟨_,Φ,aM,λw G cx=>cx,(j.bytes:Int),λw G cx=>⟨_,cx.get 1 rfl rfl,rfl⟩,x.p,j.list.length,x.cap,λw G cx=>⟨_,_,_,cx.get 1 rfl rfl,rfl⟩,by unfold aY;omega,by unfold aY;omega,λw G cx=>?_⟩;rw [<-Int.natCast_add,<-Int.natCast_add];have hnk:=KR d1 j (j.bytes+(aQ l).length) (j.list.length+l.length);refine a8m (S:=S++G) (q:=q.mv u) hq1 (hkp.of hlk u) hoff hT (by omega) (by omega) (by rw [<-aX (b8 _ _),<-aX];exact cx) λu w rN cx=>?_
 have hnl:(tN d1 j (j.bytes+(aQ l).length) (j.list.length+l.length)).2.1.list=j.list:=rfl;have hnb:(tN d1 j (j.bytes+(aQ l).length) (j.list.length+l.length)).2.1.bytes=j.bytes:=rfl;generalize tN d1 j (j.bytes+(aQ l).length) (j.list.length+l.length)=r at hk rN cx hnk hnl hnb;obtain ⟨d2,j2,e2⟩:=r;simp only at hk rN cx hnk hnl hnb;refine ⟨e2,rfl,eJ x q j2++(b8 (q.mv u) d2++S),Φ,aM,by rw [<-aX (b8 _ _),<-aX] at cx;exact cx,Br.intro (λh5=>λw G cx=>?_) (λh5=>?_)⟩
 .have e:DF j (j.list++l) (j.bytes+(aQ l).length) (d2,j2,e2)=(d2,j2,e2):=by unfold DF;rw [if_pos (eR h5)]
  rw [e] at hk;exact hk u x.p x.cap x.o w (by rw [hnl];exact hsb) rN (Ctx.left cx)
 have e:DF j (j.list++l) (j.bytes+(aQ l).length) (d2,j2,e2)=(d2,{ j2 with list:=j.list++l,bytes:=j.bytes+(aQ l).length },0):=by unfold DF;rw [if_neg (dD h5)]
 rw [e] at hk;have hsub:∀ {o1 o2 o3:Own} {X:List Own},[o2].Sublist ([o1,o2,o3]++X):=fun {o1 o2 o3 X}=>.cons _ (.cons_cons _ (List.nil_sublist _));refine ⟨[],XN,aM,λw G cx=>cQ cx (List.nil_sublist _),[.blk x.jb (joB x q j2) 335],XN,aM,λw G cx=>cQ cx hsub,λw G cx=>⟨_,_,_,cx.get 1 rfl rfl,(j.bytes:Int),λw G cx=>⟨(j2.bytes:Int),cx.get 0 rfl rfl,by rw [hnb]⟩,by unfold aY;omega,λw G cx=>?_⟩⟩;rw [hnl];obtain ⟨p',cap',w',o',hr,b2g,c2⟩:=hsb.app (c2:=lc) (S:=.blk x.jb (joB x q j2) 335 :: eX x.cb q j2.cell :: ((b8 (q.mv u) d2++S)++G)) cx mF (List.length_pos_iff.2 h2) hn
 refine ⟨p',_,cap',w',hr,[o',.blk x.jb (joB x q j2) 335,eX x.cb q j2.cell]++(b8 (q.mv u) d2++S),Φ,aM,c2,λw G cx=>cQ cx (List.nil_sublist _),λw G cx=>cQ cx hsub,λw G cx=>⟨cx.can 1 rfl (by show 3+1<=6;omega),λw' hw'=>?_⟩⟩;refine ⟨[o',.blk x.jb ((joB x q j2).set 3 (.slice p' (j.list.length+l.length) cap')) 335,eX x.cb q j2.cell]++(b8 (q.mv u) d2++S),Φ,aM,cx.put 1 hw' rfl,λw G cx=>cQ cx (List.nil_sublist _),trivial,λw G cx=>⟨cx.can 1 rfl (by show 4+1<=6;omega),λw' hw'=>?_⟩⟩
 rw [<-Int.natCast_add] at hw';refine ⟨[o',.blk x.jb (((joB x q j2).set 3 (.slice p' (j.list.length+l.length) cap')).set 4 (.int .i64 ((j.bytes+(aQ l).length:Nat):Int))) 335,eX x.cb q j2.cell]++(b8 (q.mv u) d2++S),Φ,aM,cx.put 1 hw' rfl,λw G cx=>cQ cx (List.nil_sublist _),trivial,λw G cx=>?_⟩;refine hk u p' cap' o' w b2g rN ?_;have e3:joB (x.mv p' cap' o') q { j2 with list:=j.list++l,bytes:=j.bytes+(aQ l).length }=((joB x q j2).set 3 (.slice p' (j.list.length+l.length) cap')).set 4 (.int .i64 ((j.bytes+(aQ l).length:Nat):Int)):=by
  show [_,_,_,Value.slice p' (j.list++l).length cap',_,_]=_;rw [List.length_append];rfl
 show Ctx W w (o' :: .blk x.jb (joB (x.mv p' cap' o') q { j2 with list:=j.list++l,bytes:=j.bytes+(aQ l).length }) 335 :: _) Φ;rw [e3];exact Ctx.left cx
end
section
variable {W w:World}{S G:List Own}{Φ:PW}
theorem aMH[aB Φ]{q d}(hq:pL q d)(hkp:JR Φ q d)(hoff:∀ M w,Φ M w->sS M w)(hT:∀ M w,Φ M w->yT M w){x j}(hsb:SB x.p x.cap j.list x.o){n}(hf:(aQ j.list).length<=1000000000)(cx:Ctx W w (eJ x q j++(b8 q d++S)) Φ){K}(hk:∀ u p c o w',SB p c (iX d j n).2.1.list o->pL (q.mv u) (iX d j n).1->Ctx W w' (eJ (x.mv p c o) q (iX d j n).2.1++(b8 (q.mv u) (iX d j n).1++S)) Φ->K (.returned (.int .i64 (iX d j n).2.2)) w'):
  aD F.oY #[.pointer (some ⟨x.jb,0,none⟩),.int .i64 n] w K:=by
 have hsame:∀ {e:Int} {w':World} {G:List Own},iX d j n=(d,j,e)->Ctx W w' ((eJ x q j++(b8 q d++S))++G) Φ->K (.returned (.int .i64 e)) w':=by
  intro e w' G he cx;rw [he] at hk;exact hk q.un x.p x.cap x.o w' hsb hq (Ctx.left cx)
 have hl:=xW (l:=j.list) λx hx=>Nat.le_trans (kN hx) (by omega);refine gC (BP x.jb 0 n (J:=K∘.returned) cx λw G cx=>⟨_,cx.get 1 rfl rfl,Br.intro (λh=>λw G cx=>?_) (λh=>λw G cx=>⟨_,_,_,λ_=>cx.get 1 rfl rfl,Br.intro (λh2=>λw G cx=>?_) (λh2=>λw G cx=>⟨_,_,_,cx.get 1 rfl rfl,Br.intro (λh3=>λw G cx=>?_) (λh3=>λw G cx=>⟨_,_,_,cx.get 1 rfl rfl,?_⟩)⟩)⟩)⟩)
 .exact hsame (by unfold iX;rw [if_pos h]) cx
 all_goals have h:¬ j.broken=true:=by rw [h];simp
 .have h2:n<0\/(j.list.length:Int)<n:=by simpa using h2
  exact hsame (by unfold iX;rw [if_neg h,if_pos h2]) cx
 all_goals have h2:¬ (n<0\/(j.list.length:Int)<n):=by simpa using h2
 .exact hsame (by unfold iX;rw [if_neg h,if_neg h2,if_pos (eR h3)]) cx
 have h3:=dD h3;obtain ⟨k,rfl⟩:∃ k:Nat,n=k:=⟨n.toNat,by omega⟩;have hk2:k<j.list.length:=by omega
 have hcut:iX d j (k:Int)=DF j (j.list.take k) (aQ (j.list.take k)).length (tN d j (aQ (j.list.take k)).length k):=by
  unfold iX;rw [if_neg h,if_neg h2,if_neg h3,Int.toNat_natCast]
 rw [hcut] at hk;clear hcut hsame;obtain ⟨g,o2,hp,hcap,_,_⟩:=hsb.cutAt (k:=k) (S:=.blk x.jb (joB x q j) 335 :: eX x.cb q j.cell :: ((b8 q d++S)++G)) cx hk2;have hle:(aQ (j.list.take k)).length<=(aQ j.list).length:=by
  have e:aQ j.list=aQ (j.list.take k)++aQ (j.list.drop k):=by rw [<-mY,List.take_append_drop]
  rw [e,List.length_append];omega
 have hsz:∀ y∈j.list,y.size<=maxLen:=λy hy=>Nat.le_trans (kN hy) (by unfold maxLen;omega);have hkl:(j.list.take k).length=k:=by rw [List.length_take];omega
 refine ⟨⟨by omega,by omega⟩,λw G cx=>?_⟩;have c2:Ctx W w ([x.o]++(.blk x.jb (joB x q j) 335 :: eX x.cb q j.cell :: ((b8 q d++S)++G))) Φ:=cx;have hform:=a5t (Φ:=Go.Vc.j8 W [x.o] Φ) (p:=x.p) (cap:=x.cap) (l:=j.list.take k) (λM w h=>hT M w h.less) (λM w h=>aME (hsb.sl hsz h) k) (by omega);rw [hkl] at hform;rw [show dA x.p 1 0 x.cap=x.p by rw [hp];exact JO _ _ _,Int.toNat_natCast];refine hform.use c2.aside λw c3=>⟨_,rfl,eJ x q j++(b8 q d++S),Φ,aM,c3.AX,λw G cx=>?_⟩
 have hnk:=KR d j (aQ (j.list.take k)).length k;rw [bL];refine a8m (S:=S++G) hq hkp hoff hT (by omega) (by omega) (by rw [<-aX (b8 _ _),<-aX];exact cx) λu w rN cx=>?_;have hnl:(tN d j (aQ (j.list.take k)).length k).2.1.list=j.list:=rfl;generalize tN d j (aQ (j.list.take k)).length k=r at hk rN cx hnk hnl;obtain ⟨d2,j2,e2⟩:=r;simp only at hk rN cx hnk hnl;refine ⟨e2,rfl,eJ x q j2++(b8 (q.mv u) d2++S),Φ,aM,by rw [<-aX (b8 _ _),<-aX] at cx;exact cx,Br.intro (λh5=>λw G cx=>?_) (λh5=>λw G cx=>⟨x.p,j2.list.length,x.cap,cx.get 1 rfl rfl,⟨by omega,by omega,by omega⟩,λw G cx=>⟨cx.can 1 rfl (by show 3+1<=6;omega),λw' hw'=>?_⟩⟩)⟩
 .have e:DF j (j.list.take k) (aQ (j.list.take k)).length (d2,j2,e2)=(d2,j2,e2):=by unfold DF;rw [if_pos (eR h5)]
  rw [e] at hk;exact hk u x.p x.cap x.o w (by rw [hnl];exact hsb) rN (Ctx.left cx)
 have e:DF j (j.list.take k) (aQ (j.list.take k)).length (d2,j2,e2)=(d2,{ j2 with list:=j.list.take k,bytes:=(aQ (j.list.take k)).length },0):=by unfold DF;rw [if_neg (dD h5)]
 rw [e] at hk;rw [show dA x.p 1 0 k=x.p by rw [hp];exact JO _ _ _] at hw';refine ⟨[x.o,.blk x.jb ((joB x q j2).set 3 (.slice x.p k k)) 335,eX x.cb q j2.cell]++(b8 (q.mv u) d2++S),Φ,aM,cx.put 1 hw' rfl,λw G cx=>⟨cx.can 1 rfl (by show 4+1<=6;omega),λw' hw'=>?_⟩⟩;refine ⟨[x.o,.blk x.jb (((joB x q j2).set 3 (.slice x.p k k)).set 4 (.int .i64 ((aQ (j.list.take k)).length:Int))) 335,eX x.cb q j2.cell]++(b8 (q.mv u) d2++S),Φ,aM,cx.put 1 hw' rfl,λw G cx=>?_⟩
 have cx:=Ctx.left cx;obtain ⟨g3,o3,hp3,_,b2h,c4⟩:=hsb.cutAt (k:=k) (S:=.blk x.jb (((joB x q j2).set 3 (.slice x.p k k)).set 4 (.int .i64 ((aQ (j.list.take k)).length:Int))) 335 :: eX x.cb q j2.cell :: (b8 (q.mv u) d2++S)) cx hk2;refine hk u x.p k o3 w b2h rN ?_;have e3:joB (x.mv x.p k o3) q { j2 with list:=j.list.take k,bytes:=(aQ (j.list.take k)).length }=((joB x q j2).set 3 (.slice x.p k k)).set 4 (.int .i64 ((aQ (j.list.take k)).length:Int)):=by
  show [_,_,_,Value.slice x.p (j.list.take k).length k,_,_]=_;rw [hkl];rfl
 show Ctx W w (o3 :: .blk x.jb (joB (x.mv x.p k o3) q { j2 with list:=j.list.take k,bytes:=(aQ (j.list.take k)).length }) 335 :: _) Φ;rw [e3];exact c4
theorem aMJ[aB Φ]{q x j}(cx:Ctx W w (eJ x q j++S) Φ){K}(hk:∀ w',Ctx W w' (eJ x q j++S) Φ->K (.returned (.int .i64 (j.list.length:Int))) w'):
  aD F.oZ #[.pointer (some ⟨x.jb,0,none⟩)] w K:=by
 refine gC (BQ x.jb 0 (J:=K∘.returned) cx λw G cx=>⟨_,_,_,cx.get 1 rfl rfl,λw G cx=>hk w (Ctx.left cx)⟩)
end
theorem aEV{P}(w dT sT ty elem){i}(hu:P.underlying dT=some (.slice elem))(hi:P.info? elem=some i)(b q c):
  (Builtin.copy_ #[dT,sT] ty #[.slice (some ⟨b,0,none⟩) 0 0,.slice q 0 c]).run P w=.ok (Go.goInt 0) w:=by
 simp [Builtin.copy_,run_underlying hu,Builtin.lenOf,Builtin.firstCells,sizeOf,typeInfo,hi];cases q<;>simp [loadCells,loadCellsFrom,storeCells,Result.andThen]
section
variable {W w:World}{S G:List Own}{Φ:PW}
theorem aEW[aB Φ]{p cap l o b}(hsb:SB p cap l o)(cx:Ctx W w (.blk b (List.replicate l.length (Value.string (ByteArray.mk #[]))) 9 :: o :: S) Φ):
  ∃ w',Sem.run prog (builtin Builtin.copy #[40,40] 3 #[false,false] #[.slice (some ⟨b,0,none⟩) l.length l.length,.slice p l.length cap]) w=.ok (.value (.int .i64 l.length)) w'/\Ctx W w' (.blk b (dS l) 9 :: o :: S) Φ:=by
 obtain ⟨i,z,e1,e2,e3,e4,e5,e6⟩:=vT (P:=prog) (ts:=40) (t:=9) (size:=1) (bytes:=16) (by kernel_rfl);by_cases h:l=[]
 .subst h;exact ⟨w,a5o (aEV w _ _ _ _ e1 e2 b p cap),cx⟩
 .have hpos:=List.length_pos_iff.2 h;have CD:=cx.swap;obtain ⟨g,hg,_⟩:=hsb.get CD hpos;subst hg;have hsrc:∀ j v,(dS l)[j]? = some v->w.cell? ((⟨g,0,none⟩:Addr).add j)=some v:=λj v hj=>by
   have hjl:j<l.length:=by have:=(List.getElem?_eq_some_iff.1 hj).1;rw [fO] at this;exact this
   obtain ⟨g2,hg2,hc⟩:=hsb.get CD hjl;cases hg2;rw [List.getElem?_map,List.getElem?_eq_getElem hjl] at hj;rw [addr_add,Nat.zero_add,hc];exact hj
  have hcan:aG w b 0 l.length:=cx.can 0 rfl (by rw [List.length_replicate];omega);have hr:=aEI (P:=prog) w 40 40 3 9 b 0 l.length l.length ⟨g,0,none⟩ l.length cap (dS l) e1 e2 (by rw [e4,fO,Nat.mul_one];exact (Nat.min_self _).symm) hsrc (λj hj=>(hcan j (by rw [fO] at hj;exact hj)).1) (λj hj=>(hcan j (by rw [fO] at hj;exact hj)).2) (λv hv=>by
   obtain ⟨y,_,rfl⟩:=List.mem_map.1 hv;rfl)
  rw [show Nat.min l.length l.length=l.length from Nat.min_self _] at hr;refine ⟨_,a5o hr,?_⟩;have c3:=cx.FL 0 rfl (b:=b) (i:=0) (vs:=dS l) rfl;rw [KP _ _ _ (by rw [fO,List.length_replicate];omega),List.take_zero,List.nil_append,fO,Nat.zero_add,List.drop_eq_nil_of_le (by rw [List.length_replicate];omega),List.append_nil] at c3;exact c3
theorem aMK[aB Φ]{q x j}(hsb:SB x.p x.cap j.list x.o)(hl:j.list.length<=1000000000)(cx:Ctx W w (eJ x q j++S) Φ){K}(hk:∀ b w',Ctx W w' (.blk b (dS j.list) 9 :: (eJ x q j++S)) Φ->K (.returned (.slice (some ⟨b,0,none⟩) j.list.length j.list.length)) w'):
  aD F.oX #[.pointer (some ⟨x.jb,0,none⟩)] w K:=by
 refine gC (BO x.jb 0 (J:=K∘.returned) cx λw G cx=>⟨_,_,_,cx.get 1 rfl rfl,⟨by omega,by omega,by omega,by omega⟩,λb w G cx=>⟨_,_,_,cx.get 2 rfl rfl,λw G cx=>?_⟩⟩);rw [Int.toNat_natCast] at cx ⊢;obtain ⟨w',hr,c2⟩:=aEW (S:=.blk x.jb (joB x q j) 335 :: eX x.cb q j.cell :: (S++G)) hsb cx;exact ⟨_,w',hr,.blk b (dS j.list) 9 :: (eJ x q j++S),Φ,aM,c2,λw G cx=>hk b w (Ctx.left cx)⟩
def aC0(base:Int):Nat->iM->iM × Option tG × Int
 | 0,d=>(d,JJ d base)
 | k+1,d=>if (bH d (if k=0 then base+1 else base)).2≠0 then ((bH d (if k=0 then base+1 else base)).1,none,(bH d (if k=0 then base+1 else base)).2) else aC0 base k (bH d (if k=0 then base+1 else base)).1
theorem aA3{d base}(h:¬ (base<0\/14<base)):rI d base=aC0 base 2 d:=by
 unfold rI;rw [if_neg h];rfl
theorem OY{d f e}(h:vX d f=(none,e)):e≠0:=by
 unfold vX at h
 repeat' split at h
 all_goals first
  | (cases h;assumption)
  | (cases h;decide)
  | cases h
theorem a8n{d q}(hq:pL q d){f e c}(h:vX d f=(some c,e)):c.value.length<=16777216/\e=0:=by
 unfold vX at h
 repeat' split at h
 all_goals first
  | (cases h;exact ⟨Nat.zero_le _,rfl⟩)
  | (cases h;exact ⟨a0U hq _ _ _,rfl⟩)
  | cases h
theorem a3N[aB Φ]{q d}(hq:pL q d)(hkp:JR Φ q d)(hoff:∀ M w,Φ M w->sS M w)(hN:∀ M w,Φ M w->uL M w){base}(cx:Ctx W w (b8 q d++S) Φ){K}(hn:∀ u d' e w',rI d base=(d',none,e)->pL (q.mv u) d'->d'.keep=d.keep->Ctx W w' (b8 (q.mv u) d'++S) Φ->K (.returned (.tuple #[.pointer none,.int .i64 e])) w')(hs:∀ u x d' j w',rI d base=(d',some j,0)->SB x.p x.cap j.list x.o->pL (q.mv u) d'->d'.keep=d.keep->Ctx W w' (eJ x q j++(b8 (q.mv u) d'++S)) Φ->K (.returned (.tuple #[.pointer (some ⟨x.jb,0,none⟩),.int .i64 0])) w'):
  aD F.xD #[.pointer (some ⟨q.db,0,none⟩),.int .i64 base] w K:=by
 refine gC (QT q.db 0 base (J:=K∘.returned) cx λw G cx=>Br.intro (λh=>λw G cx=>?_) (λh=>?_))
 .have h:base<0\/14<base:=by simpa using h
  exact hn q.un d 1 w (by unfold rI;rw [if_pos h]) hq rfl (Ctx.left cx)
 have h:¬ (base<0\/14<base):=by simpa using h
 have eE:=aA3 (d:=d) h;refine ⟨by unfold aY;omega,λkb=>dN (λn R' aU k=>∃ u d1,n=((2 - k:Nat):Int)/\k<=2/\R'=.blk kb [.int .i64 base,.int .i64 (base+1)] 3 :: (b8 (q.mv u) d1++S)/\aU=Φ/\pL (q.mv u) d1/\d1.keep=d.keep/\rI d base=aC0 base k d1) ⟨⟨_,Φ,2,aM,λw G cx=>cx,q.un,d,rfl,Nat.le_refl _,rfl,rfl,hq,rfl,eE⟩,?_⟩⟩;clear cx;rintro n R1 Φ k st ⟨u,d1,rfl,hk2,rfl,rfl,hq1,hkeep,eE⟩;refine Br.intro (λhlt=>⟨⟨by omega,eR hlt⟩,λw G cx=>?_⟩) (λhge=>⟨by unfold aY;omega,λw G cx=>?_⟩)
 .have hlt:=eR hlt;obtain ⟨k,rfl⟩:∃ m,k=m+1:=⟨k - 1,by omega⟩;have JL:w.cell? ⟨kb,0+((2 - (k+1):Nat):Int).toNat,none⟩=some (.int .i64 (if k=0 then base+1 else base)):=by
   rw [Int.toNat_natCast,Nat.zero_add];have hk:k=0\/k=1:=by omega
   rcases hk with rfl|rfl
   .exact cx.get 0 rfl rfl
   .exact cx.get 0 rfl rfl
  refine ⟨_,JL,λw G cx=>?_⟩;have eE:rI d base=if (bH d1 (if k=0 then base+1 else base)).2≠0 then ((bH d1 (if k=0 then base+1 else base)).1,none,(bH d1 (if k=0 then base+1 else base)).2) else aC0 base k (bH d1 (if k=0 then base+1 else base)).1:=eE
  have hsk:=oP d1 (if k=0 then base+1 else base);refine DI (q:=q.mv u) (S:=.blk kb [.int .i64 base,.int .i64 (base+1)] 3 :: (S++G)) hq1 (hkp.of hkeep u) (OW cx) λu w rN cx=>?_;generalize bH d1 (if k=0 then base+1 else base)=r at eE rN cx hsk;obtain ⟨d2,e2⟩:=r;simp only at eE rN cx hsk;refine ⟨e2,rfl,.blk kb [.int .i64 base,.int .i64 (base+1)] 3 :: (b8 (q.mv u) d2++S),Φ,aM,EX cx,Br.intro (λh4=>λw G cx=>?_) (λh4=>?_)⟩
  .rw [if_pos (eR h4)] at eE;exact hn u d2 e2 w eE rN (hsk.trans hkeep) (Ctx.left (Ctx.drop1 cx))
  .rw [if_neg (dD h4)] at eE;exact ⟨by unfold aY;omega,_,Φ,k,aM,λw G cx=>cx,⟨u,d2,by omega,by omega,rfl,rfl,rN,hsk.trans hkeep,eE⟩,Nat.lt_succ_self _⟩
 .have hge:=dD hge;have hk0:k=0:=by omega
  subst hk0;have eE:rI d base=(d1,JJ d1 base):=eE;have cx:Ctx W w (b8 (q.mv u) d1++(S++G)) Φ:=by
   have this:Ctx W w ((b8 (q.mv u) d1++S)++G) Φ:=cx.drop1;rw [aX] at this;exact this
  unfold JJ at eE;refine a3K (q:=q.mv u) hq1 hoff cx (λe w ho cx=>?_) (λc cb w ho cx=>?_)
  .rw [ho] at eE;refine ⟨none,e,rfl,b8 (q.mv u) d1++S,Φ,aM,by rw [aX];exact cx,Br.intro (λh4=>λw G cx=>?_) (λh4=>absurd (Decidable.not_not.1 (dD h4)) (OY ho))⟩;exact hn u d1 e w eE hq1 hkeep (Ctx.left cx)
  .rw [ho] at eE;have hcv:=(a8n hq1 ho).1;simp only at eE;unfold a5n at eE;refine ⟨some ⟨cb,0,none⟩,0,rfl,eX cb q c :: (b8 (q.mv u) d1++S),Φ,aM,re4 cx,Br.intro (λh4=>absurd rfl (eR h4)) (λh4=>λw G cx=>?_)⟩;refine a8l (S:=(b8 (q.mv u) d1++S)++G) hN (by omega) cx λw cx=>?_;generalize rH c=r at eE;obtain ⟨b,m,ok⟩:=r;simp only at eE;refine ⟨b,m,ok,rfl,eX cb q c :: (b8 (q.mv u) d1++S),Φ,aM,cx,Br.intro (λh5=>λw G cx=>?_) (λh5=>λw G cx=>?_)⟩
   .rw [if_pos (by simpa using h5)] at eE;exact hn u d1 2 w eE hq1 hkeep (Ctx.left (Ctx.drop1 cx))
   rw [if_neg (by simpa using h5)] at eE;have hrl:=a0U hq1 base 0 b;refine US (q:=q.mv u) (S:=eX cb q c :: (S++G)) hq1 (OW cx) λw cx=>?_;generalize dH d1 base 0 b=r at eE hrl;obtain ⟨s,e⟩:=r;simp only at eE hrl;refine ⟨bs s,e,rfl,eX cb q c :: (b8 (q.mv u) d1++S),Φ,aM,EX cx,Br.intro (λh6=>λw G cx=>?_) (λh6=>λw G cx=>?_)⟩
   .rw [if_pos (eR h6)] at eE;exact hn u d1 e w eE hq1 hkeep (Ctx.left (Ctx.drop1 cx))
   rw [if_neg (dD h6)] at eE;refine aI5 (S:=(eX cb q c :: (b8 (q.mv u) d1++S))++G) hN hrl cx (λp k cp w hr cx=>?_) (λp cap l o w hr hsb cx=>?_)
   .rw [hr] at eE;refine ⟨p,k,cp,false,rfl,eX cb q c :: (b8 (q.mv u) d1++S),Φ,aM,cx,λw G cx=>Br.intro (λ_=>λw G cx=>?_) (λh7=>by simp at h7)⟩;exact hn u d1 2 w eE hq1 hkeep (Ctx.left (Ctx.drop1 cx))
   .rw [hr] at eE;simp only at eE;refine ⟨p,_,cap,true,rfl,o :: eX cb q c :: (b8 (q.mv u) d1++S),Φ,aM,cx,λw G cx=>Br.intro (λh7=>λw G cx=>?_) (λh7=>λjb w G cx=>?_)⟩
    .have h7:(s.length:Int)≠b:=by rw [bL] at h7;simpa using h7
     rw [if_pos h7] at eE;exact hn u d1 2 w eE hq1 hkeep (Ctx.left (Ctx.drop1 (Ctx.drop1 cx)))
    .have h7:(s.length:Int)=b:=by rw [bL] at h7;simpa using h7
     rw [if_neg (λh=>h h7)] at eE;have hb:b=((b.toNat:Nat):Int):=by omega
     refine hs u ⟨jb,cb,p,cap,o⟩ d1 _ w eE hsb hq1 hkeep ?_;have cx:Ctx W w ([Own.blk jb [.pointer (some ⟨q.db,0,none⟩),.int .i64 base,.pointer (some ⟨cb,0,none⟩),.slice p l.length cap,.int .i64 b,.bool false] 335,o]++(eX cb q c :: (b8 (q.mv u) d1++S))) Φ:=Ctx.left cx;rw [hb] at cx;exact cx.perm (List.Perm.swap _ _ _)
end
section
variable {W w:World}{S G:List Own}{Φ:PW}
theorem aC1[aB Φ]{p q ac bc}{a b:List ByteArray}(ha:∀ M w,Φ M w->Sl M w p a)(hb:∀ M w,Φ M w->Sl M w q b)(hl:a.length<=1000000000):cS Φ prog F.gP #[.slice p a.length ac,.slice q b.length bc] (.bool (decide (a=b))):=by
 refine .there (λM w h=>(ha M w h).there) λhta=>.there (λM w h=>(hb M w h).there) λhtb=>?_;refine j7 (yN p a.length ac q b.length bc) λW R=>Br.intro (λh=>λw G cx=>⟨?_,cx.left⟩) (λh=>?_)
 .rw [decide_eq_false λe=>eR h (by rw [e])]
 have h:a.length=b.length:=by have:=dD h;omega
 refine dN (λn R' aU k=>∃ i:Nat,n=i/\i+k=a.length/\R'=R/\aU=Φ/\a.take i=b.take i) ⟨⟨_,Φ,a.length,aM,λw G cx=>cx,0,rfl,by omega,rfl,rfl,by simp⟩,?_⟩;rintro n R1 Φ k _ ⟨i,rfl,hik,rfl,rfl,htk⟩;refine Br.intro (λhlt=>λw G cx=>?_) (λhge=>λw G cx=>⟨?_,cx.left⟩)
 .have hlt:i<a.length:=by have:=eR hlt;omega
  obtain ⟨k,rfl⟩:∃ m,k=m+1:=⟨k - 1,by omega⟩;obtain ⟨g,o,rfl⟩:=hta (by omega);obtain ⟨g2,o2,rfl⟩:=htb (by omega);refine ⟨⟨by omega,by omega⟩,aW g o rfl ⟨a[i],by rw [Int.toNat_natCast];exact aA0 (ha _ _ cx.uX) hlt,⟨by omega,by omega⟩,aW g2 o2 rfl ⟨b[i]'(by omega),by rw [Int.toNat_natCast];exact aA0 (hb _ _ cx.uX) (by omega),Br.intro (λhne=>λw G cx=>⟨?_,cx.left⟩) (λhe=>?_)⟩⟩⟩
  .rw [decide_eq_false λe=>eR hne (by simp only [e])]
  .refine ⟨by unfold aY;omega,_,Φ,k,aM,λw G cx=>cx,⟨i+1,by omega,by omega,rfl,rfl,?_⟩,Nat.lt_succ_self _⟩;rw [List.take_succ_eq_append_getElem hlt,List.take_succ_eq_append_getElem (by omega:i<b.length),htk,Decidable.not_not.1 (dD he)]
 .have hge:i=a.length:=by have:=dD hge;omega
  subst hge;rw [List.take_length,h,List.take_length] at htk;rw [decide_eq_true htk]
structure JI(Φ:PW):Prop where
 num:∀ M w,Φ M w->uL M w
 off:∀ M w,Φ M w->sS M w
theorem JI.tab(h:JI Φ):∀ M w,Φ M w->yT M w:=λM w hp=>(h.num M w hp).1
theorem JI.weak(h:JI Φ){Ψ}(e:∀ M w,Ψ M w->Φ M w):JI Ψ:=⟨λM w hp=>h.num M w (e M w hp),λM w hp=>h.off M w (e M w hp)⟩
theorem append_nil(d){j}(h:j.broken=false):dK d j []=(d,j,0):=by
 unfold dK;rw [if_neg (by rw [h];simp),if_pos rfl]
theorem a8o(j l b r):(DF j l b r).1=r.1:=by
 unfold DF;split<;>rfl
theorem aEX(d j n):(iX d j n).1.keep=d.keep:=by
 unfold iX;split
 .rfl
 .split
  .rfl
  .split
   .rfl
   .rw [a8o,KR]
theorem a5u(d j l):(dK d j l).1.keep=d.keep:=by
 unfold dK;split
 .rfl
 .split
  .rfl
  .split
   .rfl
   .split
    .exact a0V _ _ _
    .rw [a8o,KR,a0V]
theorem aA4{f g s v}(h:Ev f g)(h1:fN f.now s v)(h2:fN f.last s v):fN g.now s v/\fN g.last s v:=by
 induction h with
 | refl=>exact ⟨h1,h2⟩
 | step _ hs ih=>exact ⟨S8 ih.1 ih.2 hs,S8 ih.1 ih.2 hs⟩
theorem aML{d d' j}(h:Live d j)(h1:Ev (d.files j.base) (d'.files j.base))(h2:Ev (d.files (j.base+1)) (d'.files (j.base+1))):Live d' j:=by
 have hc:=aA4 h2 h.now h.last;exact ⟨h.base,h.file,h.bytes,h.most,hc.1,hc.2,h.enc,h1.pre h.log⟩
end
end Go.Proofs.YtnlkemjhgdbfkaaGreatDoor
end

section
namespace Go.Vc
section
variable {P:Program}{W w:World}{S:List Own}{Φ:PW}
theorem aEY(w t e ty z)(ht:P.underlying t=some (.slice e))(hv:∀ w,(zeroValue e).run P w=.ok z w)(h1:∀ v∈z.cells,v.oneCell'=true)(hp:0<z.cells.size)(b o n c)(hn:0<n)(hc:∀ j,j<n*z.cells.size->(w.cell? ⟨b,o+j,none⟩).isSome=true)(hf:∀ j,j<n*z.cells.size->w.frozen? ⟨b,o+j,none⟩=false):
  (Builtin.clear_ #[t] ty #[.slice (some ⟨b,o,none⟩) n c]).run P w=.ok (.tuple #[]) (w.setCells b o (Builtin.zeroCells z.cells n).toList):=by
 have hl:(Builtin.zeroCells z.cells n).toList.length=n*z.cells.size:=by simp [Builtin.zeroCells]
 have hst:=run_storeCells_cells (P:=P) b o (Builtin.zeroCells z.cells n).toList 0 w (by rw [hl];simpa using hc) (by rw [hl];simpa using hf) (λv TD=>by
  simp only [Builtin.zeroCells,Array.toList_map,List.mem_map] at TD;obtain ⟨i,_,rfl⟩:=TD;have hlt:i % z.cells.size<z.cells.size:=Nat.mod_lt _ hp;rw [getElem!_pos z.cells _ hlt];exact h1 _ (Array.getElem_mem hlt))
 simp only [Nat.add_zero] at hst;obtain ⟨m,rfl⟩:∃ m,n=m+1:=⟨n - 1,by omega⟩;simp [Builtin.clear_,run_underlying ht,hv,hst]
theorem aEZ(cs vs n):(nN cs n vs).take n=cs.take n:=by
 apply List.ext_getElem?;intro i;by_cases hi:i<n
 .rw [List.getElem?_take_of_lt hi,List.getElem?_take_of_lt hi,sM _ _ _ _ (.inl hi)]
 .rw [List.getElem?_eq_none (by rw [List.length_take];omega),List.getElem?_eq_none (by rw [List.length_take];omega)]
theorem Ctx.aMM[aB Φ]{p n cap cs t size}(c:Ctx W w (.buf p n cap cs t size :: S) Φ)(h0:0<cs.length){ts ty i z}(ht:P.underlying ts=some (.slice t))(hi:P.info? t=some i)(hz:i.zero=some z)(hs:i.size=size)(hzs:z.cells.size=size){a m c2 news}(hm:0<m)(hl:news.length=m*size)(hnews:∀ j u,news[j]? = some u->w.cell? (a.add j)=some u)(h1:∀ u∈news,nM u=true)(hbytes:(n+m)*i.bytes<=140737488355328)(hlen:n+m<=140737488355328):
  ∃ p' cap' w' X,(Builtin.append_ #[ts,ts] ty #[.slice p n cap,.slice (some a) m c2]).run P w=.ok (.slice p' (n+m) cap') w'/\Ctx W w' ((.buf p' (n+m) cap' (cs++news) t size :: X)++S) Φ /\
   ∀ {W2 w2:World} {S2:List Own} {BD:PW} [aB BD],Ctx W2 w2 ((.buf p' (n+m) cap' (cs++news) t size :: X)++S2) BD->Ctx W2 w2 (.buf p n cap cs t size :: S2) BD:=by
 subst hs;have h1':∀ u∈news,u.oneCell'=true:=λu hu=>by have:=h1 u hu;cases u<;>simp_all [nM,Value.oneCell']
 obtain ⟨tC,hown⟩:=c.own _ List.mem_cons_self;have hlen':(cs++news).length=(n+m)*i.size:=by rw [List.length_append,tC,hl,Nat.add_mul]
 rcases hown with ⟨e,rfl⟩|⟨g,cap',cur,e,_,hg,hnc,hcm,hcs,rX⟩
 .cases e;rw [Nat.zero_mul] at tC;omega
 .cases e;by_cases hroom:n+m<=cap
  .have hfit:n*i.size+news.length<=cur.size:=by rw [hl,hcs,<-Nat.add_mul];exact Nat.mul_le_mul_right _ hroom
   have hr:=run_append_room (P:=P) w ts ty t i ht hi g n cap cur hg a m c2 news hl hnews h1' hroom hfit;obtain ⟨p',cap',w',hr',c'⟩:=c.append 0 rfl (ty:=ty) (c2:=c2) ht hi hz rfl hzs hm hl hnews h1 hbytes hlen;have e:=hr.symm.trans hr';injection e with e1 e2;injection e1 with e3 e4 e5;subst e3 e5;refine ⟨_,_,_,[],hr',c',λc2=>?_⟩;have c3:=Ctx.Y4 (k:=n) c2 (by omega);rw [<-tC,List.take_left] at c3;exact c3
  .have holds:∀ j u,cs[j]? = some u->w.cell? ((⟨g,0,none⟩:Addr).add j)=some u:=by
    intro j u hj;have hlt:j<cs.length:=(List.getElem?_eq_some_iff.1 hj).1;have h2:cur[j]? = some u:=by
     rw [<-rX,List.getElem?_take_of_lt (by omega)] at hj;simpa using hj
    rw [addr_add,Nat.zero_add];simp [World.cell?,hg,h2]
   have hr:=run_append_grow (P:=P) w ts ty t i z ht hi hz ⟨g,0,none⟩ n cap cs tC holds a m c2 news hl hnews (by omega) (by omega) (growslice_fits (by omega) hbytes);have hge:=grownCap_ge w (n+m) cap t;have hcm2:grownCap w (n+m) cap t<=maxLen:=grownCap_le_maxLen w (n+m) cap t (by simp only [maxLen];omega);have c3:=Ctx.new' (c.draw 1) (.cells (cs.toArray++news.toArray++Builtin.zeroCells z.cells (grownCap w (n+m) cap t - (n+m))) t) (.buf (some ⟨w.heap.size,0,none⟩) (n+m) (grownCap w (n+m) cap t) (cs++news) t i.size) rfl
    ⟨hlen',.inr ⟨w.heap.size,_,_,rfl,Nat.zero_le _,rV w.drew _,hge,hcm2,by
     simp only [Array.size_append,List.size_toArray,size_zeroCells,hzs,tC,hl,<-Nat.add_mul]
     congr 1
     omega,by
     simp only [Array.toList_append,aX];rw [<-aX,<-hlen'];exact List.take_left⟩⟩
   exact ⟨_,_,_,[.buf (some ⟨g,0,none⟩) n cap cs t i.size],hr,c3,λc4=>Ctx.drop1 c4⟩
end
end Go.Vc
namespace Go.Proofs.YtnlkemjhgdbfkaaGreatDoor
open Go.Vc
abbrev qB(p:OQ):List Value:=[.int .i64 p.src,.int .i64 p.to,.string p.body]
abbrev aI6(p:OQ):Value:=.agg #[.int .i64 p.src,.int .i64 p.to,.string p.body]
def fW(l:List OQ):List Value:=l.flatMap qB
structure aI7 where
 nb:Nat
 fp:Option Addr
 fc:Nat
abbrev SI(N:aI7)(n:JM):List Value:=[.slice N.fp n.aH.length N.fc,.int .i64 n.split]
def fX(N:aI7)(n:JM):List Own:=[.blk N.nb (SI N n) 251,.buf N.fp n.aH.length N.fc (fW n.aH) 267 3]
theorem KS(p l):fW (p :: l)=.int .i64 p.src :: .int .i64 p.to :: .string p.body :: fW l:=rfl
theorem a0W(a b):fW (a++b)=fW a++fW b:=by simp [fW]
theorem DJ:∀ l:List OQ,(fW l).length=l.length*3
 | []=>rfl
 | p :: l=>by rw [KS];simp only [List.length_cons];rw [DJ l];omega
theorem UX:∀ (l:List OQ) (k:Nat),(fW l).drop (k*3)=fW (l.drop k)
 | l,0=>by simp
 | [],k+1=>by simp [fW]
 | p :: l,k+1=>by
  rw [KS,show (k+1)*3=k*3+1+1+1 by omega];simp only [List.drop_succ_cons];exact UX l k
theorem a3O:∀ (l:List OQ) (k:Nat),(fW l).take (k*3)=fW (l.take k)
 | l,0=>by simp [fW]
 | [],k+1=>by simp [fW]
 | p :: l,k+1=>by
  rw [KS,show (k+1)*3=k*3+1+1+1 by omega];simp only [List.take_succ_cons];rw [a3O l k];rfl
theorem aI8{l k p}(h:l[k]? = some p)(j)(hj:j<3):(fW l)[k*3+j]? = (qB p)[j]? := by
 have hk:k<l.length:=(List.getElem?_eq_some_iff.1 h).1;have e:(fW l)[k*3+j]? = ((fW l).drop (k*3))[j]? := by rw [List.getElem?_drop]
 rw [e,UX];have e2:l.drop k=p :: l.drop (k+1):=by
  rw [List.drop_eq_getElem_cons hk]
  congr 1
  rw [List.getElem?_eq_getElem hk] at h;exact Option.some.inj h
 rw [e2,KS]
 match j,hj with
 | 0,_=>rfl
 | 1,_=>rfl
 | 2,_=>rfl
theorem aMN(l):∀ u∈fW l,nM u=true:=λu hu=>by
 unfold fW at hu;obtain ⟨p,_,hp⟩:=List.mem_flatMap.1 hu;simp only [qB,List.mem_cons,List.not_mem_nil,or_false] at hp;rcases hp with rfl|rfl|rfl<;>rfl
theorem aC2(a):Quiet prog F.E5 #[.int .i64 a] (.bool (DG a)) :=
 ⟨λw=>(a42 a w (λv w'=>v=.bool (DG a)/\w'=w) ⟨rfl,rfl⟩).mono λe w' ⟨v,he,hv,hw⟩=>⟨by rw [he,hv],hw⟩⟩
theorem aC3{P t n a}(h:0<=a)(h2:a<=64)(w):Sem.run P (binOp .shr t (.int .i64 n) (.int .i64 a)) w=.ok (.int .i64 (n / 2 ^ a.toNat)) w:=by
 rw [binOp_shr,shift_shr_i64 .i64 n a h h2];rfl
theorem aI9(n):bits .and .i64 n 65535=n % 65536:=by
 have h15:(BitVec.ofInt 64 65535).toNat=2 ^ 16 - 1:=by decide
 have key:(BitVec.ofInt 64 n &&& BitVec.ofInt 64 65535).toNat=(n % ((2 ^ 64:Nat):Int)).toNat % 2 ^ 16:=by
  rw [BitVec.toNat_and,BitVec.toNat_ofInt,h15,Nat.and_two_pow_sub_one_eq_mod]
 show IntKind.i64.wrap ((BitVec.ofInt 64 n &&& BitVec.ofInt 64 65535).toNat:Nat)=n % 65536;rw [key,IntKind.wrap_i64];omega
theorem aJa{P t}(n w):Sem.run P (binOp .and t (.int .i64 n) (.int .i64 65535)) w=.ok (.int .i64 (n % 65536)) w:=by
 rw [binOp_and,intBits_and,aI9];rfl
section
variable {W w:World}{S:List Own}{Φ:PW}{N:aI7}{n:JM}
theorem aJb[aB Φ](cx:Ctx W w S Φ){K}(hk:∀ N w',Ctx W w' (fX N ⟨[],0⟩++S) Φ->K (.returned (.pointer (some ⟨N.nb,0,none⟩))) w'):aD F.a4C #[] w K:=by
 refine gC (a4Y (J:=K∘.returned) cx λb w G cx=>?_);have c1:=cx.left.aDE 267 3;exact hk ⟨b,none,0⟩ w (c1.perm (.swap _ _ _))
theorem a3P[aB Φ]{a b}(cx:Ctx W w (fX N n++S) Φ){K}(hk:∀ w',Ctx W w' (fX N n++S) Φ->K (.returned (.bool (yX n.split a b))) w'):
  aD F.xF #[.pointer (some ⟨N.nb,0,none⟩),.int .i64 a,.int .i64 b] w K:=by
 refine gC (RO N.nb 0 a b (J:=K∘.returned) cx λw G cx=>⟨DG a,λw3 h=>(aC2 a).atN h,DG b,λ_ w3 h=>(aC2 b).atN h,n.split,λ_=>cx.get 0 rfl rfl,n.split / 2 ^ a.toNat,λh w=>?_,aEH n.split a,λ_ w=>a0Q _ w,n.split,λ_=>cx.get 0 rfl rfl,n.split / 2 ^ b.toNat,λh w=>?_,aEH n.split b,λ_ w=>a0Q _ w,λw G cx=>?_⟩)
 .simp only [DG,Bool.and_eq_true,decide_eq_true_eq] at h;exact aC3 (by omega) (by omega) w
 .simp only [DG,Bool.and_eq_true,decide_eq_true_eq] at h;exact aC3 (by omega) (by omega) w
 .have e:(DG a&&DG b&&decide (aEH n.split a=aEH n.split b))=yX n.split a b:=by unfold yX;rw [Bool.and_assoc]
  rw [e];exact hk w cx.left
theorem aE0[aB Φ](hl:n.aH.length<=500){a b s}(cx:Ctx W w (fX N n++S) Φ){K}(hk:∀ fp fc w',Ctx W w' (fX ⟨N.nb,fp,fc⟩ (rJ n a b s).1++S) Φ->K (.returned (.int .i64 (rJ n a b s).2)) w'):
  aD F.E3 #[.pointer (some ⟨N.nb,0,none⟩),.int .i64 a,.int .i64 b,.string s] w K:=by
 unfold rJ at hk;refine gC (RM N.nb 0 a b s (J:=K∘.returned) cx λw G cx=>⟨DG a,λw3 h=>(aC2 a).at h,DG b,λ_ w3 h=>(aC2 b).at h,Br.intro (λh=>λw G cx=>?_) (λh=>λw G cx=>?_)⟩)
 .rw [if_pos (by
   simp only [Bool.or_eq_true,Bool.not_eq_true',decide_eq_true_eq] at h;rcases h with (h|h)|h
   .rw [h];rfl
   .rw [h];simp
   .simp [h])] at hk
  exact hk N.fp N.fc w cx.left
 .rw [if_neg (by
   simp only [Bool.or_eq_false_iff,Bool.not_eq_false',decide_eq_false_iff_not] at h;rw [h.1.1,h.1.2];simp [h.2])] at hk
  refine a3P (N:=N) (n:=n) (S:=S++G) (by rw [<-aX];exact cx) λw cx=>⟨_,rfl,fX N n++S,Φ,aM,by rw [aX];exact cx,Br.intro (λh=>λw G cx=>?_) (λh=>λw G cx=>⟨_,_,_,cx.get 0 rfl rfl,Br.intro (λh2=>λw G cx=>?_) (λh2=>λw G cx=>⟨_,_,_,cx.get 0 rfl rfl,λk w G cx=>?_⟩)⟩)⟩
  .rw [if_pos (by simpa using h)] at hk;exact hk N.fp N.fc w cx.left
  .rw [if_neg (by simpa using h),if_pos (by have:=eR h2;omega)] at hk;exact hk N.fp N.fc w cx.left
  .rw [if_neg (by simpa using h),if_neg (by have:=dD h2;omega)] at hk;obtain ⟨p',c',w',hr,_,CD⟩:=((cx.perm (show (Own.blk k [Value.int .i64 a,.int .i64 b,.string s] 267 :: (fX N n++S)++G).Perm (Own.blk k [Value.int .i64 a,.int .i64 b,.string s] 267 :: Own.buf N.fp n.aH.length N.fc (fW n.aH) 267 3 :: (.blk N.nb (SI N n) 251 :: S++G)) from List.Perm.cons _ (List.Perm.swap _ _ _)))).a2i (ts:=109) (ty:=109) (kb:=#[false,false]) (bytes:=32) (P:=prog) (by kernel_rfl) (by omega) rfl rfl (by omega) (by omega)
   refine ⟨_,_,_,_,hr,Own.buf p' (n.aH.length+1) c' (fW n.aH++qB ⟨a,b,s⟩) 267 3 :: (.blk N.nb (SI N n) 251 :: S),Φ,aM,CD,λw G cx=>⟨cx.can 1 rfl (by show 0+1<=2;omega),λw' hw'=>⟨Own.buf p' (n.aH.length+1) c' (fW n.aH++qB ⟨a,b,s⟩) 267 3 :: (.blk N.nb [.slice p' (n.aH.length+1) c',.int .i64 n.split] 251 :: S),Φ,aM,cx.put 1 hw' rfl,λw G cx=>?_⟩⟩⟩;have e1:fW n.aH++qB ⟨a,b,s⟩=fW (n.aH++[⟨a,b,s⟩]):=by rw [a0W];rfl
   have e2:n.aH.length+1=(n.aH++[(⟨a,b,s⟩:OQ)]).length:=by simp
   rw [e1,e2] at cx;exact hk p' c' w (cx.left.perm (.swap _ _ _))
theorem aWP:∀ w:World,(zeroValue 267).run prog w=.ok (.agg #[.int .i64 0,.int .i64 0,.string (ByteArray.mk #[])]) w:=λw=>by kernel_rfl
theorem erase_eq(l:List OQ)(i):l.eraseIdx i=l.take i++l.drop (i+1):=List.eraseIdx_eq_take_drop_succ l i
theorem aJc[aB Φ]{g cap l i}(hi:i<l.length)(hlen:l.length<=500)(cx:Ctx W w (.buf (some ⟨g,0,none⟩) l.length cap (fW l) 267 3 :: S) Φ){K}(hk:∀ w',Ctx W w' (.buf (some ⟨g,0,none⟩) (l.eraseIdx i).length cap (fW (l.eraseIdx i)) 267 3 :: S) Φ->K (.returned (.slice (some ⟨g,0,none⟩) (l.eraseIdx i).length cap)) w'):
  aD F.fB #[.slice (some ⟨g,0,none⟩) l.length cap,.int .i64 (i:Int),.int .i64 ((i:Int)+1)] w K:=by
 obtain ⟨_,hnc,hcm⟩:=cx.tT 0 rfl;have hel:(l.eraseIdx i).length=l.length - 1:=List.length_eraseIdx_of_lt hi;have hpl:=DJ l;refine gC (nD (some ⟨g,0,none⟩) l.length cap (i:Int) ((i:Int)+1) (J:=K∘.returned) cx ⟨by omega,Br.intro (λh=>by have:=eR h;omega) (λ_=>⟨[],XN,aM,λw G cx=>(Ctx.right cx).weak λ_ _ _=>trivial,by omega,by omega,λw G cx=>?_⟩)⟩);obtain ⟨inf,z,e1,e2,e3,e4,e5,e6⟩:=vT (P:=prog) (ts:=109) (t:=267) (size:=3) (bytes:=32) (by kernel_rfl)
 have hj:((i:Int)+1).toNat=i+1:=by omega
 have hi0:((i:Int)).toNat=i:=Int.toNat_natCast i;rw [hj,hi0];have s0:dA (some (⟨g,0,none⟩:Addr)) 3 0 cap=some ⟨g,0,none⟩:=by unfold dA;split<;>simp [Addr.add]
 rw [s0];obtain ⟨a,ha,hsrc⟩:∃ a:Addr,dA (some (⟨g,0,none⟩:Addr)) 3 (i+1) cap=some a/\∀ j u,(fW (l.drop (i+1)))[j]? = some u->w.cell? (a.add j)=some u:=by
  unfold dA;by_cases hc:cap=i+1
  .rw [if_pos hc];refine ⟨_,rfl,λj u hu=>?_⟩;rw [List.drop_eq_nil_of_le (by omega)] at hu;simp [fW] at hu
  .rw [if_neg hc,Option.map_some,Addr.add_lit,Nat.zero_add];refine ⟨_,rfl,λj u hu=>?_⟩;rw [<-UX,List.getElem?_drop] at hu;rw [Addr.add_lit];exact cx.aIa 0 rfl rfl hu
 rw [ha];have TL:(fW (l.drop (i+1))).length=(l.length - (i+1))*3:=by rw [DJ,List.length_drop]
 have can:aG w g (i*3) ((l.length - (i+1))*3):=cx.aAt 0 rfl rfl (by rw [hpl];omega);have hr:=run_append_room_cells (P:=prog) (w:=w) 109 109 267 inf e1 e2 g 0 i cap a (l.length - (i+1)) (cap - (i+1)) (fW (l.drop (i+1))) (by rw [TL,e4]) hsrc
  (λu hu=>by have:=aMN _ u hu;cases u<;>simp_all [nM,Value.oneCell']) (by omega) (λj hj=>by rw [TL] at hj;rw [e4,Nat.zero_add];exact (can j hj).1) (λj hj=>by rw [TL] at hj;rw [e4,Nat.zero_add];exact (can j hj).2)
 rw [e4,Nat.zero_add] at hr;have c1:=cx.XZ 0 rfl rfl (by rw [hpl];omega) (by rw [TL,hpl];omega) (w':=w.setCells g (i*3) (fW (l.drop (i+1)))) rfl;refine ⟨_,_,_,_,vE hr,.buf (some ⟨g,0,none⟩) l.length cap (nN (fW l) (i*3) (fW (l.drop (i+1)))) 267 3 :: S,Φ,aM,c1,by omega,λw G cx=>?_⟩;have hk9:((i+(l.length - (i+1)):Nat):Int).toNat=l.length - 1:=by omega
 rw [hk9];have hne:¬ cap=l.length - 1:=by omega
 have s1:dA (some (⟨g,0,none⟩:Addr)) 3 (l.length - 1) cap=some ⟨g,(l.length - 1)*3,none⟩:=by unfold dA;rw [if_neg hne,Option.map_some,Addr.add_lit,Nat.zero_add]
 have hn1:((l.length:Nat):Int).toNat - (l.length - 1)=1:=by omega
 rw [s1,hn1];have mF:(nN (fW l) (i*3) (fW (l.drop (i+1)))).length=l.length*3:=by rw [IX,hpl]
 have aWQ:aG w g ((l.length - 1)*3) (1*3):=cx.aAt 0 rfl rfl (by rw [mF];omega);have tC:=aEY (P:=prog) w 109 267 0 _ e1 aWP (by decide) (by decide) g ((l.length - 1)*3) 1 (cap - (l.length - 1)) (by omega) (λj hj=>(aWQ j hj).1) (λj hj=>(aWQ j hj).2);have hzl:(Builtin.zeroCells (Value.agg #[.int .i64 0,.int .i64 0,.string (ByteArray.mk #[])]).cells 1).toList.length=3:=by
  simp only [Builtin.zeroCells,Array.toList_map,List.length_map];rw [Array.length_toList,Array.size_range];rfl
 have c2:=cx.XZ 0 rfl rfl (by rw [mF];omega) (by rw [mF,hzl];omega) (w':=w.setCells g ((l.length - 1)*3) (Builtin.zeroCells (Value.agg #[.int .i64 0,.int .i64 0,.string (ByteArray.mk #[])]).cells 1).toList) rfl;have c3:=Ctx.Y4 (k:=l.length - 1) c2 (by omega);rw [aEZ,KP _ _ _ (by rw [TL,hpl];omega)] at c3;have e7:((fW l).take (i*3)++fW (l.drop (i+1))++(fW l).drop (i*3+(fW (l.drop (i+1))).length)).take ((l.length - 1)*3)=fW (l.eraseIdx i):=by
  rw [erase_eq,a0W,a3O];exact List.take_left' (by rw [List.length_append,TL,DJ,List.length_take,Nat.min_eq_left (by omega)];omega)
 rw [e7] at c3;refine ⟨_,RT tC,.buf (some ⟨g,0,none⟩) (l.eraseIdx i).length cap (fW (l.eraseIdx i)) 267 3 :: S,Φ,aM,by rw [hel];exact c3,λw G cx=>?_⟩;have e8:i+(l.length - (i+1))=(l.eraseIdx i).length:=by omega
 rw [e8];exact hk w cx.left
theorem aC4{l p cap}(cx:Ctx W w (.buf p l.length cap (fW l) 267 3 :: S) Φ)(h:0<l.length):∃ g,p=some ⟨g,0,none⟩:=by
 obtain ⟨b,hb,_⟩:=cx.oG 0 rfl (by rw [DJ];omega);exact ⟨b,hb⟩
theorem aC5{l g cap}(cx:Ctx W w (.buf (some ⟨g,0,none⟩) l.length cap (fW l) 267 3 :: S) Φ){i p}(h:l[i]? = some p):bM w g (0+i*3) (qB p):=by
 rw [Nat.zero_add];refine cx.aAs 0 rfl rfl λj hj=>?_;rw [aI8 h j hj,List.getElem?_eq_getElem hj]
def iR(n:JM)(i:Int):Option OQ:=if i<0 then none else n.aH[i.toNat]?
abbrev aJd:OQ:=⟨0,0,ByteArray.mk #[]⟩
theorem aE1{i}(h:iR n i=none):i<0\/(n.aH.length:Int)<=i:=by
 unfold iR at h;split at h
 .exact .inl ‹_›
 .have:=List.getElem?_eq_none_iff.1 h;omega
theorem a3Q{i p}(h:iR n i=some p):0<=i/\i<n.aH.length/\n.aH[i.toNat]? = some p:=by
 unfold iR at h;split at h
 .cases h
 .have:=(List.getElem?_eq_some_iff.1 h).1;exact ⟨by omega,by omega,h⟩
theorem a3R[aB Φ](hl:n.aH.length<=500){i}(cx:Ctx W w (fX N n++S) Φ){K}(h0:∀ w',iR n i=none->Ctx W w' (fX N n++S) Φ->K (.returned (.tuple #[aI6 aJd,.bool false])) w')(h1:∀ p w',iR n i=some p->Ctx W w' (fX N (takeN n i.toNat)++S) Φ->K (.returned (.tuple #[aI6 p,.bool true])) w'):
  aD F.xE #[.pointer (some ⟨N.nb,0,none⟩),.int .i64 i] w K:=by
 refine gC (RN N.nb 0 i (J:=K∘.returned) cx λ_ w G cx=>⟨_,_,_,λ_=>cx.get 0 rfl rfl,Br.intro (λh=>λw G cx=>?_) (λh=>λw G cx=>⟨_,_,_,cx.get 0 rfl rfl,?_⟩)⟩)
 .refine h0 w ?_ cx.left;simp only [Bool.or_eq_true,decide_eq_true_eq] at h;unfold iR;split
  .rfl
  .exact List.getElem?_eq_none (by omega)
 .simp only [Bool.or_eq_false_iff,decide_eq_false_iff_not] at h;obtain ⟨k,rfl⟩:∃ k:Nat,i=k:=⟨i.toNat,by omega⟩;have hk:k<n.aH.length:=by omega
  obtain ⟨pk,hp⟩:∃ p,n.aH[k]? = some p:=⟨_,List.getElem?_eq_getElem hk⟩;have sw:∀ {w:World} {G:List Own},Ctx W w ((fX N n++S)++G) Φ->Ctx W w (.buf N.fp n.aH.length N.fc (fW n.aH) 267 3 :: (.blk N.nb (SI N n) 251 :: S++G)) Φ:=λcx=>cx.perm (.swap _ _ _);obtain ⟨g,hg⟩:=aC4 (sw cx) (by omega);have ht:iR n (k:Int)=some pk:=by unfold iR;rw [if_neg (by omega),Int.toNat_natCast];exact hp
  refine ⟨by omega,aW g 0 hg λw G cx=>⟨pk.src,pk.to,pk.body,by
   have c1:=sw cx;rw [hg] at c1;rw [Int.toNat_natCast];exact aC5 c1 hp,λ_ w G cx=>⟨_,_,_,cx.get 0 rfl rfl,by unfold aY;omega,λw G cx=>?_⟩⟩⟩
  have c1:=sw cx;rw [hg] at c1 ⊢;refine aJc hk hl c1 λw cx=>⟨_,_,_,rfl,.buf (some ⟨g,0,none⟩) (n.aH.eraseIdx k).length N.fc (fW (n.aH.eraseIdx k)) 267 3 :: (.blk N.nb (SI N n) 251 :: S),Φ,aM,cx,λw G cx=>⟨cx.can 1 rfl (by show 0+1<=2;omega),λw' hw'=>⟨.buf (some ⟨g,0,none⟩) (n.aH.eraseIdx k).length N.fc (fW (n.aH.eraseIdx k)) 267 3 :: (.blk N.nb [.slice (some ⟨g,0,none⟩) (n.aH.eraseIdx k).length N.fc,.int .i64 n.split] 251 :: S),Φ,aM,cx.put 1 hw' rfl,λw G cx=>?_⟩⟩⟩
  refine h1 pk w ht ?_;rw [Int.toNat_natCast];have c2:=cx.left.perm (.swap _ _ _);show Ctx W w (.blk N.nb [.slice N.fp _ N.fc,_] 251 :: .buf N.fp _ N.fc _ 267 3 :: S) Φ;rw [hg];exact c2
theorem a5v[aB Φ](hl:n.aH.length<=500){i}(cx:Ctx W w (fX N n++S) Φ){K}(h0:∀ w',iR n i=none->Ctx W w' (fX N n++S) Φ->K (.returned (.tuple #[aI6 aJd,.int .i64 4])) w')(h1:∀ p w',iR n i=some p->yX n.split p.src p.to=false->Ctx W w' (fX N (takeN n i.toNat)++S) Φ->K (.returned (.tuple #[aI6 aJd,.int .i64 10])) w')(h2:∀ p w',iR n i=some p->yX n.split p.src p.to=true->Ctx W w' (fX N (takeN n i.toNat)++S) Φ->K (.returned (.tuple #[aI6 p,.int .i64 0])) w'):
  aD F.wI #[.pointer (some ⟨N.nb,0,none⟩),.int .i64 i] w K:=by
 refine gC (IV N.nb 0 i (J:=K∘.returned) cx λ_ w G cx=>?_);refine a3R (N:=N) (n:=n) (S:=S++G) hl (by rw [<-aX];exact cx) (λw ht cx=>⟨_,_,_,_,rfl,fX N n++S,Φ,aM,by rw [aX];exact cx,λ_=>Br.intro (λh=>λw G cx=>h0 w ht cx.left) (λh=>by cases h)⟩) (λp w ht cx=>⟨_,_,_,_,rfl,fX N (takeN n i.toNat)++S,Φ,aM,by rw [aX];exact cx,λ_=>Br.intro (λh=>by cases h) (λh=>λw G cx=>?_)⟩);refine a3P (N:=N) (n:=takeN n i.toNat) (S:=S++G) (by rw [<-aX];exact cx) λw cx=>⟨_,rfl,fX N (takeN n i.toNat)++S,Φ,aM,by rw [aX];exact cx,Br.intro (λh=>λw G cx=>h1 p w ht (by have h:(!yX n.split p.src p.to)=true:=h;simpa using h) cx.left) (λh=>λw G cx=>h2 p w ht (by have h:(!yX n.split p.src p.to)=false:=h;simpa using h) cx.left)⟩
theorem aE2[aB Φ](hl:n.aH.length<=500){i}(cx:Ctx W w (fX N n++S) Φ){K}(h0:∀ w',iR n i=none->Ctx W w' (fX N n++S) Φ->K (.returned (.int .i64 4)) w')(h1:∀ p w',iR n i=some p->Ctx W w' (fX N (takeN n i.toNat)++S) Φ->K (.returned (.int .i64 0)) w'):
  aD F.E2 #[.pointer (some ⟨N.nb,0,none⟩),.int .i64 i] w K:=by
 refine gC (RJ N.nb 0 i (J:=K∘.returned) cx λw G cx=>?_);refine a3R (N:=N) (n:=n) (S:=S++G) hl (by rw [<-aX];exact cx) (λw ht cx=>⟨_,_,_,_,rfl,fX N n++S,Φ,aM,by rw [aX];exact cx,λ_=>Br.intro (λh=>λw G cx=>h0 w ht cx.left) (λh=>by cases h)⟩) (λp w ht cx=>⟨_,_,_,_,rfl,fX N (takeN n i.toNat)++S,Φ,aM,by rw [aX];exact cx,λ_=>Br.intro (λh=>by cases h) (λh=>λw G cx=>h1 p w ht cx.left)⟩)
theorem a8p[aB Φ](hl:n.aH.length<=500){i}(cx:Ctx W w (fX N n++S) Φ){K}(h0:∀ w',iR n i=none->Ctx W w' (fX N n++S) Φ->K (.returned (.int .i64 4)) w')(h1:∀ p w',iR n i=some p->500<=n.aH.length->Ctx W w' (fX N n++S) Φ->K (.returned (.int .i64 6)) w')(h2:∀ p fp fc w',iR n i=some p->¬ 500<=n.aH.length->Ctx W w' (fX ⟨N.nb,fp,fc⟩ { n with aH:=n.aH++[p] }++S) Φ->K (.returned (.int .i64 0)) w'):
  aD F.yC #[.pointer (some ⟨N.nb,0,none⟩),.int .i64 i] w K:=by
 refine gC (LZ N.nb 0 i (J:=K∘.returned) cx λw G cx=>⟨_,_,_,λ_=>cx.get 0 rfl rfl,Br.intro (λh=>λw G cx=>?_) (λh=>λw G cx=>⟨_,_,_,cx.get 0 rfl rfl,?_⟩)⟩)
 .refine h0 w ?_ cx.left;simp only [Bool.or_eq_true,decide_eq_true_eq] at h;unfold iR;split
  .rfl
  .exact List.getElem?_eq_none (by omega)
 simp only [Bool.or_eq_false_iff,decide_eq_false_iff_not] at h;obtain ⟨k,rfl⟩:∃ k:Nat,i=k:=⟨i.toNat,by omega⟩;have hk:k<n.aH.length:=by omega
 obtain ⟨pk,hp⟩:∃ p,n.aH[k]? = some p:=⟨_,List.getElem?_eq_getElem hk⟩;have ht:iR n (k:Int)=some pk:=by unfold iR;rw [if_neg (by omega),Int.toNat_natCast];exact hp
 have sw:∀ {w:World} {G:List Own},Ctx W w ((fX N n++S)++G) Φ->Ctx W w (.buf N.fp n.aH.length N.fc (fW n.aH) 267 3 :: (.blk N.nb (SI N n) 251 :: S++G)) Φ:=λcx=>cx.perm (.swap _ _ _);obtain ⟨g,hg⟩:=aC4 (sw cx) (by omega);refine Br.intro (λh5=>λw G cx=>h1 pk w ht (by have:=eR h5;omega) cx.left) (λh5=>?_);have h5:¬ 500<=n.aH.length:=by have:=dD h5;omega
 refine ⟨.buf N.fp n.aH.length N.fc (fW n.aH) 267 3 :: [.blk N.nb (SI N n) 251],XN,aM,λw G cx=>((sw cx).sub (by simp)).weak λ_ _ _=>trivial,_,_,_,λw G cx=>⟨_,_,_,cx.get 1 rfl rfl,rfl⟩,_,_,_,λw G cx=>⟨_,_,_,cx.get 1 rfl rfl,rfl⟩,by omega,aW g 0 hg ⟨pk.src,pk.to,pk.body,λw G cx=>⟨_,_,_,by
  rw [hg] at cx;rw [Int.toNat_natCast];exact aC5 cx hp,rfl⟩,λb=>⟨λw G cx=>((sw (Ctx.drop1 cx)).sub (by simp)).weak λ_ _ _=>trivial,λw G cx=>?_⟩⟩⟩
 have c1:Ctx W w (.buf N.fp n.aH.length N.fc (fW n.aH) 267 3 :: (.blk b (qB pk) 267 :: .blk N.nb (SI N n) 251 :: S++G)) Φ:=cx.perm (by
  show (Own.blk b (qB pk) 267 :: .blk N.nb (SI N n) 251 :: .buf N.fp n.aH.length N.fc (fW n.aH) 267 3 :: (S++G)).Perm (.buf N.fp n.aH.length N.fc (fW n.aH) 267 3 :: .blk b (qB pk) 267 :: .blk N.nb (SI N n) 251 :: (S++G));exact (List.Perm.cons _ (.swap _ _ _)).trans (.swap _ _ _))
 obtain ⟨inf,z,e1,e2,e3,e4,e5,e6⟩:=vT (P:=prog) (ts:=109) (t:=267) (size:=3) (bytes:=32) (by kernel_rfl);obtain ⟨p',c',w',X,hr,c2,back⟩:=Ctx.aMM (P:=prog) (ts:=109) (ty:=109) c1 (by rw [DJ];omega) e1 e2 e3 e4 e5 (a:=⟨b,0,none⟩) (m:=1) (c2:=1) (news:=qB pk) (by omega) rfl (λj u hj=>by rw [Addr.add_lit,Nat.zero_add];exact c1.get 1 rfl hj) (λu hu=>by simp only [qB,List.mem_cons,List.not_mem_nil,or_false] at hu;rcases hu with rfl|rfl|rfl<;>rfl) (by rw [e6];omega) (by omega)
 refine ⟨_,_,_,_,vE hr,(.buf p' (n.aH.length+1) c' (fW n.aH++qB pk) 267 3 :: X)++(.blk N.nb (SI N n) 251 :: S),Φ,aM,by
   have:=c2.perm (show ((Own.buf p' (n.aH.length+1) c' (fW n.aH++qB pk) 267 3 :: X)++(.blk b (qB pk) 267 :: (.blk N.nb (SI N n) 251 :: S++G))).Perm (.blk b (qB pk) 267 :: ((Own.buf p' (n.aH.length+1) c' (fW n.aH++qB pk) 267 3 :: X)++(.blk N.nb (SI N n) 251 :: S++G))) from List.perm_middle);have:=Ctx.drop1 this;rw [aX];exact this,λw G cx=>((back (by rw [aX] at cx;exact cx)).sub (by simp)).weak λ_ _ _=>trivial,λw G cx=>?_⟩
 have c3:Ctx W w (.blk N.nb (SI N n) 251 :: ((.buf p' (n.aH.length+1) c' (fW n.aH++qB pk) 267 3 :: X)++(S++G))) Φ:=by
  rw [aX] at cx;exact cx.perm List.perm_middle
 refine ⟨c3.can 0 rfl (by show 0+1<=2;omega),λw' hw'=>⟨.blk N.nb [.slice p' (n.aH.length+1) c',.int .i64 n.split] 251 :: .buf p' (n.aH.length+1) c' (fW n.aH++qB pk) 267 3 :: S,Φ,aM,(c3.put 0 hw' rfl).sub (by
  show (Own.blk N.nb [.slice p' (n.aH.length+1) c',.int .i64 n.split] 251 :: .buf p' (n.aH.length+1) c' (fW n.aH++qB pk) 267 3 :: (S++G)).Sublist (_ :: (_ :: X++(S++G)));exact List.Sublist.cons_cons _ (List.Sublist.cons_cons _ (List.sublist_append_right _ _))),λw G cx=>?_⟩⟩
 have e7:fW n.aH++qB pk=fW (n.aH++[pk]):=by rw [a0W];rfl
 have e8:n.aH.length+1=(n.aH++[pk]).length:=by simp
 rw [e7,e8] at cx;exact h2 pk p' c' w ht h5 cx.left
theorem aA5[aB Φ]{m}(cx:Ctx W w (fX N n++S) Φ){K}(hk:∀ w',Ctx W w' (fX N { n with split:=m % 65536 }++S) Φ->K (.returned (.tuple #[])) w'):
  aD F.BE #[.pointer (some ⟨N.nb,0,none⟩),.int .i64 m] w K:=by
 refine gC (O6 N.nb 0 m (J:=K∘.returned) cx ⟨m % 65536,λw=>aJa m w,λw G cx=>⟨cx.can 0 rfl (by show 1+1<=2;omega),λw' hw'=>⟨fX N { n with split:=m % 65536 }++S,Φ,aM,cx.put 0 hw' rfl,λw G cx=>hk w cx.left⟩⟩⟩)
theorem aE3[aB Φ](cx:Ctx W w (fX N n++S) Φ){K}(hk:∀ w',Ctx W w' (fX N { n with split:=0 }++S) Φ->K (.returned (.tuple #[])) w'):
  aD F.E0 #[.pointer (some ⟨N.nb,0,none⟩)] w K:=by
 refine gC (RH N.nb 0 (J:=K∘.returned) cx λw G cx=>⟨cx.can 0 rfl (by show 1+1<=2;omega),λw' hw'=>⟨fX N { n with split:=0 }++S,Φ,aM,cx.put 0 hw' rfl,λw G cx=>hk w cx.left⟩⟩)
theorem aA6[aB Φ](cx:Ctx W w (fX N n++S) Φ){K}(hk:∀ w',Ctx W w' (fX N n++S) Φ->K (.returned (.int .i64 (n.aH.length:Int))) w'):
  aD F.BF #[.pointer (some ⟨N.nb,0,none⟩)] w K:=by
 refine gC (O8 N.nb 0 (J:=K∘.returned) cx λw G cx=>⟨_,_,_,cx.get 0 rfl rfl,λw G cx=>hk w cx.left⟩)
end
end Go.Proofs.YtnlkemjhgdbfkaaGreatDoor
end

section
namespace Go.Proofs.YtnlkemjhgdbfkaaGreatDoor
open Go.Vc
def a0X(W:World)(J:Int->List Own->PW->Prop):List (FuncId × Array Value)->List Own->PW->Prop
 | [],R,Φ=>J 0 R Φ
 | f :: fs,R,Φ=>qZ prog f.1=true/\∀ w G,Ctx W w (R++G) Φ->Calls prog f.1 f.2 w λe w'=>∃ n:Int,e=.returned (.int .i64 n)/\∃ R' aU,aB aU/\Ctx W w' (R'++G) aU/\(n≠0->J n R' aU)/\(n=0->a0X W J fs R' aU)
abbrev aA7(fs:List (FuncId × Array Value)):List Value:=fs.map λf=>Value.func (.func f.1) #[] f.2
theorem a3S{W w S}{Φ:PW}[aB Φ]{J fs k}(hl:fs.length<=1000)(cx:Ctx W w (.blk k (aA7 fs) 258 :: S) Φ)(h:a0X W J fs S Φ){K}(hk:∀ n S' aU w',aB aU->J n S' aU->Ctx W w' S' aU->K (.returned (.int .i64 n)) w'):aD F.AR #[.slice (some ⟨k,0,none⟩) fs.length fs.length] w K:=by
 refine gC (UD (some ⟨k,0,none⟩) fs.length fs.length (J:=K∘.returned) cx ?_);refine dN (λnI R' aU κ=>∃ (i:Nat) (S':List Own),nI=i/\i<=fs.length/\κ=fs.length - i/\R'=.blk k (aA7 fs) 258 :: S'/\a0X W J (fs.drop i) S' aU) ⟨⟨_,Φ,_,aM,λw G cx=>cx,0,S,rfl,Nat.zero_le _,rfl,rfl,h⟩,?_⟩;rintro nI R' aU κ hst ⟨i,S',rfl,hi,rfl,rfl,hF⟩;refine Br.intro (λhlt=>?_) (λhge=>λw G cx=>?_)
 .have hlt:i<fs.length:=by have:=eR hlt;omega
  have ed:fs.drop i=fs[i] :: fs.drop (i+1):=List.drop_eq_getElem_cons hlt;rw [ed] at hF;obtain ⟨hok,hF⟩:=hF;refine ⟨by omega,aW k 0 rfl λw G cx=>⟨fs[i].1,#[],fs[i].2,?_,λw G cx=>⟨hok,?_⟩⟩⟩
  .refine cx.get 0 rfl ?_;rw [Nat.zero_add,Int.toNat_natCast,List.getElem?_map,List.getElem?_eq_getElem hlt];rfl
  .refine (hF w (.blk k (aA7 fs) 258 :: G) (cx.perm List.perm_middle.symm)).mono λe w' ⟨n,he,R1,cF,h1,c1,h2,h3⟩=>?_
   haveI:=h1
   refine ⟨n,he,.blk k (aA7 fs) 258 :: R1,cF,h1,c1.perm List.perm_middle,Br.intro (λhn=>λw G cx=>?_) (λhn=>⟨by unfold aY;omega,_,cF,_,h1,λw G cx=>cx,⟨i+1,R1,by omega,by omega,rfl,rfl,h3 (by simpa using hn)⟩,by omega⟩)⟩;exact hk n R1 cF w h1 (h2 (eR hn)) (Ctx.drop1 cx.left)
 .have he:i=fs.length:=by have:=dD hge;omega
  subst he;rw [List.drop_length] at hF;exact hk 0 S' aU w hst hF (Ctx.drop1 cx.left)
section
variable {W w:World}{S:List Own}{Φ:PW}
theorem aJe[aB Φ](hN:∀ M w,Φ M w->uL M w){cb q c}(hl:c.value.length<=1000000000)(cx:Ctx W w (eX cb q c :: S) Φ){K}(hk:∀ w',Ctx W w' (eX cb q c :: S) Φ->K (.returned (.agg #[.int .i64 (lM c).1,.int .i64 (lM c).2])) w'):aD F.NJ #[.pointer (some ⟨cb,0,none⟩)] w K:=by
 unfold lM at hk;refine gC (XG cb 0 (J:=K∘.returned) cx λ_ w G cx=>a8i (S:=S++G) cx λw cx=>⟨_,_,rfl,eX cb q c :: S,Φ,aM,cx,Br.intro (λh=>λw G cx=>?_) (λh=>λw G cx=>?_)⟩)
 .have h:c.slot=0:=by
   have:¬ 0<c.slot:=by simpa using h
   omega
  rw [if_pos h] at hk;exact hk w cx.left
 .have h:¬ c.slot=0:=by
   have:0<c.slot:=by simpa using h
   omega
  rw [if_neg h] at hk;have hlen:(eI (c.value,false)).2.1.length<=c.value.length:=rF 59 _ (c.value,false);refine J9 c.value cx λb w cx=>⟨_,rfl,rd b (c.value,false) :: eX cb q c :: S,Φ,aM,cx,λw G cx=>S0 (S:=eX cb q c :: S) hN (by show c.value.length<=_;omega) cx (λw G cx=>S0 (S:=eX cb q c :: S) hN (by omega) cx (λw G cx=>hk w (Ctx.left (Ctx.drop1 cx))))⟩
theorem SJ[aB Φ](hN:∀ M w,Φ M w->uL M w){q x j}(hsb:SB x.p x.cap j.list x.o)(hl:j.list.length<=1000000)(hsz:∀ s∈j.list,s.size<=100000000)(hok:∀ s∈j.list,(nP s).Ok)(cx:Ctx W w (eJ x q j++S) Φ){K}(hk:∀ p c w',Ctx W w' (eJ x q j++S) (λM w=>Φ M w/\Sl M w p (j.list.map nP))->K (.returned (.slice p (j.list.map nP).length c)) w'):
  aD F.v8 #[.pointer (some ⟨x.jb,0,none⟩)] w K:=by
 refine gC (O7 x.jb 0 (J:=K∘.returned) cx λw G cx=>aMK (S:=S++G) hsb (by omega) cx λb w cx=>⟨_,_,_,rfl,.blk b (dS j.list) 9 :: (eJ x q j++S),Φ,aM,cx,?_⟩);refine dN (λp k c nI R' aU κ=>∃ i:Nat,nI=i/\i<=j.list.length/\κ=j.list.length - i/\k=((j.list.take i).map nP).length/\R'=.buf p k c (aZ ((j.list.take i).map nP)) 216 2 :: .blk b (dS j.list) 9 :: (eJ x q j++S)/\aU=Φ) ⟨⟨_,Φ,_,aM,λw G cx=>cx.aDE 216 2,0,rfl,Nat.zero_le _,rfl,rfl,rfl,rfl⟩,?_⟩
 rintro p k c nI R' aU κ hst ⟨i,rfl,hi,rfl,rfl,rfl,rfl⟩;refine Br.intro (λhlt=>?_) (λhge=>λw G cx=>?_)
 .have hlt:i<j.list.length:=by have:=eR hlt;omega
  have hmem:j.list[i]∈j.list:=List.getElem_mem hlt;refine ⟨by omega,aW b 0 rfl λw G cx=>⟨j.list[i],?_,λw G cx=>?_⟩⟩
  .refine cx.get 1 rfl ?_;rw [Nat.zero_add,Int.toNat_natCast,List.getElem?_map,List.getElem?_eq_getElem hlt];rfl
  .have hr:=aAZ (Φ:=aU) hN j.list[i].data.toList (by rw [gD];have:=hsz _ hmem;omega);have ex:∃ y:Bool,aWL (WC j.list[i].data.toList)=.tuple #[(nP j.list[i]).v,.bool y]:=by
    unfold nP;cases WC j.list[i].data.toList with
    | none=>exact ⟨false,rfl⟩
    | some y=>exact ⟨true,rfl⟩
   obtain ⟨y,hy⟩:=ex;rw [hy] at hr;obtain ⟨z,hz⟩:∃ z,nP j.list[i]=z:=⟨_,rfl⟩;rw [hz] at hr;refine hr.use cx λw cx=>⟨z.term,z.data,y,rfl,_,aU,aM,cx,λ_ b2 w G cx=>?_⟩;obtain ⟨p',c',w',hrun,c2⟩:=aCZ (x:=z) (by rw [List.length_map,List.length_take];omega) cx;have et:(j.list.take i).map nP++[z]=(j.list.take (i+1)).map nP:=by
    rw [List.take_add_one,List.getElem?_eq_getElem hlt,List.map_append,<-hz];rfl
   rw [et] at hrun c2;exact ⟨_,_,_,w',hrun,_,aU,aM,c2,by unfold aY;omega,_,aU,_,aM,λw G cx=>cx,⟨i+1,by omega,by omega,rfl,rfl,rfl,rfl⟩,by omega⟩
 .have he:i=j.list.length:=by have:=dD hge;omega
  subst he;rw [List.take_length] at cx ⊢;have c1:Ctx W w (.buf p (j.list.map nP).length c (aZ (j.list.map nP)) 216 2 :: .blk b (dS j.list) 9 :: ((eJ x q j++S)++G)) aU:=cx;obtain ⟨c2,hs,_⟩:=Ctx.freeze (α:=bT) c1 (uF λy hy=>by
   obtain ⟨s,hs,rfl⟩:=List.mem_map.1 hy;exact hok s hs)
  have hs':Sl (dom (.blk b (dS j.list) 9 :: ((eJ x q j++S)++G))) w p (j.list.map nP):=hs;exact hk p c w ((c2.add (Ψ:=λM w=>Sl M w p (j.list.map nP)) hs').drop1.left)
abbrev dJ:Value:=.pointer none
def FJ(cs:List Value)(mO:Nat):List Value:=((cs.set (mO+1) dJ).set (mO+2) dJ).set (mO+3) dJ
theorem a0Y[aB Φ]{gb mO cs}(hm:mO+4<=cs.length)(cx:Ctx W w (.blk gb cs 135 :: S) Φ){K}(hk:∀ w',Ctx W w' (.blk gb (FJ cs mO) 135 :: S) Φ->K (.returned (.tuple #[])) w'):
  aD F.jV #[.pointer (some ⟨gb,mO,none⟩)] w K:=by
 refine gC (EL gb mO (J:=K∘.returned) cx λw G cx=>⟨cx.can 0 rfl (by omega),λw' hw'=>⟨.blk gb (cs.set (mO+1) dJ) 135 :: S,Φ,aM,cx.put 0 hw' rfl,λw G cx=>⟨cx.can 0 rfl (by rw [List.length_set];omega),λw' hw'=>⟨.blk gb ((cs.set (mO+1) dJ).set (mO+2) dJ) 135 :: S,Φ,aM,cx.put 0 hw' rfl,λw G cx=>⟨cx.can 0 rfl (by rw [List.length_set,List.length_set];omega),λw' hw'=>⟨.blk gb (FJ cs mO) 135 :: S,Φ,aM,cx.put 0 hw' rfl,λw G cx=>hk w cx.left⟩⟩⟩⟩⟩⟩)
abbrev pA(b:Nat):Value:=.pointer (some ⟨b,0,none⟩)
abbrev kM(k0 gb mO:Nat):Own:=.blk k0 [.pointer (some ⟨gb,mO,none⟩)] 139
abbrev kJ(k1:Nat)(v:Value):Own:=.blk k1 [v] 128
abbrev kC(k2:Nat)(v:Value):Own:=.blk k2 [v] 129
abbrev kG(gb:Nat)(cs:List Value):Own:=.blk gb cs 135
theorem aA8[aB Φ]{k0 gb mO cs q d}(hcs:cs[mO]? = some (.pointer (some ⟨q.db,0,none⟩)))(hq:pL q d)(hkp:JR Φ q d)(cx:Ctx W w (kM k0 gb mO :: kG gb cs :: (b8 q d++S)) Φ){K}(hk:∀ u w',pL (q.mv u) (bH d 2).1->Ctx W w' (kM k0 gb mO :: kG gb cs :: (b8 (q.mv u) (bH d 2).1++S)) Φ->K (.returned (.int .i64 (bH d 2).2)) w'):
  aD F.iN #[.pointer (some ⟨k0,0,none⟩)] w K:=by
 refine gC (BX k0 0 (J:=K∘.returned) cx λw G cx=>⟨_,cx.get 0 rfl rfl,aW gb mO rfl λw G cx=>⟨some ⟨q.db,0,none⟩,cx.get 1 rfl hcs,λw G cx=>?_⟩⟩);refine DI (S:=[kM k0 gb mO,kG gb cs]++(S++G)) hq hkp (JS (A:=[kM k0 gb mO,kG gb cs]) cx) λu w hq1 cx=>⟨_,rfl,[kM k0 gb mO,kG gb cs]++(b8 (q.mv u) (bH d 2).1++S),Φ,aM,uR cx,λw G cx=>hk u w hq1 cx.left⟩
theorem aA9[aB Φ](hoff:∀ M w,Φ M w->sS M w)(hN:∀ M w,Φ M w->uL M w){k1 k0 gb mO jp cs q d}(hcs:cs[mO]? = some (.pointer (some ⟨q.db,0,none⟩)))(hq:pL q d)(hkp:JR Φ q d)(cx:Ctx W w (kJ k1 jp :: kM k0 gb mO :: kG gb cs :: (b8 q d++S)) Φ){K}(hn:∀ u d' e w',rI d 0=(d',none,e)->pL (q.mv u) d'->d'.keep=d.keep->Ctx W w' (kJ k1 dJ :: kM k0 gb mO :: kG gb cs :: (b8 (q.mv u) d'++S)) Φ->K (.returned (.int .i64 e)) w')(hs:∀ u x d' j w',rI d 0=(d',some j,0)->SB x.p x.cap j.list x.o->pL (q.mv u) d'->d'.keep=d.keep->Ctx W w' (kJ k1 (pA x.jb) :: kM k0 gb mO :: kG gb cs :: (eJ x q j++(b8 (q.mv u) d'++S))) Φ->K (.returned (.int .i64 0)) w'):
  aD F.iO #[.pointer (some ⟨k0,0,none⟩),.pointer (some ⟨k1,0,none⟩)] w K:=by
 refine gC (BZ k0 0 k1 0 (J:=K∘.returned) cx λw G cx=>⟨_,cx.get 1 rfl rfl,aW gb mO rfl λw G cx=>⟨some ⟨q.db,0,none⟩,cx.get 2 rfl hcs,λw G cx=>?_⟩⟩);refine a3N (S:=[kJ k1 jp,kM k0 gb mO,kG gb cs]++(S++G)) hq hkp hoff hN (JS (A:=[kJ k1 jp,kM k0 gb mO,kG gb cs]) cx) (λu d' e w ho hq1 UY cx=>?_) (λu x d' j w ho hsb hq1 UY cx=>?_)
 .exact ⟨_,_,rfl,[kJ k1 jp,kM k0 gb mO,kG gb cs]++(b8 (q.mv u) d'++S),Φ,aM,uR cx,λw G cx=>⟨cx.can 0 rfl (by show 0+1<=1;omega),λw' hw'=>⟨kJ k1 dJ :: kM k0 gb mO :: kG gb cs :: (b8 (q.mv u) d'++S),Φ,aM,cx.put 0 hw' rfl,λw G cx=>hn u d' e w ho hq1 UY cx.left⟩⟩⟩
 .have c1:Ctx W w ((eJ x q j++b8 (q.mv u) d')++([kJ k1 jp,kM k0 gb mO,kG gb cs]++(S++G))) Φ:=by rw [aX];exact cx
  have c2:=uR (A:=[kJ k1 jp,kM k0 gb mO,kG gb cs]) c1;rw [aX (eJ x q j)] at c2;exact ⟨_,_,rfl,[kJ k1 jp,kM k0 gb mO,kG gb cs]++(eJ x q j++(b8 (q.mv u) d'++S)),Φ,aM,c2,λw G cx=>⟨cx.can 0 rfl (by show 0+1<=1;omega),λw' hw'=>⟨kJ k1 (pA x.jb) :: kM k0 gb mO :: kG gb cs :: (eJ x q j++(b8 (q.mv u) d'++S)),Φ,aM,cx.put 0 hw' rfl,λw G cx=>hs u x d' j w ho hsb hq1 UY cx.left⟩⟩⟩
theorem aBa[aB Φ](hoff:∀ M w,Φ M w->sS M w){k2 k0 gb mO cp cs q d}(hcs:cs[mO]? = some (.pointer (some ⟨q.db,0,none⟩)))(hq:pL q d)(cx:Ctx W w (kC k2 cp :: kM k0 gb mO :: kG gb cs :: (b8 q d++S)) Φ){K}(hn:∀ e w',vX d 2=(none,e)->Ctx W w' (kC k2 dJ :: kM k0 gb mO :: kG gb cs :: (b8 q d++S)) Φ->K (.returned (.int .i64 e)) w')(hs:∀ c cb w',vX d 2=(some c,0)->Ctx W w' (kC k2 (pA cb) :: kM k0 gb mO :: kG gb cs :: (eX cb q c :: (b8 q d++S))) Φ->K (.returned (.int .i64 0)) w'):
  aD F.iP #[.pointer (some ⟨k0,0,none⟩),.pointer (some ⟨k2,0,none⟩)] w K:=by
 refine gC (C6 k0 0 k2 0 (J:=K∘.returned) cx λw G cx=>⟨_,cx.get 1 rfl rfl,aW gb mO rfl λw G cx=>⟨some ⟨q.db,0,none⟩,cx.get 2 rfl hcs,λw G cx=>?_⟩⟩);refine a3K (S:=[kC k2 cp,kM k0 gb mO,kG gb cs]++(S++G)) hq hoff (JS (A:=[kC k2 cp,kM k0 gb mO,kG gb cs]) cx) (λe w ho cx=>?_) (λc cb w ho cx=>?_)
 .exact ⟨_,_,rfl,[kC k2 cp,kM k0 gb mO,kG gb cs]++(b8 q d++S),Φ,aM,uR cx,λw G cx=>⟨cx.can 0 rfl (by show 0+1<=1;omega),λw' hw'=>⟨kC k2 dJ :: kM k0 gb mO :: kG gb cs :: (b8 q d++S),Φ,aM,cx.put 0 hw' rfl,λw G cx=>hn e w ho cx.left⟩⟩⟩
 .have c2:=uR (A:=[kC k2 cp,kM k0 gb mO,kG gb cs]) (X:=eX cb q c :: b8 q d) (S:=S) (G:=G) cx;exact ⟨_,_,rfl,[kC k2 cp,kM k0 gb mO,kG gb cs]++(eX cb q c :: (b8 q d++S)),Φ,aM,c2,λw G cx=>⟨cx.can 0 rfl (by show 0+1<=1;omega),λw' hw'=>⟨kC k2 (pA cb) :: kM k0 gb mO :: kG gb cs :: (eX cb q c :: (b8 q d++S)),Φ,aM,cx.put 0 hw' rfl,λw G cx=>hs c cb w ho cx.left⟩⟩⟩
def up3(cs:List Value)(mO j c r:Nat):List Value:=((cs.set (mO+1) (pA j)).set (mO+2) (pA c)).set (mO+3) (pA r)
structure aE4(id:Nat)(up:XM):Prop where
 new:OE id up.r.term up.r.aO up.r.log=true
 len:up.j.list.length<=1000000
 size:∀ s∈up.j.list,s.size<=100000000
 ok:∀ s∈up.j.list,(nP s).Ok
 val:up.c.value.length<=1000000000
def b2j(id:Nat)(d:iM)(q:DkP)(k0 k1 k2 gb mO:Nat)(cs:List Value)(S:List Own)(Φ:PW)(n:Int)(R:List Own)(aU:PW):Prop :=
 aU=Φ/\((n≠0/\∃ (Bx:List Own) (u:DkU),(bD id d).2.1=none/\(bD id d).2.2=n/\pL (q.mv u) (bD id d).1/\(bD id d).1.keep=d.keep/\R=Bx++(kG gb cs :: (b8 (q.mv u) (bD id d).1++S))) \/ (n=0/\∃ (u:DkU) (x:JoP) (cb:Nat) (c:JC) (d':iM) (j:tG),bD id d=(d',some ⟨j,c,dU id (lM c).1 (lM c).2 (j.list.map nP)⟩,0)/\SB x.p x.cap j.list x.o/\pL (q.mv u) d'/\d'.keep=d.keep /\ R=kC k2 (pA cb) :: kJ k1 (pA x.jb) :: kM k0 gb mO :: kG gb cs :: (eJ x q j++(eX cb q c :: (b8 (q.mv u) d'++S)))))
theorem a0Z{d d' b e}(h:rI d b=(d',none,e)):e≠0:=by
 unfold rI at h;split at h
 .injection h with _ h;injection h with _ h;omega
 split at h
 .injection h with _ h;injection h with _ h;omega
 split at h
 .injection h with _ h;injection h with _ h;omega
 injection h with h1 h2;unfold JJ at h2;split at h2
 .rename_i e' ho;injection h2 with _ h2;rw [<-h2];exact OY ho
 .unfold a5n at h2;split at h2
  .injection h2 with _ h2;omega
  split at h2
  .injection h2 with _ h2;omega
  split at h2
  .injection h2 with _ h2;omega
  split at h2
  .injection h2 with _ h2;omega
  .injection h2 with h2 _;cases h2
theorem aWR[aB Φ](hoff:∀ M w,Φ M w->sS M w)(hN:∀ M w,Φ M w->uL M w){id gb mO k0 k1 k2 cs q d}(hcs:cs[mO]? = some (.pointer (some ⟨q.db,0,none⟩)))(hq:pL q d)(hkp:JR Φ q d):
  a0X W (b2j id d q k0 k1 k2 gb mO cs S Φ) [(F.iN,#[pA k0]),(F.iO,#[pA k0,pA k1]),(F.iP,#[pA k0,pA k2])] (kC k2 dJ :: kJ k1 dJ :: kM k0 gb mO :: kG gb cs :: (b8 q d++S)) Φ:=by
 refine ⟨by kernel_rfl,λw G cx=>?_⟩;have c1:Ctx W w (kM k0 gb mO :: kG gb cs :: (b8 q d++(kC k2 dJ :: kJ k1 dJ :: (S++G)))) Φ:=by
  have c2:=JS (A:=[kC k2 dJ,kJ k1 dJ,kM k0 gb mO,kG gb cs]) (X:=b8 q d) (S:=S) (G:=G) cx;exact c2.perm ((List.perm_append_comm_assoc (b8 q d) [kC k2 dJ,kJ k1 dJ,kM k0 gb mO,kG gb cs] (S++G)).trans ((List.perm_append_comm_assoc [kC k2 dJ,kJ k1 dJ] [kM k0 gb mO,kG gb cs] (b8 q d++(S++G))).trans (.append_left _ (List.perm_append_comm_assoc [kC k2 dJ,kJ k1 dJ] (b8 q d) (S++G)))))
 refine aA8 hcs hq hkp c1 λu w hq1 cx=>?_;have hk1:JR Φ (q.mv u) (bH d 2).1:=⟨by rw [oP];exact hkp.le,λM w h=>by rw [oP];exact hkp.sl M w h⟩;obtain ⟨⟨d1,e1⟩,hs1⟩:∃ x,bH d 2=x:=⟨_,rfl⟩;have a00:d1.keep=d.keep:=by rw [<-oP d 2,hs1]
 rw [hs1] at hq1 cx hk1;simp only at hq1 cx hk1;refine ⟨e1,by rw [hs1],kC k2 dJ :: kJ k1 dJ :: kM k0 gb mO :: kG gb cs :: (b8 (q.mv u) d1++S),Φ,aM,by
  refine uR (A:=[kC k2 dJ,kJ k1 dJ,kM k0 gb mO,kG gb cs]) (X:=b8 (q.mv u) d1) (S:=S) (G:=G) (cx.perm ?_);exact ((List.perm_append_comm_assoc (b8 (q.mv u) d1) [kC k2 dJ,kJ k1 dJ,kM k0 gb mO,kG gb cs] (S++G)).trans ((List.perm_append_comm_assoc [kC k2 dJ,kJ k1 dJ] [kM k0 gb mO,kG gb cs] (b8 (q.mv u) d1++(S++G))).trans (.append_left _ (List.perm_append_comm_assoc [kC k2 dJ,kJ k1 dJ] (b8 (q.mv u) d1) (S++G))))).symm,λhne=>?_,λhe=>?_⟩
 .have e:bD id d=(d1,none,e1):=by unfold bD;rw [hs1,if_pos hne]
  refine ⟨rfl,.inl ⟨hne,[kC k2 dJ,kJ k1 dJ,kM k0 gb mO],u,by rw [e],by rw [e],by rw [e];exact hq1,by rw [e];exact a00,?_⟩⟩;rw [e];rfl
 have eO:bD id d=OU id d1:=by unfold bD;rw [hs1,if_neg (by simp [he])]
 refine ⟨by kernel_rfl,λw G cx=>?_⟩;have c1:Ctx W w (kJ k1 dJ :: kM k0 gb mO :: kG gb cs :: (b8 (q.mv u) d1++(kC k2 dJ :: (S++G)))) Φ:=by
  have c2:=JS (A:=[kC k2 dJ,kJ k1 dJ,kM k0 gb mO,kG gb cs]) (X:=b8 (q.mv u) d1) (S:=S) (G:=G) cx;exact c2.perm ((List.perm_append_comm_assoc (b8 (q.mv u) d1) [kC k2 dJ,kJ k1 dJ,kM k0 gb mO,kG gb cs] (S++G)).trans ((List.perm_append_comm_assoc [kC k2 dJ] [kJ k1 dJ,kM k0 gb mO,kG gb cs] (b8 (q.mv u) d1++(S++G))).trans (.append_left _ (List.perm_append_comm_assoc [kC k2 dJ] (b8 (q.mv u) d1) (S++G)))))
 refine aA9 (q:=q.mv u) hoff hN hcs hq1 hk1 c1 (λu2 d2 e w ho rN UY cx=>?_) (λu2 x d2 j w ho hsb rN UY cx=>?_)
 .have hee:e≠0:=a0Z ho;have eo:bD id d=(d2,none,e):=by rw [eO];unfold OU;rw [ho]
  refine ⟨e,rfl,kC k2 dJ :: kJ k1 dJ :: kM k0 gb mO :: kG gb cs :: (b8 (q.mv u2) d2++S),Φ,aM,?_,λ_=>⟨rfl,.inl ⟨hee,[kC k2 dJ,kJ k1 dJ,kM k0 gb mO],u2,by rw [eo],by rw [eo],by rw [eo];exact rN,by rw [eo];exact UY.trans a00,by rw [eo];rfl⟩⟩,λh0=>absurd h0 hee⟩;refine uR (A:=[kC k2 dJ,kJ k1 dJ,kM k0 gb mO,kG gb cs]) (X:=b8 (q.mv u2) d2) (S:=S) (G:=G) (Ctx.perm cx ?_);exact ((List.perm_append_comm_assoc (b8 (q.mv u2) d2) [kC k2 dJ,kJ k1 dJ,kM k0 gb mO,kG gb cs] (S++G)).trans ((List.perm_append_comm_assoc [kC k2 dJ] [kJ k1 dJ,kM k0 gb mO,kG gb cs] (b8 (q.mv u2) d2++(S++G))).trans (.append_left _ (List.perm_append_comm_assoc [kC k2 dJ] (b8 (q.mv u2) d2) (S++G))))).symm
 .have eo:bD id d=OS id d2 j:=by rw [eO];unfold OU;rw [ho]
  have cM:Ctx W w ([kC k2 dJ,kJ k1 (pA x.jb),kM k0 gb mO,kG gb cs]++((eJ x q j++b8 (q.mv u2) d2)++(S++G))) Φ:=by
   have c3:Ctx W w ([kJ k1 (pA x.jb),kM k0 gb mO,kG gb cs]++((eJ x q j++b8 (q.mv u2) d2)++([kC k2 dJ]++(S++G)))) Φ:=by rw [aX (eJ x q j)];exact cx
   exact c3.perm (((List.perm_append_comm_assoc (eJ x q j++b8 (q.mv u2) d2) [kC k2 dJ] (S++G)).append_left [kJ k1 (pA x.jb),kM k0 gb mO,kG gb cs]).trans (List.perm_append_comm_assoc [kJ k1 (pA x.jb),kM k0 gb mO,kG gb cs] [kC k2 dJ] _))
  refine ⟨0,rfl,kC k2 dJ :: kJ k1 (pA x.jb) :: kM k0 gb mO :: kG gb cs :: (eJ x q j++(b8 (q.mv u2) d2++S)),Φ,aM,by
   show Ctx W w (([kC k2 dJ,kJ k1 (pA x.jb),kM k0 gb mO,kG gb cs]++(eJ x q j++(b8 (q.mv u2) d2++S)))++G) Φ;simp only [aX] at cM ⊢;exact cM,λh=>absurd rfl h,λ_=>?_⟩
  refine ⟨by kernel_rfl,λw G cx=>?_⟩;have c4:Ctx W w (kC k2 dJ :: kM k0 gb mO :: kG gb cs :: (b8 (q.mv u2) d2++(kJ k1 (pA x.jb) :: (eJ x q j++(S++G))))) Φ:=by
   have c5:Ctx W w ([kC k2 dJ,kJ k1 (pA x.jb),kM k0 gb mO,kG gb cs]++(eJ x q j++(b8 (q.mv u2) d2++(S++G)))) Φ:=by
    have c6:Ctx W w (([kC k2 dJ,kJ k1 (pA x.jb),kM k0 gb mO,kG gb cs]++(eJ x q j++(b8 (q.mv u2) d2++S)))++G) Φ:=cx;simp only [aX] at c6 ⊢;exact c6
   refine c5.perm ?_;show (kC k2 dJ :: kJ k1 (pA x.jb) :: ([kM k0 gb mO,kG gb cs]++(eJ x q j++(b8 (q.mv u2) d2++(S++G))))).Perm _;refine .cons _ (((List.perm_append_comm_assoc (eJ x q j) (b8 (q.mv u2) d2) (S++G)).append_left (kJ k1 (pA x.jb) :: [kM k0 gb mO,kG gb cs])).trans ?_);exact (List.perm_append_comm_assoc [kJ k1 (pA x.jb)] [kM k0 gb mO,kG gb cs] _).trans (.append_left [kM k0 gb mO,kG gb cs] (List.perm_append_comm_assoc [kJ k1 (pA x.jb)] (b8 (q.mv u2) d2) (eJ x q j++(S++G))))
  have back:∀ {w:World} {v:Value} {Y:List Own},Ctx W w (kC k2 v :: kM k0 gb mO :: kG gb cs :: (Y++(b8 (q.mv u2) d2++(kJ k1 (pA x.jb) :: (eJ x q j++(S++G)))))) Φ->Ctx W w ((kC k2 v :: kJ k1 (pA x.jb) :: kM k0 gb mO :: kG gb cs :: (eJ x q j++(Y++(b8 (q.mv u2) d2++S))))++G) Φ:=fun {w v Y} c=>by
   have p1:(kC k2 v :: kM k0 gb mO :: kG gb cs :: (Y++(b8 (q.mv u2) d2++(kJ k1 (pA x.jb) :: (eJ x q j++(S++G)))))).Perm (kC k2 v :: kJ k1 (pA x.jb) :: kM k0 gb mO :: kG gb cs :: (eJ x q j++(Y++(b8 (q.mv u2) d2++(S++G))))):=by
    refine .cons _ ?_;have p2:(Y++(b8 (q.mv u2) d2++(kJ k1 (pA x.jb) :: (eJ x q j++(S++G))))).Perm (kJ k1 (pA x.jb) :: (eJ x q j++(Y++(b8 (q.mv u2) d2++(S++G))))):=by
     refine (((List.perm_append_comm_assoc (b8 (q.mv u2) d2) (kJ k1 (pA x.jb) :: eJ x q j) (S++G)).append_left Y).trans ?_);exact List.perm_append_comm_assoc Y (kJ k1 (pA x.jb) :: eJ x q j) _
    refine ((p2.append_left [kM k0 gb mO,kG gb cs]).trans ?_);exact List.perm_append_comm_assoc [kM k0 gb mO,kG gb cs] [kJ k1 (pA x.jb)] _
   have c7:=c.perm p1;show Ctx W w (([kC k2 v,kJ k1 (pA x.jb),kM k0 gb mO,kG gb cs]++(eJ x q j++(Y++(b8 (q.mv u2) d2++S))))++G) Φ;simp only [aX];exact c7
  refine aBa (q:=q.mv u2) hoff hcs rN c4 (λe w hc cx=>?_) (λc cb w hc cx=>?_)
  .have hee:e≠0:=OY hc;have e2:bD id d=(d2,none,e):=by rw [eo];unfold OS;rw [hc]
   have c8:Ctx W w (([kC k2 dJ,kJ k1 (pA x.jb),kM k0 gb mO,kG gb cs]++(eJ x q j++(b8 (q.mv u2) d2++S)))++G) Φ:=back (Y:=[]) cx;refine ⟨e,rfl,kC k2 dJ :: kJ k1 (pA x.jb) :: kM k0 gb mO :: kG gb cs :: (b8 (q.mv u2) d2++S),Φ,aM,c8.sub (aWD (.append_left (List.sublist_append_right _ _) [kC k2 dJ,kJ k1 (pA x.jb),kM k0 gb mO,kG gb cs])),λ_=>⟨rfl,.inl ⟨hee,[kC k2 dJ,kJ k1 (pA x.jb),kM k0 gb mO],u2,by rw [e2],by rw [e2],by rw [e2];exact rN,by rw [e2];exact UY.trans a00,by rw [e2];rfl⟩⟩,λh0=>absurd h0 hee⟩
  .have e2:bD id d=(d2,some ⟨j,c,dU id (lM c).1 (lM c).2 (j.list.map nP)⟩,0):=by rw [eo];unfold OS;rw [hc]
   refine ⟨0,rfl,_,Φ,aM,back (Y:=[eX cb q c]) cx,λh=>absurd rfl h,λ_=>⟨rfl,.inr ⟨rfl,u2,x,cb,c,d2,j,e2,hsb,rN,UY.trans a00,rfl⟩⟩⟩
theorem a3T[aB Φ](hoff:∀ M w,Φ M w->sS M w)(hN:∀ M w,Φ M w->uL M w){id gb mO cs q d}(hcs:cs[mO]? = some (.pointer (some ⟨q.db,0,none⟩)))(hm:mO+4<=cs.length)(hq:pL q d)(hkp:JR Φ q d)(aJf:∀ up,(bD id d).2.1=some up->aE4 id up)(cx:Ctx W w (kG gb cs :: (b8 q d++S)) Φ){K}(hn:∀ u w',(bD id d).2.1=none->(bD id d).2.2≠0->pL (q.mv u) (bD id d).1->(bD id d).1.keep=d.keep->Ctx W w' (kG gb cs :: (b8 (q.mv u) (bD id d).1++S)) Φ->K (.returned (.int .i64 (bD id d).2.2)) w')(hs:∀ u x cb rb rp rc up w',(bD id d).2.1=some up->(bD id d).2.2=0->SB x.p x.cap up.j.list x.o->pL (q.mv u) (bD id d).1->(bD id d).1.keep=d.keep->Ctx W w' (kG gb (up3 cs mO x.jb cb rb) :: (aS rb up.r rp rc++(eJ x q up.j++(eX cb q up.c :: (b8 (q.mv u) (bD id d).1++S))))) Φ->K (.returned (.int .i64 0)) w'):
  aD F.nH #[.pointer (some ⟨gb,mO,none⟩),.int .i64 (id:Int)] w K:=by
 refine gC (EJ gb mO (id:Int) (J:=K∘.returned) cx λk0 k1 k2 k3 w R5 cx=>?_);have c0:Ctx W w (.blk k3 (aA7 [(F.iN,#[pA k0]),(F.iO,#[pA k0,pA k1]),(F.iP,#[pA k0,pA k2])]) 258 :: (kC k2 dJ :: kJ k1 dJ :: kM k0 gb mO :: kG gb cs :: (b8 q d++(S++R5)))) Φ:=by
  rw [<-aX];exact cx
 refine a3S (fs:=[(F.iN,#[pA k0]),(F.iO,#[pA k0,pA k1]),(F.iP,#[pA k0,pA k2])]) (by show 3<=1000;omega) c0 (aWR (id:=id) hoff hN hcs hq hkp) λn S' aU w hst hJ cx=>?_;obtain ⟨rfl,h|h⟩:=hJ
 .obtain ⟨hne,Bx,u,o1,o2,hq1,UY,rfl⟩:=h;refine ⟨n,rfl,kG gb cs :: (b8 (q.mv u) (bD id d).1++S),aU,aM,by
   have c1:=cx.sub (List.sublist_append_right Bx _);rw [<-aX] at c1;exact c1,Br.intro (λh0=>absurd (eR h0) hne) (λ_=>λw G cx=>?_)⟩
  rw [<-o2];exact hn u w o1 (by rw [o2];exact hne) hq1 UY cx.left
 .obtain ⟨rfl,u,x,cb,c,d',j,eo,hsb,hq1,UY,rfl⟩:=h;have hg:=aJf _ (by rw [eo]);have h1:(bD id d).1=d':=by rw [eo]
  have h2:(bD id d).2.1=some ⟨j,c,dU id (lM c).1 (lM c).2 (j.list.map nP)⟩:=by rw [eo]
  have h3:(bD id d).2.2=0:=by rw [eo]
  obtain ⟨A,hA⟩:∃ A,A=kC k2 (pA cb) :: kJ k1 (pA x.jb) :: kM k0 gb mO :: kG gb cs :: (eJ x q j++(eX cb q c :: (b8 (q.mv u) d'++S))):=⟨_,rfl⟩;have sA:List.Sublist [kC k2 (pA cb),kJ k1 (pA x.jb),kM k0 gb mO] A:=by
   rw [hA];exact List.sublist_append_left [kC k2 (pA cb),kJ k1 (pA x.jb),kM k0 gb mO] _
  have e4:(dU id (lM c).1 (lM c).2 (j.list.map nP)).log=j.list.map nP:=rfl;refine ⟨0,rfl,A,aU,aM,by
   rw [hA];show Ctx W w (([kC k2 (pA cb),kJ k1 (pA x.jb),kM k0 gb mO,kG gb cs]++(eJ x q j++([eX cb q c]++(b8 (q.mv u) d'++S))))++R5) aU;simp only [aX];exact cx,Br.intro (λ_=>?_) (λh0=>absurd rfl (dD h0))⟩
  refine ⟨[kC k2 (pA cb),kJ k1 (pA x.jb),kM k0 gb mO],XN,aM,λw G cx=>cQ cx sA,some ⟨gb,mO,none⟩,λw G cx=>⟨_,cx.get 2 rfl rfl,rfl⟩,some ⟨gb,mO,none⟩,λw G cx=>⟨_,cx.get 2 rfl rfl,rfl⟩,some ⟨gb,mO,none⟩,λw G cx=>⟨_,cx.get 2 rfl rfl,rfl⟩,some ⟨x.jb,0,none⟩,λw G cx=>⟨_,cx.get 1 rfl rfl,rfl⟩,some ⟨cb,0,none⟩,λw G cx=>⟨_,cx.get 0 rfl rfl,rfl⟩,some ⟨cb,0,none⟩,λw G cx=>⟨_,cx.get 0 rfl rfl,rfl⟩,some ⟨x.jb,0,none⟩,λw G cx=>⟨_,cx.get 1 rfl rfl,rfl⟩,λw G cx=>?_⟩
  have pc:(A++G).Perm (eX cb q c :: ([kC k2 (pA cb),kJ k1 (pA x.jb),kM k0 gb mO,kG gb cs]++(eJ x q j++(b8 (q.mv u) d'++S))++G)):=by
   rw [hA];show ((([kC k2 (pA cb),kJ k1 (pA x.jb),kM k0 gb mO,kG gb cs]++eJ x q j)++(eX cb q c :: (b8 (q.mv u) d'++S)))++G).Perm (eX cb q c :: ((([kC k2 (pA cb),kJ k1 (pA x.jb),kM k0 gb mO,kG gb cs]++eJ x q j)++(b8 (q.mv u) d'++S))++G));exact (List.perm_middle).append_right G
  refine aJe hN hg.val (cx.perm pc) λw cx=>⟨_,_,rfl,A,aU,aM,cx.perm pc.symm,λw G cx=>cQ cx sA,λw G cx=>?_⟩;have pj:∀ G,(A++G).Perm (eJ x q j++([kC k2 (pA cb),kJ k1 (pA x.jb),kM k0 gb mO,kG gb cs]++((eX cb q c :: (b8 (q.mv u) d'++S))++G))):=λG=>by
   rw [hA];show (([kC k2 (pA cb),kJ k1 (pA x.jb),kM k0 gb mO,kG gb cs]++(eJ x q j++(eX cb q c :: (b8 (q.mv u) d'++S))))++G).Perm _;rw [aX,aX (eJ x q j)];exact List.perm_append_comm_assoc _ _ _
  refine SJ hN hsb hg.len hg.size hg.ok (cx.perm (pj G)) λp c2 w cx=>⟨_,_,_,rfl,A,_,aM,cx.perm (pj G).symm,λw G cx=>cQ cx sA,λw G cx=>?_⟩;refine aMb cx (id:Int) (lM c).1 (lM c).2 (j.list.map nP) p c2 (λM w h=>h.2) (by have:j.list.length<=1000000:=hg.len;rw [List.length_map];omega) (λh0=>by
   have:=hg.new;rw [show OE id (dU id (lM c).1 (lM c).2 (j.list.map nP)).term (dU id (lM c).1 (lM c).2 (j.list.map nP)).aO (dU id (lM c).1 (lM c).2 (j.list.map nP)).log=OE id (lM c).1 (lM c).2 (j.list.map nP) from rfl,h0] at this;cases this) (λ_ rb rp rc w cx=>?_)
  rw [Int.toNat_natCast] at cx;obtain ⟨r,hr⟩:∃ r,dU id (lM c).1 (lM c).2 (j.list.map nP)=r:=⟨_,rfl⟩;rw [hr] at cx h2;obtain ⟨BD,aQU⟩:∃ BD:PW,BD=λM w=>aU M w/\Sl M w p (j.list.map nP):=⟨_,rfl⟩
  haveI:aB BD:=by rw [aQU];infer_instance
  have zI:∀ M w,BD M w->aU M w:=by rw [aQU];exact λM w h=>h.1
  rw [<-aQU] at cx
  let Z:List Value->List Own:=λcs=>kC k2 (pA cb) :: kJ k1 (pA x.jb) :: kM k0 gb mO :: kG gb cs :: (eJ x q j++(eX cb q c :: (b8 (q.mv u) d'++S)))
  have sZ:∀ cs,List.Sublist [kC k2 (pA cb),kJ k1 (pA x.jb),kM k0 gb mO] (aS rb r rp rc++Z cs):=λcs=>(List.sublist_append_left [kC k2 (pA cb),kJ k1 (pA x.jb),kM k0 gb mO] _).trans (List.sublist_append_right _ _);refine ⟨_,rfl,aS rb r rp rc++Z cs,BD,aM,by rw [hA] at cx;exact cx,λw G cx=>cQ cx (sZ _),aW gb mO rfl λw G cx=>⟨cx.can 5 rfl (by omega),λw' hw'=>⟨aS rb r rp rc++Z (cs.set (mO+1) (pA x.jb)),BD,aM,cx.put 5 hw' rfl,λw G cx=>cQ cx (sZ _),aW gb mO rfl λw G cx=>⟨cx.can 5 rfl (by rw [List.length_set];omega),λw' hw'=>⟨aS rb r rp rc++Z ((cs.set (mO+1) (pA x.jb)).set (mO+2) (pA cb)),BD,aM,cx.put 5 hw' rfl,λw G cx=>cQ cx (sZ _),aW gb mO rfl λw G cx=>⟨cx.can 5 rfl (by rw [List.length_set,List.length_set];omega),λw' hw'=>⟨aS rb r rp rc++Z (up3 cs mO x.jb cb rb),BD,aM,cx.put 5 hw' rfl,λw G cx=>?_⟩⟩⟩⟩⟩⟩⟩
  refine hs u x cb rb rp rc ⟨j,c,r⟩ w h2 h3 hsb (by rw [h1];exact hq1) (by rw [h1];exact UY) ?_;rw [h1];have c9:Ctx W w (aS rb r rp rc++(kG gb (up3 cs mO x.jb cb rb) :: (eJ x q j++(eX cb q c :: (b8 (q.mv u) d'++S))))) BD:=by
   refine (Ctx.left cx).sub ?_;show List.Sublist (aS rb r rp rc++(kG gb (up3 cs mO x.jb cb rb) :: _)) (aS rb r rp rc++(kC k2 (pA cb) :: kJ k1 (pA x.jb) :: kM k0 gb mO :: kG gb (up3 cs mO x.jb cb rb) :: _));exact List.Sublist.append_left (((List.Sublist.refl _).cons _).cons _ |>.cons _) _
  exact (c9.weak zI).perm (List.perm_middle)
end
structure Node where
 rep:dY
 FK:Int
 WJ:Int
 a01:List bT
 stop:Int
structure Cl where
 nd:Nat->Node
 sent:List bQ
def aBb(i:Nat)(n:Node):Node:={ n with stop:=0,rep:=dU i n.FK n.WJ n.a01 }
def aWS(n:Node)(o:mK):Node:=if o.save=true then { n with FK:=o.term,WJ:=o.aO } else n
def gI(n:Node)(o:mK):Node:=if 0<o.src then { n with a01:=n.a01.take (min (o.src - 1) (n.a01.length:Int)).toNat++o.aF } else n
def EY(C:Cl)(i:Nat):Cl:={ C with nd:=put C.nd i (aBb i (C.nd i)) }
def b2k(C:Cl)(i:Nat)(r:dY):Cl:={ C with nd:=put C.nd i { C.nd i with rep:=r } }
def aWT(C:Cl)(i:Nat)(o:mK):Cl :=
 if (C.nd i).stop=1 then EY C i
 else
  let C1:Cl:={ C with nd:=put C.nd i (gI (aWS (C.nd i) o) o) }
  if (C.nd i).stop=2 then EY C1 i
  else { C1 with sent:=C.sent++o.send.take (300 - C.sent.length) }
def lR(n m:Int):Int:=if m<1 then 0 else n.emod m
theorem aJg{n m}(h:0<m):0<=lR n m/\lR n m<m:=by
 unfold lR;rw [if_neg (by omega)];exact ⟨Int.emod_nonneg _ (by omega),Int.emod_lt_of_pos _ h⟩
theorem UZ{n m:Int}(h:0<m):(if n.tmod m<0 then n.tmod m+m else n.tmod m)=n.emod m:=by
 have h1:=Int.emod_nonneg n (show m≠0 by omega);have h2:=Int.emod_lt_of_pos n h;rcases Int.le_total 0 n with hn|hn
 .rw [Int.tmod_eq_emod_of_nonneg hn,if_neg (by omega)];rfl
 .have h3:n.tmod m<=0:=by
   have:=Int.tmod_nonneg m (show 0 <= -n by omega);rw [Int.neg_tmod] at this;omega
  have h4 : -m<n.tmod m:=by
   have:=Int.tmod_lt_of_pos (-n) h;rw [Int.neg_tmod] at this;omega
  have h5:(n.tmod m).emod m=n.emod m:=by
   have e:=Int.tmod_add_mul_tdiv n m;have:n=n.tmod m+m*n.tdiv m:=by omega
   conv=>rhs;rw [this]
   exact (Int.add_mul_emod_self_left _ _ _).symm
  by_cases hz:n.tmod m<0
  .rw [if_pos hz];have:(n.tmod m+m).emod m=n.emod m:=by
    rw [<-h5];have:=Int.add_mul_emod_self_left (n.tmod m) m 1
    rwa [Int.mul_one] at this
   rw [<-this];exact (Int.emod_eq_of_lt (by omega) (by omega)).symm
  .rw [if_neg hz,<-h5];exact (Int.emod_eq_of_lt (by omega) (by omega)).symm
structure OpR where
 op:Int
 who:Int
 n:Int
 data:ByteArray
instance:Gv OpR:=Gv.via (β:=Int × Int × Int × ByteArray) (λx=>(x.op,x.who,x.n,x.data)) (λy=>⟨y.1,y.2.1,y.2.2.1,y.2.2.2⟩) (λ_=>rfl)
theorem cI{α}(f:Nat->α)(i x):put f i x i=x:=if_pos rfl
theorem fR{α}(f:Nat->α){i j}(x)(h:j≠i):put f i x j=f j:=if_neg h
theorem aJh{α}(f:Nat->α)(i):put f i (f i)=f:=by
 funext j;unfold put;split
 .rename_i h;rw [h]
 .rfl
structure dY.Wf(r:dY):Prop where
 ok:r.Ok
 one:r.role≠0->1<=r.term
structure Fits(r r':dY)(o:mK):Prop where
 id:r'.id=r.id
 save:o.save=true->o.term=r'.term/\o.aO=r'.aO
 keep:o.save=false->r'.term=r.term/\r'.aO=r.aO
 log:0<o.src->r'.log=r.log.take (min (o.src - 1) (r.log.length:Int)).toNat++o.aF
 same:¬ 0<o.src->r'.log=r.log
 term:r.term<=r'.term
theorem Fits.refl(r):Fits r r kR:=⟨rfl,λh=>(by cases h),λ_=>⟨rfl,rfl⟩,λh=>(by cases h),λ_=>rfl,Int.le_refl _⟩
theorem WK{l t}(h:lI l t)(k):lI (l.take k) t :=
 ⟨λx hx=>h.lo x (List.mem_of_mem_take hx),λx hx=>h.hi x (List.mem_of_mem_take hx),λx hx=>h.data x (List.mem_of_mem_take hx),λi j hij hj hi=>by
  rw [List.getElem_take,List.getElem_take];exact h.W8 i j hij (by simp at hj;omega) (by simp at hi;omega)⟩
theorem aBc{a b t}(ha:lI a t)(hb:lI b t)(h:∀ x∈a,∀ y∈b,x.term<=y.term):lI (a++b) t:=by
 refine ⟨λx hx=>?_,λx hx=>?_,λx hx=>?_,λi j hij hj hi=>?_⟩
 .rcases List.mem_append.1 hx with hx|hx
  .exact ha.lo x hx
  .exact hb.lo x hx
 .rcases List.mem_append.1 hx with hx|hx
  .exact ha.hi x hx
  .exact hb.hi x hx
 .rcases List.mem_append.1 hx with hx|hx
  .exact ha.data x hx
  .exact hb.data x hx
 .rw [List.length_append] at hj hi;by_cases hja:j<a.length
  .rw [List.getElem_append_left hja,List.getElem_append_left (by omega)];exact ha.W8 i j hij hja (by omega)
  .rw [List.getElem_append_right (show a.length<=j by omega)];by_cases hia:i<a.length
   .rw [List.getElem_append_left hia];exact h _ (List.getElem_mem hia) _ (List.getElem_mem _)
   .rw [List.getElem_append_right (show a.length<=i by omega)];exact hb.W8 (i - a.length) (j - a.length) (by omega) (by omega) (by omega)
theorem V0{l t u}(h:lI l t)(hu:t<=u):lI l u:=⟨h.lo,λx hx=>Int.le_trans (h.hi x hx) hu,h.data,h.W8⟩
theorem a8q{l t}(h:lI l t)(k):lI (l.drop k) t :=
 ⟨λx hx=>h.lo x (List.mem_of_mem_drop hx),λx hx=>h.hi x (List.mem_of_mem_drop hx),λx hx=>h.data x (List.mem_of_mem_drop hx),λi j hij hj hi=>by
  rw [List.getElem_drop,List.getElem_drop];exact h.W8 (k+i) (k+j) (by omega) (by simp at hj;omega) (by simp at hi;omega)⟩
theorem a5w{id}{m:bQ}(h:m.sO id):lI m.aF m.term/\∀ x∈m.aF,m.prev<=x.term:=by
 obtain ⟨h1,h2⟩:=a0x _ _ _ h.sound;exact ⟨⟨λx hx=>by have:=(h1 x hx).1;omega,λx hx=>(h1 x hx).2.1,λx hx=>(h1 x hx).2.2,h2⟩,λx hx=>by have:=(h1 x hx).1;omega⟩
theorem aMO{l t}(h:lI l t){k}(hk:k<=l.length):∀ x∈l.take k,x.term<=bE l k:=by
 intro x hx;obtain ⟨i,hi,rfl⟩:=List.getElem_of_mem hx;rw [List.length_take] at hi;rw [List.getElem_take];obtain ⟨j,rfl⟩:∃ j,k=j+1:=⟨k - 1,by omega⟩;rw [vV (by omega)];exact h.W8 i j (by omega) (by omega) (by omega)
theorem wC:∀ (a b:List bT) (i:Nat),i<agree a b->∃ (ha:i<a.length) (hb:i<b.length),a[i].term=b[i].term
 | [],b,i,h=>by cases b<;>simp [agree] at h
 | x :: a,[],i,h=>by simp [agree] at h
 | x :: a,y :: b,i,h=>by
  unfold agree at h;split at h
  .rename_i hxy;cases i with
   | zero=>exact ⟨by simp,by simp,by simpa using hxy⟩
   | succ i =>
    obtain ⟨h1,h2,h3⟩:=wC a b i (by omega);exact ⟨by simp;omega,by simp;omega,by simpa using h3⟩
  .omega
theorem aBd{r}(hr:r.Ok){m:bQ}(hm:m.sO r.id)(ht:¬ m.term<r.term)(hle:m.index.toNat<=r.log.length)(hp:bE r.log m.index.toNat=m.prev):lI (r.log.take (m.index.toNat+gF r m)++m.aF.drop (gF r m)) m.term:=by
 obtain ⟨h1,h2⟩:=a5w hm;have hk:=J4 (r.log.drop m.index.toNat) m.aF;rw [List.length_drop] at hk;refine aBc (V0 (WK hr.log _) (by omega)) (a8q h1 _) λx hx y hy=>?_;have aIn:m.index.toNat+gF r m<=r.log.length:=by unfold gF;omega
 have hx:=aMO hr.log aIn x hx;refine Int.le_trans hx ?_;obtain ⟨j,hj,rfl⟩:=List.getElem_of_mem hy;rw [List.getElem_drop];have hj2:gF r m+j<m.aF.length:=by rw [List.length_drop] at hj;omega
 by_cases hz:gF r m=0
 .have e:bE r.log (m.index.toNat+gF r m)=m.prev:=by rw [hz,Nat.add_zero,hp]
  rw [e];exact h2 _ (List.getElem_mem _)
 .obtain ⟨i,hi⟩:∃ i,gF r m=i+1:=⟨gF r m - 1,by omega⟩;obtain ⟨a1,a2,a3⟩:=wC (r.log.drop m.index.toNat) m.aF i (by unfold gF at hi;omega);rw [List.getElem_drop] at a3;have e:bE r.log (m.index.toNat+gF r m)=m.aF[i].term:=by
   rw [hi,show m.index.toNat+(i+1)=m.index.toNat+i+1 by omega,vV (by omega),a3]
  rw [e];exact h1.W8 i (gF r m+j) (by omega) hj2 a2
theorem Q5{r}{m:bQ}(hle:m.index.toNat<=r.log.length):(r.log.take (m.index.toNat+gF r m)++m.aF.drop (gF r m)).length=m.index.toNat+m.aF.length:=by
 have hk:=J4 (r.log.drop m.index.toNat) m.aF;have hk2:=J3 (r.log.drop m.index.toNat) m.aF;rw [List.length_drop] at hk;rw [List.length_append,List.length_take,List.length_drop];unfold gF;omega
theorem aMP{r}(h:r.Wf){m}(h1:0<=m.src/\m.src<=2):(dI r m).1.Wf/\(dI r m).1.id=r.id/\(dI r m).1.term=r.term/\(dI r m).1.log=r.log/\(dI r m).2.src=0:=by
 unfold dI;split
 .exact ⟨⟨⟨h.ok.id,h.ok.mT,h.ok.jD,by show -1<=m.src;omega,h1.2,h.ok.log,h.ok.len,h.ok.role,h.ok.aE,h.ok.next,h.ok.bound⟩,h.one⟩,rfl,rfl,rfl,rfl⟩
 .exact ⟨h,rfl,rfl,rfl,rfl⟩
theorem aJi{r}(h:r.Wf){m}:(dG r m).1.Wf/\(dG r m).1.id=r.id/\(dG r m).1.term=r.term/\(dG r m).1.aO=r.aO/\(dG r m).1.log=r.log/\(dG r m).2.src=0:=by
 by_cases hc:(decide (r.role≠1)||decide (m.term≠r.term) || !m.yes)=true
 .rw [D9 hc];exact ⟨h,rfl,rfl,rfl,rfl,rfl⟩
 have hc:(decide (r.role≠1)||decide (m.term≠r.term) || !m.yes)=false:=by simpa using hc
 have cY:r.role=1:=by simp only [Bool.or_eq_false_iff,decide_eq_false_iff_not] at hc;exact Decidable.not_not.1 hc.1.1
 by_cases h2:pG (gU r m).cK<2
 .rw [xV hc h2];exact ⟨⟨⟨h.ok.id,h.ok.mT,h.ok.jD,h.ok.yQ,h.ok.yR,h.ok.log,h.ok.len,h.ok.role,h.ok.aE,h.ok.next,h.ok.bound⟩,h.one⟩,rfl,rfl,rfl,rfl,rfl⟩
 .rw [uH hc h2];exact ⟨⟨a5d h.ok m,λ_=>h.one (by rw [cY];decide)⟩,rfl,rfl,rfl,rfl,rfl⟩
theorem B3{r}(h:r.Wf){m}(hi:0<=m.index):(aV r m).1.Wf/\(aV r m).1.id=r.id/\(aV r m).1.term=r.term/\(aV r m).1.aO=r.aO/\(aV r m).1.log=r.log/\(aV r m).2.src=0:=by
 by_cases hc:(decide (r.role≠2)||decide (m.term≠r.term)||m.yes&&decide ((r.log.length:Int)<m.index))=true
 .rw [r8 hc];exact ⟨h,rfl,rfl,rfl,rfl,rfl⟩
 have hc:(decide (r.role≠2)||decide (m.term≠r.term)||m.yes&&decide ((r.log.length:Int)<m.index))=false:=by simpa using hc
 have cY:r.role=2:=by simp only [Bool.or_eq_false_iff,decide_eq_false_iff_not] at hc;exact Decidable.not_not.1 hc.1.1
 cases hy:m.yes with
 | false =>
  rw [mX hc hy];exact ⟨⟨aCL h.ok cY m,h.one⟩,rfl,rfl,rfl,rfl,rfl⟩
 | true =>
  rw [oM hc hy];have hix:m.index.toNat<=r.log.length:=by
   simp only [Bool.or_eq_false_iff,decide_eq_false_iff_not,hy,Bool.true_and] at hc;have:=hc.2;omega
  have ha:=aIl (aIk h.ok cY m hix) cY;obtain ⟨e1,e2,e3,e4,e5,e6,e7⟩:=a5e (pW r m);have hw:(b9 (pW r m)).Wf:=⟨ha,λ_=>by rw [e6];exact h.one (by rw [cY];decide)⟩;split
  .exact ⟨hw,e5,e6,e7,e2,rfl⟩
  .exact ⟨hw,e5,e6,e7,e2,rfl⟩
theorem aJj{r}(h:r.Wf):(wV r).Wf:=⟨⟨h.ok.id,h.ok.mT,h.ok.jD,h.ok.yQ,h.ok.yR,h.ok.log,h.ok.len,.inl rfl,h.ok.aE,λhr=>(by cases (show (0:Int)=2 from hr)),h.ok.bound⟩,λhr=>absurd rfl hr⟩
theorem aE5{r}(h:r.Wf){m}(hm:m.sO r.id)(heq:m.term<=r.term):(bA r m).1.Wf/\(bA r m).1.id=r.id/\(bA r m).1.term=r.term/\(bA r m).1.aO=r.aO /\
  (0<(bA r m).2.src->(bA r m).1.log=r.log.take (min ((bA r m).2.src - 1) (r.log.length:Int)).toNat++(bA r m).2.aF)/\(¬ 0<(bA r m).2.src->(bA r m).1.log=r.log)/\(bA r m).2.save=false:=by
 by_cases h1:m.term<r.term
 .rw [uI h1];exact ⟨h,rfl,rfl,rfl,λh=>(by cases h),λ_=>rfl,rfl⟩
 by_cases h2:r.role=2
 .rw [rA h1 h2];exact ⟨h,rfl,rfl,rfl,λh=>(by cases h),λ_=>rfl,rfl⟩
 by_cases h3:(decide ((r.log.length:Int)<m.index)||decide (bE r.log m.index.toNat≠m.prev))=true
 .rw [uJ h1 h2 h3];exact ⟨aJj h,rfl,rfl,rfl,λh=>(by cases h),λ_=>rfl,rfl⟩
 have h3:(decide ((r.log.length:Int)<m.index)||decide (bE r.log m.index.toNat≠m.prev))=false:=by simpa using h3
 have hm1:=hm.index;have hm2:=hm.aE;obtain ⟨hle,hp⟩:m.index.toNat<=r.log.length/\bE r.log m.index.toNat=m.prev:=by
  simp only [Bool.or_eq_false_iff,decide_eq_false_iff_not] at h3;exact ⟨by omega,Decidable.not_not.1 h3.2⟩
 have hk:=J4 (r.log.drop m.index.toNat) m.aF;have hk2:=J3 (r.log.drop m.index.toNat) m.aF;rw [List.length_drop] at hk;by_cases h4:gF r m<m.aF.length
 .by_cases h5:m.index.toNat+gF r m+1<=r.aE
  .rw [rD h1 h2 h3 h4 h5];exact ⟨aJj h,rfl,rfl,rfl,λh=>(by cases h),λ_=>rfl,rfl⟩
  .rw [uK h1 h2 h3 h4 h5];have hs:=aBd h.ok hm h1 hle hp;have hl:=Q5 (r:=r) (m:=m) hle;have hft:=hm.fits;refine ⟨⟨⟨h.ok.id,h.ok.mT,h.ok.jD,h.ok.yQ,h.ok.yR,V0 hs heq,?_,.inl rfl,?_,λhr=>(by cases (show (0:Int)=2 from hr)),h.ok.bound⟩,λhr=>absurd rfl hr⟩,rfl,rfl,rfl,λ_=>?_,λhn=>?_,rfl⟩
   .show (r.log.take (m.index.toNat+gF r m)++m.aF.drop (gF r m)).length<=4000;omega
   .show a2k r m<=(r.log.take (m.index.toNat+gF r m)++m.aF.drop (gF r m)).length;rw [hl];unfold a2k;omega
   .show r.log.take (m.index.toNat+gF r m)++m.aF.drop (gF r m)=r.log.take (min (((m.index.toNat+gF r m+1:Nat):Int) - 1) (r.log.length:Int)).toNat++m.aF.drop (gF r m)
    congr 2
    unfold gF;omega
   .exfalso;apply hn;show (0:Int)<((m.index.toNat+gF r m+1:Nat):Int);omega
 .rw [rC h1 h2 h3 h4];have hcm:=h.ok.aE;refine ⟨⟨⟨h.ok.id,h.ok.mT,h.ok.jD,h.ok.yQ,h.ok.yR,h.ok.log,h.ok.len,.inl rfl,?_,λhr=>(by cases (show (0:Int)=2 from hr)),h.ok.bound⟩,λhr=>absurd rfl hr⟩,rfl,rfl,rfl,λh=>(by cases h),λ_=>rfl,rfl⟩;show a2k r m<=r.log.length;unfold a2k;unfold gF at h4;omega
theorem aC6{r}(h:r.Wf){m}(hm:m.sO r.id)(ht:r.term<m.term):(upR r m).Wf:=⟨aOf h.ok m hm ht,λhr=>absurd rfl hr⟩
theorem SK{r x}(h1:x.1.id=r.id)(h2:r.term<=x.1.term)(hs:x.2.save=false)(hl:0<x.2.src->x.1.log=r.log.take (min (x.2.src - 1) (r.log.length:Int)).toNat++x.2.aF)(hn:¬ 0<x.2.src->x.1.log=r.log):Fits r (C8 r x).1 (C8 r x).2:=by
 unfold C8;split
 .rename_i he;simp only [Bool.and_eq_true,decide_eq_true_eq] at he;exact ⟨h1,λh=>(by rw [hs] at h;cases h),λ_=>he,hl,hn,h2⟩
 .exact ⟨h1,λ_=>⟨rfl,rfl⟩,λh=>(by cases h),hl,hn,h2⟩
theorem B4{r x}:(C8 r x).1=x.1:=by unfold C8;split<;>rfl
theorem a02{r x}:(C8 r x).2.send=x.2.send:=by unfold C8;split<;>rfl
theorem aE6(r m):(dI r m).2.save=false:=by unfold dI;split<;>rfl
theorem aBe(r m):(dG r m).2.save=false:=by
 unfold dG;split
 .rfl
 .simp only;split<;>rfl
theorem a2s(r m):(aV r m).2.save=false:=by
 unfold aV;split
 .rfl
 .simp only;split
  .rfl
  .split<;>rfl
theorem Y6{r}(h:r.Wf){m}:(cX r m).1.Wf/\Fits r (cX r m).1 (cX r m).2:=by
 cases hy:iV r.id m with
 | false=>rw [vF hy];exact ⟨h,Fits.refl r⟩
 | true =>
  rw [pX hy];have hm:=lK.1 hy;obtain ⟨r1,J2,hw1,ht1,aE7,aC7,b2l⟩:∃ r1,(if r.term<m.term then upR r m else r)=r1/\r1.Wf/\r.term<=r1.term/\r1.id=r.id/\r1.log=r.log/\m.term<=r1.term:=by
   split
   .rename_i ht;exact ⟨_,rfl,aC6 h hm ht,by show r.term<=m.term;omega,rfl,rfl,Int.le_refl _⟩
   .rename_i ht;exact ⟨_,rfl,h,Int.le_refl _,rfl,rfl,by omega⟩
  rw [J2];have hm1:m.sO r1.id:=by rw [aE7];exact hm
  unfold dQ;split
  .obtain ⟨a1,a2,a3,a4,a5⟩:=aMP hw1 (m:=m) hm.src.2;exact ⟨by rw [B4];exact a1,SK (by rw [a2,aE7]) (by rw [a3];exact ht1) (aE6 _ _) (λhh=>by rw [a5] at hh;cases hh) (λ_=>by rw [a4,aC7])⟩
  .split
   .obtain ⟨a1,a2,a3,a4,a5,a6⟩:=aJi hw1 (m:=m);exact ⟨by rw [B4];exact a1,SK (by rw [a2,aE7]) (by rw [a3];exact ht1) (aBe _ _) (λhh=>by rw [a6] at hh;cases hh) (λ_=>by rw [a5,aC7])⟩
   .split
    .obtain ⟨a1,a2,a3,a4,a5,a6,a7⟩:=aE5 hw1 hm1 b2l;rw [aC7] at a5 a6;exact ⟨by rw [B4];exact a1,SK (by rw [a2,aE7]) (by rw [a3];exact ht1) a7 a5 a6⟩
    .obtain ⟨a1,a2,a3,a4,a5,a6⟩:=B3 hw1 (m:=m) hm.index.1;exact ⟨by rw [B4];exact a1,SK (by rw [a2,aE7]) (by rw [a3];exact ht1) (a2s _ _) (λhh=>by rw [a6] at hh;cases hh) (λ_=>by rw [a5,aC7])⟩
theorem a5x{r}(h:r.Wf):(eA r).1.Wf/\Fits r (eA r).1 (eA r).2:=by
 by_cases h1:r.role=2
 .rw [KL h1];exact ⟨h,Fits.refl r |>.id,λh=>(by cases h),λ_=>⟨rfl,rfl⟩,λh=>(by cases h),λ_=>rfl,Int.le_refl _⟩
 by_cases h2:r.term=1099511627776
 .rw [RV h1 h2];exact ⟨h,Fits.refl r⟩
 rw [RW h1 h2];have:=h.ok.mT;exact ⟨⟨aAA h.ok h1 h2,λ_=>by show 1<=r.term+1;omega⟩,rfl,λ_=>⟨rfl,rfl⟩,λh=>(by cases h),λh=>(by cases h),λ_=>rfl,by show r.term<=r.term+1;omega⟩
theorem z7{r}(h:r.Wf)(data):(aL r data).1.Wf/\Fits r (aL r data).1 (aL r data).2.2.2:=by
 by_cases h1:r.role≠2
 .rw [xN h1];exact ⟨h,Fits.refl r⟩
 by_cases h2:2000<(data.size:Int)
 .rw [vW h1 h2];exact ⟨h,Fits.refl r⟩
 by_cases h3:r.log.length=4000
 .rw [r9 h1 h2 h3];exact ⟨h,Fits.refl r⟩
 rw [B0 h1 h2 h3];have hr:r.role=2:=Decidable.not_not.1 h1;refine ⟨⟨a7H h.ok hr (h.one (by rw [hr];decide)) h2 h3,h.one⟩,rfl,λh=>(by cases h),λ_=>⟨rfl,rfl⟩,λ_=>?_,λhn=>?_,Int.le_refl _⟩
 .show r.log++[⟨r.term,data⟩]=r.log.take (min (((r.log.length+1:Nat):Int) - 1) (r.log.length:Int)).toNat++[⟨r.term,data⟩];rw [show (min (((r.log.length+1:Nat):Int) - 1) (r.log.length:Int)).toNat=r.log.length by omega,List.take_length]
 .exfalso;apply hn;show (0:Int)<((r.log.length+1:Nat):Int);omega
theorem aBf{i t v l}(hi:i<=2)(h0:0<=t)(hM:t<=1099511627776)(hv0 : -1<=v)(hvM:v<=2)(hl:lI l t)(hlen:l.length<=4000):(dU i t v l).Wf :=
 ⟨⟨hi,h0,hM,hv0,hvM,hl,hlen,.inl rfl,Nat.zero_le _,λhr=>(by cases (show (0:Int)=2 from hr)),λi=>⟨by show 0<=4001;omega,by show 0<=4000;omega⟩⟩,λhr=>absurd rfl hr⟩
theorem a3U:∀ (l:List bT) (least most:Int),(∀ x∈l,least<=x.term)->(∀ x∈l,x.term<=most)->(∀ x∈l,x.data.size<=2000)->(∀ i j,i<=j->(hj:j<l.length)->(hi:i<l.length)->l[i].term<=l[j].term)->qO l least most=true
 | [],_,_,_,_,_,_=>rfl
 | x :: l,least,most,h1,h2,h3,h4=>by
  unfold qO;rw [if_neg]
  .refine a3U l x.term most (λy hy=>?_) (λy hy=>h2 y (List.mem_cons_of_mem _ hy)) (λy hy=>h3 y (List.mem_cons_of_mem _ hy)) (λi j hij hj hi=>?_)
   .obtain ⟨j,hj,rfl⟩:=List.getElem_of_mem hy;exact h4 0 (j+1) (by omega) (by simp;omega) (by simp)
   .exact h4 (i+1) (j+1) (by omega) (by simp;omega) (by simp;omega)
  .have a:=h1 x (by simp);have b:=h2 x (by simp);have c:=h3 x (by simp);simp only [Bool.or_eq_true,decide_eq_true_eq,not_or];omega
theorem aMQ{i:Nat}{r:dY}(hi:i<=2)(h:r.Ok):OE i r.term r.aO r.log=true:=by
 have h1:=h.mT;have h2:=h.jD;have h3:=h.yQ;have h4:=h.yR;have h5:=h.len;unfold OE;rw [a3U r.log 1 r.term h.log.lo h.log.hi h.log.data h.log.W8,Bool.and_true];simp only [Bool.and_eq_true,decide_eq_true_eq];omega
theorem aMR{α}(f:Nat->α)(i x y):put (put f i x) i y=put f i y:=by
 funext j;unfold put;split<;>rfl
structure Small(o:mK):Prop where
 aF:o.aF.length<=4000
 src:o.src<=4001
 send:o.send.length<=2
theorem aQV:Small kR:=⟨by simp,by simp,by simp⟩
theorem aQW{l}(h:l.length<=2):Small (nE l):=⟨by simp,by simp,h⟩
theorem a5y(r):(cU r).length<=2:=by unfold cU;rw [List.length_map,qP];exact Nat.le_refl _
theorem aBg(r):Small (eA r).2:=by
 unfold eA;split
 .exact aQW (a5y r)
 split
 .exact aQV
 .exact ⟨by simp,by simp,by simp [qP]⟩
structure Cl.Wf(C:Cl):Prop where
 rep:∀ i,i<3->(C.nd i).rep.Wf/\(C.nd i).rep.id=i
 XO:∀ i,i<3->(C.nd i).FK=(C.nd i).rep.term/\(C.nd i).WJ=(C.nd i).rep.aO/\(C.nd i).a01=(C.nd i).rep.log
 stop:∀ i,i<3->(C.nd i).stop=0\/(C.nd i).stop=1\/(C.nd i).stop=2
 sent:0<=C.sent.length
def aC8(n:Node)(r:dY):Node:=⟨r,r.term,r.aO,r.log,n.stop⟩
def aJk(C:Cl)(i:Nat)(r:dY):Cl:={ C with nd:=put C.nd i (aC8 (C.nd i) r) }
def aOn(C:Cl)(i:Nat)(x:dY × mK):Cl:=aWT (b2k C i x.1) i x.2
theorem aJl{C}(h:C.Wf){i}(hi:i<3):(EY C i).Wf:=by
 obtain ⟨h1,h2,h3⟩:=h.XO i hi;obtain ⟨hw,hid⟩:=h.rep i hi;have a8r:(EY C i).nd i=aBb i (C.nd i):=cI _ _ _;have hne:∀ j,j≠i->(EY C i).nd j=C.nd j:=λj hj=>fR _ _ hj;refine ⟨λj hj=>?_,λj hj=>?_,λj hj=>?_,h.sent⟩;all_goals
  by_cases hji:j=i
  .subst hji;rw [a8r];unfold aBb;first
    | exact ⟨aBf (by omega) (by rw [h1];exact hw.ok.mT) (by rw [h1];exact hw.ok.jD) (by rw [h2];exact hw.ok.yQ) (by rw [h2];exact hw.ok.yR) (by rw [h1,h3];exact hw.ok.log) (by rw [h3];exact hw.ok.len),rfl⟩
    | exact ⟨rfl,rfl,rfl⟩
    | exact .inl rfl
  .rw [hne j hji];first
    | exact h.rep j hj
    | exact h.XO j hj
    | exact h.stop j hj
theorem aMS{C}(h:C.Wf){i}(hi:i<3){r}(hr:r.Wf)(hid:r.id=i):(aJk C i r).Wf:=by
 have a8r:(aJk C i r).nd i=aC8 (C.nd i) r:=cI _ _ _;have hne:∀ j,j≠i->(aJk C i r).nd j=C.nd j:=λj hj=>fR _ _ hj;refine ⟨λj hj=>?_,λj hj=>?_,λj hj=>?_,h.sent⟩;all_goals
  by_cases hji:j=i
  .subst hji;rw [a8r];unfold aC8;first
    | exact ⟨hr,hid⟩
    | exact ⟨rfl,rfl,rfl⟩
    | exact h.stop j hj
  .rw [hne j hji];first
    | exact h.rep j hj
    | exact h.XO j hj
    | exact h.stop j hj
def b2m{α:Type}(l:List α)(n:Nat):List α:=l.take n++l.drop (n+1)
def aWV(C:Cl)(n:Nat):Cl:={ C with sent:=b2m C.sent n }
def vH(C:Cl)(m:bQ):Cl:=aOn C (lR m.to 3).toNat (cX (C.nd (lR m.to 3).toNat).rep m)
def aMT(C:Cl)(n:Int)(keep:Bool):Cl :=
 match C.sent[(lR n C.sent.length).toNat]? with
 | none=>C
 | some m=>vH (if keep then C else aWV C (lR n C.sent.length).toNat) m
def aWW(C:Cl)(i:Nat):Cl:=aOn C i (eA (C.nd i).rep)
theorem aE8{r}(h:r.Wf)(data):Fits r (aL r data).1 (aL r data).2.2.2:=(z7 h data).2
def nd0(i:Nat):Node:=⟨dU i 0 (-1) [],0,-1,[],0⟩
def cl0:Cl:=⟨nd0,[]⟩
theorem aQY:cl0.Wf :=
 ⟨λi hi=>⟨aBf (by omega) (by decide) (by decide) (by decide) (by decide) ⟨by simp,by simp,by simp,by simp⟩ (by simp),rfl⟩,λi hi=>⟨rfl,rfl,rfl⟩,λi hi=>.inl rfl,Nat.zero_le _⟩
end Go.Proofs.YtnlkemjhgdbfkaaGreatDoor
end

section
namespace Go.Proofs.YtnlkemjhgdbfkaaGreatDoor
open Go.Vc
theorem Z6{x}(h:aY x.term)(h2:x.data.size<=1000000):nP (iK x)=x:=by
 unfold nP iK;rw [qI,aEE h h2];rfl
structure JT(l:List bT):Prop where
 aBh:∀ x∈l,aY x.term/\x.data.size<=1000000
 size:(aQ (l.map iK)).length<=1048576
theorem JT.read{l}(h:JT l):(l.map iK).map nP=l:=by
 rw [List.map_map]
 conv=>rhs;rw [<-List.map_id l]
 exact List.map_congr_left λx hx=>Z6 (h.aBh x hx).1 (h.aBh x hx).2
theorem a03(l n):(aQ (l.take n)).length<=(aQ l).length:=by
 conv=>rhs;rw [<-List.take_append_drop n l,mY,List.length_append]
 omega
theorem JT.take{l}(h:JT l)(n):JT (l.take n) :=
 ⟨λx hx=>h.aBh x (List.mem_of_mem_take hx),Nat.le_trans (by rw [List.map_take];exact a03 _ n) h.size⟩
theorem JT.nil:JT []:=⟨by simp,by simp [aQ]⟩
def aMU(s:Nat)(v:Bs)(t vt:Int):Prop:=(s=0/\t=0/\vt = -1)\/(s≠0/\v=DH t vt)
theorem aE9{s v t vt f b}(h:aMU s v t vt)(ht:aY t)(hv:aY vt):lM ⟨f,s,v,b⟩=(t,vt):=by
 unfold lM;rcases h with ⟨rfl,rfl,rfl⟩|⟨hs,rfl⟩
 .rfl
 .have e1:eI (DH t vt,false)=(t,((pH vt).data.toList,false)):=S1 ht;have e2:eI ((pH vt).data.toList,false)=(vt,([],false)):=by
   have:=S1 (n:=vt) (r:=[]) (bad:=false) hv
   rwa [List.append_nil] at this
  show (if s=0 then _ else _)=_;rw [if_neg hs];show ((eI (DH t vt,false)).1,(eI (eI (DH t vt,false)).2).1)=_;rw [e1];simp only;rw [e2]
theorem aFa{t v}(ht:aY t)(hv:aY v):(DH t v).length<=42:=by
 unfold DH;rw [List.length_append,gD,gD];have:=(gE ht).2;have:=(gE hv).2;omega
structure MU(d:iM)(u:XM):Prop where
 w:FH d
 live:Live d u.j
 base:u.j.base=0
 ok:u.j.broken=false
 file:u.c.file=2
 now:fN (d.files 2).now u.c.slot u.c.value
 last:fN (d.files 2).last u.c.slot u.c.value
 enc:aMU u.c.slot u.c.value u.r.term u.r.aO
 log:u.j.list=u.r.log.map iK
 XO:aY u.r.term/\aY u.r.aO
 lw:JT u.r.log
def aFb(d:iM)(H:Int->Int->Prop):Prop:=Fut (d.files 2) λs v=>∃ t vt,aMU s v t vt/\(aY t/\aY vt)/\H t vt
def a8s(d:iM)(P:List bT->Prop):Prop:=JK d 0 λl=>∃ lg,l=lg.map iK/\JT lg/\P lg
def WL(d:iM)(Q:Int->Int->List bT->Prop):Prop:=FH d/\∃ (H:Int->Int->Prop) (P:List bT->Prop),(∀ t v l,H t v->P l->Q t v l)/\aFb d H/\a8s d P
theorem WL.mono{d Q Q'}(h:WL d Q)(hq:∀ t v l,Q t v l->Q' t v l):WL d Q':=by
 obtain ⟨hw,H,P,h1,h2,h3⟩:=h;exact ⟨hw,H,P,λt v l a b=>hq t v l (h1 t v l a b),h2,h3⟩
theorem WL.ev{d d' Q}(h:WL d Q)(hw:FH d')(he:∀ G,Ev (d.files G) (d'.files G)):WL d' Q:=by
 obtain ⟨_,H,P,h1,h2,h3⟩:=h;exact ⟨hw,H,P,h1,(he 2).fut h2,h3.ev (he _) (he _)⟩
theorem WL.frame{d d' Q}(h:WL d Q)(hq:d'.queue=d.queue)(hf:d'.files=d.files):WL d' Q :=
 h.ev (λp hp=>h.1 p (by rw [<-hq];exact hp)) λG=>by rw [hf];exact .refl _
theorem MU.aWX{d u}(h:MU d u){P}(hP:P u.r.log):a8s d P:=by
 have:=h.live.fut (P:=λl=>∃ lg,l=lg.map iK/\JT lg/\P lg) ⟨u.r.log,h.log,h.lw,hP⟩;rw [h.base] at this;exact this
theorem MU.aWY{d u}(h:MU d u){H}(hH:H u.r.term u.r.aO):aFb d H:=mV h.now h.last ⟨_,_,h.enc,h.XO,hH⟩
theorem MU.dn{d u}(h:MU d u){Q}(hQ:Q u.r.term u.r.aO u.r.log):WL d Q :=
 ⟨h.w,λt v=>t=u.r.term/\v=u.r.aO,λl=>l=u.r.log,λt v l a b=>by rw [a.1,a.2,b];exact hQ,h.aWY ⟨rfl,rfl⟩,h.aWX rfl⟩
theorem MU.frame{d d' u}(h:MU d u)(hq:d'.queue=d.queue)(hf:d'.files=d.files):MU d' u :=
 ⟨λp hp=>h.w p (by rw [<-hq];exact hp),h.live.frame hf,h.base,h.ok,h.file,by rw [hf];exact h.now,by rw [hf];exact h.last,h.enc,h.log,h.XO,h.lw⟩
theorem a04{d f c e}(h:vX d f=(some c,e)):d.down=false:=by
 cases hd:d.down with
 | false=>rfl
 | true =>
  unfold vX at h;have hr:(dH d f 0 5).2≠0:=by
   unfold dH qR;rw [if_pos hd,if_pos (by decide:(9:Int)≠0)];show (9:Int)≠0;decide
  rw [if_pos hr] at h;injection h with h1;cases h1
theorem aJm{d d1 b e j}(h:rI d b=(d1,some j,e)):d1.down=false:=by
 unfold rI at h;split at h
 .injection h with _ h;injection h with h;cases h
 split at h
 .injection h with _ h;injection h with h;cases h
 split at h
 .injection h with _ h;injection h with h;cases h
 injection h with h1 h2;rw [<-h1];unfold JJ at h2;split at h2
 .cases h2
 .rename_i c e' ho;exact a04 ho
structure aQZ(id:Nat)(d:iM)(Q:Int->Int->List bT->Prop)(r:iM × Option XM × Int):Prop where
 w:FH r.1
 A9:KO d->KO r.1/\r.2.2=0
 or:(∃ u,r.2.1=some u/\r.2.2=0/\MU r.1 u/\u.r=dU id u.r.term u.r.aO u.r.log/\Q u.r.term u.r.aO u.r.log)\/(r.2.1=none/\(r.2.2=9\/r.2.2=10)/\WL r.1 Q)
theorem KT{id d Q}(h:WL d Q):aQZ id d Q (bD id d):=by
 obtain ⟨hw,H,P,hQ,hC,hL⟩:=h;unfold bD;obtain ⟨a1,a2,a3,a4⟩:=yV (d:=d) (F:=2) (by decide) hw;obtain ⟨⟨d1,e1⟩,h1⟩:∃ x,bH d 2=x:=⟨_,rfl⟩;rw [h1] at a1 a2 a3 a4 ⊢;simp only at a1 a2 a3 a4 ⊢;have M6:a8s d1 P:=hL.ev (a2 _ (by decide)) (a2 _ (by decide));by_cases DL:e1≠0
 .rw [if_pos DL];rcases a4 with ⟨h',_⟩|⟨h',h2⟩
  .exact absurd h' DL
  .exact ⟨a1,λh=>absurd (a3 h).2 DL,.inr ⟨rfl,h',a1,H,P,hQ,h2.fut hC,M6⟩⟩
 rw [if_neg DL];have DL:e1=0:=Decidable.not_not.1 DL;obtain ⟨hdn,f1⟩:d1.down=false/\d1.files 2=⟨(d.files 2).now,(d.files 2).now⟩:=by
  rcases a4 with ⟨_,h1,h2⟩|⟨h,_⟩
  .exact ⟨h1,h2⟩
  .rw [DL] at h;omega
 obtain ⟨⟨s,v,k1,t,vt,k2,k3,k4⟩,_⟩:=hC;have k5:fN (d1.files 2).now s v:=by rw [f1];exact k1
 have k6:fN (d1.files 2).last s v:=by rw [f1];exact k1
 have hO:=UO (d:=d1) (b:=0) (by decide) a1 M6;unfold OU;obtain ⟨⟨d2,jo,e2⟩,h2⟩:∃ x,rI d1 0=x:=⟨_,rfl⟩;rw [h2] at hO ⊢;have oth:Ev (d1.files 2) (d2.files 2):=by
  rcases hO.other 2 with h|h
  .exact h
  .omega
 obtain ⟨k7,k8⟩:=aA4 oth k5 k6;rcases hO.or with ⟨j,g1,g2,g3,⟨lg,g4,g5,g6⟩,g7,g8⟩|⟨g1,g2,g3⟩
 .have g1:jo=some j:=g1;have g2:e2=0:=g2;subst g1;have hd2:=aJm h2;have hoc:=a7U (d:=d2) (F:=2) hd2 (by decide) k7;simp only;unfold OS;rw [hoc];simp only;have hh:=aE9 (f:=2) (b:=false) k2 k3.1 k3.2;rw [hh,g4,g5.read];refine ⟨hO.w,λh=>⟨(hO.A9 (a3 h).1).1,rfl⟩,.inl ⟨_,rfl,rfl,⟨hO.w,g3,g7,g8,rfl,k7,k8,k2,g4,k3,g5⟩,rfl,hQ _ _ _ k4 g6⟩⟩
 .have g1:jo=none:=g1;subst g1;simp only;refine ⟨hO.w,λh=>⟨(hO.A9 (a3 h).1).1,(hO.A9 (a3 h).1).2⟩,.inr ⟨rfl,g2,hO.w,λa b=>a=t/\b=vt,P,λa b l x y=>by rw [x.1,x.2];exact hQ _ _ _ k4 y,mV k7 k8 ⟨t,vt,k2,k3,rfl,rfl⟩,g3⟩⟩
def aOo(r r':dY)(o:mK)(t v:Int)(l:List bT):Prop :=
 ((t=r.term/\v=r.aO)/\l=r.log)\/((t=r'.term/\v=r'.aO)/\(l=r.log\/(0<o.src/\l=r.log.take (min (o.src - 1) (r.log.length:Int)).toNat)\/l=r'.log))
structure aQ0(d:iM)(r r':dY)(o:mK)(x:iM × XM × Int):Prop where
 w:FH x.1
 A9:KO d->KO x.1/\x.2.2=0
 or:(x.2.2=0/\MU x.1 x.2.1/\x.2.1.r=r')\/((x.2.2=9\/x.2.2=10)/\WL x.1 (aOo r r' o))
theorem aFc{d u r r' o}(h:MU d { u with r:=r })(hf:Fits r r' o)(hh:aY r'.term/\aY r'.aO):
  FH (nK d u o).1/\(KO d->KO (nK d u o).1/\(nK d u o).2.2=0)/\(∀ G,G≠2->Ev (d.files G) ((nK d u o).1.files G)) /\
   (((nK d u o).2.2=0/\MU (nK d u o).1 { u with r:={ r' with log:=r.log },c:=(nK d u o).2.1 })\/(((nK d u o).2.2=9\/(nK d u o).2.2=10)/\aFb (nK d u o).1 λt v=>(t=r.term/\v=r.aO)\/(t=r'.term/\v=r'.aO))):=by
 unfold nK;cases hs:o.save with
 | false =>
  obtain ⟨e1,e2⟩:=hf.keep hs;rw [if_neg (by simp)];refine ⟨h.w,λh=>⟨h,rfl⟩,λG _=>.refl _,.inl ⟨rfl,h.w,h.live,h.base,h.ok,h.file,h.now,h.last,?_,h.log,hh,h.lw⟩⟩;show aMU u.c.slot u.c.value r'.term r'.aO;rw [e1,e2];exact h.enc
 | true =>
  obtain ⟨e1,e2⟩:=hf.save hs;rw [if_pos rfl,e1,e2];have JL:u.c.file=2:=h.file;have hS:=a7V (d:=d) (c:=u.c) (s:=DH r'.term r'.aO) (by rw [JL];decide) h.w (by have:=aFa hh.1 hh.2;omega) (by rw [JL];exact h.now) (by rw [JL];exact h.last);obtain ⟨⟨d1,c1,x1⟩,hx⟩:∃ x,uN d u.c (DH r'.term r'.aO)=x:=⟨_,rfl⟩;rw [hx] at hS ⊢;have oth:∀ G,G≠2->Ev (d.files G) (d1.files G):=λG hG=>hS.other G (by rw [JL];exact hG)
  have SC:((if u.c.slot=1 then 2 else 1):Nat)≠0:=by split<;>decide
  refine ⟨hS.w,hS.A9,oth,?_⟩;by_cases he:x1=0
  .left
   obtain ⟨h1,h2,X,h3,h4⟩:=hS.ok he;have h1:c1.slot=if u.c.slot=1 then 2 else 1:=h1
   have h2:c1.value=DH r'.term r'.aO:=h2;have h3:d1.files u.c.file=⟨X,X⟩:=h3;rw [JL] at h3;rw [<-h1,<-h2] at h4;have hfc:c1.file=2:=by have:=hS.file;rw [JL] at this;exact this
   have hbase:u.j.base=0:=h.base;refine ⟨he,hS.w,aML h.live ?_ ?_,h.base,h.ok,hfc,?_,?_,.inr ⟨by show c1.slot≠0;rw [h1];exact SC,h2⟩,h.log,hh,h.lw⟩
   .exact oth _ (by show u.j.base≠2;rw [hbase];decide)
   .exact oth _ (by show u.j.base+1≠2;rw [hbase];decide)
   .show fN (d1.files 2).now c1.slot c1.value;rw [h3];exact h4
   .show fN (d1.files 2).last c1.slot c1.value;rw [h3];exact h4
  .right
   obtain ⟨h1,h2⟩:=hS.bad he;refine ⟨h1,?_⟩;have h2:Fut (d1.files u.c.file) _:=h2;rw [JL] at h2;refine Fut.mono h2 λs v hv=>?_;rcases hv with ⟨rfl,rfl⟩|⟨rfl,rfl⟩
   .exact ⟨_,_,h.enc,h.XO,.inl ⟨rfl,rfl⟩⟩
   .exact ⟨_,_,.inr ⟨SC,rfl⟩,hh,.inr ⟨rfl,rfl⟩⟩
theorem MU.jou{d d1 u j1 lg}(h:MU d u)(hw:FH d1)(oth:∀ G,Ev (d.files G) (d1.files G)\/(G=u.j.base\/G=u.j.base+1))(hl:Live d1 j1)(hb:j1.base=u.j.base)(hk:j1.broken=false)(hg:j1.list=lg.map iK)(hlw:JT lg):
  MU d1 { u with j:=j1,r:={ u.r with log:=lg } }:=by
 have hbase:=h.base;have h2:Ev (d.files 2) (d1.files 2):=by
  rcases oth 2 with e|e
  .exact e
  .rw [hbase] at e;omega
 obtain ⟨c1,c2⟩:=aA4 h2 h.now h.last;exact ⟨hw,hl,by show j1.base=0;rw [hb,hbase],hk,h.file,c1,c2,h.enc,hg,h.XO,hlw⟩
theorem MU.aC9{d d1 u}(h:MU d u)(oth:∀ G,Ev (d.files G) (d1.files G)\/(G=u.j.base\/G=u.j.base+1)){H}(hH:H u.r.term u.r.aO):aFb d1 H:=by
 have hbase:=h.base;have h2:Ev (d.files 2) (d1.files 2):=by
  rcases oth 2 with e|e
  .exact e
  .rw [hbase] at e;omega
 exact h2.fut (h.aWY hH)
theorem aFd{d u r r' o}(h:MU d { u with r:={ r' with log:=r.log } })(hf:Fits r r' o)(hlw:JT r'.log):
  FH (pZ d u o).1/\(KO d->KO (pZ d u o).1/\(pZ d u o).2.2=0) /\
   (((pZ d u o).2.2=0/\MU (pZ d u o).1 { u with r:=r',j:=(pZ d u o).2.1 })\/(((pZ d u o).2.2=9\/(pZ d u o).2.2=10)/\aFb (pZ d u o).1 (λt v=>t=r'.term/\v=r'.aO) /\
    a8s (pZ d u o).1 λl=>l=r.log\/(0<o.src/\l=r.log.take (min (o.src - 1) (r.log.length:Int)).toNat)\/l=r'.log)):=by
 have hbase:u.j.base=0:=h.base;have aDa:u.j.list=r.log.map iK:=h.log;have hlen:u.j.list.length=r.log.length:=by rw [aDa,List.length_map]
 have hlr:JT r.log:=h.lw;unfold pZ;by_cases hp:0<o.src
 rotate_left 1
 .rw [if_neg hp];refine ⟨h.w,λh=>⟨h,rfl⟩,.inl ⟨rfl,?_⟩⟩;have:=hf.same hp;have e:({ r' with log:=r.log }:dY)=r':=by rw [<-this]
  rw [e] at h;exact h
 rw [if_pos hp];have qT:=hf.log hp;simp only;obtain ⟨n,hn,hnl⟩:∃ n:Nat,min (o.src - 1) (u.j.list.length:Int)=(n:Int)/\n<=u.j.list.length:=⟨(min (o.src - 1) (u.j.list.length:Int)).toNat,by omega,by omega⟩;have hn2:(min (o.src - 1) (r.log.length:Int)).toNat=n:=by rw [<-hlen,hn];exact Int.toNat_natCast n
 rw [hn2] at qT;rw [hn2,hn];have hcut:FH (iX d u.j n).1/\(KO d->KO (iX d u.j n).1/\(iX d u.j n).2.2=0)/\(((iX d u.j n).2.2=0/\MU (iX d u.j n).1 { u with r:={ r' with log:=r.log.take n },j:=(iX d u.j n).2.1 }) \/
   (((iX d u.j n).2.2=9\/(iX d u.j n).2.2=10)/\aFb (iX d u.j n).1 (λt v=>t=r'.term/\v=r'.aO)/\a8s (iX d u.j n).1 λl=>l=r.log\/l=r.log.take n)):=by
  by_cases he:n=u.j.list.length
  .have e:iX d u.j n=(d,u.j,0):=by
    unfold iX;rw [if_neg (by rw [h.ok];simp),if_neg (by omega),if_pos (by rw [he])]
   rw [e];refine ⟨h.w,λh=>⟨h,rfl⟩,.inl ⟨rfl,?_⟩⟩;have e2:r.log.take n=r.log:=List.take_of_length_le (by omega);rw [e2];exact h
  .have ho:=aMv h.live h.ok h.w (n:=n) (by show n<u.j.list.length;omega);refine ⟨ho.w,ho.A9,?_⟩;rcases ho.or with ⟨e,g1,g2,g3⟩|⟨e,g1,g2,g3⟩
   .refine .inl ⟨e,?_⟩;have:=h.jou ho.w ho.other g3 ho.base g1 (lg:=r.log.take n) (by rw [g2];show u.j.list.take n=_;rw [aDa,List.map_take]) (hlr.take n);exact this
   .refine .inr ⟨e,h.aC9 ho.other ⟨rfl,rfl⟩,?_⟩;have g3:JK _ u.j.base _:=g3;rw [hbase] at g3;refine JK.mono g3 λl hl=>?_;rcases hl with rfl|rfl
    .exact ⟨r.log,aDa,hlr,.inl rfl⟩
    .exact ⟨r.log.take n,by show u.j.list.take n=_;rw [aDa,List.map_take],hlr.take n,.inr rfl⟩
 obtain ⟨⟨d1,j1,e1⟩,hc⟩:∃ x,iX d u.j n=x:=⟨_,rfl⟩;rw [hc] at hcut ⊢;simp only at hcut ⊢;obtain ⟨c1,c2,c3⟩:=hcut;by_cases DL:e1≠0
 .rw [if_pos DL];refine ⟨c1,λh=>absurd (c2 h).2 DL,.inr ?_⟩;rcases c3 with ⟨e,_⟩|⟨e,g1,g2⟩
  .exact absurd e DL
  .exact ⟨e,g1,g2.mono λl ⟨lg,a,b,c⟩=>⟨lg,a,b,c.elim .inl λc=>.inr (.inl ⟨hp,c⟩)⟩⟩
 rw [if_neg DL];have DL:e1=0:=Decidable.not_not.1 DL;have hU:MU d1 { u with r:={ r' with log:=r.log.take n },j:=j1 }:=by
  rcases c3 with ⟨_,g⟩|⟨e,_⟩
  .exact g
  .omega
 have hmap:(r.log.take n).map iK++o.aF.map iK=r'.log.map iK:=by rw [qT,List.map_append]
 by_cases hre:o.aF=[]
 .have e:dK d1 j1 (o.aF.map iK)=(d1,j1,0):=by
   unfold dK;rw [if_neg (by rw [hU.ok];simp),if_pos (by rw [hre];rfl)]
  rw [e];refine ⟨c1,λh=>⟨(c2 h).1,rfl⟩,.inl ⟨rfl,?_⟩⟩;have e2:({ r' with log:=r.log.take n }:dY)=r':=by
   rw [hre,List.append_nil] at qT;rw [<-qT]
  rw [e2] at hU;exact hU
 have hj1:j1.list=(r.log.take n).map iK:=hU.log;have hb1:j1.bytes=(aQ j1.list).length:=hU.live.bytes;have b2p:j1.base=0:=hU.base;have ho:=aAK (l:=o.aF.map iK) hU.live hU.ok hU.w (by simpa using hre) (by
  show j1.bytes+_<=_;rw [hb1,hj1,<-List.length_append,<-mY,hmap];exact hlw.size)
 have ho:a0I d1 j1 (j1.list++o.aF.map iK) (dK d1 j1 (o.aF.map iK)):=ho;refine ⟨ho.w,λh=>ho.A9 (c2 h).1,?_⟩;rcases ho.or with ⟨e,g1,g2,g3⟩|⟨e,g1,g2,g3⟩
 .refine .inl ⟨e,?_⟩;have:=hU.jou ho.w ho.other g3 ho.base g1 (lg:=r'.log) (by rw [g2,hj1,hmap]) hlw;exact this
 .refine .inr ⟨e,hU.aC9 ho.other ⟨rfl,rfl⟩,?_⟩;rw [b2p] at g3;refine JK.mono g3 λl hl=>?_;rcases hl with rfl|rfl
  .exact ⟨r.log.take n,hj1,hlr.take n,.inr (.inl ⟨hp,rfl⟩)⟩
  .exact ⟨r'.log,by rw [hj1,hmap],hlw,.inr (.inr rfl)⟩
theorem a05{d}{u:XM}{r r' o}(h:MU d { u with r:=r })(hf:Fits r r' o)(hh:aY r'.term/\aY r'.aO)(hlw:JT r'.log):aQ0 d r r' o (bW d { u with r:=r' } o):=by
 have hs:=aFc h hf hh;have hlr:JT r.log:=h.lw;unfold bW;simp only;have e0:nK d { u with r:=r' } o=nK d u o:=rfl;rw [e0];obtain ⟨⟨d1,c1,e1⟩,hx⟩:∃ x,nK d u o=x:=⟨_,rfl⟩;rw [hx] at hs ⊢;simp only at hs ⊢;obtain ⟨a1,a2,a3,a4⟩:=hs;by_cases he:e1≠0
 .rw [if_pos he];refine ⟨a1,λh=>absurd (a2 h).2 he,.inr ?_⟩;rcases a4 with ⟨e,_⟩|⟨e,g⟩
  .exact absurd e he
  .refine ⟨e,a1,_,λl=>l=r.log,λt v l x y=>?_,g,?_⟩
   .rcases x with x|x
    .exact .inl ⟨x,y⟩
    .exact .inr ⟨x,.inl y⟩
   .have hl:a8s d λl=>l=r.log:=h.aWX (P:=λl=>l=r.log) rfl;exact hl.ev (a3 _ (by decide)) (a3 _ (by decide))
 rw [if_neg he];have he:e1=0:=Decidable.not_not.1 he;have hU:MU d1 { u with r:={ r' with log:=r.log },c:=c1 }:=by
  rcases a4 with ⟨_,g⟩|⟨e,_⟩
  .exact g
  .omega
 have hk:=aFd (u:={ u with c:=c1 }) (r:=r) (r':=r') (o:=o) hU hf hlw;have e1:pZ d1 { u with r:=r' } o=pZ d1 { u with c:=c1 } o:=rfl;rw [e1];obtain ⟨⟨d2,j2,e2⟩,hy⟩:∃ x,pZ d1 { u with c:=c1 } o=x:=⟨_,rfl⟩;rw [hy] at hk ⊢;simp only at hk ⊢;obtain ⟨b1,b2,b3⟩:=hk;refine ⟨b1,λh=>b2 (a2 h).1,?_⟩;rcases b3 with ⟨e,g⟩|⟨e,g1,g2⟩
 .exact .inl ⟨e,g,rfl⟩
 .exact .inr ⟨e,b1,_,_,λt v l x y=>.inr ⟨x,y⟩,g1,g2⟩
theorem aDb{d}(hw:FH d):FH (MR d)/\(∀ G,Ev (d.files G) ((MR d).files G))/\KO (MR d):=by
 have hw':FH (pI (j9 d 0) 0 []):=hw;refine ⟨SA hw' [],λG=>DE hw' [] G,rfl,?_,?_⟩
 .show (bV (pI (j9 d 0) 0 []) []).eL=0;unfold bV;split
  .rfl
  .rfl
 .show (bV (pI (j9 d 0) 0 []) []).lost=0;unfold bV;split
  .rfl
  .rfl
theorem OZ{d Q}(h:WL d Q):∃ t v,Q t v (nL d):=by
 obtain ⟨hw,H,P,hQ,hC,hL⟩:=h;obtain ⟨c1,c2,c3⟩:=aDb hw;obtain ⟨⟨s,v,k1,t,vt,k2,k3,k4⟩,_⟩:=hC;have M6:a8s (MR d) P:=hL.ev (c2 _) (c2 _);have hO:=UO (d:=MR d) (b:=0) (by decide) c1 M6;refine ⟨t,vt,?_⟩;unfold nL;rcases hO.or with ⟨j,g1,g2,g3,⟨lg,g4,g5,g6⟩,g7,g8⟩|⟨g1,g2,g3⟩
 .rw [g1];show Q t vt (j.list.map nP);rw [g4,g5.read];exact hQ _ _ _ k4 g6
 .have:=(hO.A9 c3).2;omega
theorem EZ{d u}(h:MU d u):nL d=u.r.log:=by
 obtain ⟨t,v,hq⟩:=OZ (h.dn (Q:=λt v l=>l=u.r.log) rfl);exact hq
theorem aJn:WL o9 λt v l=>t=0/\v = -1/\l=[] :=
 ⟨aMp,λt v=>t=0/\v = -1,λl=>l=[],λt v l a b=>⟨a.1,a.2,b⟩,
  mV (s:=0) (v:=[]) (.inl ⟨rfl,rfl,rfl⟩) (.inl ⟨rfl,rfl,rfl⟩) ⟨0,-1,.inl ⟨rfl,rfl,rfl⟩,⟨by unfold aY;decide,by unfold aY;decide⟩,rfl,rfl⟩,
  (aMt 0).mono λl hl=>⟨[],by rw [hl];rfl,.nil,rfl⟩⟩
end Go.Proofs.YtnlkemjhgdbfkaaGreatDoor
end

