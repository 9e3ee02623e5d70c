/-
 A journal in memory: note,Append: walked.
-/
import Derived.Test.YtnlkemjhgdbfkaaGreatDoorCh9
import Derived.Test.YtnlkemjhgdbfkaaGreatDoorCh6
import Derived.Test.YtnlkemjhgdbfkaaGreatDoorCh8
import Derived.ArgAppend
import Derived.Laws.Entries
import Derived.Test.YtnlkemjhgdbfkaaGreatDoorCh7
open Go.Proofs.Tryz
set_option linter.unusedVariables false
set_option linter.unusedSimpArgs false
section
namespace Go.Proofs.YtnlkemjhgdbfkaaGreatDoor
open Go.Vc
structure JoP where
 jb:Nat
 cb:Nat
 p:Option Addr
 cap:Nat
 o:Own
abbrev joB (x:JoP) (q:DkP) (j:sE):List Value:=[.pointer (some ⟨q.db,0,none⟩),.int .i64 j.base,.pointer (some ⟨x.cb,0,none⟩),.slice x.p j.list.length x.cap,.int .i64 (j.bytes:Int),.bool j.broken]
abbrev eI (x:JoP) (q:DkP) (j:sE):List Own:=[x.o,.blk x.jb (joB x q j) 335,eS x.cb q j.cell]
def JoP.mv (x:JoP) (p:Option Addr) (cap:Nat) (o:Own):JoP:=⟨x.jb,x.cb,p,cap,o⟩
section
variable {W w:World} {S G:List Own} {Φ:PW}
theorem J7 [aB Φ] {A X S G} (cx:Ctx W w ((A++(X++S))++G) Φ):Ctx W w (X++(A++(S++G))) Φ:=by
 rw [b9,b9] at cx
 exact cx.perm (a2M _ _ _ _)
theorem tT [aB Φ] {A X S G} (cx:Ctx W w (X++(A++(S++G))) Φ):Ctx W w ((A++(X++S))++G) Φ:=by
 rw [b9,b9]
 exact cx.perm (a2M _ _ _ _)
theorem aVu [aB Φ] {a b c X S G} (cx:Ctx W w (([a,b,c]++(X++S))++G) Φ):Ctx W w (c :: (X++(a :: b :: (S++G)))) Φ :=
 J7 (A:=[a,b]) (X:=c :: X) cx
theorem aPO [aB Φ] {a b c X S G} (cx:Ctx W w (c :: (X++(a :: b :: (S++G)))) Φ):Ctx W w (([a,b,c]++(X++S))++G) Φ :=
 tT (A:=[a,b]) (X:=c :: X) cx
theorem a7n [aB Φ] {q d} (hq:oR q d) (hkp:J6 Φ q d) (hoff:∀ M w,Φ M w->rM M w) (hT:∀ M w,Φ M w->yB M w) {x j b n} (hb:b<=1099511627776) (hn:n<=1099511627776) (cx:Ctx W w (eI x q j++(aZ q d++S)) Φ) {K} (hk:∀ u w',oR (q.mv u) (sM d j b n).1->Ctx W w' (eI x q (sM d j b n).2.1++(aZ (q.mv u) (sM d j b n).1++S)) Φ->K (.returned (.int .i64 (sM d j b n).2.2)) w'):
  aD F.jJ #[.pointer (some ⟨x.jb,0,none⟩),.int .i64 (b:Int),.int .i64 (n:Int)] w K:=by
 have h1:=fU (n:=(b:Int)) (by unfold aX;omega)
 have h2:=fU (n:=(n:Int)) (by unfold aX;omega)
 refine fW (z7 x.jb 0 (b:Int) (n:Int) (J:=K∘.returned) cx ⟨_,Φ,aL,λw G cx=>cx,some ⟨x.cb,0,none⟩,λw G cx=>⟨_,cx.get 1 rfl rfl,rfl⟩,λw G cx=>(NL (Φ:=Φ) (.inl ⟨hT,by unfold aX;omega⟩)).use cx λw cx=>⟨_,rfl,_,Φ,aL,cx,λw G cx=>cx,λw G cx=>(NL (Φ:=Φ) (.inl ⟨hT,by unfold aX;omega⟩)).use cx λw cx=>⟨_,rfl,_,Φ,aL,cx,λw G cx=>cx,by show (oO (b:Int)).size+(oO (n:Int)).size<=_;omega,λw G cx=>?_⟩⟩⟩)
 have e:oO (b:Int)++oO (n:Int)=bs (NR b n):=by
  apply ByteArray.ext
  apply Array.toList_inj.1
  simp [NR,bs]
 rw [e]
 unfold sM at hk
 refine a7k (S:=x.o :: .blk x.jb (joB x q j) 335 :: (S++G)) hq hkp hoff (aVu cx) λu w hq1 cx=>?_
 generalize wY d j.cell (NR b n)=r at hk hq1 cx
 obtain ⟨d1,c1,e1⟩:=r
 simp only at hk hq1 cx
 refine ⟨e1,rfl,[x.o,.blk x.jb (joB x q j) 335,eS x.cb q c1]++(aZ (q.mv u) d1++S),Φ,aL,aPO cx,λw G cx=>⟨cx.can 1 rfl (by show 5+1<=6;omega),λw' hw'=>?_⟩⟩
 exact ⟨_,Φ,aL,cx.put 1 hw' rfl,λw G cx=>hk u w hq1 (Ctx.left cx)⟩
end
theorem a0k (d j l):(L6 d j l).1.keep=d.keep:=by
 unfold L6;split
 .rw [nY,tQ]
 .exact tQ _ _ _ _
theorem a97 (d c s n):(LX d c s n).1.keep=d.keep:=by
 unfold LX
 repeat' split
 all_goals simp only [nY,tQ]
theorem a2Q (d c s):(wY d c s).1.keep=d.keep:=by
 unfold wY
 repeat' split
 all_goals simp only [nY,a97]
theorem K3 (d j b n):(sM d j b n).1.keep=d.keep:=a2Q _ _ _
section
variable {W w:World} {S G:List Own} {Φ:PW}
theorem a98 [aB Φ] {q d} (hq:oR q d) (hkp:J6 Φ q d) (hoff:∀ M w,Φ M w->rM M w) (hT:∀ M w,Φ M w->yB M w) {x j} (hsb:SB x.p x.cap j.list x.o) {lp lc l} (kZ:∀ M w,Φ M w->Sl M w lp l) (hf:(aO l).length<=1000000000) (hb:j.bytes<=1000000000) (hn:j.list.length+l.length<100000000) (cx:Ctx W w (eI x q j++(aZ q d++S)) Φ) {K} (hk:∀ u p c o w',SB p c (dU d j l).2.1.list o->oR (q.mv u) (dU d j l).1->Ctx W w' (eI (x.mv p c o) q (dU d j l).2.1++(aZ (q.mv u) (dU d j l).1++S)) Φ->K (.returned (.int .i64 (dU d j l).2.2)) w'):
  aD F.lK #[.pointer (some ⟨x.jb,0,none⟩),.slice lp l.length lc] w K:=by
 have hsame:∀ {e:Int} {w':World} {G:List Own},dU d j l=(d,j,e)->Ctx W w' ((eI x q j++(aZ q d++S))++G) Φ->K (.returned (.int .i64 e)) w':=by
  intro e w' G he cx
  rw [he] at hk
  exact hk q.un x.p x.cap x.o w' hsb hq (Ctx.left cx)
 refine fW (wS x.jb 0 lp l.length lc (J:=K∘.returned) cx λw G cx=>(a4A (Φ:=Φ) hT kZ hf).use cx λw cx=>⟨_,rfl,_,Φ,aL,cx,λw G cx=>⟨_,cx.get 1 rfl rfl,Br.intro (λh=>λw G cx=>?_) (λh=>Br.intro (λh2=>λw G cx=>?_) (λh2=>λw G cx=>⟨(j.bytes:Int),cx.get 1 rfl rfl,?_,Br.intro (λh3=>λw G cx=>?_) (λh3=>?_)⟩))⟩⟩)
 .exact hsame (by unfold dU;rw [if_pos h]) cx
 .exact hsame (by unfold dU;rw [if_neg (by rw [h];simp),if_pos (List.eq_nil_of_length_eq_zero (by have:=eC h2;omega))]) cx
 .rw [bJ];unfold aX;omega
 all_goals rw [bJ] at *
 all_goals have h:¬ j.broken=true:=by rw [h];simp
 all_goals have h2:¬ l=[]:=λe=>cS h2 (by rw [e];rfl)
 .exact hsame (by unfold dU;rw [if_neg h,if_neg h2,if_pos (by have:=eC h3;omega)]) cx
 have h3:¬ 1048576<j.bytes+(aO l).length:=by have:=cS h3;omega
 have aVv:dU d j l=if (L6 d j l).2≠0 then ((L6 d j l).1,{ j with broken:=true },(L6 d j l).2) else IX j (j.list++l) (j.bytes+(aO l).length) (sM (L6 d j l).1 j (j.bytes+(aO l).length) (j.list.length+l.length)):=by
  unfold dU;rw [if_neg h,if_neg h2,if_neg h3]
 rw [aVv] at hk
 have hlk:=a0k d j l
 have pX:L6 d j l=if (bW d j.base j.bytes (aO l)).2=0 then bM (bW d j.base j.bytes (aO l)).1 j.base else bW d j.base j.bytes (aO l):=rfl
 clear aVv hsame
 refine ⟨_,Φ,aL,λw G cx=>cx,some ⟨q.db,0,none⟩,λw G cx=>⟨_,cx.get 1 rfl rfl,rfl⟩,j.base,λw G cx=>⟨_,cx.get 1 rfl rfl,rfl⟩,(j.bytes:Int),λw G cx=>⟨_,cx.get 1 rfl rfl,rfl⟩,λw G cx=>?_⟩
 have hwk:=tQ d j.base j.bytes (aO l)
 refine TV (S:=eI x q j++(S++G)) hq hkp (by omega) (J7 cx) λu w hq1 cx=>?_
 generalize bW d j.base j.bytes (aO l)=r at pX hq1 cx hwk
 obtain ⟨d1,e1⟩:=r
 simp only at pX hq1 cx hwk
 refine ⟨e1,rfl,eI x q j++(aZ (q.mv u) d1++S),Φ,aL,tT cx,?_⟩
 refine dF (λn R' aV=>∃ u,n=(L6 d j l).2/\R'=eI x q j++(aZ (q.mv u) (L6 d j l).1++S)/\aV=Φ/\oR (q.mv u) (L6 d j l).1) ⟨Br.intro (λh4=>?_) (λh4=>?_),?_⟩
 .rw [if_pos (eC h4)] at pX
  refine ⟨_,Φ,aL,λw G cx=>cx,some ⟨q.db,0,none⟩,λw G cx=>⟨_,cx.get 1 rfl rfl,rfl⟩,j.base,λw G cx=>⟨_,cx.get 1 rfl rfl,rfl⟩,λw G cx=>?_⟩
  refine CU (q:=q.mv u) (S:=eI x q j++(S++G)) hq1 (hkp.of hwk u) (J7 cx) λu w qP cx=>⟨_,rfl,eI x q j++(aZ (q.mv u) (bM d1 j.base).1++S),Φ,aL,tT cx,_,Φ,aL,λw G cx=>cx,u,by rw [pX],by rw [pX],rfl,by rw [pX];exact qP⟩
 .rw [if_neg (cS h4)] at pX
  exact ⟨_,Φ,aL,λw G cx=>cx,u,by rw [pX],by rw [pX],rfl,by rw [pX];exact hq1⟩
 clear pX hq1 cx hwk
 rintro n R1 Φ st ⟨u,rfl,rfl,rfl,hq1⟩
 generalize L6 d j l=r at hk hq1 hlk
 obtain ⟨d1,e1⟩:=r
 simp only at hk hq1 hlk ⊢
 refine Br.intro (λh4=>λw G cx=>⟨cx.can 1 rfl (by show 5+1<=6;omega),λw' hw'=>?_⟩) (λh4=>?_)
 .rw [if_pos (eC h4)] at hk
  exact ⟨eI x q { j with broken:=true }++(aZ (q.mv u) d1++S),Φ,aL,cx.put 1 hw' rfl,λw G cx=>hk u x.p x.cap x.o w hsb hq1 (Ctx.left cx)⟩
 rw [if_neg (cS h4)] at hk
 refine ⟨_,Φ,aL,λw G cx=>cx,(j.bytes:Int),λw G cx=>⟨_,cx.get 1 rfl rfl,rfl⟩,x.p,j.list.length,x.cap,λw G cx=>⟨_,_,_,cx.get 1 rfl rfl,rfl⟩,by unfold aX;omega,by unfold aX;omega,λw G cx=>?_⟩
 rw [<-Int.natCast_add,<-Int.natCast_add]
 have hnk:=K3 d1 j (j.bytes+(aO l).length) (j.list.length+l.length)
 refine a7n (S:=S++G) (q:=q.mv u) hq1 (hkp.of hlk u) hoff hT (by omega) (by omega) (by rw [<-b9 (aZ _ _),<-b9];exact cx) λu w qP cx=>?_
 have hnl:(sM d1 j (j.bytes+(aO l).length) (j.list.length+l.length)).2.1.list=j.list:=rfl
 have hnb:(sM d1 j (j.bytes+(aO l).length) (j.list.length+l.length)).2.1.bytes=j.bytes:=rfl
 generalize sM d1 j (j.bytes+(aO l).length) (j.list.length+l.length)=r at hk qP cx hnk hnl hnb
 obtain ⟨d2,j2,e2⟩:=r
 simp only at hk qP cx hnk hnl hnb
 refine ⟨e2,rfl,eI x q j2++(aZ (q.mv u) d2++S),Φ,aL,by rw [<-b9 (aZ _ _),<-b9] at cx;exact cx,Br.intro (λh5=>λw G cx=>?_) (λh5=>?_)⟩
 .have e:IX j (j.list++l) (j.bytes+(aO l).length) (d2,j2,e2)=(d2,j2,e2):=by unfold IX;rw [if_pos (eC h5)]
  rw [e] at hk
  exact hk u x.p x.cap x.o w (by rw [hnl];exact hsb) qP (Ctx.left cx)
 have e:IX j (j.list++l) (j.bytes+(aO l).length) (d2,j2,e2)=(d2,{ j2 with list:=j.list++l,bytes:=j.bytes+(aO l).length },0):=by unfold IX;rw [if_neg (cS h5)]
 rw [e] at hk
 have hsub:∀ {o1 o2 o3:Own} {X:List Own},[o2].Sublist ([o1,o2,o3]++X):=fun {o1 o2 o3 X}=>.cons _ (.cons_cons _ (List.nil_sublist _))
 refine ⟨[],VI,aL,λw G cx=>bX cx (List.nil_sublist _),[.blk x.jb (joB x q j2) 335],VI,aL,λw G cx=>bX cx hsub,λw G cx=>⟨_,_,_,cx.get 1 rfl rfl,(j.bytes:Int),λw G cx=>⟨(j2.bytes:Int),cx.get 0 rfl rfl,by rw [hnb]⟩,by unfold aX;omega,λw G cx=>?_⟩⟩
 rw [hnl]
 obtain ⟨p',cap',w',o',hr,b0z,c2⟩:=hsb.app (c2:=lc) (S:=.blk x.jb (joB x q j2) 335 :: eS x.cb q j2.cell :: ((aZ (q.mv u) d2++S)++G)) cx kZ (List.length_pos_iff.2 h2) hn
 refine ⟨p',_,cap',w',hr,[o',.blk x.jb (joB x q j2) 335,eS x.cb q j2.cell]++(aZ (q.mv u) d2++S),Φ,aL,c2,λw G cx=>bX cx (List.nil_sublist _),λw G cx=>bX cx hsub,λw G cx=>⟨cx.can 1 rfl (by show 3+1<=6;omega),λw' hw'=>?_⟩⟩
 refine ⟨[o',.blk x.jb ((joB x q j2).set 3 (.slice p' (j.list.length+l.length) cap')) 335,eS x.cb q j2.cell]++(aZ (q.mv u) d2++S),Φ,aL,cx.put 1 hw' rfl,λw G cx=>bX cx (List.nil_sublist _),trivial,λw G cx=>⟨cx.can 1 rfl (by show 4+1<=6;omega),λw' hw'=>?_⟩⟩
 rw [<-Int.natCast_add] at hw'
 refine ⟨[o',.blk x.jb (((joB x q j2).set 3 (.slice p' (j.list.length+l.length) cap')).set 4 (.int .i64 ((j.bytes+(aO l).length:Nat):Int))) 335,eS x.cb q j2.cell]++(aZ (q.mv u) d2++S),Φ,aL,cx.put 1 hw' rfl,λw G cx=>bX cx (List.nil_sublist _),trivial,λw G cx=>?_⟩
 refine hk u p' cap' o' w b0z qP ?_
 have e3:joB (x.mv p' cap' o') q { j2 with list:=j.list++l,bytes:=j.bytes+(aO l).length }=((joB x q j2).set 3 (.slice p' (j.list.length+l.length) cap')).set 4 (.int .i64 ((j.bytes+(aO l).length:Nat):Int)):=by
  show [_,_,_,Value.slice p' (j.list++l).length cap',_,_]=_
  rw [List.length_append];rfl
 show Ctx W w (o' :: .blk x.jb (joB (x.mv p' cap' o') q { j2 with list:=j.list++l,bytes:=j.bytes+(aO l).length }) 335 :: _) Φ
 rw [e3]
 exact Ctx.left cx
end
section
variable {W w:World} {S G:List Own} {Φ:PW}
theorem aLu [aB Φ] {q d} (hq:oR q d) (hkp:J6 Φ q d) (hoff:∀ M w,Φ M w->rM M w) (hT:∀ M w,Φ M w->yB M w) {x j} (hsb:SB x.p x.cap j.list x.o) {n} (hf:(aO j.list).length<=1000000000) (cx:Ctx W w (eI x q j++(aZ q d++S)) Φ) {K} (hk:∀ u p c o w',SB p c (j4 d j n).2.1.list o->oR (q.mv u) (j4 d j n).1->Ctx W w' (eI (x.mv p c o) q (j4 d j n).2.1++(aZ (q.mv u) (j4 d j n).1++S)) Φ->K (.returned (.int .i64 (j4 d j n).2.2)) w'):
  aD F.oK #[.pointer (some ⟨x.jb,0,none⟩),.int .i64 n] w K:=by
 have hsame:∀ {e:Int} {w':World} {G:List Own},j4 d j n=(d,j,e)->Ctx W w' ((eI x q j++(aZ q d++S))++G) Φ->K (.returned (.int .i64 e)) w':=by
  intro e w' G he cx
  rw [he] at hk
  exact hk q.un x.p x.cap x.o w' hsb hq (Ctx.left cx)
 have hl:=x7 (l:=j.list) λx hx=>Nat.le_trans (jS hx) (by omega)
 refine fW (B3 x.jb 0 n (J:=K∘.returned) cx λw G cx=>⟨_,cx.get 1 rfl rfl,Br.intro (λh=>λw G cx=>?_) (λh=>λw G cx=>⟨_,_,_,λ_=>cx.get 1 rfl rfl,Br.intro (λh2=>λw G cx=>?_) (λh2=>λw G cx=>⟨_,_,_,cx.get 1 rfl rfl,Br.intro (λh3=>λw G cx=>?_) (λh3=>λw G cx=>⟨_,_,_,cx.get 1 rfl rfl,?_⟩)⟩)⟩)⟩)
 .exact hsame (by unfold j4;rw [if_pos h]) cx
 all_goals have h:¬ j.broken=true:=by rw [h];simp
 .have h2:n<0\/(j.list.length:Int)<n:=by simpa using h2
  exact hsame (by unfold j4;rw [if_neg h,if_pos h2]) cx
 all_goals have h2:¬ (n<0\/(j.list.length:Int)<n):=by simpa using h2
 .exact hsame (by unfold j4;rw [if_neg h,if_neg h2,if_pos (eC h3)]) cx
 have h3:=cS h3
 obtain ⟨k,rfl⟩:∃ k:Nat,n=k:=⟨n.toNat,by omega⟩
 have hk2:k<j.list.length:=by omega
 have hcut:j4 d j (k:Int)=IX j (j.list.take k) (aO (j.list.take k)).length (sM d j (aO (j.list.take k)).length k):=by
  unfold j4;rw [if_neg h,if_neg h2,if_neg h3,Int.toNat_natCast]
 rw [hcut] at hk
 clear hcut hsame
 obtain ⟨g,o2,hp,hcap,_,_⟩:=hsb.cutAt (k:=k) (S:=.blk x.jb (joB x q j) 335 :: eS x.cb q j.cell :: ((aZ q d++S)++G)) cx hk2
 have hle:(aO (j.list.take k)).length<=(aO j.list).length:=by
  have e:aO j.list=aO (j.list.take k)++aO (j.list.drop k):=by rw [<-mI,List.take_append_drop]
  rw [e,List.length_append];omega
 have hsz:∀ y∈j.list,y.size<=maxLen:=λy hy=>Nat.le_trans (jS hy) (by unfold maxLen;omega)
 have hkl:(j.list.take k).length=k:=by rw [List.length_take];omega
 refine ⟨⟨by omega,by omega⟩,λw G cx=>?_⟩
 have c2:Ctx W w ([x.o]++(.blk x.jb (joB x q j) 335 :: eS x.cb q j.cell :: ((aZ q d++S)++G))) Φ:=cx
 have hform:=a4A (Φ:=Go.Vc.iS W [x.o] Φ) (p:=x.p) (cap:=x.cap) (l:=j.list.take k) (λM w h=>hT M w h.less) (λM w h=>aLs (hsb.sl hsz h) k) (by omega)
 rw [hkl] at hform
 rw [show cJ x.p 1 0 x.cap=x.p by rw [hp];exact J3 _ _ _,Int.toNat_natCast]
 refine hform.use c2.aside λw c3=>⟨_,rfl,eI x q j++(aZ q d++S),Φ,aL,c3.A9,λw G cx=>?_⟩
 have hnk:=K3 d j (aO (j.list.take k)).length k
 rw [bJ]
 refine a7n (S:=S++G) hq hkp hoff hT (by omega) (by omega) (by rw [<-b9 (aZ _ _),<-b9];exact cx) λu w qP cx=>?_
 have hnl:(sM d j (aO (j.list.take k)).length k).2.1.list=j.list:=rfl
 generalize sM d j (aO (j.list.take k)).length k=r at hk qP cx hnk hnl
 obtain ⟨d2,j2,e2⟩:=r
 simp only at hk qP cx hnk hnl
 refine ⟨e2,rfl,eI x q j2++(aZ (q.mv u) d2++S),Φ,aL,by rw [<-b9 (aZ _ _),<-b9] at cx;exact cx,Br.intro (λh5=>λw G cx=>?_) (λh5=>λw G cx=>⟨x.p,j2.list.length,x.cap,cx.get 1 rfl rfl,⟨by omega,by omega,by omega⟩,λw G cx=>⟨cx.can 1 rfl (by show 3+1<=6;omega),λw' hw'=>?_⟩⟩)⟩
 .have e:IX j (j.list.take k) (aO (j.list.take k)).length (d2,j2,e2)=(d2,j2,e2):=by unfold IX;rw [if_pos (eC h5)]
  rw [e] at hk
  exact hk u x.p x.cap x.o w (by rw [hnl];exact hsb) qP (Ctx.left cx)
 have e:IX j (j.list.take k) (aO (j.list.take k)).length (d2,j2,e2)=(d2,{ j2 with list:=j.list.take k,bytes:=(aO (j.list.take k)).length },0):=by unfold IX;rw [if_neg (cS h5)]
 rw [e] at hk
 rw [show cJ x.p 1 0 k=x.p by rw [hp];exact J3 _ _ _] at hw'
 refine ⟨[x.o,.blk x.jb ((joB x q j2).set 3 (.slice x.p k k)) 335,eS x.cb q j2.cell]++(aZ (q.mv u) d2++S),Φ,aL,cx.put 1 hw' rfl,λw G cx=>⟨cx.can 1 rfl (by show 4+1<=6;omega),λw' hw'=>?_⟩⟩
 refine ⟨[x.o,.blk x.jb (((joB x q j2).set 3 (.slice x.p k k)).set 4 (.int .i64 ((aO (j.list.take k)).length:Int))) 335,eS x.cb q j2.cell]++(aZ (q.mv u) d2++S),Φ,aL,cx.put 1 hw' rfl,λw G cx=>?_⟩
 have cx:=Ctx.left cx
 obtain ⟨g3,o3,hp3,_,b0A,c4⟩:=hsb.cutAt (k:=k) (S:=.blk x.jb (((joB x q j2).set 3 (.slice x.p k k)).set 4 (.int .i64 ((aO (j.list.take k)).length:Int))) 335 :: eS x.cb q j2.cell :: (aZ (q.mv u) d2++S)) cx hk2
 refine hk u x.p k o3 w b0A qP ?_
 have e3:joB (x.mv x.p k o3) q { j2 with list:=j.list.take k,bytes:=(aO (j.list.take k)).length }=((joB x q j2).set 3 (.slice x.p k k)).set 4 (.int .i64 ((aO (j.list.take k)).length:Int)):=by
  show [_,_,_,Value.slice x.p (j.list.take k).length k,_,_]=_
  rw [hkl];rfl
 show Ctx W w (o3 :: .blk x.jb (joB (x.mv x.p k o3) q { j2 with list:=j.list.take k,bytes:=(aO (j.list.take k)).length }) 335 :: _) Φ
 rw [e3]
 exact c4
theorem aLw [aB Φ] {q x j} (cx:Ctx W w (eI x q j++S) Φ) {K} (hk:∀ w',Ctx W w' (eI x q j++S) Φ->K (.returned (.int .i64 (j.list.length:Int))) w'):
  aD F.oL #[.pointer (some ⟨x.jb,0,none⟩)] w K:=by
 refine fW (B4 x.jb 0 (J:=K∘.returned) cx λw G cx=>⟨_,_,_,cx.get 1 rfl rfl,λw G cx=>hk w (Ctx.left cx)⟩)
end
theorem aDT {P} (w dT sT ty elem) {i} (hu:P.underlying dT=some (.slice elem)) (hi:P.info? elem=some i) (b q c):
  (Builtin.copy_ #[dT,sT] ty #[.slice (some ⟨b,0,none⟩) 0 0,.slice q 0 c]).run P w=.ok (Go.goInt 0) w:=by
 simp [Builtin.copy_,run_underlying hu,Builtin.lenOf,Builtin.firstCells,sizeOf,typeInfo,hi]
 cases q<;>simp [loadCells,loadCellsFrom,storeCells,Result.andThen]
section
variable {W w:World} {S G:List Own} {Φ:PW}
theorem aDU [aB Φ] {p cap l o b} (hsb:SB p cap l o) (cx:Ctx W w (.blk b (List.replicate l.length (Value.string (ByteArray.mk #[]))) 9 :: o :: S) Φ):
  ∃ w',Sem.run prog (builtin Builtin.copy #[40,40] 3 #[false,false] #[.slice (some ⟨b,0,none⟩) l.length l.length,.slice p l.length cap]) w=.ok (.value (.int .i64 l.length)) w'/\Ctx W w' (.blk b (dL l) 9 :: o :: S) Φ:=by
 obtain ⟨i,z,e1,e2,e3,e4,e5,e6⟩:=uP (P:=prog) (ts:=40) (t:=9) (size:=1) (bytes:=16) (by kernel_rfl)
 by_cases h:l=[]
 .subst h
  exact ⟨w,a4u (aDT w _ _ _ _ e1 e2 b p cap),cx⟩
 .have hpos:=List.length_pos_iff.2 h
  have BK:=cx.swap
  obtain ⟨g,hg,_⟩:=hsb.get BK hpos
  subst hg
  have hsrc:∀ j v,(dL l)[j]? = some v->w.cell? ((⟨g,0,none⟩:Addr).add j)=some v:=λj v hj=>by
   have hjl:j<l.length:=by have:=(List.getElem?_eq_some_iff.1 hj).1;rw [fI] at this;exact this
   obtain ⟨g2,hg2,hc⟩:=hsb.get BK hjl
   cases hg2
   rw [List.getElem?_map,List.getElem?_eq_getElem hjl] at hj
   rw [addr_add,Nat.zero_add,hc]
   exact hj
  have hcan:aG w b 0 l.length:=cx.can 0 rfl (by rw [List.length_replicate];omega)
  have hr:=aDG (P:=prog) w 40 40 3 9 b 0 l.length l.length ⟨g,0,none⟩ l.length cap (dL l) e1 e2 (by rw [e4,fI,Nat.mul_one];exact (Nat.min_self _).symm) hsrc (λj hj=>(hcan j (by rw [fI] at hj;exact hj)).1) (λj hj=>(hcan j (by rw [fI] at hj;exact hj)).2) (λv hv=>by
   obtain ⟨y,_,rfl⟩:=List.mem_map.1 hv;rfl)
  rw [show Nat.min l.length l.length=l.length from Nat.min_self _] at hr
  refine ⟨_,a4u hr,?_⟩
  have c3:=cx.F6 0 rfl (b:=b) (i:=0) (vs:=dL l) rfl
  rw [JZ _ _ _ (by rw [fI,List.length_replicate];omega),List.take_zero,List.nil_append,fI,Nat.zero_add,List.drop_eq_nil_of_le (by rw [List.length_replicate];omega),List.append_nil] at c3
  exact c3
theorem aLx [aB Φ] {q x j} (hsb:SB x.p x.cap j.list x.o) (hl:j.list.length<=1000000000) (cx:Ctx W w (eI x q j++S) Φ) {K} (hk:∀ b w',Ctx W w' (.blk b (dL j.list) 9 :: (eI x q j++S)) Φ->K (.returned (.slice (some ⟨b,0,none⟩) j.list.length j.list.length)) w'):
  aD F.oJ #[.pointer (some ⟨x.jb,0,none⟩)] w K:=by
 refine fW (B2 x.jb 0 (J:=K∘.returned) cx λw G cx=>⟨_,_,_,cx.get 1 rfl rfl,⟨by omega,by omega,by omega,by omega⟩,λb w G cx=>⟨_,_,_,cx.get 2 rfl rfl,λw G cx=>?_⟩⟩)
 rw [Int.toNat_natCast] at cx ⊢
 obtain ⟨w',hr,c2⟩:=aDU (S:=.blk x.jb (joB x q j) 335 :: eS x.cb q j.cell :: (S++G)) hsb cx
 exact ⟨_,w',hr,.blk b (dL j.list) 9 :: (eI x q j++S),Φ,aL,c2,λw G cx=>hk b w (Ctx.left cx)⟩
def aB3 (base:Int):Nat->gZ->gZ × Option sE × Int
 | 0,d=>(d,IY d base)
 | k+1,d=>if (bM d (if k=0 then base+1 else base)).2≠0 then ((bM d (if k=0 then base+1 else base)).1,none,(bM d (if k=0 then base+1 else base)).2) else aB3 base k (bM d (if k=0 then base+1 else base)).1
theorem a99 {d base} (h:¬ (base<0\/14<base)):qK d base=aB3 base 2 d:=by
 unfold qK;rw [if_neg h];rfl
theorem NW {d f e} (h:uW d f=(none,e)):e≠0:=by
 unfold uW at h
 repeat' split at h
 all_goals first
  | (cases h;assumption)
  | (cases h;decide)
  | cases h
theorem a7o {d q} (hq:oR q d) {f e c} (h:uW d f=(some c,e)):c.value.length<=16777216/\e=0:=by
 unfold uW at h
 repeat' split at h
 all_goals first
  | (cases h;exact ⟨Nat.zero_le _,rfl⟩)
  | (cases h;exact ⟨a0j hq _ _ _,rfl⟩)
  | cases h
theorem a2R [aB Φ] {q d} (hq:oR q d) (hkp:J6 Φ q d) (hoff:∀ M w,Φ M w->rM M w) (hN:∀ M w,Φ M w->tM M w) {base} (cx:Ctx W w (aZ q d++S) Φ) {K} (hn:∀ u d' e w',qK d base=(d',none,e)->oR (q.mv u) d'->d'.keep=d.keep->Ctx W w' (aZ (q.mv u) d'++S) Φ->K (.returned (.tuple #[.pointer none,.int .i64 e])) w') (hs:∀ u x d' j w',qK d base=(d',some j,0)->SB x.p x.cap j.list x.o->oR (q.mv u) d'->d'.keep=d.keep->Ctx W w' (eI x q j++(aZ (q.mv u) d'++S)) Φ->K (.returned (.tuple #[.pointer (some ⟨x.jb,0,none⟩),.int .i64 0])) w'):
  aD F.wM #[.pointer (some ⟨q.db,0,none⟩),.int .i64 base] w K:=by
 refine fW (PR q.db 0 base (J:=K∘.returned) cx λw G cx=>Br.intro (λh=>λw G cx=>?_) (λh=>?_))
 .have h:base<0\/14<base:=by simpa using h
  exact hn q.un d 1 w (by unfold qK;rw [if_pos h]) hq rfl (Ctx.left cx)
 have h:¬ (base<0\/14<base):=by simpa using h
 have dZ:=a99 (d:=d) h
 refine ⟨by unfold aX;omega,λkb=>dF (λn R' aV k=>∃ u d1,n=((2 - k:Nat):Int)/\k<=2/\R'=.blk kb [.int .i64 base,.int .i64 (base+1)] 3 :: (aZ (q.mv u) d1++S)/\aV=Φ/\oR (q.mv u) d1/\d1.keep=d.keep/\qK d base=aB3 base k d1) ⟨⟨_,Φ,2,aL,λw G cx=>cx,q.un,d,rfl,Nat.le_refl _,rfl,rfl,hq,rfl,dZ⟩,?_⟩⟩
 clear cx
 rintro n R1 Φ k st ⟨u,d1,rfl,hk2,rfl,rfl,hq1,hkeep,dZ⟩
 refine Br.intro (λhlt=>⟨⟨by omega,eC hlt⟩,λw G cx=>?_⟩) (λhge=>⟨by unfold aX;omega,λw G cx=>?_⟩)
 .have hlt:=eC hlt
  obtain ⟨k,rfl⟩:∃ m,k=m+1:=⟨k - 1,by omega⟩
  have J0:w.cell? ⟨kb,0+((2 - (k+1):Nat):Int).toNat,none⟩=some (.int .i64 (if k=0 then base+1 else base)):=by
   rw [Int.toNat_natCast,Nat.zero_add]
   have hk:k=0\/k=1:=by omega
   rcases hk with rfl|rfl
   .exact cx.get 0 rfl rfl
   .exact cx.get 0 rfl rfl
  refine ⟨_,J0,λw G cx=>?_⟩
  have dZ:qK d base=if (bM d1 (if k=0 then base+1 else base)).2≠0 then ((bM d1 (if k=0 then base+1 else base)).1,none,(bM d1 (if k=0 then base+1 else base)).2) else aB3 base k (bM d1 (if k=0 then base+1 else base)).1:=dZ
  have hsk:=nY d1 (if k=0 then base+1 else base)
  refine CU (q:=q.mv u) (S:=.blk kb [.int .i64 base,.int .i64 (base+1)] 3 :: (S++G)) hq1 (hkp.of hkeep u) (NU cx) λu w qP cx=>?_
  generalize bM d1 (if k=0 then base+1 else base)=r at dZ qP cx hsk
  obtain ⟨d2,e2⟩:=r
  simp only at dZ qP cx hsk
  refine ⟨e2,rfl,.blk kb [.int .i64 base,.int .i64 (base+1)] 3 :: (aZ (q.mv u) d2++S),Φ,aL,EE cx,Br.intro (λh4=>λw G cx=>?_) (λh4=>?_)⟩
  .rw [if_pos (eC h4)] at dZ
   exact hn u d2 e2 w dZ qP (hsk.trans hkeep) (Ctx.left (Ctx.drop1 cx))
  .rw [if_neg (cS h4)] at dZ
   exact ⟨by unfold aX;omega,_,Φ,k,aL,λw G cx=>cx,⟨u,d2,by omega,by omega,rfl,rfl,qP,hsk.trans hkeep,dZ⟩,Nat.lt_succ_self _⟩
 .have hge:=cS hge
  have hk0:k=0:=by omega
  subst hk0
  have dZ:qK d base=(d1,IY d1 base):=dZ
  have cx:Ctx W w (aZ (q.mv u) d1++(S++G)) Φ:=by
   have this:Ctx W w ((aZ (q.mv u) d1++S)++G) Φ:=cx.drop1
   rw [b9] at this
   exact this
  unfold IY at dZ
  refine a2O (q:=q.mv u) hq1 hoff cx (λe w ho cx=>?_) (λc cb w ho cx=>?_)
  .rw [ho] at dZ
   refine ⟨none,e,rfl,aZ (q.mv u) d1++S,Φ,aL,by rw [b9];exact cx,Br.intro (λh4=>λw G cx=>?_) (λh4=>absurd (Decidable.not_not.1 (cS h4)) (NW ho))⟩
   exact hn u d1 e w dZ hq1 hkeep (Ctx.left cx)
  .rw [ho] at dZ
   have hcv:=(a7o hq1 ho).1
   simp only at dZ
   unfold a4s at dZ
   refine ⟨some ⟨cb,0,none⟩,0,rfl,eS cb q c :: (aZ (q.mv u) d1++S),Φ,aL,re4 cx,Br.intro (λh4=>absurd rfl (eC h4)) (λh4=>λw G cx=>?_)⟩
   refine a7m (S:=(aZ (q.mv u) d1++S)++G) hN (by omega) cx λw cx=>?_
   generalize qJ c=r at dZ
   obtain ⟨b,m,ok⟩:=r
   simp only at dZ
   refine ⟨b,m,ok,rfl,eS cb q c :: (aZ (q.mv u) d1++S),Φ,aL,cx,Br.intro (λh5=>λw G cx=>?_) (λh5=>λw G cx=>?_)⟩
   .rw [if_pos (by simpa using h5)] at dZ
    exact hn u d1 2 w dZ hq1 hkeep (Ctx.left (Ctx.drop1 cx))
   rw [if_neg (by simpa using h5)] at dZ
   have hrl:=a0j hq1 base 0 b
   refine TT (q:=q.mv u) (S:=eS cb q c :: (S++G)) hq1 (NU cx) λw cx=>?_
   generalize dA d1 base 0 b=r at dZ hrl
   obtain ⟨s,e⟩:=r
   simp only at dZ hrl
   refine ⟨bs s,e,rfl,eS cb q c :: (aZ (q.mv u) d1++S),Φ,aL,EE cx,Br.intro (λh6=>λw G cx=>?_) (λh6=>λw G cx=>?_)⟩
   .rw [if_pos (eC h6)] at dZ
    exact hn u d1 e w dZ hq1 hkeep (Ctx.left (Ctx.drop1 cx))
   rw [if_neg (cS h6)] at dZ
   refine aHR (S:=(eS cb q c :: (aZ (q.mv u) d1++S))++G) hN hrl cx (λp k cp w hr cx=>?_) (λp cap l o w hr hsb cx=>?_)
   .rw [hr] at dZ
    refine ⟨p,k,cp,false,rfl,eS cb q c :: (aZ (q.mv u) d1++S),Φ,aL,cx,λw G cx=>Br.intro (λ_=>λw G cx=>?_) (λh7=>by simp at h7)⟩
    exact hn u d1 2 w dZ hq1 hkeep (Ctx.left (Ctx.drop1 cx))
   .rw [hr] at dZ
    simp only at dZ
    refine ⟨p,_,cap,true,rfl,o :: eS cb q c :: (aZ (q.mv u) d1++S),Φ,aL,cx,λw G cx=>Br.intro (λh7=>λw G cx=>?_) (λh7=>λjb w G cx=>?_)⟩
    .have h7:(s.length:Int)≠b:=by rw [bJ] at h7;simpa using h7
     rw [if_pos h7] at dZ
     exact hn u d1 2 w dZ hq1 hkeep (Ctx.left (Ctx.drop1 (Ctx.drop1 cx)))
    .have h7:(s.length:Int)=b:=by rw [bJ] at h7;simpa using h7
     rw [if_neg (λh=>h h7)] at dZ
     have hb:b=((b.toNat:Nat):Int):=by omega
     refine hs u ⟨jb,cb,p,cap,o⟩ d1 _ w dZ hsb hq1 hkeep ?_
     have cx:Ctx W w ([Own.blk jb [.pointer (some ⟨q.db,0,none⟩),.int .i64 base,.pointer (some ⟨cb,0,none⟩),.slice p l.length cap,.int .i64 b,.bool false] 335,o]++(eS cb q c :: (aZ (q.mv u) d1++S))) Φ:=Ctx.left cx
     rw [hb] at cx
     exact cx.perm (List.Perm.swap _ _ _)
end
section
variable {W w:World} {S G:List Own} {Φ:PW}
theorem aB4 [aB Φ] {p q ac bc} {a b:List ByteArray} (ha:∀ M w,Φ M w->Sl M w p a) (hb:∀ M w,Φ M w->Sl M w q b) (hl:a.length<=1000000000):bY Φ prog F.gD #[.slice p a.length ac,.slice q b.length bc] (.bool (decide (a=b))):=by
 refine .there (λM w h=>(ha M w h).there) λhta=>.there (λM w h=>(hb M w h).there) λhtb=>?_
 refine iD (xW p a.length ac q b.length bc) λW R=>Br.intro (λh=>λw G cx=>⟨?_,cx.left⟩) (λh=>?_)
 .rw [decide_eq_false λe=>eC h (by rw [e])]
 have h:a.length=b.length:=by have:=cS h;omega
 refine dF (λn R' aV k=>∃ i:Nat,n=i/\i+k=a.length/\R'=R/\aV=Φ/\a.take i=b.take i) ⟨⟨_,Φ,a.length,aL,λw G cx=>cx,0,rfl,by omega,rfl,rfl,by simp⟩,?_⟩
 rintro n R1 Φ k _ ⟨i,rfl,hik,rfl,rfl,htk⟩
 refine Br.intro (λhlt=>λw G cx=>?_) (λhge=>λw G cx=>⟨?_,cx.left⟩)
 .have hlt:i<a.length:=by have:=eC hlt;omega
  obtain ⟨k,rfl⟩:∃ m,k=m+1:=⟨k - 1,by omega⟩
  obtain ⟨g,o,rfl⟩:=hta (by omega)
  obtain ⟨g2,o2,rfl⟩:=htb (by omega)
  refine ⟨⟨by omega,by omega⟩,aU g o rfl ⟨a[i],by rw [Int.toNat_natCast];exact a4z (ha _ _ cx.tX) hlt,⟨by omega,by omega⟩,aU g2 o2 rfl ⟨b[i]'(by omega),by rw [Int.toNat_natCast];exact a4z (hb _ _ cx.tX) (by omega),Br.intro (λhne=>λw G cx=>⟨?_,cx.left⟩) (λhe=>?_)⟩⟩⟩
  .rw [decide_eq_false λe=>eC hne (by simp only [e])]
  .refine ⟨by unfold aX;omega,_,Φ,k,aL,λw G cx=>cx,⟨i+1,by omega,by omega,rfl,rfl,?_⟩,Nat.lt_succ_self _⟩
   rw [List.take_succ_eq_append_getElem hlt,List.take_succ_eq_append_getElem (by omega:i<b.length),htk,Decidable.not_not.1 (cS he)]
 .have hge:i=a.length:=by have:=cS hge;omega
  subst hge
  rw [List.take_length,h,List.take_length] at htk
  rw [decide_eq_true htk]
structure JI (Φ:PW):Prop where
 num:∀ M w,Φ M w->tM M w
 off:∀ M w,Φ M w->rM M w
theorem JI.tab (h:JI Φ):∀ M w,Φ M w->yB M w:=λM w hp=>(h.num M w hp).1
theorem JI.weak (h:JI Φ) {Ψ} (e:∀ M w,Ψ M w->Φ M w):JI Ψ:=⟨λM w hp=>h.num M w (e M w hp),λM w hp=>h.off M w (e M w hp)⟩
theorem append_nil (d) {j} (h:j.broken=false):dU d j []=(d,j,0):=by
 unfold dU;rw [if_neg (by rw [h];simp),if_pos rfl]
theorem a7p (j l b r):(IX j l b r).1=r.1:=by
 unfold IX;split<;>rfl
theorem aDV (d j n):(j4 d j n).1.keep=d.keep:=by
 unfold j4
 split
 .rfl
 .split
  .rfl
  .split
   .rfl
   .rw [a7p,K3]
theorem a4B (d j l):(dU d j l).1.keep=d.keep:=by
 unfold dU
 split
 .rfl
 .split
  .rfl
  .split
   .rfl
   .split
    .exact a0k _ _ _
    .rw [a7p,K3,a0k]
theorem aAa {f g s v} (h:Ev f g) (h1:fH f.now s v) (h2:fH f.last s v):fH g.now s v/\fH g.last s v:=by
 induction h with
 | refl=>exact ⟨h1,h2⟩
 | step _ hs ih=>exact ⟨QY ih.1 ih.2 hs,QY ih.1 ih.2 hs⟩
theorem aLy {d d' j} (h:Live d j) (h1:Ev (d.files j.base) (d'.files j.base)) (h2:Ev (d.files (j.base+1)) (d'.files (j.base+1))):Live d' j:=by
 have hc:=aAa h2 h.now h.last
 exact ⟨h.base,h.file,h.bytes,h.most,hc.1,hc.2,h.enc,h1.pre h.log⟩
end
end Go.Proofs.YtnlkemjhgdbfkaaGreatDoor
end

section
namespace Go.Vc
section
variable {P:Program} {W w:World} {S:List Own} {Φ:PW}
theorem aDW (w t e ty z) (ht:P.underlying t=some (.slice e)) (hv:∀ w,(zeroValue e).run P w=.ok z w) (h1:∀ v∈z.cells,v.oneCell'=true) (hp:0<z.cells.size) (b o n c) (hn:0<n) (hc:∀ j,j<n*z.cells.size->(w.cell? ⟨b,o+j,none⟩).isSome=true) (hf:∀ j,j<n*z.cells.size->w.frozen? ⟨b,o+j,none⟩=false):
  (Builtin.clear_ #[t] ty #[.slice (some ⟨b,o,none⟩) n c]).run P w=.ok (.tuple #[]) (w.setCells b o (Builtin.zeroCells z.cells n).toList):=by
 have hl:(Builtin.zeroCells z.cells n).toList.length=n*z.cells.size:=by simp [Builtin.zeroCells]
 have hst:=run_storeCells_cells (P:=P) b o (Builtin.zeroCells z.cells n).toList 0 w (by rw [hl];simpa using hc) (by rw [hl];simpa using hf) (λv S8=>by
  simp only [Builtin.zeroCells,Array.toList_map,List.mem_map] at S8
  obtain ⟨i,_,rfl⟩:=S8
  have hlt:i % z.cells.size<z.cells.size:=Nat.mod_lt _ hp
  rw [getElem!_pos z.cells _ hlt]
  exact h1 _ (Array.getElem_mem hlt))
 simp only [Nat.add_zero] at hst
 obtain ⟨m,rfl⟩:∃ m,n=m+1:=⟨n - 1,by omega⟩
 simp [Builtin.clear_,run_underlying ht,hv,hst]
theorem aDX (cs vs n):(mV cs n vs).take n=cs.take n:=by
 apply List.ext_getElem?
 intro i
 by_cases hi:i<n
 .rw [List.getElem?_take_of_lt hi,List.getElem?_take_of_lt hi,rH _ _ _ _ (.inl hi)]
 .rw [List.getElem?_eq_none (by rw [List.length_take];omega),List.getElem?_eq_none (by rw [List.length_take];omega)]
theorem Ctx.aLz [aB Φ] {p n cap cs t size} (c:Ctx W w (.buf p n cap cs t size :: S) Φ) (h0:0<cs.length) {ts ty i z} (ht:P.underlying ts=some (.slice t)) (hi:P.info? t=some i) (hz:i.zero=some z) (hs:i.size=size) (hzs:z.cells.size=size) {a m c2 news} (hm:0<m) (hl:news.length=m*size) (hnews:∀ j u,news[j]? = some u->w.cell? (a.add j)=some u) (h1:∀ u∈news,mU u=true) (hbytes:(n+m)*i.bytes<=140737488355328) (hlen:n+m<=140737488355328):
  ∃ p' cap' w' X,(Builtin.append_ #[ts,ts] ty #[.slice p n cap,.slice (some a) m c2]).run P w=.ok (.slice p' (n+m) cap') w'/\Ctx W w' ((.buf p' (n+m) cap' (cs++news) t size :: X)++S) Φ /\
   ∀ {W2 w2:World} {S2:List Own} {AP:PW} [aB AP],Ctx W2 w2 ((.buf p' (n+m) cap' (cs++news) t size :: X)++S2) AP->Ctx W2 w2 (.buf p n cap cs t size :: S2) AP:=by
 subst hs
 have h1':∀ u∈news,u.oneCell'=true:=λu hu=>by have:=h1 u hu;cases u<;>simp_all [mU,Value.oneCell']
 obtain ⟨rW,hown⟩:=c.own _ List.mem_cons_self
 have hlen':(cs++news).length=(n+m)*i.size:=by rw [List.length_append,rW,hl,Nat.add_mul]
 rcases hown with ⟨e,rfl⟩|⟨g,cap',cur,e,_,hg,hnc,hcm,hcs,r3⟩
 .cases e
  rw [Nat.zero_mul] at rW
  omega
 .cases e
  by_cases hroom:n+m<=cap
  .have hfit:n*i.size+news.length<=cur.size:=by rw [hl,hcs,<-Nat.add_mul];exact Nat.mul_le_mul_right _ hroom
   have hr:=run_append_room (P:=P) w ts ty t i ht hi g n cap cur hg a m c2 news hl hnews h1' hroom hfit
   obtain ⟨p',cap',w',hr',c'⟩:=c.append 0 rfl (ty:=ty) (c2:=c2) ht hi hz rfl hzs hm hl hnews h1 hbytes hlen
   have e:=hr.symm.trans hr'
   injection e with e1 e2
   injection e1 with e3 e4 e5
   subst e3 e5
   refine ⟨_,_,_,[],hr',c',λc2=>?_⟩
   have c3:=Ctx.X1 (k:=n) c2 (by omega)
   rw [<-rW,List.take_left] at c3
   exact c3
  .have holds:∀ j u,cs[j]? = some u->w.cell? ((⟨g,0,none⟩:Addr).add j)=some u:=by
    intro j u hj
    have hlt:j<cs.length:=(List.getElem?_eq_some_iff.1 hj).1
    have h2:cur[j]? = some u:=by
     rw [<-r3,List.getElem?_take_of_lt (by omega)] at hj
     simpa using hj
    rw [addr_add,Nat.zero_add]
    simp [World.cell?,hg,h2]
   have hr:=run_append_grow (P:=P) w ts ty t i z ht hi hz ⟨g,0,none⟩ n cap cs rW holds a m c2 news hl hnews (by omega) (by omega) (growslice_fits (by omega) hbytes)
   have hge:=grownCap_ge w (n+m) cap t
   have hcm2:grownCap w (n+m) cap t<=maxLen:=grownCap_le_maxLen w (n+m) cap t (by simp only [maxLen];omega)
   have c3:=Ctx.new' (c.draw 1) (.cells (cs.toArray++news.toArray++Builtin.zeroCells z.cells (grownCap w (n+m) cap t - (n+m))) t) (.buf (some ⟨w.heap.size,0,none⟩) (n+m) (grownCap w (n+m) cap t) (cs++news) t i.size) rfl
    ⟨hlen',.inr ⟨w.heap.size,_,_,rfl,Nat.zero_le _,qZ w.drew _,hge,hcm2,by
     simp only [Array.size_append,List.size_toArray,size_zeroCells,hzs,rW,hl,<-Nat.add_mul]
     congr 1
     omega,by
     simp only [Array.toList_append,b9]
     rw [<-b9,<-hlen']
     exact List.take_left⟩⟩
   exact ⟨_,_,_,[.buf (some ⟨g,0,none⟩) n cap cs t i.size],hr,c3,λc4=>Ctx.drop1 c4⟩
end
end Go.Vc
namespace Go.Proofs.YtnlkemjhgdbfkaaGreatDoor
open Go.Vc
abbrev pI (p:NS):List Value:=[.int .i64 p.src,.int .i64 p.to,.string p.body]
abbrev aHS (p:NS):Value:=.agg #[.int .i64 p.src,.int .i64 p.to,.string p.body]
def fN (l:List NS):List Value:=l.flatMap pI
structure aHT where
 nb:Nat
 fp:Option Addr
 fc:Nat
abbrev RI (N:aHT) (n:L7):List Value:=[.slice N.fp n.aM.length N.fc,.int .i64 n.split]
def fO (N:aHT) (n:L7):List Own:=[.blk N.nb (RI N n) 251,.buf N.fp n.aM.length N.fc (fN n.aM) 267 3]
theorem K4 (p l):fN (p :: l)=.int .i64 p.src :: .int .i64 p.to :: .string p.body :: fN l:=rfl
theorem a0l (a b):fN (a++b)=fN a++fN b:=by simp [fN]
theorem CV:∀ l:List NS,(fN l).length=l.length*3
 | []=>rfl
 | p :: l=>by rw [K4];simp only [List.length_cons];rw [CV l];omega
theorem TX:∀ (l:List NS) (k:Nat),(fN l).drop (k*3)=fN (l.drop k)
 | l,0=>by simp
 | [],k+1=>by simp [fN]
 | p :: l,k+1=>by
  rw [K4,show (k+1)*3=k*3+1+1+1 by omega]
  simp only [List.drop_succ_cons]
  exact TX l k
theorem a2S:∀ (l:List NS) (k:Nat),(fN l).take (k*3)=fN (l.take k)
 | l,0=>by simp [fN]
 | [],k+1=>by simp [fN]
 | p :: l,k+1=>by
  rw [K4,show (k+1)*3=k*3+1+1+1 by omega]
  simp only [List.take_succ_cons]
  rw [a2S l k]
  rfl
theorem aHU {l k p} (h:l[k]? = some p) (j) (hj:j<3):(fN l)[k*3+j]? = (pI p)[j]? := by
 have hk:k<l.length:=(List.getElem?_eq_some_iff.1 h).1
 have e:(fN l)[k*3+j]? = ((fN l).drop (k*3))[j]? := by rw [List.getElem?_drop]
 rw [e,TX]
 have e2:l.drop k=p :: l.drop (k+1):=by
  rw [List.drop_eq_getElem_cons hk]
  congr 1
  rw [List.getElem?_eq_getElem hk] at h
  exact Option.some.inj h
 rw [e2,K4]
 match j,hj with
 | 0,_=>rfl
 | 1,_=>rfl
 | 2,_=>rfl
theorem aLA (l):∀ u∈fN l,mU u=true:=λu hu=>by
 unfold fN at hu
 obtain ⟨p,_,hp⟩:=List.mem_flatMap.1 hu
 simp only [pI,List.mem_cons,List.not_mem_nil,or_false] at hp
 rcases hp with rfl|rfl|rfl<;>rfl
theorem aB5 (a):Quiet prog F.DL #[.int .i64 a] (.bool (CQ a)) :=
 ⟨λw=>(a39 a w (λv w'=>v=.bool (CQ a)/\w'=w) ⟨rfl,rfl⟩).mono λe w' ⟨v,he,hv,hw⟩=>⟨by rw [he,hv],hw⟩⟩
theorem aB6 {P t n a} (h:0<=a) (h2:a<=64) (w):Sem.run P (binOp .shr t (.int .i64 n) (.int .i64 a)) w=.ok (.int .i64 (n / 2 ^ a.toNat)) w:=by
 rw [binOp_shr,shift_shr_i64 .i64 n a h h2]
 rfl
theorem aHV (n):bits .and .i64 n 65535=n % 65536:=by
 have h15:(BitVec.ofInt 64 65535).toNat=2 ^ 16 - 1:=by decide
 have key:(BitVec.ofInt 64 n &&& BitVec.ofInt 64 65535).toNat=(n % ((2 ^ 64:Nat):Int)).toNat % 2 ^ 16:=by
  rw [BitVec.toNat_and,BitVec.toNat_ofInt,h15,Nat.and_two_pow_sub_one_eq_mod]
 show IntKind.i64.wrap ((BitVec.ofInt 64 n &&& BitVec.ofInt 64 65535).toNat:Nat)=n % 65536
 rw [key,IntKind.wrap_i64]
 omega
theorem aHW {P t} (n w):Sem.run P (binOp .and t (.int .i64 n) (.int .i64 65535)) w=.ok (.int .i64 (n % 65536)) w:=by
 rw [binOp_and,intBits_and,aHV]
 rfl
section
variable {W w:World} {S:List Own} {Φ:PW} {N:aHT} {n:L7}
theorem aHX [aB Φ] (cx:Ctx W w S Φ) {K} (hk:∀ N w',Ctx W w' (fO N ⟨[],0⟩++S) Φ->K (.returned (.pointer (some ⟨N.nb,0,none⟩))) w'):aD F.a3H #[] w K:=by
 refine fW (a35 (J:=K∘.returned) cx λb w G cx=>?_)
 have c1:=cx.left.aCA 267 3
 exact hk ⟨b,none,0⟩ w (c1.perm (.swap _ _ _))
theorem a2T [aB Φ] {a b} (cx:Ctx W w (fO N n++S) Φ) {K} (hk:∀ w',Ctx W w' (fO N n++S) Φ->K (.returned (.bool (yE n.split a b))) w'):
  aD F.wO #[.pointer (some ⟨N.nb,0,none⟩),.int .i64 a,.int .i64 b] w K:=by
 refine fW (QC N.nb 0 a b (J:=K∘.returned) cx λw G cx=>⟨CQ a,λw3 h=>(aB5 a).atN h,CQ b,λ_ w3 h=>(aB5 b).atN h,n.split,λ_=>cx.get 0 rfl rfl,n.split / 2 ^ a.toNat,λh w=>?_,aDF n.split a,λ_ w=>a0f _ w,n.split,λ_=>cx.get 0 rfl rfl,n.split / 2 ^ b.toNat,λh w=>?_,aDF n.split b,λ_ w=>a0f _ w,λw G cx=>?_⟩)
 .simp only [CQ,Bool.and_eq_true,decide_eq_true_eq] at h
  exact aB6 (by omega) (by omega) w
 .simp only [CQ,Bool.and_eq_true,decide_eq_true_eq] at h
  exact aB6 (by omega) (by omega) w
 .have e:(CQ a&&CQ b&&decide (aDF n.split a=aDF n.split b))=yE n.split a b:=by unfold yE;rw [Bool.and_assoc]
  rw [e]
  exact hk w cx.left
theorem aDY [aB Φ] (hl:n.aM.length<=500) {a b s} (cx:Ctx W w (fO N n++S) Φ) {K} (hk:∀ fp fc w',Ctx W w' (fO ⟨N.nb,fp,fc⟩ (wC n a b s).1++S) Φ->K (.returned (.int .i64 (wC n a b s).2)) w'):
  aD F.DJ #[.pointer (some ⟨N.nb,0,none⟩),.int .i64 a,.int .i64 b,.string s] w K:=by
 unfold wC at hk
 refine fW (QA N.nb 0 a b s (J:=K∘.returned) cx λw G cx=>⟨CQ a,λw3 h=>(aB5 a).at h,CQ b,λ_ w3 h=>(aB5 b).at h,Br.intro (λh=>λw G cx=>?_) (λh=>λw G cx=>?_)⟩)
 .rw [if_pos (by
   simp only [Bool.or_eq_true,Bool.not_eq_true',decide_eq_true_eq] at h
   rcases h with (h|h)|h
   .rw [h];rfl
   .rw [h];simp
   .simp [h])] at hk
  exact hk N.fp N.fc w cx.left
 .rw [if_neg (by
   simp only [Bool.or_eq_false_iff,Bool.not_eq_false',decide_eq_false_iff_not] at h
   rw [h.1.1,h.1.2]
   simp [h.2])] at hk
  refine a2T (N:=N) (n:=n) (S:=S++G) (by rw [<-b9];exact cx) λw cx=>⟨_,rfl,fO N n++S,Φ,aL,by rw [b9];exact cx,Br.intro (λh=>λw G cx=>?_) (λh=>λw G cx=>⟨_,_,_,cx.get 0 rfl rfl,Br.intro (λh2=>λw G cx=>?_) (λh2=>λw G cx=>⟨_,_,_,cx.get 0 rfl rfl,λk w G cx=>?_⟩)⟩)⟩
  .rw [if_pos (by simpa using h)] at hk
   exact hk N.fp N.fc w cx.left
  .rw [if_neg (by simpa using h),if_pos (by have:=eC h2;omega)] at hk
   exact hk N.fp N.fc w cx.left
  .rw [if_neg (by simpa using h),if_neg (by have:=cS h2;omega)] at hk
   obtain ⟨p',c',w',hr,_,BK⟩:=((cx.perm (show (Own.blk k [Value.int .i64 a,.int .i64 b,.string s] 267 :: (fO N n++S)++G).Perm (Own.blk k [Value.int .i64 a,.int .i64 b,.string s] 267 :: Own.buf N.fp n.aM.length N.fc (fN n.aM) 267 3 :: (.blk N.nb (RI N n) 251 :: S++G)) from List.Perm.cons _ (List.Perm.swap _ _ _)))).Z9 (ts:=109) (ty:=109) (kb:=#[false,false]) (bytes:=32) (P:=prog) (by kernel_rfl) (by omega) rfl rfl (by omega) (by omega)
   refine ⟨_,_,_,_,hr,Own.buf p' (n.aM.length+1) c' (fN n.aM++pI ⟨a,b,s⟩) 267 3 :: (.blk N.nb (RI N n) 251 :: S),Φ,aL,BK,λw G cx=>⟨cx.can 1 rfl (by show 0+1<=2;omega),λw' hw'=>⟨Own.buf p' (n.aM.length+1) c' (fN n.aM++pI ⟨a,b,s⟩) 267 3 :: (.blk N.nb [.slice p' (n.aM.length+1) c',.int .i64 n.split] 251 :: S),Φ,aL,cx.put 1 hw' rfl,λw G cx=>?_⟩⟩⟩
   have e1:fN n.aM++pI ⟨a,b,s⟩=fN (n.aM++[⟨a,b,s⟩]):=by rw [a0l];rfl
   have e2:n.aM.length+1=(n.aM++[(⟨a,b,s⟩:NS)]).length:=by simp
   rw [e1,e2] at cx
   exact hk p' c' w (cx.left.perm (.swap _ _ _))
theorem aVx:∀ w:World,(zeroValue 267).run prog w=.ok (.agg #[.int .i64 0,.int .i64 0,.string (ByteArray.mk #[])]) w:=λw=>by kernel_rfl
theorem erase_eq (l:List NS) (i):l.eraseIdx i=l.take i++l.drop (i+1):=List.eraseIdx_eq_take_drop_succ l i
theorem aHY [aB Φ] {g cap l i} (hi:i<l.length) (hlen:l.length<=500) (cx:Ctx W w (.buf (some ⟨g,0,none⟩) l.length cap (fN l) 267 3 :: S) Φ) {K} (hk:∀ w',Ctx W w' (.buf (some ⟨g,0,none⟩) (l.eraseIdx i).length cap (fN (l.eraseIdx i)) 267 3 :: S) Φ->K (.returned (.slice (some ⟨g,0,none⟩) (l.eraseIdx i).length cap)) w'):
  aD F.eV #[.slice (some ⟨g,0,none⟩) l.length cap,.int .i64 (i:Int),.int .i64 ((i:Int)+1)] w K:=by
 obtain ⟨_,hnc,hcm⟩:=cx.sU 0 rfl
 have hel:(l.eraseIdx i).length=l.length - 1:=List.length_eraseIdx_of_lt hi
 have hpl:=CV l
 refine fW (mM (some ⟨g,0,none⟩) l.length cap (i:Int) ((i:Int)+1) (J:=K∘.returned) cx ⟨by omega,Br.intro (λh=>by have:=eC h;omega) (λ_=>⟨[],VI,aL,λw G cx=>(Ctx.right cx).weak λ_ _ _=>trivial,by omega,by omega,λw G cx=>?_⟩)⟩)
 obtain ⟨inf,z,e1,e2,e3,e4,e5,e6⟩:=uP (P:=prog) (ts:=109) (t:=267) (size:=3) (bytes:=32) (by kernel_rfl)
 have hj:((i:Int)+1).toNat=i+1:=by omega
 have hi0:((i:Int)).toNat=i:=Int.toNat_natCast i
 rw [hj,hi0]
 have s0:cJ (some (⟨g,0,none⟩:Addr)) 3 0 cap=some ⟨g,0,none⟩:=by unfold cJ;split<;>simp [Addr.add]
 rw [s0]
 obtain ⟨a,ha,hsrc⟩:∃ a:Addr,cJ (some (⟨g,0,none⟩:Addr)) 3 (i+1) cap=some a/\∀ j u,(fN (l.drop (i+1)))[j]? = some u->w.cell? (a.add j)=some u:=by
  unfold cJ
  by_cases hc:cap=i+1
  .rw [if_pos hc]
   refine ⟨_,rfl,λj u hu=>?_⟩
   rw [List.drop_eq_nil_of_le (by omega)] at hu
   simp [fN] at hu
  .rw [if_neg hc,Option.map_some,Addr.add_lit,Nat.zero_add]
   refine ⟨_,rfl,λj u hu=>?_⟩
   rw [<-TX,List.getElem?_drop] at hu
   rw [Addr.add_lit]
   exact cx.a9w 0 rfl rfl hu
 rw [ha]
 have SI:(fN (l.drop (i+1))).length=(l.length - (i+1))*3:=by rw [CV,List.length_drop]
 have can:aG w g (i*3) ((l.length - (i+1))*3):=cx.a9v 0 rfl rfl (by rw [hpl];omega)
 have hr:=run_append_room_cells (P:=prog) (w:=w) 109 109 267 inf e1 e2 g 0 i cap a (l.length - (i+1)) (cap - (i+1)) (fN (l.drop (i+1))) (by rw [SI,e4]) hsrc
  (λu hu=>by have:=aLA _ u hu;cases u<;>simp_all [mU,Value.oneCell']) (by omega) (λj hj=>by rw [SI] at hj;rw [e4,Nat.zero_add];exact (can j hj).1) (λj hj=>by rw [SI] at hj;rw [e4,Nat.zero_add];exact (can j hj).2)
 rw [e4,Nat.zero_add] at hr
 have c1:=cx.WV 0 rfl rfl (by rw [hpl];omega) (by rw [SI,hpl];omega) (w':=w.setCells g (i*3) (fN (l.drop (i+1)))) rfl
 refine ⟨_,_,_,_,uC hr,.buf (some ⟨g,0,none⟩) l.length cap (mV (fN l) (i*3) (fN (l.drop (i+1)))) 267 3 :: S,Φ,aL,c1,by omega,λw G cx=>?_⟩
 have hk9:((i+(l.length - (i+1)):Nat):Int).toNat=l.length - 1:=by omega
 rw [hk9]
 have hne:¬ cap=l.length - 1:=by omega
 have s1:cJ (some (⟨g,0,none⟩:Addr)) 3 (l.length - 1) cap=some ⟨g,(l.length - 1)*3,none⟩:=by unfold cJ;rw [if_neg hne,Option.map_some,Addr.add_lit,Nat.zero_add]
 have hn1:((l.length:Nat):Int).toNat - (l.length - 1)=1:=by omega
 rw [s1,hn1]
 have kZ:(mV (fN l) (i*3) (fN (l.drop (i+1)))).length=l.length*3:=by rw [HY,hpl]
 have aVy:aG w g ((l.length - 1)*3) (1*3):=cx.a9v 0 rfl rfl (by rw [kZ];omega)
 have rW:=aDW (P:=prog) w 109 267 0 _ e1 aVx (by decide) (by decide) g ((l.length - 1)*3) 1 (cap - (l.length - 1)) (by omega) (λj hj=>(aVy j hj).1) (λj hj=>(aVy j hj).2)
 have hzl:(Builtin.zeroCells (Value.agg #[.int .i64 0,.int .i64 0,.string (ByteArray.mk #[])]).cells 1).toList.length=3:=by
  simp only [Builtin.zeroCells,Array.toList_map,List.length_map]
  rw [Array.length_toList,Array.size_range];rfl
 have c2:=cx.WV 0 rfl rfl (by rw [kZ];omega) (by rw [kZ,hzl];omega) (w':=w.setCells g ((l.length - 1)*3) (Builtin.zeroCells (Value.agg #[.int .i64 0,.int .i64 0,.string (ByteArray.mk #[])]).cells 1).toList) rfl
 have c3:=Ctx.X1 (k:=l.length - 1) c2 (by omega)
 rw [aDX,JZ _ _ _ (by rw [SI,hpl];omega)] at c3
 have e7:((fN l).take (i*3)++fN (l.drop (i+1))++(fN l).drop (i*3+(fN (l.drop (i+1))).length)).take ((l.length - 1)*3)=fN (l.eraseIdx i):=by
  rw [erase_eq,a0l,a2S]
  exact List.take_left' (by rw [List.length_append,SI,CV,List.length_take,Nat.min_eq_left (by omega)];omega)
 rw [e7] at c3
 refine ⟨_,QH rW,.buf (some ⟨g,0,none⟩) (l.eraseIdx i).length cap (fN (l.eraseIdx i)) 267 3 :: S,Φ,aL,by rw [hel];exact c3,λw G cx=>?_⟩
 have e8:i+(l.length - (i+1))=(l.eraseIdx i).length:=by omega
 rw [e8]
 exact hk w cx.left
theorem aB7 {l p cap} (cx:Ctx W w (.buf p l.length cap (fN l) 267 3 :: S) Φ) (h:0<l.length):∃ g,p=some ⟨g,0,none⟩:=by
 obtain ⟨b,hb,_⟩:=cx.nR 0 rfl (by rw [CV];omega)
 exact ⟨b,hb⟩
theorem aB8 {l g cap} (cx:Ctx W w (.buf (some ⟨g,0,none⟩) l.length cap (fN l) 267 3 :: S) Φ) {i p} (h:l[i]? = some p):bL w g (0+i*3) (pI p):=by
 rw [Nat.zero_add]
 refine cx.a9u 0 rfl rfl λj hj=>?_
 rw [aHU h j hj,List.getElem?_eq_getElem hj]
def iF (n:L7) (i:Int):Option NS:=if i<0 then none else n.aM[i.toNat]?
abbrev aHZ:NS:=⟨0,0,ByteArray.mk #[]⟩
theorem aDZ {i} (h:iF n i=none):i<0\/(n.aM.length:Int)<=i:=by
 unfold iF at h
 split at h
 .exact .inl ‹_›
 .have:=List.getElem?_eq_none_iff.1 h
  omega
theorem a2U {i p} (h:iF n i=some p):0<=i/\i<n.aM.length/\n.aM[i.toNat]? = some p:=by
 unfold iF at h
 split at h
 .cases h
 .have:=(List.getElem?_eq_some_iff.1 h).1
  exact ⟨by omega,by omega,h⟩
theorem a2V [aB Φ] (hl:n.aM.length<=500) {i} (cx:Ctx W w (fO N n++S) Φ) {K} (h0:∀ w',iF n i=none->Ctx W w' (fO N n++S) Φ->K (.returned (.tuple #[aHS aHZ,.bool false])) w') (h1:∀ p w',iF n i=some p->Ctx W w' (fO N (takeN n i.toNat)++S) Φ->K (.returned (.tuple #[aHS p,.bool true])) w'):
  aD F.wN #[.pointer (some ⟨N.nb,0,none⟩),.int .i64 i] w K:=by
 refine fW (QB N.nb 0 i (J:=K∘.returned) cx λ_ w G cx=>⟨_,_,_,λ_=>cx.get 0 rfl rfl,Br.intro (λh=>λw G cx=>?_) (λh=>λw G cx=>⟨_,_,_,cx.get 0 rfl rfl,?_⟩)⟩)
 .refine h0 w ?_ cx.left
  simp only [Bool.or_eq_true,decide_eq_true_eq] at h
  unfold iF
  split
  .rfl
  .exact List.getElem?_eq_none (by omega)
 .simp only [Bool.or_eq_false_iff,decide_eq_false_iff_not] at h
  obtain ⟨k,rfl⟩:∃ k:Nat,i=k:=⟨i.toNat,by omega⟩
  have hk:k<n.aM.length:=by omega
  obtain ⟨pk,hp⟩:∃ p,n.aM[k]? = some p:=⟨_,List.getElem?_eq_getElem hk⟩
  have sw:∀ {w:World} {G:List Own},Ctx W w ((fO N n++S)++G) Φ->Ctx W w (.buf N.fp n.aM.length N.fc (fN n.aM) 267 3 :: (.blk N.nb (RI N n) 251 :: S++G)) Φ:=λcx=>cx.perm (.swap _ _ _)
  obtain ⟨g,hg⟩:=aB7 (sw cx) (by omega)
  have ht:iF n (k:Int)=some pk:=by unfold iF;rw [if_neg (by omega),Int.toNat_natCast];exact hp
  refine ⟨by omega,aU g 0 hg λw G cx=>⟨pk.src,pk.to,pk.body,by
   have c1:=sw cx
   rw [hg] at c1
   rw [Int.toNat_natCast]
   exact aB8 c1 hp,λ_ w G cx=>⟨_,_,_,cx.get 0 rfl rfl,by unfold aX;omega,λw G cx=>?_⟩⟩⟩
  have c1:=sw cx
  rw [hg] at c1 ⊢
  refine aHY hk hl c1 λw cx=>⟨_,_,_,rfl,.buf (some ⟨g,0,none⟩) (n.aM.eraseIdx k).length N.fc (fN (n.aM.eraseIdx k)) 267 3 :: (.blk N.nb (RI N n) 251 :: S),Φ,aL,cx,λw G cx=>⟨cx.can 1 rfl (by show 0+1<=2;omega),λw' hw'=>⟨.buf (some ⟨g,0,none⟩) (n.aM.eraseIdx k).length N.fc (fN (n.aM.eraseIdx k)) 267 3 :: (.blk N.nb [.slice (some ⟨g,0,none⟩) (n.aM.eraseIdx k).length N.fc,.int .i64 n.split] 251 :: S),Φ,aL,cx.put 1 hw' rfl,λw G cx=>?_⟩⟩⟩
  refine h1 pk w ht ?_
  rw [Int.toNat_natCast]
  have c2:=cx.left.perm (.swap _ _ _)
  show Ctx W w (.blk N.nb [.slice N.fp _ N.fc,_] 251 :: .buf N.fp _ N.fc _ 267 3 :: S) Φ
  rw [hg]
  exact c2
theorem a4C [aB Φ] (hl:n.aM.length<=500) {i} (cx:Ctx W w (fO N n++S) Φ) {K} (h0:∀ w',iF n i=none->Ctx W w' (fO N n++S) Φ->K (.returned (.tuple #[aHS aHZ,.int .i64 4])) w') (h1:∀ p w',iF n i=some p->yE n.split p.src p.to=false->Ctx W w' (fO N (takeN n i.toNat)++S) Φ->K (.returned (.tuple #[aHS aHZ,.int .i64 10])) w') (h2:∀ p w',iF n i=some p->yE n.split p.src p.to=true->Ctx W w' (fO N (takeN n i.toNat)++S) Φ->K (.returned (.tuple #[aHS p,.int .i64 0])) w'):
  aD F.vF #[.pointer (some ⟨N.nb,0,none⟩),.int .i64 i] w K:=by
 refine fW (HW N.nb 0 i (J:=K∘.returned) cx λ_ w G cx=>?_)
 refine a2V (N:=N) (n:=n) (S:=S++G) hl (by rw [<-b9];exact cx) (λw ht cx=>⟨_,_,_,_,rfl,fO N n++S,Φ,aL,by rw [b9];exact cx,λ_=>Br.intro (λh=>λw G cx=>h0 w ht cx.left) (λh=>by cases h)⟩) (λp w ht cx=>⟨_,_,_,_,rfl,fO N (takeN n i.toNat)++S,Φ,aL,by rw [b9];exact cx,λ_=>Br.intro (λh=>by cases h) (λh=>λw G cx=>?_)⟩)
 refine a2T (N:=N) (n:=takeN n i.toNat) (S:=S++G) (by rw [<-b9];exact cx) λw cx=>⟨_,rfl,fO N (takeN n i.toNat)++S,Φ,aL,by rw [b9];exact cx,Br.intro (λh=>λw G cx=>h1 p w ht (by have h:(!yE n.split p.src p.to)=true:=h;simpa using h) cx.left) (λh=>λw G cx=>h2 p w ht (by have h:(!yE n.split p.src p.to)=false:=h;simpa using h) cx.left)⟩
theorem aD0 [aB Φ] (hl:n.aM.length<=500) {i} (cx:Ctx W w (fO N n++S) Φ) {K} (h0:∀ w',iF n i=none->Ctx W w' (fO N n++S) Φ->K (.returned (.int .i64 4)) w') (h1:∀ p w',iF n i=some p->Ctx W w' (fO N (takeN n i.toNat)++S) Φ->K (.returned (.int .i64 0)) w'):
  aD F.DI #[.pointer (some ⟨N.nb,0,none⟩),.int .i64 i] w K:=by
 refine fW (Q8 N.nb 0 i (J:=K∘.returned) cx λw G cx=>?_)
 refine a2V (N:=N) (n:=n) (S:=S++G) hl (by rw [<-b9];exact cx) (λw ht cx=>⟨_,_,_,_,rfl,fO N n++S,Φ,aL,by rw [b9];exact cx,λ_=>Br.intro (λh=>λw G cx=>h0 w ht cx.left) (λh=>by cases h)⟩) (λp w ht cx=>⟨_,_,_,_,rfl,fO N (takeN n i.toNat)++S,Φ,aL,by rw [b9];exact cx,λ_=>Br.intro (λh=>by cases h) (λh=>λw G cx=>h1 p w ht cx.left)⟩)
theorem a7q [aB Φ] (hl:n.aM.length<=500) {i} (cx:Ctx W w (fO N n++S) Φ) {K} (h0:∀ w',iF n i=none->Ctx W w' (fO N n++S) Φ->K (.returned (.int .i64 4)) w') (h1:∀ p w',iF n i=some p->500<=n.aM.length->Ctx W w' (fO N n++S) Φ->K (.returned (.int .i64 6)) w') (h2:∀ p fp fc w',iF n i=some p->¬ 500<=n.aM.length->Ctx W w' (fO ⟨N.nb,fp,fc⟩ { n with aM:=n.aM++[p] }++S) Φ->K (.returned (.int .i64 0)) w'):
  aD F.xM #[.pointer (some ⟨N.nb,0,none⟩),.int .i64 i] w K:=by
 refine fW (KW N.nb 0 i (J:=K∘.returned) cx λw G cx=>⟨_,_,_,λ_=>cx.get 0 rfl rfl,Br.intro (λh=>λw G cx=>?_) (λh=>λw G cx=>⟨_,_,_,cx.get 0 rfl rfl,?_⟩)⟩)
 .refine h0 w ?_ cx.left
  simp only [Bool.or_eq_true,decide_eq_true_eq] at h
  unfold iF
  split
  .rfl
  .exact List.getElem?_eq_none (by omega)
 simp only [Bool.or_eq_false_iff,decide_eq_false_iff_not] at h
 obtain ⟨k,rfl⟩:∃ k:Nat,i=k:=⟨i.toNat,by omega⟩
 have hk:k<n.aM.length:=by omega
 obtain ⟨pk,hp⟩:∃ p,n.aM[k]? = some p:=⟨_,List.getElem?_eq_getElem hk⟩
 have ht:iF n (k:Int)=some pk:=by unfold iF;rw [if_neg (by omega),Int.toNat_natCast];exact hp
 have sw:∀ {w:World} {G:List Own},Ctx W w ((fO N n++S)++G) Φ->Ctx W w (.buf N.fp n.aM.length N.fc (fN n.aM) 267 3 :: (.blk N.nb (RI N n) 251 :: S++G)) Φ:=λcx=>cx.perm (.swap _ _ _)
 obtain ⟨g,hg⟩:=aB7 (sw cx) (by omega)
 refine Br.intro (λh5=>λw G cx=>h1 pk w ht (by have:=eC h5;omega) cx.left) (λh5=>?_)
 have h5:¬ 500<=n.aM.length:=by have:=cS h5;omega
 refine ⟨.buf N.fp n.aM.length N.fc (fN n.aM) 267 3 :: [.blk N.nb (RI N n) 251],VI,aL,λw G cx=>((sw cx).sub (by simp)).weak λ_ _ _=>trivial,_,_,_,λw G cx=>⟨_,_,_,cx.get 1 rfl rfl,rfl⟩,_,_,_,λw G cx=>⟨_,_,_,cx.get 1 rfl rfl,rfl⟩,by omega,aU g 0 hg ⟨pk.src,pk.to,pk.body,λw G cx=>⟨_,_,_,by
  rw [hg] at cx
  rw [Int.toNat_natCast]
  exact aB8 cx hp,rfl⟩,λb=>⟨λw G cx=>((sw (Ctx.drop1 cx)).sub (by simp)).weak λ_ _ _=>trivial,λw G cx=>?_⟩⟩⟩
 have c1:Ctx W w (.buf N.fp n.aM.length N.fc (fN n.aM) 267 3 :: (.blk b (pI pk) 267 :: .blk N.nb (RI N n) 251 :: S++G)) Φ:=cx.perm (by
  show (Own.blk b (pI pk) 267 :: .blk N.nb (RI N n) 251 :: .buf N.fp n.aM.length N.fc (fN n.aM) 267 3 :: (S++G)).Perm (.buf N.fp n.aM.length N.fc (fN n.aM) 267 3 :: .blk b (pI pk) 267 :: .blk N.nb (RI N n) 251 :: (S++G))
  exact (List.Perm.cons _ (.swap _ _ _)).trans (.swap _ _ _))
 obtain ⟨inf,z,e1,e2,e3,e4,e5,e6⟩:=uP (P:=prog) (ts:=109) (t:=267) (size:=3) (bytes:=32) (by kernel_rfl)
 obtain ⟨p',c',w',X,hr,c2,back⟩:=Ctx.aLz (P:=prog) (ts:=109) (ty:=109) c1 (by rw [CV];omega) e1 e2 e3 e4 e5 (a:=⟨b,0,none⟩) (m:=1) (c2:=1) (news:=pI pk) (by omega) rfl (λj u hj=>by rw [Addr.add_lit,Nat.zero_add];exact c1.get 1 rfl hj) (λu hu=>by simp only [pI,List.mem_cons,List.not_mem_nil,or_false] at hu;rcases hu with rfl|rfl|rfl<;>rfl) (by rw [e6];omega) (by omega)
 refine ⟨_,_,_,_,uC hr,(.buf p' (n.aM.length+1) c' (fN n.aM++pI pk) 267 3 :: X)++(.blk N.nb (RI N n) 251 :: S),Φ,aL,by
   have:=c2.perm (show ((Own.buf p' (n.aM.length+1) c' (fN n.aM++pI pk) 267 3 :: X)++(.blk b (pI pk) 267 :: (.blk N.nb (RI N n) 251 :: S++G))).Perm (.blk b (pI pk) 267 :: ((Own.buf p' (n.aM.length+1) c' (fN n.aM++pI pk) 267 3 :: X)++(.blk N.nb (RI N n) 251 :: S++G))) from List.perm_middle)
   have:=Ctx.drop1 this
   rw [b9]
   exact this,λw G cx=>((back (by rw [b9] at cx;exact cx)).sub (by simp)).weak λ_ _ _=>trivial,λw G cx=>?_⟩
 have c3:Ctx W w (.blk N.nb (RI N n) 251 :: ((.buf p' (n.aM.length+1) c' (fN n.aM++pI pk) 267 3 :: X)++(S++G))) Φ:=by
  rw [b9] at cx
  exact cx.perm List.perm_middle
 refine ⟨c3.can 0 rfl (by show 0+1<=2;omega),λw' hw'=>⟨.blk N.nb [.slice p' (n.aM.length+1) c',.int .i64 n.split] 251 :: .buf p' (n.aM.length+1) c' (fN n.aM++pI pk) 267 3 :: S,Φ,aL,(c3.put 0 hw' rfl).sub (by
  show (Own.blk N.nb [.slice p' (n.aM.length+1) c',.int .i64 n.split] 251 :: .buf p' (n.aM.length+1) c' (fN n.aM++pI pk) 267 3 :: (S++G)).Sublist (_ :: (_ :: X++(S++G)))
  exact List.Sublist.cons_cons _ (List.Sublist.cons_cons _ (List.sublist_append_right _ _))),λw G cx=>?_⟩⟩
 have e7:fN n.aM++pI pk=fN (n.aM++[pk]):=by rw [a0l];rfl
 have e8:n.aM.length+1=(n.aM++[pk]).length:=by simp
 rw [e7,e8] at cx
 exact h2 pk p' c' w ht h5 cx.left
theorem aAb [aB Φ] {m} (cx:Ctx W w (fO N n++S) Φ) {K} (hk:∀ w',Ctx W w' (fO N { n with split:=m % 65536 }++S) Φ->K (.returned (.tuple #[])) w'):
  aD F.AQ #[.pointer (some ⟨N.nb,0,none⟩),.int .i64 m] w K:=by
 refine fW (N9 N.nb 0 m (J:=K∘.returned) cx ⟨m % 65536,λw=>aHW m w,λw G cx=>⟨cx.can 0 rfl (by show 1+1<=2;omega),λw' hw'=>⟨fO N { n with split:=m % 65536 }++S,Φ,aL,cx.put 0 hw' rfl,λw G cx=>hk w cx.left⟩⟩⟩)
theorem aD1 [aB Φ] (cx:Ctx W w (fO N n++S) Φ) {K} (hk:∀ w',Ctx W w' (fO N { n with split:=0 }++S) Φ->K (.returned (.tuple #[])) w'):
  aD F.DG #[.pointer (some ⟨N.nb,0,none⟩)] w K:=by
 refine fW (Q6 N.nb 0 (J:=K∘.returned) cx λw G cx=>⟨cx.can 0 rfl (by show 1+1<=2;omega),λw' hw'=>⟨fO N { n with split:=0 }++S,Φ,aL,cx.put 0 hw' rfl,λw G cx=>hk w cx.left⟩⟩)
theorem aAc [aB Φ] (cx:Ctx W w (fO N n++S) Φ) {K} (hk:∀ w',Ctx W w' (fO N n++S) Φ->K (.returned (.int .i64 (n.aM.length:Int))) w'):
  aD F.AR #[.pointer (some ⟨N.nb,0,none⟩)] w K:=by
 refine fW (NB N.nb 0 (J:=K∘.returned) cx λw G cx=>⟨_,_,_,cx.get 0 rfl rfl,λw G cx=>hk w cx.left⟩)
end
end Go.Proofs.YtnlkemjhgdbfkaaGreatDoor
end

section
namespace Go.Proofs.YtnlkemjhgdbfkaaGreatDoor
open Go.Vc
def a0m (W:World) (J:Int->List Own->PW->Prop):List (FuncId × Array Value)->List Own->PW->Prop
 | [],R,Φ=>J 0 R Φ
 | f :: fs,R,Φ=>qA prog f.1=true/\∀ w G,Ctx W w (R++G) Φ->Calls prog f.1 f.2 w λe w'=>∃ n:Int,e=.returned (.int .i64 n)/\∃ R' aV,aB aV/\Ctx W w' (R'++G) aV/\(n≠0->J n R' aV)/\(n=0->a0m W J fs R' aV)
abbrev aAd (fs:List (FuncId × Array Value)):List Value:=fs.map λf=>Value.func (.func f.1) #[] f.2
theorem a2W {W w S} {Φ:PW} [aB Φ] {J fs k} (hl:fs.length<=1000) (cx:Ctx W w (.blk k (aAd fs) 258 :: S) Φ) (h:a0m W J fs S Φ) {K} (hk:∀ n S' aV w',aB aV->J n S' aV->Ctx W w' S' aV->K (.returned (.int .i64 n)) w'):aD F.zZ #[.slice (some ⟨k,0,none⟩) fs.length fs.length] w K:=by
 refine fW (TD (some ⟨k,0,none⟩) fs.length fs.length (J:=K∘.returned) cx ?_)
 refine dF (λnI R' aV κ=>∃ (i:Nat) (S':List Own),nI=i/\i<=fs.length/\κ=fs.length - i/\R'=.blk k (aAd fs) 258 :: S'/\a0m W J (fs.drop i) S' aV) ⟨⟨_,Φ,_,aL,λw G cx=>cx,0,S,rfl,Nat.zero_le _,rfl,rfl,h⟩,?_⟩
 rintro nI R' aV κ hst ⟨i,S',rfl,hi,rfl,rfl,hF⟩
 refine Br.intro (λhlt=>?_) (λhge=>λw G cx=>?_)
 .have hlt:i<fs.length:=by have:=eC hlt;omega
  have ed:fs.drop i=fs[i] :: fs.drop (i+1):=List.drop_eq_getElem_cons hlt
  rw [ed] at hF
  obtain ⟨hok,hF⟩:=hF
  refine ⟨by omega,aU k 0 rfl λw G cx=>⟨fs[i].1,#[],fs[i].2,?_,λw G cx=>⟨hok,?_⟩⟩⟩
  .refine cx.get 0 rfl ?_
   rw [Nat.zero_add,Int.toNat_natCast,List.getElem?_map,List.getElem?_eq_getElem hlt]
   rfl
  .refine (hF w (.blk k (aAd fs) 258 :: G) (cx.perm List.perm_middle.symm)).mono λe w' ⟨n,he,R1,cG,h1,c1,h2,h3⟩=>?_
   haveI:=h1
   refine ⟨n,he,.blk k (aAd fs) 258 :: R1,cG,h1,c1.perm List.perm_middle,Br.intro (λhn=>λw G cx=>?_) (λhn=>⟨by unfold aX;omega,_,cG,_,h1,λw G cx=>cx,⟨i+1,R1,by omega,by omega,rfl,rfl,h3 (by simpa using hn)⟩,by omega⟩)⟩
   exact hk n R1 cG w h1 (h2 (eC hn)) (Ctx.drop1 cx.left)
 .have he:i=fs.length:=by have:=cS hge;omega
  subst he
  rw [List.drop_length] at hF
  exact hk 0 S' aV w hst hF (Ctx.drop1 cx.left)
section
variable {W w:World} {S:List Own} {Φ:PW}
theorem aH0 [aB Φ] (hN:∀ M w,Φ M w->tM M w) {cb q c} (hl:c.value.length<=1000000000) (cx:Ctx W w (eS cb q c :: S) Φ) {K} (hk:∀ w',Ctx W w' (eS cb q c :: S) Φ->K (.returned (.agg #[.int .i64 (kU c).1,.int .i64 (kU c).2])) w'):aD F.MP #[.pointer (some ⟨cb,0,none⟩)] w K:=by
 unfold kU at hk
 refine fW (WH cb 0 (J:=K∘.returned) cx λ_ w G cx=>a7j (S:=S++G) cx λw cx=>⟨_,_,rfl,eS cb q c :: S,Φ,aL,cx,Br.intro (λh=>λw G cx=>?_) (λh=>λw G cx=>?_)⟩)
 .have h:c.slot=0:=by
   have:¬ 0<c.slot:=by simpa using h
   omega
  rw [if_pos h] at hk
  exact hk w cx.left
 .have h:¬ c.slot=0:=by
   have:0<c.slot:=by simpa using h
   omega
  rw [if_neg h] at hk
  have hlen:(eH (c.value,false)).2.1.length<=c.value.length:=qH 59 _ (c.value,false)
  refine IK c.value cx λb w cx=>⟨_,rfl,rd b (c.value,false) :: eS cb q c :: S,Φ,aL,cx,λw G cx=>QS (S:=eS cb q c :: S) hN (by show c.value.length<=_;omega) cx (λw G cx=>QS (S:=eS cb q c :: S) hN (by omega) cx (λw G cx=>hk w (Ctx.left (Ctx.drop1 cx))))⟩
theorem RJ [aB Φ] (hN:∀ M w,Φ M w->tM M w) {q x j} (hsb:SB x.p x.cap j.list x.o) (hl:j.list.length<=1000000) (hsz:∀ s∈j.list,s.size<=100000000) (hok:∀ s∈j.list,(mX s).Ok) (cx:Ctx W w (eI x q j++S) Φ) {K} (hk:∀ p c w',Ctx W w' (eI x q j++S) (λM w=>Φ M w/\Sl M w p (j.list.map mX))->K (.returned (.slice p (j.list.map mX).length c)) w'):
  aD F.u6 #[.pointer (some ⟨x.jb,0,none⟩)] w K:=by
 refine fW (NA x.jb 0 (J:=K∘.returned) cx λw G cx=>aLx (S:=S++G) hsb (by omega) cx λb w cx=>⟨_,_,_,rfl,.blk b (dL j.list) 9 :: (eI x q j++S),Φ,aL,cx,?_⟩)
 refine dF (λp k c nI R' aV κ=>∃ i:Nat,nI=i/\i<=j.list.length/\κ=j.list.length - i/\k=((j.list.take i).map mX).length/\R'=.buf p k c (aY ((j.list.take i).map mX)) 216 2 :: .blk b (dL j.list) 9 :: (eI x q j++S)/\aV=Φ) ⟨⟨_,Φ,_,aL,λw G cx=>cx.aCA 216 2,0,rfl,Nat.zero_le _,rfl,rfl,rfl,rfl⟩,?_⟩
 rintro p k c nI R' aV κ hst ⟨i,rfl,hi,rfl,rfl,rfl,rfl⟩
 refine Br.intro (λhlt=>?_) (λhge=>λw G cx=>?_)
 .have hlt:i<j.list.length:=by have:=eC hlt;omega
  have hmem:j.list[i]∈j.list:=List.getElem_mem hlt
  refine ⟨by omega,aU b 0 rfl λw G cx=>⟨j.list[i],?_,λw G cx=>?_⟩⟩
  .refine cx.get 1 rfl ?_
   rw [Nat.zero_add,Int.toNat_natCast,List.getElem?_map,List.getElem?_eq_getElem hlt]
   rfl
  .have hr:=a96 (Φ:=aV) hN j.list[i].data.toList (by rw [fT];have:=hsz _ hmem;omega)
   have ex:∃ y:Bool,aVs (VF j.list[i].data.toList)=.tuple #[(mX j.list[i]).v,.bool y]:=by
    unfold mX
    cases VF j.list[i].data.toList with
    | none=>exact ⟨false,rfl⟩
    | some y=>exact ⟨true,rfl⟩
   obtain ⟨y,hy⟩:=ex
   rw [hy] at hr
   obtain ⟨z,hz⟩:∃ z,mX j.list[i]=z:=⟨_,rfl⟩
   rw [hz] at hr
   refine hr.use cx λw cx=>⟨z.term,z.data,y,rfl,_,aV,aL,cx,λ_ b2 w G cx=>?_⟩
   obtain ⟨p',c',w',hrun,c2⟩:=aB2 (x:=z) (by rw [List.length_map,List.length_take];omega) cx
   have et:(j.list.take i).map mX++[z]=(j.list.take (i+1)).map mX:=by
    rw [List.take_add_one,List.getElem?_eq_getElem hlt,List.map_append,<-hz]
    rfl
   rw [et] at hrun c2
   exact ⟨_,_,_,w',hrun,_,aV,aL,c2,by unfold aX;omega,_,aV,_,aL,λw G cx=>cx,⟨i+1,by omega,by omega,rfl,rfl,rfl,rfl⟩,by omega⟩
 .have he:i=j.list.length:=by have:=cS hge;omega
  subst he
  rw [List.take_length] at cx ⊢
  have c1:Ctx W w (.buf p (j.list.map mX).length c (aY (j.list.map mX)) 216 2 :: .blk b (dL j.list) 9 :: ((eI x q j++S)++G)) aV:=cx
  obtain ⟨c2,hs,_⟩:=Ctx.freeze (α:=bQ) c1 (tI λy hy=>by
   obtain ⟨s,hs,rfl⟩:=List.mem_map.1 hy
   exact hok s hs)
  have hs':Sl (dom (.blk b (dL j.list) 9 :: ((eI x q j++S)++G))) w p (j.list.map mX):=hs
  exact hk p c w ((c2.add (Ψ:=λM w=>Sl M w p (j.list.map mX)) hs').drop1.left)
abbrev dD:Value:=.pointer none
def F3 (cs:List Value) (mO:Nat):List Value:=((cs.set (mO+1) dD).set (mO+2) dD).set (mO+3) dD
theorem a0n [aB Φ] {gb mO cs} (hm:mO+4<=cs.length) (cx:Ctx W w (.blk gb cs 135 :: S) Φ) {K} (hk:∀ w',Ctx W w' (.blk gb (F3 cs mO) 135 :: S) Φ->K (.returned (.tuple #[])) w'):
  aD F.jF #[.pointer (some ⟨gb,mO,none⟩)] w K:=by
 refine fW (E1 gb mO (J:=K∘.returned) cx λw G cx=>⟨cx.can 0 rfl (by omega),λw' hw'=>⟨.blk gb (cs.set (mO+1) dD) 135 :: S,Φ,aL,cx.put 0 hw' rfl,λw G cx=>⟨cx.can 0 rfl (by rw [List.length_set];omega),λw' hw'=>⟨.blk gb ((cs.set (mO+1) dD).set (mO+2) dD) 135 :: S,Φ,aL,cx.put 0 hw' rfl,λw G cx=>⟨cx.can 0 rfl (by rw [List.length_set,List.length_set];omega),λw' hw'=>⟨.blk gb (F3 cs mO) 135 :: S,Φ,aL,cx.put 0 hw' rfl,λw G cx=>hk w cx.left⟩⟩⟩⟩⟩⟩)
abbrev pA (b:Nat):Value:=.pointer (some ⟨b,0,none⟩)
abbrev kM (k0 gb mO:Nat):Own:=.blk k0 [.pointer (some ⟨gb,mO,none⟩)] 139
abbrev kJ (k1:Nat) (v:Value):Own:=.blk k1 [v] 128
abbrev kC (k2:Nat) (v:Value):Own:=.blk k2 [v] 129
abbrev kG (gb:Nat) (cs:List Value):Own:=.blk gb cs 135
theorem aAe [aB Φ] {k0 gb mO cs q d} (hcs:cs[mO]? = some (.pointer (some ⟨q.db,0,none⟩))) (hq:oR q d) (hkp:J6 Φ q d) (cx:Ctx W w (kM k0 gb mO :: kG gb cs :: (aZ q d++S)) Φ) {K} (hk:∀ u w',oR (q.mv u) (bM d 2).1->Ctx W w' (kM k0 gb mO :: kG gb cs :: (aZ (q.mv u) (bM d 2).1++S)) Φ->K (.returned (.int .i64 (bM d 2).2)) w'):
  aD F.hY #[.pointer (some ⟨k0,0,none⟩)] w K:=by
 refine fW (BB k0 0 (J:=K∘.returned) cx λw G cx=>⟨_,cx.get 0 rfl rfl,aU gb mO rfl λw G cx=>⟨some ⟨q.db,0,none⟩,cx.get 1 rfl hcs,λw G cx=>?_⟩⟩)
 refine CU (S:=[kM k0 gb mO,kG gb cs]++(S++G)) hq hkp (J7 (A:=[kM k0 gb mO,kG gb cs]) cx) λu w hq1 cx=>⟨_,rfl,[kM k0 gb mO,kG gb cs]++(aZ (q.mv u) (bM d 2).1++S),Φ,aL,tT cx,λw G cx=>hk u w hq1 cx.left⟩
theorem aAf [aB Φ] (hoff:∀ M w,Φ M w->rM M w) (hN:∀ M w,Φ M w->tM M w) {k1 k0 gb mO jp cs q d} (hcs:cs[mO]? = some (.pointer (some ⟨q.db,0,none⟩))) (hq:oR q d) (hkp:J6 Φ q d) (cx:Ctx W w (kJ k1 jp :: kM k0 gb mO :: kG gb cs :: (aZ q d++S)) Φ) {K} (hn:∀ u d' e w',qK d 0=(d',none,e)->oR (q.mv u) d'->d'.keep=d.keep->Ctx W w' (kJ k1 dD :: kM k0 gb mO :: kG gb cs :: (aZ (q.mv u) d'++S)) Φ->K (.returned (.int .i64 e)) w') (hs:∀ u x d' j w',qK d 0=(d',some j,0)->SB x.p x.cap j.list x.o->oR (q.mv u) d'->d'.keep=d.keep->Ctx W w' (kJ k1 (pA x.jb) :: kM k0 gb mO :: kG gb cs :: (eI x q j++(aZ (q.mv u) d'++S))) Φ->K (.returned (.int .i64 0)) w'):
  aD F.iA #[.pointer (some ⟨k0,0,none⟩),.pointer (some ⟨k1,0,none⟩)] w K:=by
 refine fW (BC k0 0 k1 0 (J:=K∘.returned) cx λw G cx=>⟨_,cx.get 1 rfl rfl,aU gb mO rfl λw G cx=>⟨some ⟨q.db,0,none⟩,cx.get 2 rfl hcs,λw G cx=>?_⟩⟩)
 refine a2R (S:=[kJ k1 jp,kM k0 gb mO,kG gb cs]++(S++G)) hq hkp hoff hN (J7 (A:=[kJ k1 jp,kM k0 gb mO,kG gb cs]) cx) (λu d' e w ho hq1 TY cx=>?_) (λu x d' j w ho hsb hq1 TY cx=>?_)
 .exact ⟨_,_,rfl,[kJ k1 jp,kM k0 gb mO,kG gb cs]++(aZ (q.mv u) d'++S),Φ,aL,tT cx,λw G cx=>⟨cx.can 0 rfl (by show 0+1<=1;omega),λw' hw'=>⟨kJ k1 dD :: kM k0 gb mO :: kG gb cs :: (aZ (q.mv u) d'++S),Φ,aL,cx.put 0 hw' rfl,λw G cx=>hn u d' e w ho hq1 TY cx.left⟩⟩⟩
 .have c1:Ctx W w ((eI x q j++aZ (q.mv u) d')++([kJ k1 jp,kM k0 gb mO,kG gb cs]++(S++G))) Φ:=by rw [b9];exact cx
  have c2:=tT (A:=[kJ k1 jp,kM k0 gb mO,kG gb cs]) c1
  rw [b9 (eI x q j)] at c2
  exact ⟨_,_,rfl,[kJ k1 jp,kM k0 gb mO,kG gb cs]++(eI x q j++(aZ (q.mv u) d'++S)),Φ,aL,c2,λw G cx=>⟨cx.can 0 rfl (by show 0+1<=1;omega),λw' hw'=>⟨kJ k1 (pA x.jb) :: kM k0 gb mO :: kG gb cs :: (eI x q j++(aZ (q.mv u) d'++S)),Φ,aL,cx.put 0 hw' rfl,λw G cx=>hs u x d' j w ho hsb hq1 TY cx.left⟩⟩⟩
theorem aAg [aB Φ] (hoff:∀ M w,Φ M w->rM M w) {k2 k0 gb mO cp cs q d} (hcs:cs[mO]? = some (.pointer (some ⟨q.db,0,none⟩))) (hq:oR q d) (cx:Ctx W w (kC k2 cp :: kM k0 gb mO :: kG gb cs :: (aZ q d++S)) Φ) {K} (hn:∀ e w',uW d 2=(none,e)->Ctx W w' (kC k2 dD :: kM k0 gb mO :: kG gb cs :: (aZ q d++S)) Φ->K (.returned (.int .i64 e)) w') (hs:∀ c cb w',uW d 2=(some c,0)->Ctx W w' (kC k2 (pA cb) :: kM k0 gb mO :: kG gb cs :: (eS cb q c :: (aZ q d++S))) Φ->K (.returned (.int .i64 0)) w'):
  aD F.iB #[.pointer (some ⟨k0,0,none⟩),.pointer (some ⟨k2,0,none⟩)] w K:=by
 refine fW (BD k0 0 k2 0 (J:=K∘.returned) cx λw G cx=>⟨_,cx.get 1 rfl rfl,aU gb mO rfl λw G cx=>⟨some ⟨q.db,0,none⟩,cx.get 2 rfl hcs,λw G cx=>?_⟩⟩)
 refine a2O (S:=[kC k2 cp,kM k0 gb mO,kG gb cs]++(S++G)) hq hoff (J7 (A:=[kC k2 cp,kM k0 gb mO,kG gb cs]) cx) (λe w ho cx=>?_) (λc cb w ho cx=>?_)
 .exact ⟨_,_,rfl,[kC k2 cp,kM k0 gb mO,kG gb cs]++(aZ q d++S),Φ,aL,tT cx,λw G cx=>⟨cx.can 0 rfl (by show 0+1<=1;omega),λw' hw'=>⟨kC k2 dD :: kM k0 gb mO :: kG gb cs :: (aZ q d++S),Φ,aL,cx.put 0 hw' rfl,λw G cx=>hn e w ho cx.left⟩⟩⟩
 .have c2:=tT (A:=[kC k2 cp,kM k0 gb mO,kG gb cs]) (X:=eS cb q c :: aZ q d) (S:=S) (G:=G) cx
  exact ⟨_,_,rfl,[kC k2 cp,kM k0 gb mO,kG gb cs]++(eS cb q c :: (aZ q d++S)),Φ,aL,c2,λw G cx=>⟨cx.can 0 rfl (by show 0+1<=1;omega),λw' hw'=>⟨kC k2 (pA cb) :: kM k0 gb mO :: kG gb cs :: (eS cb q c :: (aZ q d++S)),Φ,aL,cx.put 0 hw' rfl,λw G cx=>hs c cb w ho cx.left⟩⟩⟩
def up3 (cs:List Value) (mO j c r:Nat):List Value:=((cs.set (mO+1) (pA j)).set (mO+2) (pA c)).set (mO+3) (pA r)
structure aD2 (id:Nat) (up:WN):Prop where
 new:NH id up.r.term up.r.aQ up.r.log=true
 len:up.j.list.length<=1000000
 size:∀ s∈up.j.list,s.size<=100000000
 ok:∀ s∈up.j.list,(mX s).Ok
 val:up.c.value.length<=1000000000
def b0B (id:Nat) (d:gZ) (q:DkP) (k0 k1 k2 gb mO:Nat) (cs:List Value) (S:List Own) (Φ:PW) (n:Int) (R:List Own) (aV:PW):Prop :=
 aV=Φ/\((n≠0/\∃ (Bx:List Own) (u:DkU),(bZ id d).2.1=none/\(bZ id d).2.2=n/\oR (q.mv u) (bZ id d).1/\(bZ id d).1.keep=d.keep/\R=Bx++(kG gb cs :: (aZ (q.mv u) (bZ id d).1++S))) \/ (n=0/\∃ (u:DkU) (x:JoP) (cb:Nat) (c:IM) (d':gZ) (j:sE),bZ id d=(d',some ⟨j,c,dR id (kU c).1 (kU c).2 (j.list.map mX)⟩,0)/\SB x.p x.cap j.list x.o/\oR (q.mv u) d'/\d'.keep=d.keep /\ R=kC k2 (pA cb) :: kJ k1 (pA x.jb) :: kM k0 gb mO :: kG gb cs :: (eI x q j++(eS cb q c :: (aZ (q.mv u) d'++S)))))
theorem a0o {d d' b e} (h:qK d b=(d',none,e)):e≠0:=by
 unfold qK at h
 split at h
 .injection h with _ h;injection h with _ h;omega
 split at h
 .injection h with _ h;injection h with _ h;omega
 split at h
 .injection h with _ h;injection h with _ h;omega
 injection h with h1 h2
 unfold IY at h2
 split at h2
 .rename_i e' ho
  injection h2 with _ h2
  rw [<-h2]
  exact NW ho
 .unfold a4s at h2
  split at h2
  .injection h2 with _ h2;omega
  split at h2
  .injection h2 with _ h2;omega
  split at h2
  .injection h2 with _ h2;omega
  split at h2
  .injection h2 with _ h2;omega
  .injection h2 with h2 _;cases h2
theorem aVz [aB Φ] (hoff:∀ M w,Φ M w->rM M w) (hN:∀ M w,Φ M w->tM M w) {id gb mO k0 k1 k2 cs q d} (hcs:cs[mO]? = some (.pointer (some ⟨q.db,0,none⟩))) (hq:oR q d) (hkp:J6 Φ q d):
  a0m W (b0B id d q k0 k1 k2 gb mO cs S Φ) [(F.hY,#[pA k0]),(F.iA,#[pA k0,pA k1]),(F.iB,#[pA k0,pA k2])] (kC k2 dD :: kJ k1 dD :: kM k0 gb mO :: kG gb cs :: (aZ q d++S)) Φ:=by
 refine ⟨by kernel_rfl,λw G cx=>?_⟩
 have c1:Ctx W w (kM k0 gb mO :: kG gb cs :: (aZ q d++(kC k2 dD :: kJ k1 dD :: (S++G)))) Φ:=by
  have c2:=J7 (A:=[kC k2 dD,kJ k1 dD,kM k0 gb mO,kG gb cs]) (X:=aZ q d) (S:=S) (G:=G) cx
  exact c2.perm ((List.perm_append_comm_assoc (aZ q d) [kC k2 dD,kJ k1 dD,kM k0 gb mO,kG gb cs] (S++G)).trans ((List.perm_append_comm_assoc [kC k2 dD,kJ k1 dD] [kM k0 gb mO,kG gb cs] (aZ q d++(S++G))).trans (.append_left _ (List.perm_append_comm_assoc [kC k2 dD,kJ k1 dD] (aZ q d) (S++G)))))
 refine aAe hcs hq hkp c1 λu w hq1 cx=>?_
 have hk1:J6 Φ (q.mv u) (bM d 2).1:=⟨by rw [nY];exact hkp.le,λM w h=>by rw [nY];exact hkp.sl M w h⟩
 obtain ⟨⟨d1,e1⟩,hs1⟩:∃ x,bM d 2=x:=⟨_,rfl⟩
 have a0p:d1.keep=d.keep:=by rw [<-nY d 2,hs1]
 rw [hs1] at hq1 cx hk1
 simp only at hq1 cx hk1
 refine ⟨e1,by rw [hs1],kC k2 dD :: kJ k1 dD :: kM k0 gb mO :: kG gb cs :: (aZ (q.mv u) d1++S),Φ,aL,by
  refine tT (A:=[kC k2 dD,kJ k1 dD,kM k0 gb mO,kG gb cs]) (X:=aZ (q.mv u) d1) (S:=S) (G:=G) (cx.perm ?_)
  exact ((List.perm_append_comm_assoc (aZ (q.mv u) d1) [kC k2 dD,kJ k1 dD,kM k0 gb mO,kG gb cs] (S++G)).trans ((List.perm_append_comm_assoc [kC k2 dD,kJ k1 dD] [kM k0 gb mO,kG gb cs] (aZ (q.mv u) d1++(S++G))).trans (.append_left _ (List.perm_append_comm_assoc [kC k2 dD,kJ k1 dD] (aZ (q.mv u) d1) (S++G))))).symm,λhne=>?_,λhe=>?_⟩
 .have e:bZ id d=(d1,none,e1):=by unfold bZ;rw [hs1,if_pos hne]
  refine ⟨rfl,.inl ⟨hne,[kC k2 dD,kJ k1 dD,kM k0 gb mO],u,by rw [e],by rw [e],by rw [e];exact hq1,by rw [e];exact a0p,?_⟩⟩
  rw [e]
  rfl
 have eO:bZ id d=ZY id d1:=by unfold bZ;rw [hs1,if_neg (by simp [he])]
 refine ⟨by kernel_rfl,λw G cx=>?_⟩
 have c1:Ctx W w (kJ k1 dD :: kM k0 gb mO :: kG gb cs :: (aZ (q.mv u) d1++(kC k2 dD :: (S++G)))) Φ:=by
  have c2:=J7 (A:=[kC k2 dD,kJ k1 dD,kM k0 gb mO,kG gb cs]) (X:=aZ (q.mv u) d1) (S:=S) (G:=G) cx
  exact c2.perm ((List.perm_append_comm_assoc (aZ (q.mv u) d1) [kC k2 dD,kJ k1 dD,kM k0 gb mO,kG gb cs] (S++G)).trans ((List.perm_append_comm_assoc [kC k2 dD] [kJ k1 dD,kM k0 gb mO,kG gb cs] (aZ (q.mv u) d1++(S++G))).trans (.append_left _ (List.perm_append_comm_assoc [kC k2 dD] (aZ (q.mv u) d1) (S++G)))))
 refine aAf (q:=q.mv u) hoff hN hcs hq1 hk1 c1 (λu2 d2 e w ho qP TY cx=>?_) (λu2 x d2 j w ho hsb qP TY cx=>?_)
 .have hee:e≠0:=a0o ho
  have eo:bZ id d=(d2,none,e):=by rw [eO];unfold ZY;rw [ho]
  refine ⟨e,rfl,kC k2 dD :: kJ k1 dD :: kM k0 gb mO :: kG gb cs :: (aZ (q.mv u2) d2++S),Φ,aL,?_,λ_=>⟨rfl,.inl ⟨hee,[kC k2 dD,kJ k1 dD,kM k0 gb mO],u2,by rw [eo],by rw [eo],by rw [eo];exact qP,by rw [eo];exact TY.trans a0p,by rw [eo];rfl⟩⟩,λh0=>absurd h0 hee⟩
  refine tT (A:=[kC k2 dD,kJ k1 dD,kM k0 gb mO,kG gb cs]) (X:=aZ (q.mv u2) d2) (S:=S) (G:=G) (Ctx.perm cx ?_)
  exact ((List.perm_append_comm_assoc (aZ (q.mv u2) d2) [kC k2 dD,kJ k1 dD,kM k0 gb mO,kG gb cs] (S++G)).trans ((List.perm_append_comm_assoc [kC k2 dD] [kJ k1 dD,kM k0 gb mO,kG gb cs] (aZ (q.mv u2) d2++(S++G))).trans (.append_left _ (List.perm_append_comm_assoc [kC k2 dD] (aZ (q.mv u2) d2) (S++G))))).symm
 .have eo:bZ id d=ZX id d2 j:=by rw [eO];unfold ZY;rw [ho]
  have cM:Ctx W w ([kC k2 dD,kJ k1 (pA x.jb),kM k0 gb mO,kG gb cs]++((eI x q j++aZ (q.mv u2) d2)++(S++G))) Φ:=by
   have c3:Ctx W w ([kJ k1 (pA x.jb),kM k0 gb mO,kG gb cs]++((eI x q j++aZ (q.mv u2) d2)++([kC k2 dD]++(S++G)))) Φ:=by rw [b9 (eI x q j)];exact cx
   exact c3.perm (((List.perm_append_comm_assoc (eI x q j++aZ (q.mv u2) d2) [kC k2 dD] (S++G)).append_left [kJ k1 (pA x.jb),kM k0 gb mO,kG gb cs]).trans (List.perm_append_comm_assoc [kJ k1 (pA x.jb),kM k0 gb mO,kG gb cs] [kC k2 dD] _))
  refine ⟨0,rfl,kC k2 dD :: kJ k1 (pA x.jb) :: kM k0 gb mO :: kG gb cs :: (eI x q j++(aZ (q.mv u2) d2++S)),Φ,aL,by
   show Ctx W w (([kC k2 dD,kJ k1 (pA x.jb),kM k0 gb mO,kG gb cs]++(eI x q j++(aZ (q.mv u2) d2++S)))++G) Φ
   simp only [b9] at cM ⊢
   exact cM,λh=>absurd rfl h,λ_=>?_⟩
  refine ⟨by kernel_rfl,λw G cx=>?_⟩
  have c4:Ctx W w (kC k2 dD :: kM k0 gb mO :: kG gb cs :: (aZ (q.mv u2) d2++(kJ k1 (pA x.jb) :: (eI x q j++(S++G))))) Φ:=by
   have c5:Ctx W w ([kC k2 dD,kJ k1 (pA x.jb),kM k0 gb mO,kG gb cs]++(eI x q j++(aZ (q.mv u2) d2++(S++G)))) Φ:=by
    have c6:Ctx W w (([kC k2 dD,kJ k1 (pA x.jb),kM k0 gb mO,kG gb cs]++(eI x q j++(aZ (q.mv u2) d2++S)))++G) Φ:=cx
    simp only [b9] at c6 ⊢
    exact c6
   refine c5.perm ?_
   show (kC k2 dD :: kJ k1 (pA x.jb) :: ([kM k0 gb mO,kG gb cs]++(eI x q j++(aZ (q.mv u2) d2++(S++G))))).Perm _
   refine .cons _ (((List.perm_append_comm_assoc (eI x q j) (aZ (q.mv u2) d2) (S++G)).append_left (kJ k1 (pA x.jb) :: [kM k0 gb mO,kG gb cs])).trans ?_)
   exact (List.perm_append_comm_assoc [kJ k1 (pA x.jb)] [kM k0 gb mO,kG gb cs] _).trans (.append_left [kM k0 gb mO,kG gb cs] (List.perm_append_comm_assoc [kJ k1 (pA x.jb)] (aZ (q.mv u2) d2) (eI x q j++(S++G))))
  have back:∀ {w:World} {v:Value} {Y:List Own},Ctx W w (kC k2 v :: kM k0 gb mO :: kG gb cs :: (Y++(aZ (q.mv u2) d2++(kJ k1 (pA x.jb) :: (eI x q j++(S++G)))))) Φ->Ctx W w ((kC k2 v :: kJ k1 (pA x.jb) :: kM k0 gb mO :: kG gb cs :: (eI x q j++(Y++(aZ (q.mv u2) d2++S))))++G) Φ:=fun {w v Y} c=>by
   have p1:(kC k2 v :: kM k0 gb mO :: kG gb cs :: (Y++(aZ (q.mv u2) d2++(kJ k1 (pA x.jb) :: (eI x q j++(S++G)))))).Perm (kC k2 v :: kJ k1 (pA x.jb) :: kM k0 gb mO :: kG gb cs :: (eI x q j++(Y++(aZ (q.mv u2) d2++(S++G))))):=by
    refine .cons _ ?_
    have p2:(Y++(aZ (q.mv u2) d2++(kJ k1 (pA x.jb) :: (eI x q j++(S++G))))).Perm (kJ k1 (pA x.jb) :: (eI x q j++(Y++(aZ (q.mv u2) d2++(S++G))))):=by
     refine (((List.perm_append_comm_assoc (aZ (q.mv u2) d2) (kJ k1 (pA x.jb) :: eI x q j) (S++G)).append_left Y).trans ?_)
     exact List.perm_append_comm_assoc Y (kJ k1 (pA x.jb) :: eI x q j) _
    refine ((p2.append_left [kM k0 gb mO,kG gb cs]).trans ?_)
    exact List.perm_append_comm_assoc [kM k0 gb mO,kG gb cs] [kJ k1 (pA x.jb)] _
   have c7:=c.perm p1
   show Ctx W w (([kC k2 v,kJ k1 (pA x.jb),kM k0 gb mO,kG gb cs]++(eI x q j++(Y++(aZ (q.mv u2) d2++S))))++G) Φ
   simp only [b9]
   exact c7
  refine aAg (q:=q.mv u2) hoff hcs qP c4 (λe w hc cx=>?_) (λc cb w hc cx=>?_)
  .have hee:e≠0:=NW hc
   have e2:bZ id d=(d2,none,e):=by rw [eo];unfold ZX;rw [hc]
   have c8:Ctx W w (([kC k2 dD,kJ k1 (pA x.jb),kM k0 gb mO,kG gb cs]++(eI x q j++(aZ (q.mv u2) d2++S)))++G) Φ:=back (Y:=[]) cx
   refine ⟨e,rfl,kC k2 dD :: kJ k1 (pA x.jb) :: kM k0 gb mO :: kG gb cs :: (aZ (q.mv u2) d2++S),Φ,aL,c8.sub (aVk (.append_left (List.sublist_append_right _ _) [kC k2 dD,kJ k1 (pA x.jb),kM k0 gb mO,kG gb cs])),λ_=>⟨rfl,.inl ⟨hee,[kC k2 dD,kJ k1 (pA x.jb),kM k0 gb mO],u2,by rw [e2],by rw [e2],by rw [e2];exact qP,by rw [e2];exact TY.trans a0p,by rw [e2];rfl⟩⟩,λh0=>absurd h0 hee⟩
  .have e2:bZ id d=(d2,some ⟨j,c,dR id (kU c).1 (kU c).2 (j.list.map mX)⟩,0):=by rw [eo];unfold ZX;rw [hc]
   refine ⟨0,rfl,_,Φ,aL,back (Y:=[eS cb q c]) cx,λh=>absurd rfl h,λ_=>⟨rfl,.inr ⟨rfl,u2,x,cb,c,d2,j,e2,hsb,qP,TY.trans a0p,rfl⟩⟩⟩
theorem a2X [aB Φ] (hoff:∀ M w,Φ M w->rM M w) (hN:∀ M w,Φ M w->tM M w) {id gb mO cs q d} (hcs:cs[mO]? = some (.pointer (some ⟨q.db,0,none⟩))) (hm:mO+4<=cs.length) (hq:oR q d) (hkp:J6 Φ q d) (aH1:∀ up,(bZ id d).2.1=some up->aD2 id up) (cx:Ctx W w (kG gb cs :: (aZ q d++S)) Φ) {K} (hn:∀ u w',(bZ id d).2.1=none->(bZ id d).2.2≠0->oR (q.mv u) (bZ id d).1->(bZ id d).1.keep=d.keep->Ctx W w' (kG gb cs :: (aZ (q.mv u) (bZ id d).1++S)) Φ->K (.returned (.int .i64 (bZ id d).2.2)) w') (hs:∀ u x cb rb rp rc up w',(bZ id d).2.1=some up->(bZ id d).2.2=0->SB x.p x.cap up.j.list x.o->oR (q.mv u) (bZ id d).1->(bZ id d).1.keep=d.keep->Ctx W w' (kG gb (up3 cs mO x.jb cb rb) :: (aS rb up.r rp rc++(eI x q up.j++(eS cb q up.c :: (aZ (q.mv u) (bZ id d).1++S))))) Φ->K (.returned (.int .i64 0)) w'):
  aD F.mQ #[.pointer (some ⟨gb,mO,none⟩),.int .i64 (id:Int)] w K:=by
 refine fW (DZ gb mO (id:Int) (J:=K∘.returned) cx λk0 k1 k2 k3 w R5 cx=>?_)
 have c0:Ctx W w (.blk k3 (aAd [(F.hY,#[pA k0]),(F.iA,#[pA k0,pA k1]),(F.iB,#[pA k0,pA k2])]) 258 :: (kC k2 dD :: kJ k1 dD :: kM k0 gb mO :: kG gb cs :: (aZ q d++(S++R5)))) Φ:=by
  rw [<-b9]
  exact cx
 refine a2W (fs:=[(F.hY,#[pA k0]),(F.iA,#[pA k0,pA k1]),(F.iB,#[pA k0,pA k2])]) (by show 3<=1000;omega) c0 (aVz (id:=id) hoff hN hcs hq hkp) λn S' aV w hst hJ cx=>?_
 obtain ⟨rfl,h|h⟩:=hJ
 .obtain ⟨hne,Bx,u,o1,o2,hq1,TY,rfl⟩:=h
  refine ⟨n,rfl,kG gb cs :: (aZ (q.mv u) (bZ id d).1++S),aV,aL,by
   have c1:=cx.sub (List.sublist_append_right Bx _)
   rw [<-b9] at c1
   exact c1,Br.intro (λh0=>absurd (eC h0) hne) (λ_=>λw G cx=>?_)⟩
  rw [<-o2]
  exact hn u w o1 (by rw [o2];exact hne) hq1 TY cx.left
 .obtain ⟨rfl,u,x,cb,c,d',j,eo,hsb,hq1,TY,rfl⟩:=h
  have hg:=aH1 _ (by rw [eo])
  have h1:(bZ id d).1=d':=by rw [eo]
  have h2:(bZ id d).2.1=some ⟨j,c,dR id (kU c).1 (kU c).2 (j.list.map mX)⟩:=by rw [eo]
  have h3:(bZ id d).2.2=0:=by rw [eo]
  obtain ⟨A,hA⟩:∃ A,A=kC k2 (pA cb) :: kJ k1 (pA x.jb) :: kM k0 gb mO :: kG gb cs :: (eI x q j++(eS cb q c :: (aZ (q.mv u) d'++S))):=⟨_,rfl⟩
  have sA:List.Sublist [kC k2 (pA cb),kJ k1 (pA x.jb),kM k0 gb mO] A:=by
   rw [hA]
   exact List.sublist_append_left [kC k2 (pA cb),kJ k1 (pA x.jb),kM k0 gb mO] _
  have e4:(dR id (kU c).1 (kU c).2 (j.list.map mX)).log=j.list.map mX:=rfl
  refine ⟨0,rfl,A,aV,aL,by
   rw [hA]
   show Ctx W w (([kC k2 (pA cb),kJ k1 (pA x.jb),kM k0 gb mO,kG gb cs]++(eI x q j++([eS cb q c]++(aZ (q.mv u) d'++S))))++R5) aV
   simp only [b9]
   exact cx,Br.intro (λ_=>?_) (λh0=>absurd rfl (cS h0))⟩
  refine ⟨[kC k2 (pA cb),kJ k1 (pA x.jb),kM k0 gb mO],VI,aL,λw G cx=>bX cx sA,some ⟨gb,mO,none⟩,λw G cx=>⟨_,cx.get 2 rfl rfl,rfl⟩,some ⟨gb,mO,none⟩,λw G cx=>⟨_,cx.get 2 rfl rfl,rfl⟩,some ⟨gb,mO,none⟩,λw G cx=>⟨_,cx.get 2 rfl rfl,rfl⟩,some ⟨x.jb,0,none⟩,λw G cx=>⟨_,cx.get 1 rfl rfl,rfl⟩,some ⟨cb,0,none⟩,λw G cx=>⟨_,cx.get 0 rfl rfl,rfl⟩,some ⟨cb,0,none⟩,λw G cx=>⟨_,cx.get 0 rfl rfl,rfl⟩,some ⟨x.jb,0,none⟩,λw G cx=>⟨_,cx.get 1 rfl rfl,rfl⟩,λw G cx=>?_⟩
  have pc:(A++G).Perm (eS cb q c :: ([kC k2 (pA cb),kJ k1 (pA x.jb),kM k0 gb mO,kG gb cs]++(eI x q j++(aZ (q.mv u) d'++S))++G)):=by
   rw [hA]
   show ((([kC k2 (pA cb),kJ k1 (pA x.jb),kM k0 gb mO,kG gb cs]++eI x q j)++(eS cb q c :: (aZ (q.mv u) d'++S)))++G).Perm (eS cb q c :: ((([kC k2 (pA cb),kJ k1 (pA x.jb),kM k0 gb mO,kG gb cs]++eI x q j)++(aZ (q.mv u) d'++S))++G))
   exact (List.perm_middle).append_right G
  refine aH0 hN hg.val (cx.perm pc) λw cx=>⟨_,_,rfl,A,aV,aL,cx.perm pc.symm,λw G cx=>bX cx sA,λw G cx=>?_⟩
  have pj:∀ G,(A++G).Perm (eI x q j++([kC k2 (pA cb),kJ k1 (pA x.jb),kM k0 gb mO,kG gb cs]++((eS cb q c :: (aZ (q.mv u) d'++S))++G))):=λG=>by
   rw [hA]
   show (([kC k2 (pA cb),kJ k1 (pA x.jb),kM k0 gb mO,kG gb cs]++(eI x q j++(eS cb q c :: (aZ (q.mv u) d'++S))))++G).Perm _
   rw [b9,b9 (eI x q j)]
   exact List.perm_append_comm_assoc _ _ _
  refine RJ hN hsb hg.len hg.size hg.ok (cx.perm (pj G)) λp c2 w cx=>⟨_,_,_,rfl,A,_,aL,cx.perm (pj G).symm,λw G cx=>bX cx sA,λw G cx=>?_⟩
  refine aK0 cx (id:Int) (kU c).1 (kU c).2 (j.list.map mX) p c2 (λM w h=>h.2) (by have:j.list.length<=1000000:=hg.len;rw [List.length_map];omega) (λh0=>by
   have:=hg.new
   rw [show NH id (dR id (kU c).1 (kU c).2 (j.list.map mX)).term (dR id (kU c).1 (kU c).2 (j.list.map mX)).aQ (dR id (kU c).1 (kU c).2 (j.list.map mX)).log=NH id (kU c).1 (kU c).2 (j.list.map mX) from rfl,h0] at this
   cases this) (λ_ rb rp rc w cx=>?_)
  rw [Int.toNat_natCast] at cx
  obtain ⟨r,hr⟩:∃ r,dR id (kU c).1 (kU c).2 (j.list.map mX)=r:=⟨_,rfl⟩
  rw [hr] at cx h2
  obtain ⟨AP,aPP⟩:∃ AP:PW,AP=λM w=>aV M w/\Sl M w p (j.list.map mX):=⟨_,rfl⟩
  haveI:aB AP:=by rw [aPP];infer_instance
  have zY:∀ M w,AP M w->aV M w:=by rw [aPP];exact λM w h=>h.1
  rw [<-aPP] at cx
  let Z:List Value->List Own:=λcs=>kC k2 (pA cb) :: kJ k1 (pA x.jb) :: kM k0 gb mO :: kG gb cs :: (eI x q j++(eS cb q c :: (aZ (q.mv u) d'++S)))
  have sZ:∀ cs,List.Sublist [kC k2 (pA cb),kJ k1 (pA x.jb),kM k0 gb mO] (aS rb r rp rc++Z cs):=λcs=>(List.sublist_append_left [kC k2 (pA cb),kJ k1 (pA x.jb),kM k0 gb mO] _).trans (List.sublist_append_right _ _)
  refine ⟨_,rfl,aS rb r rp rc++Z cs,AP,aL,by rw [hA] at cx;exact cx,λw G cx=>bX cx (sZ _),aU gb mO rfl λw G cx=>⟨cx.can 5 rfl (by omega),λw' hw'=>⟨aS rb r rp rc++Z (cs.set (mO+1) (pA x.jb)),AP,aL,cx.put 5 hw' rfl,λw G cx=>bX cx (sZ _),aU gb mO rfl λw G cx=>⟨cx.can 5 rfl (by rw [List.length_set];omega),λw' hw'=>⟨aS rb r rp rc++Z ((cs.set (mO+1) (pA x.jb)).set (mO+2) (pA cb)),AP,aL,cx.put 5 hw' rfl,λw G cx=>bX cx (sZ _),aU gb mO rfl λw G cx=>⟨cx.can 5 rfl (by rw [List.length_set,List.length_set];omega),λw' hw'=>⟨aS rb r rp rc++Z (up3 cs mO x.jb cb rb),AP,aL,cx.put 5 hw' rfl,λw G cx=>?_⟩⟩⟩⟩⟩⟩⟩
  refine hs u x cb rb rp rc ⟨j,c,r⟩ w h2 h3 hsb (by rw [h1];exact hq1) (by rw [h1];exact TY) ?_
  rw [h1]
  have c9:Ctx W w (aS rb r rp rc++(kG gb (up3 cs mO x.jb cb rb) :: (eI x q j++(eS cb q c :: (aZ (q.mv u) d'++S))))) AP:=by
   refine (Ctx.left cx).sub ?_
   show List.Sublist (aS rb r rp rc++(kG gb (up3 cs mO x.jb cb rb) :: _)) (aS rb r rp rc++(kC k2 (pA cb) :: kJ k1 (pA x.jb) :: kM k0 gb mO :: kG gb (up3 cs mO x.jb cb rb) :: _))
   exact List.Sublist.append_left (((List.Sublist.refl _).cons _).cons _ |>.cons _) _
  exact (c9.weak zY).perm (List.perm_middle)
end
structure Node where
 rep:dX
 F4:Int
 VL:Int
 a0q:List bQ
 stop:Int
structure Cl where
 nd:Nat->Node
 sent:List bR
def aAh (i:Nat) (n:Node):Node:={ n with stop:=0,rep:=dR i n.F4 n.VL n.a0q }
def aVA (n:Node) (o:lT):Node:=if o.save=true then { n with F4:=o.term,VL:=o.aQ } else n
def iL (n:Node) (o:lT):Node:=if 0<o.src then { n with a0q:=n.a0q.take (min (o.src - 1) (n.a0q.length:Int)).toNat++o.aF } else n
def EF (C:Cl) (i:Nat):Cl:={ C with nd:=put C.nd i (aAh i (C.nd i)) }
def b0C (C:Cl) (i:Nat) (r:dX):Cl:={ C with nd:=put C.nd i { C.nd i with rep:=r } }
def aVB (C:Cl) (i:Nat) (o:lT):Cl :=
 if (C.nd i).stop=1 then EF C i
 else
  let C1:Cl:={ C with nd:=put C.nd i (iL (aVA (C.nd i) o) o) }
  if (C.nd i).stop=2 then EF C1 i
  else { C1 with sent:=C.sent++o.send.take (300 - C.sent.length) }
def oF (n m:Int):Int:=if m<1 then 0 else n.emod m
theorem aH2 {n m} (h:0<m):0<=oF n m/\oF n m<m:=by
 unfold oF
 rw [if_neg (by omega)]
 exact ⟨Int.emod_nonneg _ (by omega),Int.emod_lt_of_pos _ h⟩
theorem TZ {n m:Int} (h:0<m):(if n.tmod m<0 then n.tmod m+m else n.tmod m)=n.emod m:=by
 have h1:=Int.emod_nonneg n (show m≠0 by omega)
 have h2:=Int.emod_lt_of_pos n h
 rcases Int.le_total 0 n with hn|hn
 .rw [Int.tmod_eq_emod_of_nonneg hn,if_neg (by omega)]
  rfl
 .have h3:n.tmod m<=0:=by
   have:=Int.tmod_nonneg m (show 0 <= -n by omega)
   rw [Int.neg_tmod] at this
   omega
  have h4 : -m<n.tmod m:=by
   have:=Int.tmod_lt_of_pos (-n) h
   rw [Int.neg_tmod] at this
   omega
  have h5:(n.tmod m).emod m=n.emod m:=by
   have e:=Int.tmod_add_mul_tdiv n m
   have:n=n.tmod m+m*n.tdiv m:=by omega
   conv=>rhs;rw [this]
   exact (Int.add_mul_emod_self_left _ _ _).symm
  by_cases hz:n.tmod m<0
  .rw [if_pos hz]
   have:(n.tmod m+m).emod m=n.emod m:=by
    rw [<-h5]
    have:=Int.add_mul_emod_self_left (n.tmod m) m 1
    rwa [Int.mul_one] at this
   rw [<-this]
   exact (Int.emod_eq_of_lt (by omega) (by omega)).symm
  .rw [if_neg hz,<-h5]
   exact (Int.emod_eq_of_lt (by omega) (by omega)).symm
structure OpR where
 op:Int
 who:Int
 n:Int
 data:ByteArray
instance:Gv OpR:=Gv.via (β:=Int × Int × Int × ByteArray) (λx=>(x.op,x.who,x.n,x.data)) (λy=>⟨y.1,y.2.1,y.2.2.1,y.2.2.2⟩) (λ_=>rfl)
theorem cZ {α} (f:Nat->α) (i x):put f i x i=x:=if_pos rfl
theorem gN {α} (f:Nat->α) {i j} (x) (h:j≠i):put f i x j=f j:=if_neg h
theorem aH3 {α} (f:Nat->α) (i):put f i (f i)=f:=by
 funext j;unfold put;split
 .rename_i h;rw [h]
 .rfl
structure dX.Wf (r:dX):Prop where
 ok:r.Ok
 one:r.role≠0->1<=r.term
structure Fits (r r':dX) (o:lT):Prop where
 id:r'.id=r.id
 save:o.save=true->o.term=r'.term/\o.aQ=r'.aQ
 keep:o.save=false->r'.term=r.term/\r'.aQ=r.aQ
 log:0<o.src->r'.log=r.log.take (min (o.src - 1) (r.log.length:Int)).toNat++o.aF
 same:¬ 0<o.src->r'.log=r.log
 term:r.term<=r'.term
theorem Fits.refl (r):Fits r r kR:=⟨rfl,λh=>(by cases h),λ_=>⟨rfl,rfl⟩,λh=>(by cases h),λ_=>rfl,Int.le_refl _⟩
theorem VM {l t} (h:kS l t) (k):kS (l.take k) t :=
 ⟨λx hx=>h.lo x (List.mem_of_mem_take hx),λx hx=>h.hi x (List.mem_of_mem_take hx),λx hx=>h.data x (List.mem_of_mem_take hx),λi j hij hj hi=>by
  rw [List.getElem_take,List.getElem_take]
  exact h.VA i j hij (by simp at hj;omega) (by simp at hi;omega)⟩
theorem aAi {a b t} (ha:kS a t) (hb:kS b t) (h:∀ x∈a,∀ y∈b,x.term<=y.term):kS (a++b) t:=by
 refine ⟨λx hx=>?_,λx hx=>?_,λx hx=>?_,λi j hij hj hi=>?_⟩
 .rcases List.mem_append.1 hx with hx|hx
  .exact ha.lo x hx
  .exact hb.lo x hx
 .rcases List.mem_append.1 hx with hx|hx
  .exact ha.hi x hx
  .exact hb.hi x hx
 .rcases List.mem_append.1 hx with hx|hx
  .exact ha.data x hx
  .exact hb.data x hx
 .rw [List.length_append] at hj hi
  by_cases hja:j<a.length
  .rw [List.getElem_append_left hja,List.getElem_append_left (by omega)]
   exact ha.VA i j hij hja (by omega)
  .rw [List.getElem_append_right (show a.length<=j by omega)]
   by_cases hia:i<a.length
   .rw [List.getElem_append_left hia]
    exact h _ (List.getElem_mem hia) _ (List.getElem_mem _)
   .rw [List.getElem_append_right (show a.length<=i by omega)]
    exact hb.VA (i - a.length) (j - a.length) (by omega) (by omega) (by omega)
theorem U0 {l t u} (h:kS l t) (hu:t<=u):kS l u:=⟨h.lo,λx hx=>Int.le_trans (h.hi x hx) hu,h.data,h.VA⟩
theorem a7r {l t} (h:kS l t) (k):kS (l.drop k) t :=
 ⟨λx hx=>h.lo x (List.mem_of_mem_drop hx),λx hx=>h.hi x (List.mem_of_mem_drop hx),λx hx=>h.data x (List.mem_of_mem_drop hx),λi j hij hj hi=>by
  rw [List.getElem_drop,List.getElem_drop]
  exact h.VA (k+i) (k+j) (by omega) (by simp at hj;omega) (by simp at hi;omega)⟩
theorem a4D {id} {m:bR} (h:m.sL id):kS m.aF m.term/\∀ x∈m.aF,m.prev<=x.term:=by
 obtain ⟨h1,h2⟩:=ZM _ _ _ h.sound
 exact ⟨⟨λx hx=>by have:=(h1 x hx).1;omega,λx hx=>(h1 x hx).2.1,λx hx=>(h1 x hx).2.2,h2⟩,λx hx=>by have:=(h1 x hx).1;omega⟩
theorem aLB {l t} (h:kS l t) {k} (hk:k<=l.length):∀ x∈l.take k,x.term<=bG l k:=by
 intro x hx
 obtain ⟨i,hi,rfl⟩:=List.getElem_of_mem hx
 rw [List.length_take] at hi
 rw [List.getElem_take]
 obtain ⟨j,rfl⟩:∃ j,k=j+1:=⟨k - 1,by omega⟩
 rw [uR (by omega)]
 exact h.VA i j (by omega) (by omega) (by omega)
theorem v7:∀ (a b:List bQ) (i:Nat),i<agree a b->∃ (ha:i<a.length) (hb:i<b.length),a[i].term=b[i].term
 | [],b,i,h=>by cases b<;>simp [agree] at h
 | x :: a,[],i,h=>by simp [agree] at h
 | x :: a,y :: b,i,h=>by
  unfold agree at h
  split at h
  .rename_i hxy
   cases i with
   | zero=>exact ⟨by simp,by simp,by simpa using hxy⟩
   | succ i =>
    obtain ⟨h1,h2,h3⟩:=v7 a b i (by omega)
    exact ⟨by simp;omega,by simp;omega,by simpa using h3⟩
  .omega
theorem aAj {r} (hr:r.Ok) {m:bR} (hm:m.sL r.id) (ht:¬ m.term<r.term) (hle:m.index.toNat<=r.log.length) (hp:bG r.log m.index.toNat=m.prev):kS (r.log.take (m.index.toNat+gW r m)++m.aF.drop (gW r m)) m.term:=by
 obtain ⟨h1,h2⟩:=a4D hm
 have hk:=IE (r.log.drop m.index.toNat) m.aF
 rw [List.length_drop] at hk
 refine aAi (U0 (VM hr.log _) (by omega)) (a7r h1 _) λx hx y hy=>?_
 have aG8:m.index.toNat+gW r m<=r.log.length:=by unfold gW;omega
 have hx:=aLB hr.log aG8 x hx
 refine Int.le_trans hx ?_
 obtain ⟨j,hj,rfl⟩:=List.getElem_of_mem hy
 rw [List.getElem_drop]
 have hj2:gW r m+j<m.aF.length:=by rw [List.length_drop] at hj;omega
 by_cases hz:gW r m=0
 .have e:bG r.log (m.index.toNat+gW r m)=m.prev:=by rw [hz,Nat.add_zero,hp]
  rw [e]
  exact h2 _ (List.getElem_mem _)
 .obtain ⟨i,hi⟩:∃ i,gW r m=i+1:=⟨gW r m - 1,by omega⟩
  obtain ⟨a1,a2,a3⟩:=v7 (r.log.drop m.index.toNat) m.aF i (by unfold gW at hi;omega)
  rw [List.getElem_drop] at a3
  have e:bG r.log (m.index.toNat+gW r m)=m.aF[i].term:=by
   rw [hi,show m.index.toNat+(i+1)=m.index.toNat+i+1 by omega,uR (by omega),a3]
  rw [e]
  exact h1.VA i (gW r m+j) (by omega) hj2 a2
theorem P5 {r} {m:bR} (hle:m.index.toNat<=r.log.length):(r.log.take (m.index.toNat+gW r m)++m.aF.drop (gW r m)).length=m.index.toNat+m.aF.length:=by
 have hk:=IE (r.log.drop m.index.toNat) m.aF
 have hk2:=ID (r.log.drop m.index.toNat) m.aF
 rw [List.length_drop] at hk
 rw [List.length_append,List.length_take,List.length_drop]
 unfold gW
 omega
theorem aLC {r} (h:r.Wf) {m} (h1:0<=m.src/\m.src<=2):(dG r m).1.Wf/\(dG r m).1.id=r.id/\(dG r m).1.term=r.term/\(dG r m).1.log=r.log/\(dG r m).2.src=0:=by
 unfold dG
 split
 .exact ⟨⟨⟨h.ok.id,h.ok.mE,h.ok.iW,by show -1<=m.src;omega,h1.2,h.ok.log,h.ok.len,h.ok.role,h.ok.aE,h.ok.next,h.ok.bound⟩,h.one⟩,rfl,rfl,rfl,rfl⟩
 .exact ⟨h,rfl,rfl,rfl,rfl⟩
theorem aH4 {r} (h:r.Wf) {m}:(cU r m).1.Wf/\(cU r m).1.id=r.id/\(cU r m).1.term=r.term/\(cU r m).1.aQ=r.aQ/\(cU r m).1.log=r.log/\(cU r m).2.src=0:=by
 by_cases hc:(decide (r.role≠1)||decide (m.term≠r.term) || !m.yes)=true
 .rw [IA hc];exact ⟨h,rfl,rfl,rfl,rfl,rfl⟩
 have hc:(decide (r.role≠1)||decide (m.term≠r.term) || !m.yes)=false:=by simpa using hc
 have cT:r.role=1:=by simp only [Bool.or_eq_false_iff,decide_eq_false_iff_not] at hc;exact Decidable.not_not.1 hc.1.1
 by_cases h2:pW (gR r m).cN<2
 .rw [CN hc h2]
  exact ⟨⟨⟨h.ok.id,h.ok.mE,h.ok.iW,h.ok.xZ,h.ok.y3,h.ok.log,h.ok.len,h.ok.role,h.ok.aE,h.ok.next,h.ok.bound⟩,h.one⟩,rfl,rfl,rfl,rfl,rfl⟩
 .rw [y5 hc h2]
  exact ⟨⟨a4i h.ok m,λ_=>h.one (by rw [cT];decide)⟩,rfl,rfl,rfl,rfl,rfl⟩
theorem AG {r} (h:r.Wf) {m} (hi:0<=m.index):(aW r m).1.Wf/\(aW r m).1.id=r.id/\(aW r m).1.term=r.term/\(aW r m).1.aQ=r.aQ/\(aW r m).1.log=r.log/\(aW r m).2.src=0:=by
 by_cases hc:(decide (r.role≠2)||decide (m.term≠r.term)||m.yes&&decide ((r.log.length:Int)<m.index))=true
 .rw [uS hc];exact ⟨h,rfl,rfl,rfl,rfl,rfl⟩
 have hc:(decide (r.role≠2)||decide (m.term≠r.term)||m.yes&&decide ((r.log.length:Int)<m.index))=false:=by simpa using hc
 have cT:r.role=2:=by simp only [Bool.or_eq_false_iff,decide_eq_false_iff_not] at hc;exact Decidable.not_not.1 hc.1.1
 cases hy:m.yes with
 | false =>
  rw [pE hc hy]
  exact ⟨⟨aBO h.ok cT m,h.one⟩,rfl,rfl,rfl,rfl,rfl⟩
 | true =>
  rw [rJ hc hy]
  have hix:m.index.toNat<=r.log.length:=by
   simp only [Bool.or_eq_false_iff,decide_eq_false_iff_not,hy,Bool.true_and] at hc
   have:=hc.2;omega
  have ha:=aG6 (aG5 h.ok cT m hix) cT
  obtain ⟨e1,e2,e3,e4,e5,e6,e7⟩:=a4j (rY r m)
  have hw:(bA (rY r m)).Wf:=⟨ha,λ_=>by rw [e6];exact h.one (by rw [cT];decide)⟩
  split
  .exact ⟨hw,e5,e6,e7,e2,rfl⟩
  .exact ⟨hw,e5,e6,e7,e2,rfl⟩
theorem aH5 {r} (h:r.Wf):(y8 r).Wf:=⟨⟨h.ok.id,h.ok.mE,h.ok.iW,h.ok.xZ,h.ok.y3,h.ok.log,h.ok.len,.inl rfl,h.ok.aE,λhr=>(by cases (show (0:Int)=2 from hr)),h.ok.bound⟩,λhr=>absurd rfl hr⟩
theorem aD3 {r} (h:r.Wf) {m} (hm:m.sL r.id) (heq:m.term<=r.term):(b8 r m).1.Wf/\(b8 r m).1.id=r.id/\(b8 r m).1.term=r.term/\(b8 r m).1.aQ=r.aQ /\
  (0<(b8 r m).2.src->(b8 r m).1.log=r.log.take (min ((b8 r m).2.src - 1) (r.log.length:Int)).toNat++(b8 r m).2.aF)/\(¬ 0<(b8 r m).2.src->(b8 r m).1.log=r.log)/\(b8 r m).2.save=false:=by
 by_cases h1:m.term<r.term
 .rw [y7 h1];exact ⟨h,rfl,rfl,rfl,λh=>(by cases h),λ_=>rfl,rfl⟩
 by_cases h2:r.role=2
 .rw [uT h1 h2];exact ⟨h,rfl,rfl,rfl,λh=>(by cases h),λ_=>rfl,rfl⟩
 by_cases h3:(decide ((r.log.length:Int)<m.index)||decide (bG r.log m.index.toNat≠m.prev))=true
 .rw [y9 h1 h2 h3];exact ⟨aH5 h,rfl,rfl,rfl,λh=>(by cases h),λ_=>rfl,rfl⟩
 have h3:(decide ((r.log.length:Int)<m.index)||decide (bG r.log m.index.toNat≠m.prev))=false:=by simpa using h3
 have hm1:=hm.index
 have hm2:=hm.aE
 obtain ⟨hle,hp⟩:m.index.toNat<=r.log.length/\bG r.log m.index.toNat=m.prev:=by
  simp only [Bool.or_eq_false_iff,decide_eq_false_iff_not] at h3
  exact ⟨by omega,Decidable.not_not.1 h3.2⟩
 have hk:=IE (r.log.drop m.index.toNat) m.aF
 have hk2:=ID (r.log.drop m.index.toNat) m.aF
 rw [List.length_drop] at hk
 by_cases h4:gW r m<m.aF.length
 .by_cases h5:m.index.toNat+gW r m+1<=r.aE
  .rw [uV h1 h2 h3 h4 h5];exact ⟨aH5 h,rfl,rfl,rfl,λh=>(by cases h),λ_=>rfl,rfl⟩
  .rw [yA h1 h2 h3 h4 h5]
   have hs:=aAj h.ok hm h1 hle hp
   have hl:=P5 (r:=r) (m:=m) hle
   have hft:=hm.fits
   refine ⟨⟨⟨h.ok.id,h.ok.mE,h.ok.iW,h.ok.xZ,h.ok.y3,U0 hs heq,?_,.inl rfl,?_,λhr=>(by cases (show (0:Int)=2 from hr)),h.ok.bound⟩,λhr=>absurd rfl hr⟩,rfl,rfl,rfl,λ_=>?_,λhn=>?_,rfl⟩
   .show (r.log.take (m.index.toNat+gW r m)++m.aF.drop (gW r m)).length<=4000
    omega
   .show a1F r m<=(r.log.take (m.index.toNat+gW r m)++m.aF.drop (gW r m)).length
    rw [hl]
    unfold a1F
    omega
   .show r.log.take (m.index.toNat+gW r m)++m.aF.drop (gW r m)=r.log.take (min (((m.index.toNat+gW r m+1:Nat):Int) - 1) (r.log.length:Int)).toNat++m.aF.drop (gW r m)
    congr 2
    unfold gW
    omega
   .exfalso
    apply hn
    show (0:Int)<((m.index.toNat+gW r m+1:Nat):Int)
    omega
 .rw [uU h1 h2 h3 h4]
  have hcm:=h.ok.aE
  refine ⟨⟨⟨h.ok.id,h.ok.mE,h.ok.iW,h.ok.xZ,h.ok.y3,h.ok.log,h.ok.len,.inl rfl,?_,λhr=>(by cases (show (0:Int)=2 from hr)),h.ok.bound⟩,λhr=>absurd rfl hr⟩,rfl,rfl,rfl,λh=>(by cases h),λ_=>rfl,rfl⟩
  show a1F r m<=r.log.length
  unfold a1F
  unfold gW at h4
  omega
theorem aB9 {r} (h:r.Wf) {m} (hm:m.sL r.id) (ht:r.term<m.term):(upR r m).Wf:=⟨aM2 h.ok m hm ht,λhr=>absurd rfl hr⟩
theorem RL {r x} (h1:x.1.id=r.id) (h2:r.term<=x.1.term) (hs:x.2.save=false) (hl:0<x.2.src->x.1.log=r.log.take (min (x.2.src - 1) (r.log.length:Int)).toNat++x.2.aF) (hn:¬ 0<x.2.src->x.1.log=r.log):Fits r (BF r x).1 (BF r x).2:=by
 unfold BF
 split
 .rename_i he
  simp only [Bool.and_eq_true,decide_eq_true_eq] at he
  exact ⟨h1,λh=>(by rw [hs] at h;cases h),λ_=>he,hl,hn,h2⟩
 .exact ⟨h1,λ_=>⟨rfl,rfl⟩,λh=>(by cases h),hl,hn,h2⟩
theorem AH {r x}:(BF r x).1=x.1:=by unfold BF;split<;>rfl
theorem a0r {r x}:(BF r x).2.send=x.2.send:=by unfold BF;split<;>rfl
theorem aD4 (r m):(dG r m).2.save=false:=by unfold dG;split<;>rfl
theorem aAk (r m):(cU r m).2.save=false:=by
 unfold cU;split
 .rfl
 .simp only;split<;>rfl
theorem a1N (r m):(aW r m).2.save=false:=by
 unfold aW;split
 .rfl
 .simp only;split
  .rfl
  .split<;>rfl
theorem X3 {r} (h:r.Wf) {m}:(cX r m).1.Wf/\Fits r (cX r m).1 (cX r m).2:=by
 cases hy:iT r.id m with
 | false=>rw [wW hy];exact ⟨h,Fits.refl r⟩
 | true =>
  rw [pF hy]
  have hm:=mH.1 hy
  obtain ⟨r1,IC,hw1,ht1,aD5,aCa,b0D⟩:∃ r1,(if r.term<m.term then upR r m else r)=r1/\r1.Wf/\r.term<=r1.term/\r1.id=r.id/\r1.log=r.log/\m.term<=r1.term:=by
   split
   .rename_i ht;exact ⟨_,rfl,aB9 h hm ht,by show r.term<=m.term;omega,rfl,rfl,Int.le_refl _⟩
   .rename_i ht;exact ⟨_,rfl,h,Int.le_refl _,rfl,rfl,by omega⟩
  rw [IC]
  have hm1:m.sL r1.id:=by rw [aD5];exact hm
  unfold dJ
  split
  .obtain ⟨a1,a2,a3,a4,a5⟩:=aLC hw1 (m:=m) hm.src.2
   exact ⟨by rw [AH];exact a1,RL (by rw [a2,aD5]) (by rw [a3];exact ht1) (aD4 _ _) (λhh=>by rw [a5] at hh;cases hh) (λ_=>by rw [a4,aCa])⟩
  .split
   .obtain ⟨a1,a2,a3,a4,a5,a6⟩:=aH4 hw1 (m:=m)
    exact ⟨by rw [AH];exact a1,RL (by rw [a2,aD5]) (by rw [a3];exact ht1) (aAk _ _) (λhh=>by rw [a6] at hh;cases hh) (λ_=>by rw [a5,aCa])⟩
   .split
    .obtain ⟨a1,a2,a3,a4,a5,a6,a7⟩:=aD3 hw1 hm1 b0D
     rw [aCa] at a5 a6
     exact ⟨by rw [AH];exact a1,RL (by rw [a2,aD5]) (by rw [a3];exact ht1) a7 a5 a6⟩
    .obtain ⟨a1,a2,a3,a4,a5,a6⟩:=AG hw1 (m:=m) hm.index.1
     exact ⟨by rw [AH];exact a1,RL (by rw [a2,aD5]) (by rw [a3];exact ht1) (a1N _ _) (λhh=>by rw [a6] at hh;cases hh) (λ_=>by rw [a5,aCa])⟩
theorem a4E {r} (h:r.Wf):(eG r).1.Wf/\Fits r (eG r).1 (eG r).2:=by
 by_cases h1:r.role=2
 .rw [JW h1];exact ⟨h,Fits.refl r |>.id,λh=>(by cases h),λ_=>⟨rfl,rfl⟩,λh=>(by cases h),λ_=>rfl,Int.le_refl _⟩
 by_cases h2:r.term=1099511627776
 .rw [QJ h1 h2];exact ⟨h,Fits.refl r⟩
 rw [QK h1 h2]
 have:=h.ok.mE
 exact ⟨⟨a9D h.ok h1 h2,λ_=>by show 1<=r.term+1;omega⟩,rfl,λ_=>⟨rfl,rfl⟩,λh=>(by cases h),λh=>(by cases h),λ_=>rfl,by show r.term<=r.term+1;omega⟩
theorem yL {r} (h:r.Wf) (data):(aK r data).1.Wf/\Fits r (aK r data).1 (aK r data).2.2.2:=by
 by_cases h1:r.role≠2
 .rw [AB h1];exact ⟨h,Fits.refl r⟩
 by_cases h2:2000<(data.size:Int)
 .rw [y6 h1 h2];exact ⟨h,Fits.refl r⟩
 by_cases h3:r.log.length=4000
 .rw [tL h1 h2 h3];exact ⟨h,Fits.refl r⟩
 rw [E6 h1 h2 h3]
 have hr:r.role=2:=Decidable.not_not.1 h1
 refine ⟨⟨a6J h.ok hr (h.one (by rw [hr];decide)) h2 h3,h.one⟩,rfl,λh=>(by cases h),λ_=>⟨rfl,rfl⟩,λ_=>?_,λhn=>?_,Int.le_refl _⟩
 .show r.log++[⟨r.term,data⟩]=r.log.take (min (((r.log.length+1:Nat):Int) - 1) (r.log.length:Int)).toNat++[⟨r.term,data⟩]
  rw [show (min (((r.log.length+1:Nat):Int) - 1) (r.log.length:Int)).toNat=r.log.length by omega,List.take_length]
 .exfalso
  apply hn
  show (0:Int)<((r.log.length+1:Nat):Int)
  omega
theorem aAl {i t v l} (hi:i<=2) (h0:0<=t) (hM:t<=1099511627776) (hv0 : -1<=v) (hvM:v<=2) (hl:kS l t) (hlen:l.length<=4000):(dR i t v l).Wf :=
 ⟨⟨hi,h0,hM,hv0,hvM,hl,hlen,.inl rfl,Nat.zero_le _,λhr=>(by cases (show (0:Int)=2 from hr)),λi=>⟨by show 0<=4001;omega,by show 0<=4000;omega⟩⟩,λhr=>absurd rfl hr⟩
theorem a2Y:∀ (l:List bQ) (least most:Int),(∀ x∈l,least<=x.term)->(∀ x∈l,x.term<=most)->(∀ x∈l,x.data.size<=2000)->(∀ i j,i<=j->(hj:j<l.length)->(hi:i<l.length)->l[i].term<=l[j].term)->pV l least most=true
 | [],_,_,_,_,_,_=>rfl
 | x :: l,least,most,h1,h2,h3,h4=>by
  unfold pV
  rw [if_neg]
  .refine a2Y l x.term most (λy hy=>?_) (λy hy=>h2 y (List.mem_cons_of_mem _ hy)) (λy hy=>h3 y (List.mem_cons_of_mem _ hy)) (λi j hij hj hi=>?_)
   .obtain ⟨j,hj,rfl⟩:=List.getElem_of_mem hy
    exact h4 0 (j+1) (by omega) (by simp;omega) (by simp)
   .exact h4 (i+1) (j+1) (by omega) (by simp;omega) (by simp;omega)
  .have a:=h1 x (by simp)
   have b:=h2 x (by simp)
   have c:=h3 x (by simp)
   simp only [Bool.or_eq_true,decide_eq_true_eq,not_or]
   omega
theorem aLD {i:Nat} {r:dX} (hi:i<=2) (h:r.Ok):NH i r.term r.aQ r.log=true:=by
 have h1:=h.mE
 have h2:=h.iW
 have h3:=h.xZ
 have h4:=h.y3
 have h5:=h.len
 unfold NH
 rw [a2Y r.log 1 r.term h.log.lo h.log.hi h.log.data h.log.VA,Bool.and_true]
 simp only [Bool.and_eq_true,decide_eq_true_eq]
 omega
theorem aLE {α} (f:Nat->α) (i x y):put (put f i x) i y=put f i y:=by
 funext j;unfold put;split<;>rfl
structure Small (o:lT):Prop where
 aF:o.aF.length<=4000
 src:o.src<=4001
 send:o.send.length<=2
theorem aCb (r):(cW r).length<=2:=by unfold cW;rw [List.length_map,tJ];exact Nat.le_refl _
structure Cl.Wf (C:Cl):Prop where
 rep:∀ i,i<3->(C.nd i).rep.Wf/\(C.nd i).rep.id=i
 WO:∀ i,i<3->(C.nd i).F4=(C.nd i).rep.term/\(C.nd i).VL=(C.nd i).rep.aQ/\(C.nd i).a0q=(C.nd i).rep.log
 stop:∀ i,i<3->(C.nd i).stop=0\/(C.nd i).stop=1\/(C.nd i).stop=2
 sent:0<=C.sent.length
def aCc (n:Node) (r:dX):Node:=⟨r,r.term,r.aQ,r.log,n.stop⟩
def aH6 (C:Cl) (i:Nat) (r:dX):Cl:={ C with nd:=put C.nd i (aCc (C.nd i) r) }
def aNa (C:Cl) (i:Nat) (x:dX × lT):Cl:=aVB (b0C C i x.1) i x.2
theorem aH7 {C} (h:C.Wf) {i} (hi:i<3):(EF C i).Wf:=by
 obtain ⟨h1,h2,h3⟩:=h.WO i hi
 obtain ⟨hw,hid⟩:=h.rep i hi
 have a7s:(EF C i).nd i=aAh i (C.nd i):=cZ _ _ _
 have hne:∀ j,j≠i->(EF C i).nd j=C.nd j:=λj hj=>gN _ _ hj
 refine ⟨λj hj=>?_,λj hj=>?_,λj hj=>?_,h.sent⟩
 all_goals
  by_cases hji:j=i
  .subst hji
   rw [a7s]
   unfold aAh
   first
    | exact ⟨aAl (by omega) (by rw [h1];exact hw.ok.mE) (by rw [h1];exact hw.ok.iW) (by rw [h2];exact hw.ok.xZ) (by rw [h2];exact hw.ok.y3) (by rw [h1,h3];exact hw.ok.log) (by rw [h3];exact hw.ok.len),rfl⟩
    | exact ⟨rfl,rfl,rfl⟩
    | exact .inl rfl
  .rw [hne j hji]
   first
    | exact h.rep j hj
    | exact h.WO j hj
    | exact h.stop j hj
theorem aLF {C} (h:C.Wf) {i} (hi:i<3) {r} (hr:r.Wf) (hid:r.id=i):(aH6 C i r).Wf:=by
 have a7s:(aH6 C i r).nd i=aCc (C.nd i) r:=cZ _ _ _
 have hne:∀ j,j≠i->(aH6 C i r).nd j=C.nd j:=λj hj=>gN _ _ hj
 refine ⟨λj hj=>?_,λj hj=>?_,λj hj=>?_,h.sent⟩
 all_goals
  by_cases hji:j=i
  .subst hji
   rw [a7s]
   unfold aCc
   first
    | exact ⟨hr,hid⟩
    | exact ⟨rfl,rfl,rfl⟩
    | exact h.stop j hj
  .rw [hne j hji]
   first
    | exact h.rep j hj
    | exact h.WO j hj
    | exact h.stop j hj
def b0E {α:Type} (l:List α) (n:Nat):List α:=l.take n++l.drop (n+1)
def aVD (C:Cl) (n:Nat):Cl:={ C with sent:=b0E C.sent n }
def EG (C:Cl) (m:bR):Cl:=aNa C (oF m.to 3).toNat (cX (C.nd (oF m.to 3).toNat).rep m)
def aLG (C:Cl) (n:Int) (keep:Bool):Cl :=
 match C.sent[(oF n C.sent.length).toNat]? with
 | none=>C
 | some m=>EG (if keep then C else aVD C (oF n C.sent.length).toNat) m
def aVE (C:Cl) (i:Nat):Cl:=aNa C i (eG (C.nd i).rep)
theorem aD6 {r} (h:r.Wf) (data):Fits r (aK r data).1 (aK r data).2.2.2:=(yL h data).2
def nd0 (i:Nat):Node:=⟨dR i 0 (-1) [],0,-1,[],0⟩
def cl0:Cl:=⟨nd0,[]⟩
theorem aPR:cl0.Wf :=
 ⟨λi hi=>⟨aAl (by omega) (by decide) (by decide) (by decide) (by decide) ⟨by simp,by simp,by simp,by simp⟩ (by simp),rfl⟩,λi hi=>⟨rfl,rfl,rfl⟩,λi hi=>.inl rfl,Nat.zero_le _⟩
end Go.Proofs.YtnlkemjhgdbfkaaGreatDoor
end

section
namespace Go.Proofs.YtnlkemjhgdbfkaaGreatDoor
open Go.Vc
theorem Y3 {x} (h:aX x.term) (h2:x.data.size<=1000000):mX (gX x)=x:=by
 unfold mX gX
 rw [pN,aDC h h2]
 rfl
structure J8 (l:List bQ):Prop where
 aAm:∀ x∈l,aX x.term/\x.data.size<=1000000
 size:(aO (l.map gX)).length<=1048576
theorem J8.read {l} (h:J8 l):(l.map gX).map mX=l:=by
 rw [List.map_map]
 conv=>rhs;rw [<-List.map_id l]
 exact List.map_congr_left λx hx=>Y3 (h.aAm x hx).1 (h.aAm x hx).2
theorem a0s (l n):(aO (l.take n)).length<=(aO l).length:=by
 conv=>rhs;rw [<-List.take_append_drop n l,mI,List.length_append]
 omega
theorem J8.take {l} (h:J8 l) (n):J8 (l.take n) :=
 ⟨λx hx=>h.aAm x (List.mem_of_mem_take hx),Nat.le_trans (by rw [List.map_take];exact a0s _ n) h.size⟩
theorem J8.nil:J8 []:=⟨by simp,by simp [aO]⟩
def aLH (s:Nat) (v:Bs) (t vt:Int):Prop:=(s=0/\t=0/\vt = -1)\/(s≠0/\v=CR t vt)
theorem aD7 {s v t vt f b} (h:aLH s v t vt) (ht:aX t) (hv:aX vt):kU ⟨f,s,v,b⟩=(t,vt):=by
 unfold kU
 rcases h with ⟨rfl,rfl,rfl⟩|⟨hs,rfl⟩
 .rfl
 .have e1:eH (CR t vt,false)=(t,((oO vt).data.toList,false)):=QT ht
  have e2:eH ((oO vt).data.toList,false)=(vt,([],false)):=by
   have:=QT (n:=vt) (r:=[]) (bad:=false) hv
   rwa [List.append_nil] at this
  show (if s=0 then _ else _)=_
  rw [if_neg hs]
  show ((eH (CR t vt,false)).1,(eH (eH (CR t vt,false)).2).1)=_
  rw [e1]
  simp only
  rw [e2]
theorem aD8 {t v} (ht:aX t) (hv:aX v):(CR t v).length<=42:=by
 unfold CR
 rw [List.length_append,fT,fT]
 have:=(fU ht).2
 have:=(fU hv).2
 omega
structure NY (d:gZ) (u:WN):Prop where
 w:EZ d
 live:Live d u.j
 base:u.j.base=0
 ok:u.j.broken=false
 file:u.c.file=2
 now:fH (d.files 2).now u.c.slot u.c.value
 last:fH (d.files 2).last u.c.slot u.c.value
 enc:aLH u.c.slot u.c.value u.r.term u.r.aQ
 log:u.j.list=u.r.log.map gX
 WO:aX u.r.term/\aX u.r.aQ
 lw:J8 u.r.log
def aD9 (d:gZ) (H:Int->Int->Prop):Prop:=Fut (d.files 2) λs v=>∃ t vt,aLH s v t vt/\(aX t/\aX vt)/\H t vt
def a7t (d:gZ) (P:List bQ->Prop):Prop:=IZ d 0 λl=>∃ lg,l=lg.map gX/\J8 lg/\P lg
def DnI (d:gZ) (Q:Int->Int->List bQ->Prop):Prop:=EZ d/\∃ (H:Int->Int->Prop) (P:List bQ->Prop),(∀ t v l,H t v->P l->Q t v l)/\aD9 d H/\a7t d P
theorem DnI.mono {d Q Q'} (h:DnI d Q) (hq:∀ t v l,Q t v l->Q' t v l):DnI d Q':=by
 obtain ⟨hw,H,P,h1,h2,h3⟩:=h
 exact ⟨hw,H,P,λt v l a b=>hq t v l (h1 t v l a b),h2,h3⟩
theorem DnI.ev {d d' Q} (h:DnI d Q) (hw:EZ d') (he:∀ G,Ev (d.files G) (d'.files G)):DnI d' Q:=by
 obtain ⟨_,H,P,h1,h2,h3⟩:=h
 exact ⟨hw,H,P,h1,(he 2).fut h2,h3.ev (he _) (he _)⟩
theorem DnI.frame {d d' Q} (h:DnI d Q) (hq:d'.queue=d.queue) (hf:d'.files=d.files):DnI d' Q :=
 h.ev (λp hp=>h.1 p (by rw [<-hq];exact hp)) λG=>by rw [hf];exact .refl _
theorem NY.aVF {d u} (h:NY d u) {P} (hP:P u.r.log):a7t d P:=by
 have:=h.live.fut (P:=λl=>∃ lg,l=lg.map gX/\J8 lg/\P lg) ⟨u.r.log,h.log,h.lw,hP⟩
 rw [h.base] at this
 exact this
theorem NY.aVG {d u} (h:NY d u) {H} (hH:H u.r.term u.r.aQ):aD9 d H:=mG h.now h.last ⟨_,_,h.enc,h.WO,hH⟩
theorem NY.dn {d u} (h:NY d u) {Q} (hQ:Q u.r.term u.r.aQ u.r.log):DnI d Q :=
 ⟨h.w,λt v=>t=u.r.term/\v=u.r.aQ,λl=>l=u.r.log,λt v l a b=>by rw [a.1,a.2,b];exact hQ,h.aVG ⟨rfl,rfl⟩,h.aVF rfl⟩
theorem NY.frame {d d' u} (h:NY d u) (hq:d'.queue=d.queue) (hf:d'.files=d.files):NY d' u :=
 ⟨λp hp=>h.w p (by rw [<-hq];exact hp),h.live.frame hf,h.base,h.ok,h.file,by rw [hf];exact h.now,by rw [hf];exact h.last,h.enc,h.log,h.WO,h.lw⟩
theorem aAn {d f c e} (h:uW d f=(some c,e)):d.down=false:=by
 cases hd:d.down with
 | false=>rfl
 | true =>
  unfold uW at h
  have hr:(dA d f 0 5).2≠0:=by
   unfold dA sD
   rw [if_pos hd,if_pos (by decide:(9:Int)≠0)]
   show (9:Int)≠0
   decide
  rw [if_pos hr] at h
  injection h with h1
  cases h1
theorem aH8 {d d1 b e j} (h:qK d b=(d1,some j,e)):d1.down=false:=by
 unfold qK at h
 split at h
 .injection h with _ h;injection h with h;cases h
 split at h
 .injection h with _ h;injection h with h;cases h
 split at h
 .injection h with _ h;injection h with h;cases h
 injection h with h1 h2
 rw [<-h1]
 unfold IY at h2
 split at h2
 .cases h2
 .rename_i c e' ho
  exact aAn ho
structure aPS (id:Nat) (d:gZ) (Q:Int->Int->List bQ->Prop) (r:gZ × Option WN × Int):Prop where
 w:EZ r.1
 BG:OB d->OB r.1/\r.2.2=0
 or:(∃ u,r.2.1=some u/\r.2.2=0/\NY r.1 u/\u.r=dR id u.r.term u.r.aQ u.r.log/\Q u.r.term u.r.aQ u.r.log)\/(r.2.1=none/\(r.2.2=9\/r.2.2=10)/\DnI r.1 Q)
theorem U1 {id d Q} (h:DnI d Q):aPS id d Q (bZ id d):=by
 obtain ⟨hw,H,P,hQ,hC,hL⟩:=h
 unfold bZ
 obtain ⟨a1,a2,a3,a4⟩:=yC (d:=d) (F:=2) (by decide) hw
 obtain ⟨⟨d1,e1⟩,h1⟩:∃ x,bM d 2=x:=⟨_,rfl⟩
 rw [h1] at a1 a2 a3 a4 ⊢
 simp only at a1 a2 a3 a4 ⊢
 have L8:a7t d1 P:=hL.ev (a2 _ (by decide)) (a2 _ (by decide))
 by_cases D1:e1≠0
 .rw [if_pos D1]
  rcases a4 with ⟨h',_⟩|⟨h',h2⟩
  .exact absurd h' D1
  .exact ⟨a1,λh=>absurd (a3 h).2 D1,.inr ⟨rfl,h',a1,H,P,hQ,h2.fut hC,L8⟩⟩
 rw [if_neg D1]
 have D1:e1=0:=Decidable.not_not.1 D1
 obtain ⟨hdn,f1⟩:d1.down=false/\d1.files 2=⟨(d.files 2).now,(d.files 2).now⟩:=by
  rcases a4 with ⟨_,h1,h2⟩|⟨h,_⟩
  .exact ⟨h1,h2⟩
  .rw [D1] at h;omega
 obtain ⟨⟨s,v,k1,t,vt,k2,k3,k4⟩,_⟩:=hC
 have k5:fH (d1.files 2).now s v:=by rw [f1];exact k1
 have k6:fH (d1.files 2).last s v:=by rw [f1];exact k1
 have hO:=TP (d:=d1) (b:=0) (by decide) a1 L8
 unfold ZY
 obtain ⟨⟨d2,jo,e2⟩,h2⟩:∃ x,qK d1 0=x:=⟨_,rfl⟩
 rw [h2] at hO ⊢
 have oth:Ev (d1.files 2) (d2.files 2):=by
  rcases hO.other 2 with h|h
  .exact h
  .omega
 obtain ⟨k7,k8⟩:=aAa oth k5 k6
 rcases hO.or with ⟨j,g1,g2,g3,⟨lg,g4,g5,g6⟩,g7,g8⟩|⟨g1,g2,g3⟩
 .have g1:jo=some j:=g1
  have g2:e2=0:=g2
  subst g1
  have hd2:=aH8 h2
  have hoc:=a6X (d:=d2) (F:=2) hd2 (by decide) k7
  simp only
  unfold ZX
  rw [hoc]
  simp only
  have hh:=aD7 (f:=2) (b:=false) k2 k3.1 k3.2
  rw [hh,g4,g5.read]
  refine ⟨hO.w,λh=>⟨(hO.BG (a3 h).1).1,rfl⟩,.inl ⟨_,rfl,rfl,⟨hO.w,g3,g7,g8,rfl,k7,k8,k2,g4,k3,g5⟩,rfl,hQ _ _ _ k4 g6⟩⟩
 .have g1:jo=none:=g1
  subst g1
  simp only
  refine ⟨hO.w,λh=>⟨(hO.BG (a3 h).1).1,(hO.BG (a3 h).1).2⟩,.inr ⟨rfl,g2,hO.w,λa b=>a=t/\b=vt,P,λa b l x y=>by rw [x.1,x.2];exact hQ _ _ _ k4 y,mG k7 k8 ⟨t,vt,k2,k3,rfl,rfl⟩,g3⟩⟩
def aNb (r r':dX) (o:lT) (t v:Int) (l:List bQ):Prop :=
 ((t=r.term/\v=r.aQ)/\l=r.log)\/((t=r'.term/\v=r'.aQ)/\(l=r.log\/(0<o.src/\l=r.log.take (min (o.src - 1) (r.log.length:Int)).toNat)\/l=r'.log))
structure aPT (d:gZ) (r r':dX) (o:lT) (x:gZ × WN × Int):Prop where
 w:EZ x.1
 BG:OB d->OB x.1/\x.2.2=0
 or:(x.2.2=0/\NY x.1 x.2.1/\x.2.1.r=r')\/((x.2.2=9\/x.2.2=10)/\DnI x.1 (aNb r r' o))
theorem aEa {d u r r' o} (h:NY d { u with r:=r }) (hf:Fits r r' o) (hh:aX r'.term/\aX r'.aQ):
  EZ (qL d u o).1/\(OB d->OB (qL d u o).1/\(qL d u o).2.2=0)/\(∀ G,G≠2->Ev (d.files G) ((qL d u o).1.files G)) /\
   (((qL d u o).2.2=0/\NY (qL d u o).1 { u with r:={ r' with log:=r.log },c:=(qL d u o).2.1 })\/(((qL d u o).2.2=9\/(qL d u o).2.2=10)/\aD9 (qL d u o).1 λt v=>(t=r.term/\v=r.aQ)\/(t=r'.term/\v=r'.aQ))):=by
 unfold qL
 cases hs:o.save with
 | false =>
  obtain ⟨e1,e2⟩:=hf.keep hs
  rw [if_neg (by simp)]
  refine ⟨h.w,λh=>⟨h,rfl⟩,λG _=>.refl _,.inl ⟨rfl,h.w,h.live,h.base,h.ok,h.file,h.now,h.last,?_,h.log,hh,h.lw⟩⟩
  show aLH u.c.slot u.c.value r'.term r'.aQ
  rw [e1,e2]
  exact h.enc
 | true =>
  obtain ⟨e1,e2⟩:=hf.save hs
  rw [if_pos rfl,e1,e2]
  have J0:u.c.file=2:=h.file
  have hS:=a6Z (d:=d) (c:=u.c) (s:=CR r'.term r'.aQ) (by rw [J0];decide) h.w (by have:=aD8 hh.1 hh.2;omega) (by rw [J0];exact h.now) (by rw [J0];exact h.last)
  obtain ⟨⟨d1,c1,x1⟩,hx⟩:∃ x,wY d u.c (CR r'.term r'.aQ)=x:=⟨_,rfl⟩
  rw [hx] at hS ⊢
  have oth:∀ G,G≠2->Ev (d.files G) (d1.files G):=λG hG=>hS.other G (by rw [J0];exact hG)
  have RA:((if u.c.slot=1 then 2 else 1):Nat)≠0:=by split<;>decide
  refine ⟨hS.w,hS.BG,oth,?_⟩
  by_cases he:x1=0
  .left
   obtain ⟨h1,h2,X,h3,h4⟩:=hS.ok he
   have h1:c1.slot=if u.c.slot=1 then 2 else 1:=h1
   have h2:c1.value=CR r'.term r'.aQ:=h2
   have h3:d1.files u.c.file=⟨X,X⟩:=h3
   rw [J0] at h3
   rw [<-h1,<-h2] at h4
   have hfc:c1.file=2:=by have:=hS.file;rw [J0] at this;exact this
   have hbase:u.j.base=0:=h.base
   refine ⟨he,hS.w,aLy h.live ?_ ?_,h.base,h.ok,hfc,?_,?_,.inr ⟨by show c1.slot≠0;rw [h1];exact RA,h2⟩,h.log,hh,h.lw⟩
   .exact oth _ (by show u.j.base≠2;rw [hbase];decide)
   .exact oth _ (by show u.j.base+1≠2;rw [hbase];decide)
   .show fH (d1.files 2).now c1.slot c1.value
    rw [h3];exact h4
   .show fH (d1.files 2).last c1.slot c1.value
    rw [h3];exact h4
  .right
   obtain ⟨h1,h2⟩:=hS.bad he
   refine ⟨h1,?_⟩
   have h2:Fut (d1.files u.c.file) _:=h2
   rw [J0] at h2
   refine Fut.mono h2 λs v hv=>?_
   rcases hv with ⟨rfl,rfl⟩|⟨rfl,rfl⟩
   .exact ⟨_,_,h.enc,h.WO,.inl ⟨rfl,rfl⟩⟩
   .exact ⟨_,_,.inr ⟨RA,rfl⟩,hh,.inr ⟨rfl,rfl⟩⟩
theorem NY.jou {d d1 u j1 lg} (h:NY d u) (hw:EZ d1) (oth:∀ G,Ev (d.files G) (d1.files G)\/(G=u.j.base\/G=u.j.base+1)) (hl:Live d1 j1) (hb:j1.base=u.j.base) (hk:j1.broken=false) (hg:j1.list=lg.map gX) (hlw:J8 lg):
  NY d1 { u with j:=j1,r:={ u.r with log:=lg } }:=by
 have hbase:=h.base
 have h2:Ev (d.files 2) (d1.files 2):=by
  rcases oth 2 with e|e
  .exact e
  .rw [hbase] at e;omega
 obtain ⟨c1,c2⟩:=aAa h2 h.now h.last
 exact ⟨hw,hl,by show j1.base=0;rw [hb,hbase],hk,h.file,c1,c2,h.enc,hg,h.WO,hlw⟩
theorem NY.aCd {d d1 u} (h:NY d u) (oth:∀ G,Ev (d.files G) (d1.files G)\/(G=u.j.base\/G=u.j.base+1)) {H} (hH:H u.r.term u.r.aQ):aD9 d1 H:=by
 have hbase:=h.base
 have h2:Ev (d.files 2) (d1.files 2):=by
  rcases oth 2 with e|e
  .exact e
  .rw [hbase] at e;omega
 exact h2.fut (h.aVG hH)
theorem aEb {d u r r' o} (h:NY d { u with r:={ r' with log:=r.log } }) (hf:Fits r r' o) (hlw:J8 r'.log):
  EZ (sO d u o).1/\(OB d->OB (sO d u o).1/\(sO d u o).2.2=0) /\
   (((sO d u o).2.2=0/\NY (sO d u o).1 { u with r:=r',j:=(sO d u o).2.1 })\/(((sO d u o).2.2=9\/(sO d u o).2.2=10)/\aD9 (sO d u o).1 (λt v=>t=r'.term/\v=r'.aQ) /\
    a7t (sO d u o).1 λl=>l=r.log\/(0<o.src/\l=r.log.take (min (o.src - 1) (r.log.length:Int)).toNat)\/l=r'.log)):=by
 have hbase:u.j.base=0:=h.base
 have aCe:u.j.list=r.log.map gX:=h.log
 have hlen:u.j.list.length=r.log.length:=by rw [aCe,List.length_map]
 have hlr:J8 r.log:=h.lw
 unfold sO
 by_cases hp:0<o.src
 rotate_left 1
 .rw [if_neg hp]
  refine ⟨h.w,λh=>⟨h,rfl⟩,.inl ⟨rfl,?_⟩⟩
  have:=hf.same hp
  have e:({ r' with log:=r.log }:dX)=r':=by rw [<-this]
  rw [e] at h
  exact h
 rw [if_pos hp]
 have pX:=hf.log hp
 simp only
 obtain ⟨n,hn,hnl⟩:∃ n:Nat,min (o.src - 1) (u.j.list.length:Int)=(n:Int)/\n<=u.j.list.length:=⟨(min (o.src - 1) (u.j.list.length:Int)).toNat,by omega,by omega⟩
 have hn2:(min (o.src - 1) (r.log.length:Int)).toNat=n:=by rw [<-hlen,hn];exact Int.toNat_natCast n
 rw [hn2] at pX
 rw [hn2,hn]
 have hcut:EZ (j4 d u.j n).1/\(OB d->OB (j4 d u.j n).1/\(j4 d u.j n).2.2=0)/\(((j4 d u.j n).2.2=0/\NY (j4 d u.j n).1 { u with r:={ r' with log:=r.log.take n },j:=(j4 d u.j n).2.1 }) \/
   (((j4 d u.j n).2.2=9\/(j4 d u.j n).2.2=10)/\aD9 (j4 d u.j n).1 (λt v=>t=r'.term/\v=r'.aQ)/\a7t (j4 d u.j n).1 λl=>l=r.log\/l=r.log.take n)):=by
  by_cases he:n=u.j.list.length
  .have e:j4 d u.j n=(d,u.j,0):=by
    unfold j4
    rw [if_neg (by rw [h.ok];simp),if_neg (by omega),if_pos (by rw [he])]
   rw [e]
   refine ⟨h.w,λh=>⟨h,rfl⟩,.inl ⟨rfl,?_⟩⟩
   have e2:r.log.take n=r.log:=List.take_of_length_le (by omega)
   rw [e2]
   exact h
  .have ho:=aLj h.live h.ok h.w (n:=n) (by show n<u.j.list.length;omega)
   refine ⟨ho.w,ho.BG,?_⟩
   rcases ho.or with ⟨e,g1,g2,g3⟩|⟨e,g1,g2,g3⟩
   .refine .inl ⟨e,?_⟩
    have:=h.jou ho.w ho.other g3 ho.base g1 (lg:=r.log.take n) (by rw [g2];show u.j.list.take n=_;rw [aCe,List.map_take]) (hlr.take n)
    exact this
   .refine .inr ⟨e,h.aCd ho.other ⟨rfl,rfl⟩,?_⟩
    have g3:IZ _ u.j.base _:=g3
    rw [hbase] at g3
    refine IZ.mono g3 λl hl=>?_
    rcases hl with rfl|rfl
    .exact ⟨r.log,aCe,hlr,.inl rfl⟩
    .exact ⟨r.log.take n,by show u.j.list.take n=_;rw [aCe,List.map_take],hlr.take n,.inr rfl⟩
 obtain ⟨⟨d1,j1,e1⟩,hc⟩:∃ x,j4 d u.j n=x:=⟨_,rfl⟩
 rw [hc] at hcut ⊢
 simp only at hcut ⊢
 obtain ⟨c1,c2,c3⟩:=hcut
 by_cases D1:e1≠0
 .rw [if_pos D1]
  refine ⟨c1,λh=>absurd (c2 h).2 D1,.inr ?_⟩
  rcases c3 with ⟨e,_⟩|⟨e,g1,g2⟩
  .exact absurd e D1
  .exact ⟨e,g1,g2.mono λl ⟨lg,a,b,c⟩=>⟨lg,a,b,c.elim .inl λc=>.inr (.inl ⟨hp,c⟩)⟩⟩
 rw [if_neg D1]
 have D1:e1=0:=Decidable.not_not.1 D1
 have hU:NY d1 { u with r:={ r' with log:=r.log.take n },j:=j1 }:=by
  rcases c3 with ⟨_,g⟩|⟨e,_⟩
  .exact g
  .omega
 have hmap:(r.log.take n).map gX++o.aF.map gX=r'.log.map gX:=by rw [pX,List.map_append]
 by_cases hre:o.aF=[]
 .have e:dU d1 j1 (o.aF.map gX)=(d1,j1,0):=by
   unfold dU
   rw [if_neg (by rw [hU.ok];simp),if_pos (by rw [hre];rfl)]
  rw [e]
  refine ⟨c1,λh=>⟨(c2 h).1,rfl⟩,.inl ⟨rfl,?_⟩⟩
  have e2:({ r' with log:=r.log.take n }:dX)=r':=by
   rw [hre,List.append_nil] at pX
   rw [<-pX]
  rw [e2] at hU
  exact hU
 have hj1:j1.list=(r.log.take n).map gX:=hU.log
 have hb1:j1.bytes=(aO j1.list).length:=hU.live.bytes
 have b0G:j1.base=0:=hU.base
 have ho:=a9O (l:=o.aF.map gX) hU.live hU.ok hU.w (by simpa using hre) (by
  show j1.bytes+_<=_
  rw [hb1,hj1,<-List.length_append,<-mI,hmap]
  exact hlw.size)
 have ho:ZW d1 j1 (j1.list++o.aF.map gX) (dU d1 j1 (o.aF.map gX)):=ho
 refine ⟨ho.w,λh=>ho.BG (c2 h).1,?_⟩
 rcases ho.or with ⟨e,g1,g2,g3⟩|⟨e,g1,g2,g3⟩
 .refine .inl ⟨e,?_⟩
  have:=hU.jou ho.w ho.other g3 ho.base g1 (lg:=r'.log) (by rw [g2,hj1,hmap]) hlw
  exact this
 .refine .inr ⟨e,hU.aCd ho.other ⟨rfl,rfl⟩,?_⟩
  rw [b0G] at g3
  refine IZ.mono g3 λl hl=>?_
  rcases hl with rfl|rfl
  .exact ⟨r.log.take n,hj1,hlr.take n,.inr (.inl ⟨hp,rfl⟩)⟩
  .exact ⟨r'.log,by rw [hj1,hmap],hlw,.inr (.inr rfl)⟩
theorem a0u {d} {u:WN} {r r' o} (h:NY d { u with r:=r }) (hf:Fits r r' o) (hh:aX r'.term/\aX r'.aQ) (hlw:J8 r'.log):aPT d r r' o (cY d { u with r:=r' } o):=by
 have hs:=aEa h hf hh
 have hlr:J8 r.log:=h.lw
 unfold cY
 simp only
 have e0:qL d { u with r:=r' } o=qL d u o:=rfl
 rw [e0]
 obtain ⟨⟨d1,c1,e1⟩,hx⟩:∃ x,qL d u o=x:=⟨_,rfl⟩
 rw [hx] at hs ⊢
 simp only at hs ⊢
 obtain ⟨a1,a2,a3,a4⟩:=hs
 by_cases he:e1≠0
 .rw [if_pos he]
  refine ⟨a1,λh=>absurd (a2 h).2 he,.inr ?_⟩
  rcases a4 with ⟨e,_⟩|⟨e,g⟩
  .exact absurd e he
  .refine ⟨e,a1,_,λl=>l=r.log,λt v l x y=>?_,g,?_⟩
   .rcases x with x|x
    .exact .inl ⟨x,y⟩
    .exact .inr ⟨x,.inl y⟩
   .have hl:a7t d λl=>l=r.log:=h.aVF (P:=λl=>l=r.log) rfl
    exact hl.ev (a3 _ (by decide)) (a3 _ (by decide))
 rw [if_neg he]
 have he:e1=0:=Decidable.not_not.1 he
 have hU:NY d1 { u with r:={ r' with log:=r.log },c:=c1 }:=by
  rcases a4 with ⟨_,g⟩|⟨e,_⟩
  .exact g
  .omega
 have hk:=aEb (u:={ u with c:=c1 }) (r:=r) (r':=r') (o:=o) hU hf hlw
 have e1:sO d1 { u with r:=r' } o=sO d1 { u with c:=c1 } o:=rfl
 rw [e1]
 obtain ⟨⟨d2,j2,e2⟩,hy⟩:∃ x,sO d1 { u with c:=c1 } o=x:=⟨_,rfl⟩
 rw [hy] at hk ⊢
 simp only at hk ⊢
 obtain ⟨b1,b2,b3⟩:=hk
 refine ⟨b1,λh=>b2 (a2 h).1,?_⟩
 rcases b3 with ⟨e,g⟩|⟨e,g1,g2⟩
 .exact .inl ⟨e,g,rfl⟩
 .exact .inr ⟨e,b1,_,_,λt v l x y=>.inr ⟨x,y⟩,g1,g2⟩
theorem aCf {d} (hw:EZ d):EZ (LY d)/\(∀ G,Ev (d.files G) ((LY d).files G))/\OB (LY d):=by
 have hw':EZ (vU (nL d 0) 0 []):=hw
 refine ⟨X0 hw' [],λG=>IW hw' [] G,rfl,?_,?_⟩
 .show (cQ (vU (nL d 0) 0 []) []).eL=0
  unfold cQ
  split
  .rfl
  .rfl
 .show (cQ (vU (nL d 0) 0 []) []).lost=0
  unfold cQ
  split
  .rfl
  .rfl
theorem NZ {d Q} (h:DnI d Q):∃ t v,Q t v (mS d):=by
 obtain ⟨hw,H,P,hQ,hC,hL⟩:=h
 obtain ⟨c1,c2,c3⟩:=aCf hw
 obtain ⟨⟨s,v,k1,t,vt,k2,k3,k4⟩,_⟩:=hC
 have L8:a7t (LY d) P:=hL.ev (c2 _) (c2 _)
 have hO:=TP (d:=LY d) (b:=0) (by decide) c1 L8
 refine ⟨t,vt,?_⟩
 unfold mS
 rcases hO.or with ⟨j,g1,g2,g3,⟨lg,g4,g5,g6⟩,g7,g8⟩|⟨g1,g2,g3⟩
 .rw [g1]
  show Q t vt (j.list.map mX)
  rw [g4,g5.read]
  exact hQ _ _ _ k4 g6
 .have:=(hO.BG c3).2
  omega
theorem a0v {d u} (h:NY d u):mS d=u.r.log:=by
 obtain ⟨t,v,hq⟩:=NZ (h.dn (Q:=λt v l=>l=u.r.log) rfl)
 exact hq
theorem aH9:DnI nK λt v l=>t=0/\v = -1/\l=[] :=
 ⟨aLd,λt v=>t=0/\v = -1,λl=>l=[],λt v l a b=>⟨a.1,a.2,b⟩,
  mG (s:=0) (v:=[]) (.inl ⟨rfl,rfl,rfl⟩) (.inl ⟨rfl,rfl,rfl⟩) ⟨0,-1,.inl ⟨rfl,rfl,rfl⟩,⟨by unfold aX;decide,by unfold aX;decide⟩,rfl,rfl⟩,
  (aLh 0).mono λl hl=>⟨[],by rw [hl];rfl,.nil,rfl⟩⟩
end Go.Proofs.YtnlkemjhgdbfkaaGreatDoor
end

