/-
 Replicas,plain (out of La Lb Lc Ld Le Lf Lg Lh Li).
-/
import Derived.Test.YtnlkemjhgdbfkaaGreatDoorCu11
import Derived.Shelf.SlMaps.Clone
import Derived.Test.YtnlkemjhgdbfkaaGreatDoorRows
open Go.Proofs.Tryz
set_option linter.unusedVariables false
set_option linter.unusedSimpArgs false
section
namespace Go.Proofs.YtnlkemjhgdbfkaaGreatDoor
open Go.Vc
def aNA:Nat->Cl->Cl
 | 0,C=>C
 | n+1,C=>if C.sent.length=0 then C else aNA n (wZ C 0 false)
def a7D(C:Cl)(j:Nat)(r:dH)(s:List bA):Cl:=⟨put C.nd j (UU (C.nd j) r),s⟩
theorem aEc(C j r s):((a7D C j r s).nd j).rep=r:=by
 unfold a7D;simp only [aS];rfl
theorem aLX(C){j k}(r s)(h:k≠j):(a7D C j r s).nd k=C.nd k:=bG _ _ h
theorem a2T{C}(hw:C.Wf){i}(hi:i<3)(hs:(C.nd i).stop=0){x}(hf:Fits (C.nd i).rep x.1 x.2)(hl:C.sent.length+x.2.send.length<=300):LP C i x=a7D C i x.1 (C.sent++x.2.send):=by
 rw [E8 hw hi hf,if_neg (by rw [hs];decide),if_neg (by rw [hs];decide),List.take_of_length_le (by omega)];rfl
theorem V2{C:Cl}(hw:C.Wf)(hs:∀ j,j<3->(C.nd j).stop=0){m rest}(he:C.sent=m :: rest){j}(hj:j<3)(hto:m.to=(j:Nat))(hl:rest.length<=298):
  wZ C 0 false=a7D C j (aT (C.nd j).rep m).1 (rest++(aT (C.nd j).rep m).2.send):=by
 have hp:vV 0 C.sent.length=((0:Nat):Int):=by
  unfold vV;split
  .rfl
  .exact Int.zero_emod _
 rw [a7s hp (by rw [he];rfl)];have h3:(vV m.to 3).toNat=j:=by
  rw [hto];unfold vV;rw [if_neg (by decide)];show ((j:Int) % 3).toNat=j;omega
 unfold lR;rw [h3];have hh:=lQ (m:=m) (hw.rep j hj).1;have hsm:=(ZX (C.nd j).rep m).send;have hd:(IV C 0).sent=rest:=by unfold IV aWg;rw [he];rfl
 have hc:=a2T (C:=IV C 0) (a4u hw (by rw [he];simp)) hj (hs j hj) (x:=aT (C.nd j).rep m) hh.2 (by rw [hd];omega);rw [hd] at hc;exact hc
def b8(r:dH)(m:bA):dH:=if r.term<m.term then QD r m else r
theorem rR{r m}(hm:m.fY r.id):(aT r m).1=(dJ (b8 r m) m).1/\(aT r m).2.send=(dJ (b8 r m) m).2.send:=by
 rw [nM (gU.2 hm)];exact ⟨AE,ZV⟩
theorem oC(r m):(b8 r m).id=r.id/\(b8 r m).log=r.log/\(b8 r m).aD=r.aD/\(b8 r m).next=r.next/\(b8 r m).cE=r.cE/\(b8 r m).bX=r.bX:=by
 unfold b8;split<;>exact ⟨rfl,rfl,rfl,rfl,rfl,rfl⟩
theorem xD(r m):(b8 r m).term=max r.term m.term:=by
 unfold b8;split
 .show m.term=_;omega
 .omega
theorem x5{r m}(h:¬ r.term<m.term):b8 r m=r:=if_neg h
theorem a4D{r m}(h:r.term<m.term):b8 r m=QD r m:=if_pos h
theorem aB2{r}(h:r.Wf){m}(hm:m.fY r.id):(b8 r m).Wf:=by
 unfold b8;split
 .rename_i ht;exact aBU h hm ht
 .exact h
theorem tZ{id to kind:Nat}{t index}(hid:id<3)(hto:to<3)(hne:id≠to)(hk:kind<=3)(h1:1<=t)(h2:t<=1099511627776)(h3:0<=index)(h4:index<=4000)(y):(⟨kind,id,to,t,index,0,0,y,[]⟩:bA).fY to :=
 ⟨by constructor<;>(simp only;omega),rfl,by refine ⟨?_,?_,?_⟩<;>(simp only;omega),⟨h1,h2⟩,⟨h3,h4⟩,by constructor<;>(simp only;omega),λ_=>rfl,by constructor<;>(simp only;omega),by simp,by simp only [List.length_nil];omega,rfl⟩
theorem a2U{r:dH}(h:r.Ok)(k):0<=aU r.log k/\aU r.log k<=r.term:=by
 cases k with
 | zero=>exact ⟨Int.le_refl _,h.kK⟩
 | succ k =>
  have h0:=h.kK;by_cases hk:k<r.log.length
  .rw [gR hk];have h1:=h.log.lo _ (List.getElem_mem hk);have h2:=h.log.hi _ (List.getElem_mem hk);omega
  .have:aU r.log (k+1)=0:=by
    simp only [aU,List.getElem?_eq_none (show r.log.length<=k by omega)]
   omega
theorem aEd{r}(h:r.Ok)(h1:1<=r.term){to}(hto:to<3)(hne:r.id≠to):(iP r to).fY to:=by
 have hid:=h.id;have ht:=a2U h r.log.length;have hl:=h.len;refine ⟨⟨Int.le_refl _,show (0:Int)<=3 by decide⟩,rfl,?_,⟨h1,h.iD⟩,?_,ht,λhz=>?_,⟨Int.le_refl _,show (0:Int)<=4000 by decide⟩,by simp [iP],?_,rfl⟩
 .refine ⟨?_,?_,?_⟩<;>(simp only [iP];omega)
 .constructor<;>(simp only [iP];omega)
 .show aU r.log r.log.length=0;have:r.log.length=0:=by
   have:((r.log.length:Nat):Int)=0:=hz;omega
  rw [this];rfl
 .simp only [iP,List.length_nil];omega
theorem B6{r}(h:r.Ok)(h1:1<=r.term){to}(hto:to<3)(hne:r.id≠to)(hn1:1<=r.next to)(hn2:r.next to<=r.log.length+1){c:Nat}(hc:c<=4000):({ entriesOf r to with aD:=(c:Int) }:bA).fY to:=by
 have hid:=h.id;have hl:=h.len;have ht:=a2U h (r.next to - 1);refine ⟨⟨show (0:Int)<=2 by decide,show (2:Int)<=3 by decide⟩,rfl,?_,⟨h1,h.iD⟩,?_,ht,λhz=>?_,?_,?_,?_,?_⟩
 .refine ⟨?_,?_,?_⟩<;>(simp only [entriesOf];omega)
 .constructor<;>(simp only [entriesOf];omega)
 .show aU r.log (r.next to - 1)=0;have:r.next to - 1=0:=by
   have:((r.next to - 1:Nat):Int)=0:=hz;omega
  rw [this];rfl
 .constructor<;>(simp only;omega)
 .simp only [entriesOf,List.length_take];omega
 .simp only [entriesOf,List.length_take,List.length_drop];omega
 .show oR ((r.log.drop (r.next to - 1)).take 8) (max 1 (aU r.log (r.next to - 1))) r.term=true;have hs:=IQ (UT h.log (r.next to - 1)) 8;refine TH _ _ _ (λx hx=>?_) hs.hi hs.data hs.N1;have hx1:=hs.lo x hx;have hx2:aU r.log (r.next to - 1)<=x.term:=by
   have hx:=List.mem_of_mem_take hx;generalize r.next to - 1=q at hx;obtain ⟨k,hk,rfl⟩:=List.getElem_of_mem hx;rw [List.length_drop] at hk;rw [List.getElem_drop];cases q with
   | zero=>exact Int.le_trans (show (0:Int)<=1 by decide) (h.log.lo _ (List.getElem_mem _))
   | succ p =>
    rw [gR (show p<r.log.length by omega)];exact h.log.N1 p (p+1+k) (by omega) (by omega) (by omega)
  omega
def aIA(i:Nat)(m:bA):Int:=if m.src=i then m.to else m.src
abbrev apart(i:Nat)(a b:bA):Prop:=¬ ((2<=a.kind ↔ 2<=b.kind)/\aIA i a=aIA i b)
def base(m:bA):Nat:=if m.kind=0\/m.kind=2 then 2 else 1
def ms(r:dH)(j:Nat):Nat:=(r.log.length - r.cE j)+(r.next j - 1 - r.cE j)
def wt(i:Nat)(r:dH)(m:bA):Nat:=base m+(if r.role=2/\2<=m.kind then 2*ms r (aIA i m).toNat else 0)
def CS(f:bA->Nat):List bA->Nat
 | []=>0
 | m :: l=>f m+CS f l
def mu(i:Nat)(C:Cl):Nat:=(if (C.nd i).rep.role=1 then 2*(4*(C.nd i).rep.log.length+2) else 0)+CS (wt i (C.nd i).rep) C.sent
theorem aB3(f):∀ a b,CS f (a++b)=CS f a+CS f b
 | [],b=>by simp [CS]
 | m :: a,b=>by
  show f m+CS f (a++b)=f m+CS f a+CS f b;rw [aB3 f a b];omega
theorem aIB{f g}:∀ {l:List bA},(∀ m∈l,f m<=g m)->CS f l<=CS g l
 | [],_=>Nat.le_refl _
 | m :: l,h=>Nat.add_le_add (h m (by simp)) (aIB λx hx=>h x (List.mem_cons_of_mem _ hx))
theorem EF{i k}(hi:i<3):k∈aL i ↔ k<3/\k≠i:=by
 have h:i=0\/i=1\/i=2:=by omega
 rcases h with rfl|rfl|rfl<;>simp [aL]<;>omega
theorem WH{r i}(hid:r.id=i)(hi:i<3){m}:m∈bL r ↔ ∃ k,k<3/\k≠i/\m=entriesOf r k:=by
 unfold bL;rw [List.mem_map,hid];constructor
 .rintro ⟨k,hk,rfl⟩;exact ⟨k,((EF hi).1 hk).1,((EF hi).1 hk).2,rfl⟩
 .rintro ⟨k,h1,h2,rfl⟩;exact ⟨k,(EF hi).2 ⟨h1,h2⟩,rfl⟩
theorem aB4{r:dH}{i}(hid:r.id=i)(hi:i<3):∃ a b,a<3/\b<3/\a≠b/\a≠i/\b≠i/\aL r.id=[a,b]:=by
 rw [hid];have h:i=0\/i=1\/i=2:=by omega
 rcases h with rfl|rfl|rfl
 .exact ⟨1,2,by decide,by decide,by decide,by decide,by decide,rfl⟩
 .exact ⟨0,2,by decide,by decide,by decide,by decide,by decide,rfl⟩
 .exact ⟨0,1,by decide,by decide,by decide,by decide,by decide,rfl⟩
theorem V3{l n}(h:n<=l.length):aU (l.take n) n=aU l n:=by
 cases n with
 | zero=>rfl
 | succ n =>
  rw [gR (show n<l.length by omega),gR (show n<(l.take (n+1)).length by rw [List.length_take];omega),List.getElem_take]
theorem eL.a7E{C g A}(h:eL C g A){s u l n}(h1:jP g A s l n)(hsu:s<=u)(hu:g.ld u ≠ -1):n<=(g.LL u).length/\(g.LL u).take n=l.take n:=by
 rcases h1 with e|⟨t,p,c1,k0,k1,q1⟩
 .subst e;simp
 .rcases Int.lt_or_eq_of_le (show t<=u by omega) with hlt|heq
  .have q:=h.TM c1 hlt hu;exact ⟨by have:=q.1;omega,by rw [K0 q k1,q1.2]⟩
  .subst heq;exact ⟨Nat.le_trans k1 c1.1.2.1,q1.2.symm⟩
theorem eL.aB5{C g A}(h:eL C g A){i j}(hi:i<3)(hj:j<3)(hji:j≠i)(hr:(C.nd i).rep.role=2)(ht:(C.nd j).rep.term<=(C.nd i).rep.term):
  (C.nd i).rep.cE j<=(C.nd j).rep.log.length/\(C.nd j).rep.log.take ((C.nd i).rep.cE j)=(C.nd i).rep.log.take ((C.nd i).rep.cE j):=by
 rcases Nat.eq_zero_or_pos ((C.nd i).rep.cE j) with h0|h0
 .rw [h0];simp
 .have hL:=(h.m.lead i hi hr).2;rcases h.ia (C.nd i).rep.term j ((C.nd i).rep.cE j) hj h0 (h.im i hi hr j hj hji) with hh|⟨u,h1,h2,_⟩
  .rw [<-hL];exact hh
  .omega
theorem eL.aIC{C g A}(h:eL C g A){i j}(hi:i<3)(hj:j<3)(hr:(C.nd i).rep.role=2)(ht:(C.nd j).rep.term<=(C.nd i).rep.term){ix aE}(S8:aE=((C.nd i).rep.log.drop ix).take aE.length)(h4:agree ((C.nd j).rep.log.drop ix) aE<aE.length)(h5:ix+agree ((C.nd j).rep.log.drop ix) aE+1<=(C.nd j).rep.aD):False:=by
 obtain ⟨xC,oI⟩:=h.m.lead i hi hr;have hc:=h.a7E (h.co j hj) ht (by rw [xC];omega);rw [oI] at hc;obtain ⟨c1,c2⟩:=hc;have hcj:=(h.m.wf.rep j hj).1.ok.aD;obtain ⟨k,hk⟩:∃ k,agree ((C.nd j).rep.log.drop ix) aE=k:=⟨_,rfl⟩;have hmax:=JZ ((C.nd j).rep.log.drop ix) aE h4;rw [hk] at h4 h5 hmax;have e1:(C.nd j).rep.log[ix+k]? = (C.nd i).rep.log[ix+k]? := by
  have:=congrArg (λl=>l[ix+k]?) c2;simp only [List.getElem?_take_of_lt (show ix+k<(C.nd j).rep.aD by omega)] at this;exact this.symm
 have hx:ix+k<(C.nd j).rep.log.length:=by omega
 have hy:aE[k]? = (C.nd i).rep.log[ix+k]? := by
  rw [S8,List.getElem?_take_of_lt h4,List.getElem?_drop]
 obtain ⟨x,hx2⟩:∃ x,(C.nd j).rep.log[ix+k]? = some x:=⟨_,List.getElem?_eq_getElem hx⟩;exact hmax x x (by rw [List.getElem?_drop];exact hx2) (by rw [hy,<-e1];exact hx2) rfl
theorem a2V{r m}(h:m.kind=0):dJ r m=cX r m:=if_pos h
theorem a2W{r m}(h:m.kind=1):dJ r m=cU r m:=by unfold dJ;rw [if_neg (by omega),if_pos h]
theorem a0i{r m}(h:m.kind=2):dJ r m=b9 r m:=by unfold dJ;rw [if_neg (by omega),if_neg (by omega),if_pos h]
theorem a2X{r m}(h:m.kind=3):dJ r m=aW r m:=by unfold dJ;rw [if_neg (by omega),if_neg (by omega),if_neg (by omega)]
theorem a0j(r m):∃ y,(cX r m).2.send=[⟨1,r.id,m.src,r.term,0,0,0,y,[]⟩]/\(y=true ↔ (m.term=r.term/\(r.aK = -1\/r.aK=m.src)/\HI r m=true)):=by
 unfold cX;split
 .rename_i h;simp only [Bool.and_eq_true,Bool.or_eq_true,decide_eq_true_eq] at h;exact ⟨true,rfl,λ_=>⟨h.1.1,h.1.2,h.2⟩,λ_=>rfl⟩
 .rename_i h;simp only [Bool.and_eq_true,Bool.or_eq_true,decide_eq_true_eq] at h;exact ⟨false,rfl,λh=>(by cases h),λhh=>absurd ⟨⟨hh.1,hh.2.1⟩,hh.2.2⟩ h⟩
structure RB(N:Nat)(B:Int)(r:dH):Prop where
 nx:r.role=2->∀ f,r.cE f+1<=r.next f
 len:r.log.length<=N
 term:r.term<=B
def MB(N:Nat)(B:Int)(m:bA):Prop:=m.term<=B/\(m.kind=2->m.index.toNat+m.aE.length<=N)
structure CB(N:Nat)(B:Int)(C:Cl):Prop where
 rep:∀ j,j<3->RB N B (C.nd j).rep
 msg:∀ m∈C.sent,MB N B m
theorem RB.more{N N' B B' r}(h:RB N B r)(h1:N<=N')(h2:B<=B'):RB N' B' r:=⟨h.nx,Nat.le_trans h.len h1,Int.le_trans h.term h2⟩
theorem MB.more{N N' B B' m}(h:MB N B m)(h1:N<=N')(h2:B<=B'):MB N' B' m:=⟨Int.le_trans h.1 h2,λhk=>Nat.le_trans (h.2 hk) h1⟩
theorem CB.more{N N' B B' C}(h:CB N B C)(h1:N<=N')(h2:B<=B'):CB N' B' C:=⟨λj hj=>(h.rep j hj).more h1 h2,λm hm=>(h.msg m hm).more h1 h2⟩
theorem aAy{N B r}(ht:r.term<=B)(hl:r.log.length<=N){k}(hn:r.next k<=r.log.length+1):MB N B (entriesOf r k):=by
 refine ⟨ht,λ_=>?_⟩;show (((r.next k - 1:Nat)):Int).toNat+((r.log.drop (r.next k - 1)).take 8).length<=N;rw [Int.toNat_natCast,List.length_take,List.length_drop];omega
theorem aAz{N B r}(ht:r.term<=B)(hl:r.log.length<=N)(hn:∀ k,r.next k<=r.log.length+1):∀ a∈bL r,MB N B a:=λa ha=>by
 unfold bL at ha;obtain ⟨k,_,rfl⟩:=List.mem_map.1 ha;exact aAy ht hl (hn k)
theorem K4{N B m}(h:m.term<=B)(hk:m.kind≠2):MB N B m:=⟨h,λhh=>absurd hh hk⟩
theorem aLY{N B r m}(h:RB N B r)(hm:m.term<=B):RB N B (b8 r m):=by
 unfold b8;split
 .exact ⟨λhr=>(by cases (show (0:Int)=2 from hr)),h.len,hm⟩
 .exact h
theorem WI{N B r m}(hw:r.Wf)(h:RB N B r)(hm:MB N B m):RB N B (aT r m).1/\∀ a∈(aT r m).2.send,MB N B a:=by
 cases hy:gQ r.id m with
 | false =>
  rw [pS hy];exact ⟨h,λa ha=>by cases ha⟩
 | true =>
  have hr:=gU.1 hy;obtain ⟨e1,e2⟩:=rR hr;rw [e1,e2];have h1:=aLY (m:=m) h hm.1;have hw1:=aB2 hw hr;have HP:m.fY (b8 r m).id:=by rw [(oC r m).1];exact hr
  have hle:m.term<=(b8 r m).term:=by rw [xD];omega
  generalize b8 r m=r1 at h1 hw1 HP hle;have hk:=hr.kind;have RF:m.kind=0\/m.kind=1\/m.kind=2\/m.kind=3:=by omega
  rcases RF with hk|hk|hk|hk
  .rw [a2V hk];obtain ⟨y,ey,_⟩:=a0j r1 m;rw [ey];refine ⟨?_,λa ha=>?_⟩
   .unfold cX;split<;>exact ⟨h1.nx,h1.len,h1.term⟩
   .rw [List.mem_singleton.1 ha];exact K4 h1.term (show (1:Int)≠2 by decide)
  .rw [a2W hk];by_cases hc:(decide (r1.role≠1)||decide (m.term≠r1.term) || !m.yes)=true
   .rw [y9 hc];exact ⟨h1,λa ha=>by cases ha⟩
   have hc:(decide (r1.role≠1)||decide (m.term≠r1.term) || !m.yes)=false:=by simpa using hc
   by_cases h2:kF (fX r1 m).bX<2
   .rw [tQ hc h2];exact ⟨⟨h1.nx,h1.len,h1.term⟩,λa ha=>by cases ha⟩
   .rw [nG hc h2];exact ⟨⟨λ_ f=>by show 0+1<=r1.log.length+1;omega,h1.len,h1.term⟩,aAz h1.term h1.len λk=>Nat.le_refl _⟩
  .rw [a0i hk];have aWy:=hm.2 hk;by_cases h2:m.term<r1.term
   .rw [pY h2];exact ⟨h1,λa ha=>by rw [List.mem_singleton.1 ha];exact K4 h1.term (by show (3:Int)≠2;decide)⟩
   by_cases h3:r1.role=2
   .rw [nJ h2 h3];exact ⟨h1,λa ha=>by cases ha⟩
   by_cases h4:(decide ((r1.log.length:Int)<m.index)||decide (aU r1.log m.index.toNat≠m.prev))=true
   .rw [pZ h2 h3 h4];exact ⟨⟨λhr=>(by cases (show (0:Int)=2 from hr)),h1.len,h1.term⟩,λa ha=>by rw [List.mem_singleton.1 ha];exact K4 h1.term (by show (3:Int)≠2;decide)⟩
   have h4:(decide ((r1.log.length:Int)<m.index)||decide (aU r1.log m.index.toNat≠m.prev))=false:=by simpa using h4
   have aHb:m.index.toNat<=r1.log.length:=by
    simp only [Bool.or_eq_false_iff,decide_eq_false_iff_not] at h4;omega
   by_cases h5:eM r1 m<m.aE.length
   .by_cases h6:m.index.toNat+eM r1 m+1<=r1.aD
    .rw [nK h2 h3 h4 h5 h6];exact ⟨⟨λhr=>(by cases (show (0:Int)=2 from hr)),h1.len,h1.term⟩,λa ha=>by cases ha⟩
    .rw [nL h2 h3 h4 h5 h6];exact ⟨⟨λhr=>(by cases (show (0:Int)=2 from hr)),by show (r1.log.take (m.index.toNat+eM r1 m)++m.aE.drop (eM r1 m)).length<=N;rw [OO aHb];exact aWy,h1.term⟩,λa ha=>by rw [List.mem_singleton.1 ha];exact K4 h1.term (by show (3:Int)≠2;decide)⟩
   .rw [kV h2 h3 h4 h5];exact ⟨⟨λhr=>(by cases (show (0:Int)=2 from hr)),h1.len,h1.term⟩,λa ha=>by rw [List.mem_singleton.1 ha];exact K4 h1.term (by show (3:Int)≠2;decide)⟩
  .rw [a2X hk];by_cases hc:(decide (r1.role≠2)||decide (m.term≠r1.term)||m.yes&&decide ((r1.log.length:Int)<m.index))=true
   .rw [nH hc];exact ⟨h1,λa ha=>by cases ha⟩
   have hc:(decide (r1.role≠2)||decide (m.term≠r1.term)||m.yes&&decide ((r1.log.length:Int)<m.index))=false:=by simpa using hc
   have JR:=hc;simp only [Bool.or_eq_false_iff,decide_eq_false_iff_not] at JR;have cP:r1.role=2:=Decidable.not_not.1 JR.1.1;have hwa:=(AD hw1 (m:=m) hr.index.1).1;cases hyes:m.yes with
   | false =>
    rw [jN hc hyes] at hwa ⊢;refine ⟨⟨λ_ f=>?_,h1.len,h1.term⟩,λa ha=>?_⟩
    .show r1.cE f+1<=put r1.next _ _ f;have:=h1.nx cP f;unfold put;split
     .rename_i hf;rw [hf];exact Nat.le_max_left _ _
     .exact this
    .rw [List.mem_singleton.1 ha];exact aAy (r:=mQ r1 m) h1.term h1.len (hwa.ok.next cP m.src.toNat).2.1
   | true =>
    obtain ⟨a1,a2,a3,a4,a5,a6,a7⟩:=vN (dQ r1 m);have hrb:RB N B (aQ (dQ r1 m)):=by
     refine ⟨λ_ f=>?_,by rw [a2];exact h1.len,by rw [a6];exact h1.term⟩;rw [a3,a4];show put r1.cE _ _ f+1<=put r1.next _ _ f;have:=h1.nx cP f;unfold put;split
     .exact Nat.le_refl _
     .exact this
    rw [jF hc hyes] at hwa ⊢;split
    .rename_i hmo;rw [if_pos hmo] at hwa;refine ⟨hrb,λa ha=>?_⟩;rw [List.mem_singleton.1 ha];exact aAy hrb.term hrb.len (hwa.ok.next (by rw [a1];exact cP) _).2.1
    .exact ⟨hrb,λa ha=>by cases ha⟩
theorem WJ{N B r}(hw:r.Wf)(h:RB N B r):RB N (B+1) (cV r).1/\∀ a∈(cV r).2.send,MB N (B+1) a:=by
 by_cases h1:r.role=2
 .rw [j6 h1];exact ⟨h.more (Nat.le_refl _) (by omega),λa ha=>(aAz h.term h.len (λk=>(hw.ok.next h1 k).2.1) a ha).more (Nat.le_refl _) (by omega)⟩
 by_cases h2:r.term=1099511627776
 .rw [HN h1 h2];exact ⟨h.more (Nat.le_refl _) (by omega),λa ha=>by cases ha⟩
 rw [CD h1 h2];have ht:=h.term;refine ⟨⟨λhr=>(by cases (show (1:Int)=2 from hr)),h.len,by show r.term+1<=_;omega⟩,λa ha=>?_⟩;obtain ⟨k,_,rfl⟩:=List.mem_map.1 ha;exact K4 (by show r.term+1<=_;omega) (by show (0:Int)≠2;decide)
theorem a4E{N B r}(hw:r.Wf)(h:RB N B r)(data):RB (N+1) B (aF r data).1/\∀ a∈(aF r data).2.2.2.send,MB (N+1) B a:=by
 have hm:=h.more (Nat.le_succ N) (Int.le_refl B);by_cases h1:r.role≠2
 .rw [wT h1];exact ⟨hm,λa ha=>by cases ha⟩
 by_cases h2:2000<(data.size:Int)
 .rw [uR h1 h2];exact ⟨hm,λa ha=>by cases ha⟩
 by_cases h3:r.log.length=4000
 .rw [qI h1 h2 h3];exact ⟨hm,λa ha=>by cases ha⟩
 rw [rL h1 h2 h3];have hl:(iU r data).log.length=r.log.length+1:=by show (r.log++[_]).length=_;simp
 have hle:=h.len;have hrb:RB (N+1) B (iU r data):=⟨h.nx,by rw [hl];omega,h.term⟩;refine ⟨hrb,λa ha=>aAz hrb.term hrb.len (λk=>?_) a ha⟩;have:=(hw.ok.next (Decidable.not_not.1 h1) k).2.1;rw [hl];show r.next k<=_;omega
theorem aID{N B i t v l}(h1:l.length<=N)(h2:t<=B):RB N B (dP i t v l):=⟨λhr=>(by cases (show (0:Int)=2 from hr)),h1,h2⟩
theorem CB.start{N B C}(h:CB N B C)(hw:C.Wf){i}(hi:i<3):CB N B (mJ C i):=by
 obtain ⟨h1,h2,h3⟩:=hw.NO i hi;refine ⟨λj hj=>?_,h.msg⟩;by_cases hji:j=i
 .subst hji;have:((mJ C j).nd j).rep=dP j (C.nd j).AB (C.nd j).LO (C.nd j).QW:=by unfold mJ;simp only [aS];rfl
  rw [this,h1,h3];exact aID (h.rep j hj).len (h.rep j hj).term
 .rw [show (mJ C i).nd j=C.nd j from bG _ _ hji];exact h.rep j hj
theorem CB.set{N B C}(h:CB N B C){i r}(hr:RB N B r){s}(hs:∀ m∈s,m∈C.sent\/MB N B m):CB N B (a7D C i r s):=by
 refine ⟨λj hj=>?_,λm hm=>?_⟩
 .by_cases hji:j=i
  .subst hji;rw [aEc];exact hr
  .rw [aLX C r s hji];exact h.rep j hj
 .rcases hs m hm with e|e
  .exact h.msg m e
  .exact e
theorem CB.call{N B C}(h:CB N B C)(hw:C.Wf){i}(hi:i<3){x}(hx:x.1.Wf)(hf:Fits (C.nd i).rep x.1 x.2)(hr:RB N B x.1)(hs:∀ a∈x.2.send,MB N B a):CB N B (LP C i x):=by
 rw [E8 hw hi hf];have hh:(CO C i x.1).Wf:=WC hw hi hx (by rw [hf.id];exact (hw.rep i hi).2);split
 .exact h.start hw hi
 split
 .exact CB.start (C:=CO C i x.1) (h.set (i:=i) (s:=C.sent) hr λm hm=>.inl hm) hh hi
 .exact h.set (i:=i) (s:=C.sent++x.2.send.take (300 - C.sent.length)) hr λm hm=>by
   rcases List.mem_append.1 hm with hm|hm
   .exact .inl hm
   .exact .inr (hs m (List.mem_of_mem_take hm))
theorem CB.drop{N B C}(h:CB N B C)(n):CB N B (IV C n):=⟨h.rep,λm hm=>h.msg m (by
 rcases List.mem_append.1 hm with hm|hm
 .exact List.mem_of_mem_take hm
 .exact List.mem_of_mem_drop hm)⟩
theorem CB.lR{N B C}(h:CB N B C)(hw:C.Wf){m}(hm:MB N B m):CB N B (lR C m):=by
 have hi:=aAf m.to;have hh:=lQ (m:=m) (hw.rep _ hi).1;obtain ⟨a,b⟩:=WI (hw.rep _ hi).1 (h.rep _ hi) hm;exact h.call hw hi hh.1 hh.2 a b
theorem CB.aAx{N B C}(h:CB N B C)(hw:C.Wf)(n keep):CB N B (wZ C n keep):=by
 unfold wZ;split
 .exact h
 .rename_i m hm;have hlt:=(List.getElem?_eq_some_iff.1 hm).1;have hmem:m∈C.sent:=List.mem_of_getElem? hm;cases keep with
  | true=>exact h.lR hw (h.msg m hmem)
  | false=>exact (h.drop _).lR (a4u hw hlt) (h.msg m hmem)
theorem cb0:CB 0 0 cl0:=⟨λj hj=>aID (Nat.le_refl _) (Int.le_refl _),λm hm=>by cases hm⟩
def aQx(i:Nat)(C:Cl):Cl:=aNA 2000 (aWh C i)
def a0k(l:List bH)(m:bA):Bool:=decide (aU l l.length<m.prev)||decide (m.prev=aU l l.length)&&decide ((l.length:Int)<=m.index)
theorem aLZ(r m):HI r m=a0k r.log m:=rfl
theorem aEf{v a b}(ha:a<3)(hb:b<3)(hab:a≠b)(h1:v a=true)(h2:v b=true):¬ kF v<2:=by
 have hca:a=0\/a=1\/a=2:=by omega
 have hcb:b=0\/b=1\/b=2:=by omega
 unfold kF;rcases hca with rfl|rfl|rfl<;>rcases hcb with rfl|rfl|rfl<;>first|exact absurd rfl hab|(rw [h1,h2];show ¬ _<2;simp only [b2n,if_true];omega)
attribute [local irreducible] aQx
theorem aL0{r}(hid:r.id<3){k}(hk:k<3)(hki:k≠r.id):r.cE k<=lI r:=by
 unfold lI;have hm:=(EF hid).2 ⟨hk,hki⟩;obtain ⟨a,b,_,_,_,_,_,e⟩:=aB4 (r:=r) rfl hid;rw [e] at hm ⊢;show r.cE k<=max (max 0 (r.cE a)) (r.cE b);rcases List.mem_cons.1 hm with rfl|hm
 .omega
 .rw [List.mem_singleton.1 hm];omega
theorem CQ.same{C C' g}(h:CQ C g)(hw:C'.Wf)(e:∀ j,(C'.nd j).rep=(C.nd j).rep)(hs:∀ m∈C'.sent,m∈C.sent):CQ C' g:=by
 refine ⟨hw,λj hj=>?_,λj hj t ht=>?_,λm hm=>h.yes m (hs m hm),λj hj hr=>?_,λj hj hr=>?_,h.quo,λt ht=>?_,h.none,λj hj=>?_,h.ll,λm hm=>h.app m (hs m hm)⟩
 .rw [e];exact h.now j hj
 .rw [e] at ht;exact h.later j hj t ht
 .rw [e] at hr ⊢;exact h.cand j hj hr
 .rw [e] at hr ⊢;exact h.lead j hj hr
 .obtain ⟨j,hj,a1,a2⟩:=h.ldt t ht;exact ⟨j,hj,a1,by rw [e];exact a2⟩
 .rw [e];exact h.log j hj
theorem eL.same{C C' g A}(h:eL C g A)(hw:C'.Wf)(e:∀ j,(C'.nd j).rep=(C.nd j).rep)(hs:∀ m∈C'.sent,m∈C.sent):eL C' g A:=by
 have hc:∀ t p,oV C A t p->oV C' A t p:=λt p ⟨x,y,a1,a2,a3,a4,a5,a6,a7⟩=>⟨x,y,a1,a2,a3,by rw [e];exact a4,by rw [e];exact a5,a6,a7⟩;refine ⟨h.m.same hw e hs,h.N1,h.a1,λt j hj=>?_,λj hj=>?_,λt j p hj=>?_,λt u p a b c=>(h.ib t u p a b c).imp id (hc t p),λm hm hk=>?_,λc hcc=>?_,λc hcc=>?_,λt x c hx hcc hV=>?_,λj hj=>?_,λm hm=>h.ik m (hs m hm),λm hm=>h.ic m (hs m hm),λj hj=>?_⟩
 .rw [e];exact h.a2 t j hj
 .rw [e];exact h.a3 j hj
 .rw [e];exact h.ia t j p hj
 .obtain ⟨c,a1,a2,a3,a4⟩:=h.iq m (hs m hm) hk;exact ⟨c,a1,a2,by rw [e];exact a3,by rw [e];exact a4⟩
 .rw [e];exact h.il c hcc
 .rw [e];exact λa x b d t p k1 k2 k3=>(h.iv c hcc a x b d t p k1 k2 k3).imp id (hc t p)
 .rw [e];exact h.vt t x c hx hcc hV
 .rw [e];exact h.im j hj
 .rw [e];exact h.co j hj
end Go.Proofs.YtnlkemjhgdbfkaaGreatDoor
end

section
namespace Go.Proofs.YtnlkemjhgdbfkaaGreatDoor
open Go.Vc
structure VW(i:Nat)(l:List bH)(a:bA):Prop where
 ok:a.Ok
 src:a.src=i
 to:0<=a.to/\a.to<=2
 len:a.aE.length<=8
 aE:∀ y∈a.aE,y∈l
theorem aIE{i:Nat}{l}{a:bA}(h:a.Ok)(h1:a.src=i)(h2:0<=a.to/\a.to<=2)(h3:a.aE=[]):VW i l a:=⟨h,h1,h2,by rw [h3];exact Nat.zero_le _,by rw [h3];intro y hy;cases hy⟩
theorem aIF{r}(h:r.Ok){k}(hf:Fit r k):VW r.id r.log (entriesOf r k):=by
 have:=hf.to;refine ⟨DY h hf,rfl,⟨by show 0<=(k:Int);omega,by show (k:Int)<=2;omega⟩,?_,λy hy=>?_⟩
 .show ((r.log.drop _).take 8).length<=8;rw [List.length_take];omega
 .exact List.mem_of_mem_drop (List.mem_of_mem_take hy)
theorem aIG{r}(h:r.Ok)(h2:r.role=2):∀ a∈bL r,VW r.id r.log a:=λa ha=>by
 unfold bL at ha;obtain ⟨k,hk,rfl⟩:=List.mem_map.1 ha;exact aIF h (h.fit h2 ((CC k hk).1))
theorem a4F{r}(h:r.Ok):∀ a∈(cV r).2.send,VW r.id (cV r).1.log a:=by
 by_cases h1:r.role=2
 .rw [j6 h1];exact aIG h h1
 by_cases h2:r.term=1099511627776
 .rw [HN h1 h2];intro a ha;cases ha
 rw [CD h1 h2];intro a ha;obtain ⟨k,hk,rfl⟩:=List.mem_map.1 ha;have hk:=(CC k hk).1;exact aIE (a6z (a30 h h1 h2) k hk) rfl ⟨by show 0<=(k:Int);omega,by show (k:Int)<=2;omega⟩ rfl
theorem a4G{r}(hw:r.Wf)(data):∀ a∈(aF r data).2.2.2.send,VW r.id (aF r data).1.log a:=by
 have hp:=(qA hw data).1;by_cases h1:r.role≠2
 .rw [wT h1];intro a ha;cases ha
 by_cases h2:2000<(data.size:Int)
 .rw [uR h1 h2];intro a ha;cases ha
 by_cases h3:r.log.length=4000
 .rw [qI h1 h2 h3];intro a ha;cases ha
 rw [rL h1 h2 h3] at hp ⊢;exact aIG hp.ok (Decidable.not_not.1 h1)
theorem a0l{r}(hw:r.Wf)(m):(∀ a∈(aT r m).2.send,VW r.id (aT r m).1.log a)/\∀ y∈(aT r m).1.log,y∈r.log\/y∈m.aE:=by
 cases hy:gQ r.id m with
 | false =>
  rw [pS hy];exact ⟨λa ha=>(by cases ha),λy hy=>.inl hy⟩
 | true =>
  have hr:=gU.1 hy;obtain ⟨e1,e2⟩:=rR hr;rw [e1,e2];have hw1:=aB2 hw hr;have hid:=(oC r m).1;have hlg:=(oC r m).2.1;have HP:m.fY (b8 r m).id:=by rw [hid];exact hr
  rw [<-hid,<-hlg];generalize b8 r m=r1 at hw1 HP;have hk:=hr.kind;have hsrc:0<=m.src/\m.src<=2:=HP.src.2;have ho:=hw1.ok;have bare:∀ {l:List bH} {kind index:Int} {yes:Bool},0<=kind/\kind<=3 -> -1<=index/\index<=8000->VW r1.id l ⟨kind,r1.id,m.src,r1.term,index,0,0,yes,[]⟩:=λh1 h2=>aIE (DZ ho h1 (by omega) h2 (by decide)) rfl hsrc rfl;have RF:m.kind=0\/m.kind=1\/m.kind=2\/m.kind=3:=by omega
  rcases RF with hk|hk|hk|hk
  .rw [a2V hk];obtain ⟨y,ey,_⟩:=a0j r1 m;rw [ey];refine ⟨λa ha=>?_,λz hz=>.inl ?_⟩
   .rw [List.mem_singleton.1 ha];exact bare (by decide) (by decide)
   .revert hz
    unfold cX;split<;>exact id
  .rw [a2W hk];by_cases hc:(decide (r1.role≠1)||decide (m.term≠r1.term) || !m.yes)=true
   .rw [y9 hc];exact ⟨λa ha=>(by cases ha),λy hy=>.inl hy⟩
   have hc:(decide (r1.role≠1)||decide (m.term≠r1.term) || !m.yes)=false:=by simpa using hc
   by_cases h2:kF (fX r1 m).bX<2
   .rw [tQ hc h2];exact ⟨λa ha=>(by cases ha),λy hy=>.inl hy⟩
   .rw [nG hc h2];exact ⟨aIG (a34 ho m) rfl,λy hy=>.inl hy⟩
  .rw [a0i hk];by_cases h2:m.term<r1.term
   .rw [pY h2];exact ⟨λa ha=>by rw [List.mem_singleton.1 ha];exact bare (by decide) (by decide),λy hy=>.inl hy⟩
   by_cases h3:r1.role=2
   .rw [nJ h2 h3];exact ⟨λa ha=>(by cases ha),λy hy=>.inl hy⟩
   by_cases h4:(decide ((r1.log.length:Int)<m.index)||decide (aU r1.log m.index.toNat≠m.prev))=true
   .rw [pZ h2 h3 h4];have:=ho.len;have:=HP.index.1;exact ⟨λa ha=>by rw [List.mem_singleton.1 ha];exact bare (by decide) (by omega),λy hy=>.inl hy⟩
   have h4:(decide ((r1.log.length:Int)<m.index)||decide (aU r1.log m.index.toNat≠m.prev))=false:=by simpa using h4
   have ack:∀ {l:List bH},VW r1.id l (iC r1 m):=by
    have h5:=HP.fits;have h6:=HP.index.1;intro l;exact bare (kind:=3) (index:=m.index+(m.aE.length:Int)) (yes:=true) (by decide) (by omega)
   by_cases h5:eM r1 m<m.aE.length
   .by_cases h6:m.index.toNat+eM r1 m+1<=r1.aD
    .rw [nK h2 h3 h4 h5 h6];exact ⟨λa ha=>(by cases ha),λy hy=>.inl hy⟩
    .rw [nL h2 h3 h4 h5 h6];refine ⟨λa ha=>by rw [List.mem_singleton.1 ha];exact ack,λy hy=>?_⟩;rcases List.mem_append.1 (show y∈r1.log.take _++m.aE.drop _ from hy) with h|h
     .exact .inl (List.mem_of_mem_take h)
     .exact .inr (List.mem_of_mem_drop h)
   .rw [kV h2 h3 h4 h5];exact ⟨λa ha=>by rw [List.mem_singleton.1 ha];exact ack,λy hy=>.inl hy⟩
  .rw [a2X hk];by_cases hc:(decide (r1.role≠2)||decide (m.term≠r1.term)||m.yes&&decide ((r1.log.length:Int)<m.index))=true
   .rw [nH hc];exact ⟨λa ha=>(by cases ha),λy hy=>.inl hy⟩
   have hc:(decide (r1.role≠2)||decide (m.term≠r1.term)||m.yes&&decide ((r1.log.length:Int)<m.index))=false:=by simpa using hc
   have JR:=hc;simp only [Bool.or_eq_false_iff,decide_eq_false_iff_not] at JR;have cP:r1.role=2:=Decidable.not_not.1 JR.1.1;have hwa:=(AD hw1 (m:=m) HP.index.1).1;cases hyes:m.yes with
   | false =>
    rw [jN hc hyes] at hwa ⊢;refine ⟨λa ha=>?_,λy hy=>.inl hy⟩;rw [List.mem_singleton.1 ha];exact aIF (r:=mQ r1 m) hwa.ok (hwa.ok.fit cP (by omega))
   | true =>
    obtain ⟨a1,a2,a3,a4,a5,a6,a7⟩:=vN (dQ r1 m);rw [jF hc hyes] at hwa ⊢;split
    .rename_i hmo;rw [if_pos hmo] at hwa;refine ⟨λa ha=>?_,λy hy=>.inl (by
      have hy:y∈(aQ (dQ r1 m)).log:=hy;rw [a2] at hy;exact hy)⟩
     rw [List.mem_singleton.1 ha];have:=aIF (r:=aQ (dQ r1 m)) hwa.ok (hwa.ok.fit (by rw [a1];exact cP) (i:=m.src.toNat) (by omega));rw [a5] at this;exact this
    .exact ⟨λa ha=>(by cases ha),λy hy=>.inl (by
      have hy:y∈(aQ (dQ r1 m)).log:=hy;rw [a2] at hy;exact hy)⟩
theorem a0m(r):(cV r).1.log=r.log:=by
 unfold cV;split
 .rfl
 split
 .rfl
 .rfl
theorem a0n{r data}:∀ y∈(aF r data).1.log,y∈r.log\/y.data=data:=by
 by_cases h1:r.role≠2
 .rw [wT h1];exact λy hy=>.inl hy
 by_cases h2:2000<(data.size:Int)
 .rw [uR h1 h2];exact λy hy=>.inl hy
 by_cases h3:r.log.length=4000
 .rw [qI h1 h2 h3];exact λy hy=>.inl hy
 rw [rL h1 h2 h3];intro y hy;rcases List.mem_append.1 (show y∈r.log++[⟨r.term,data⟩] from hy) with h|h
 .exact .inl h
 .rw [List.mem_singleton.1 h];exact .inr rfl
theorem a4H{r:dH}(hr:r.Ok){i a}(h:VW i r.log a):T7 a:=by
 refine ⟨λn hn=>?_,λx hx=>?_⟩
 .have ho:=h.ok;unfold pL at hn;simp only [List.mem_cons,List.not_mem_nil,or_false] at hn;rcases hn with rfl|rfl|rfl|rfl|rfl|rfl|rfl|rfl
  .exact ho.kind
  .exact ho.src
  .exact ho.to
  .exact ho.term
  .exact ho.index
  .exact ho.prev
  .exact ho.aD
  .split<;>(unfold bE;decide)
 .have hx:=h.aE x hx;have h1:=hr.log.lo x hx;have h2:=hr.log.hi x hx;have h3:=hr.log.data x hx;have h4:=hr.iD;exact ⟨by unfold bE;omega,by omega⟩
theorem a4I{x}(h:bE x.term)(h2:x.data.size<=1000000):(vP x).length<=x.data.size+43:=by
 unfold vP;rw [fT,rM];have h1:=(fU h).2;have h3:=(E1 (s:=x.data) (by omega)).1;omega
theorem RG{l t}(hs:kH l t)(ht:t<=1099511627776){N D}(hl:l.length<=N)(hd:∀ x∈l,x.data.size<=D)(nR:N*(D+90)<=1048576):IW l:=by
 have hr:∀ x∈l,bE x.term/\x.data.size<=1000000:=λx hx=>by
  have h1:=hs.lo x hx;have h2:=hs.hi x hx;have h3:=hs.data x hx;exact ⟨by unfold bE;omega,by omega⟩
 refine ⟨hr,?_⟩;have key:∀ k:List bH,(∀ x∈k,bE x.term/\x.data.size<=1000000)->(∀ x∈k,x.data.size<=D)->(aM (k.map iE)).length<=k.length*(D+90):=by
  intro k
  induction k with
  | nil=>intro _ _;simp [aM]
  | cons x k ih =>
   intro h1 h2;have h3:=ih (λy hy=>h1 y (by simp [hy])) λy hy=>h2 y (by simp [hy]);obtain ⟨h4,h5⟩:=h1 x (by simp);have h6:=h2 x (by simp);have h7:=a4I h4 (by omega);have h8:(oF (iE x)).data.toList.length<=(vP x).length+22:=by
    have hb:(iE x).size=(vP x).length:=bK _;have:=E1 (s:=iE x) (by rw [hb];omega);rw [fT];omega
   rw [List.map_cons,yD,List.length_append,List.length_cons,Nat.add_mul];omega
 exact Nat.le_trans (key l hr hd) (Nat.le_trans (Nat.mul_le_mul_right _ hl) nR)
def RH(N:Nat)(B:Int)(D:Nat)(C:Cl)(i:Nat)(t v:Int)(l:List bH):Prop:=a4C C i t v l/\l.length<=N/\t<=B/\∀ x∈l,x.data.size<=D
def V4(C:Cl)(p:NI):Prop:=∃ m∈C.sent,T7 m/\m.aE.length<=8/\(0<=m.src/\m.src<=2)/\(0<=m.to/\m.to<=2)/\p=⟨m.src,m.to,bs (rZ m)⟩
structure GJ(N:Nat)(B:Int)(D:Nat)(G:gV)(C:Cl)(g:Gh)(A:Int->Nat->Nat):Prop where
 s:eL C g A
 b:CB N B C
 data:∀ j,j<3->∀ x∈(C.nd j).rep.log,x.data.size<=D
 mdata:∀ m∈C.sent,∀ x∈m.aE,x.data.size<=D
 up:∀ i,i<3->∀ u,(G.mem i).up=some u->u.r=(C.nd i).rep/\RT (G.mem i).d u
 dn:∀ i,i<3->(G.mem i).up=none->DnI (G.mem i).d (RH N B D C i)
 gF:∀ p∈G.gF.aZ,V4 C p
 WD:G.gF.aZ.length<=500
 eS:∃ (K:List bH) (t:Int),G.eS=K.map bH.data/\jP g A t K K.length
def aWz(G:gV):Prop:=∀ i,i<3->∀ u,(G.mem i).up=some u->u.r.aD<=G.eS.length
structure GI(N:Nat)(B:Int)(D:Nat)(G:gV)(C:Cl)(g:Gh)(A:Int->Nat->Nat):Prop where
 j:GJ N B D G C g A
 aIH:aWz G
def RU(N:Nat)(B:Int)(D:Nat)(G:gV)(g:Gh)(A:Int->Nat->Nat)(G':gV):Prop:=∃ C' g' A',GI N B D G' C' g' A'/\Aft g A g' A'/\∃ s,G'.eS=G.eS++s
section
variable {N N' D:Nat}{B B':Int}{G G':gV}{C C':Cl}{g g':Gh}{A A':Int->Nat->Nat}{i:Nat}
theorem RH.more{t v l}(h:RH N B D C i t v l)(h1:N<=N')(h2:B<=B'):RH N' B' D C i t v l:=⟨h.1,Nat.le_trans h.2.1 h1,Int.le_trans h.2.2.1 h2,h.2.2.2⟩
theorem RH.keep{t v l}(h:RH N B D C i t v l)(e:(C'.nd i).rep=(C.nd i).rep)(hs:∀ m∈C.sent,m∈C'.sent):RH N B D C' i t v l:=⟨h.1.keep e hs,h.2⟩
theorem V4.keep{p}(h:V4 C p)(hs:∀ m∈C.sent,m∈C'.sent):V4 C' p:=by
 obtain ⟨m,h1,h2⟩:=h;exact ⟨m,hs m h1,h2⟩
theorem GJ.more(h:GJ N B D G C g A)(h1:N<=N')(h2:B<=B'):GJ N' B' D G C g A :=
 ⟨h.s,h.b.more h1 h2,h.data,h.mdata,h.up,λi hi hn=>(h.dn i hi hn).mono λt v l a=>a.more h1 h2,h.gF,h.WD,h.eS⟩
theorem GI.more(h:GI N B D G C g A)(h1:N<=N')(h2:B<=B'):GI N' B' D G C g A:=⟨h.j.more h1 h2,h.aIH⟩
theorem RU.more(h:RU N B D G g A G')(h1:N<=N')(h2:B<=B'):RU N' B' D G g A G':=by
 obtain ⟨C',g',A',a,b⟩:=h;exact ⟨C',g',A',a.more h1 h2,b⟩
theorem RU.refl(h:GI N B D G C g A):RU N B D G g A G:=⟨C,g,A,h,Aft.refl _ _,[],by simp⟩
theorem RU.then(h:RU N B D G g A G'){G''}(h2:∀ C' g' A',GI N B D G' C' g' A'->RU N' B' D G' g' A' G''):RU N' B' D G g A G'':=by
 obtain ⟨C1,g1,A1,a,b,s,e⟩:=h;obtain ⟨C2,g2,A2,a2,b2,s2,e2⟩:=h2 _ _ _ a;exact ⟨C2,g2,A2,a2,b.trans' b2,s++s2,by rw [e2,e,bM]⟩
theorem aII(h:Aft g A g' A'){t l n}(hs:jP g A t l n):jP g' A' t l n:=hs.aAr h.ext h.a (Int.le_refl _)
theorem oD(G i):(iF G i).mem=G.mem/\(iF G i).gF=G.gF:=by
 unfold iF;split
 .exact ⟨rfl,rfl⟩
 .split<;>exact ⟨rfl,rfl⟩
theorem a4J(h:GJ N B D G C g A)(hi:i<3):GJ N B D (iF G i) C g A/\(∃ s,(iF G i).eS=G.eS++s)/\∀ u,(G.mem i).up=some u->u.r.aD<=(iF G i).eS.length:=by
 unfold iF;split
 .rename_i hn;exact ⟨h,⟨[],by simp⟩,λu hu=>by rw [hu] at hn;cases hn⟩
 .rename_i u hu;obtain ⟨hr,hU⟩:=h.up i hi u hu;split
  .rename_i hlt;have WE:=h.s.co i hi;have hok:=(h.s.m.wf.rep i hi).1.ok;rw [<-hr] at WE hok;have uK:=hok.aD;have hl:((u.r.log.take u.r.aD).map bH.data).length=u.r.aD:=by rw [List.length_map,List.length_take];omega
   obtain ⟨K,t,e,hs⟩:=h.eS;have hK:K.length<=u.r.aD:=by rw [e,List.length_map] at hlt;omega
   have hcut:jP g A u.r.term (u.r.log.take u.r.aD) u.r.aD:=jP.cut WE (Int.le_refl _);have hcmp:=h.s.aIw hs hcut hK;rw [List.take_length] at hcmp;refine ⟨⟨h.s,h.b,h.data,h.mdata,h.up,h.dn,h.gF,h.WD,u.r.log.take u.r.aD,u.r.term,rfl,by rw [List.length_take,Nat.min_eq_left uK];exact hcut⟩,⟨((u.r.log.take u.r.aD).drop K.length).map bH.data,?_⟩,λv hv=>?_⟩
   .show (u.r.log.take u.r.aD).map bH.data=G.eS++_;rw [e]
    conv=>lhs;rw [<-List.take_append_drop K.length (u.r.log.take u.r.aD),List.map_append]
    rw [<-hcmp]
   .rw [hu] at hv;cases hv;show u.r.aD<=((u.r.log.take u.r.aD).map bH.data).length;omega
  .rename_i hlt;exact ⟨h,⟨[],by simp⟩,λv hv=>by rw [hu] at hv;cases hv;omega⟩
theorem aB6(h:GJ N B D G C g A):GI N B D (kZ G) C g A/\∃ s,(kZ G).eS=G.eS++s:=by
 unfold kZ;obtain ⟨h0,⟨s0,e0⟩,n0⟩:=a4J (i:=0) h (by decide);obtain ⟨h1,⟨s1,e1⟩,n1⟩:=a4J (i:=1) h0 (by decide);obtain ⟨h2,⟨s2,e2⟩,n2⟩:=a4J (i:=2) h1 (by decide);have m0:=(oD G 0).1;have m1:=(oD (iF G 0) 1).1;have m2:=(oD (iF (iF G 0) 1) 2).1;have l1:=congrArg List.length e1;have l2:=congrArg List.length e2;rw [List.length_append] at l1 l2;refine ⟨⟨h2,λi hi u hu=>?_⟩,s0++s1++s2,by rw [e2,e1,e0];simp⟩
 rw [m2,m1,m0] at hu
 match i,hi with
 | 0,_=>have:=n0 u hu;omega
 | 1,_=>have:=n1 u (by rw [m0];exact hu);omega
 | 2,_=>exact n2 u (by rw [m1,m0];exact hu)
theorem RU.note(h:GJ N B D G' C' g' A')(ha:Aft g A g' A')(hc:G'.eS=G.eS):RU N B D G g A (kZ G'):=by
 obtain ⟨a,s,e⟩:=aB6 h;exact ⟨C',g',A',a,ha,s,by rw [e,hc]⟩
theorem GJ.b1H(h:GJ N B D G C g A)(hi:i<3){m}(hup:∀ u,m.up=some u->u.r=(C.nd i).rep/\RT m.d u)(hdn:m.up=none->DnI m.d (RH N B D C i)):GJ N B D (fL G i m) C g A:=by
 refine ⟨h.s,h.b,h.data,h.mdata,λj hj u hu=>?_,λj hj hn=>?_,h.gF,h.WD,h.eS⟩
 .by_cases e:j=i
  .subst e;have e2:(fL G j m).mem j=m:=aS _ _ _;rw [e2] at hu ⊢;exact hup u hu
  .have e2:(fL G i m).mem j=G.mem j:=bG _ _ e;rw [e2] at hu ⊢;exact h.up j hj u hu
 .by_cases e:j=i
  .subst e;have e2:(fL G j m).mem j=m:=aS _ _ _;rw [e2] at hn ⊢;exact hdn hn
  .have e2:(fL G i m).mem j=G.mem j:=bG _ _ e;rw [e2] at hn ⊢;exact h.dn j hj hn
theorem GJ.set(h:GJ N B D G C g A)(hN:N<=N')(hB:B<=B')(hi:i<3){r send n}(f:v7 C g A i r send g' n)(hw:r.Wf)(hid:r.id=i)(hrb:RB N' B' r)(hmb:∀ a∈send,MB N' B' a)(hd:∀ x∈r.log,x.data.size<=D)(hmd:∀ a∈send,∀ x∈a.aE,x.data.size<=D){m}(hup:∀ u,m.up=some u->u.r=r/\RT m.d u)(hun:m.up≠none):
  GJ N' B' D (fL G i m) (V1 C i r (C.sent++send)) g' (CR A i r.term n):=by
 have hs:∀ a∈C.sent,a∈(V1 C i r (C.sent++send)).sent:=λa ha=>List.mem_append_left _ ha;have b1I:=f.aft;refine ⟨aQv h.s hi f hw hid λa ha=>List.mem_append.1 ha,⟨λj hj=>?_,λa ha=>?_⟩,λj hj=>?_,λa ha=>?_,λj hj u hu=>?_,λj hj hn=>?_,λp hp=>(h.gF p hp).keep hs,h.WD,?_⟩
 .by_cases e:j=i
  .subst e;rw [K3];exact hrb
  .rw [EE _ _ _ e];exact (h.b.rep j hj).more hN hB
 .rcases List.mem_append.1 ha with ha|ha
  .exact (h.b.msg a ha).more hN hB
  .exact hmb a ha
 .by_cases e:j=i
  .subst e;rw [K3];exact hd
  .rw [EE _ _ _ e];exact h.data j hj
 .rcases List.mem_append.1 ha with ha|ha
  .exact h.mdata a ha
  .exact hmd a ha
 .by_cases e:j=i
  .subst e;have e2:(fL G j m).mem j=m:=aS _ _ _;rw [e2] at hu ⊢;rw [K3];exact hup u hu
  .have e2:(fL G i m).mem j=G.mem j:=bG _ _ e;rw [e2] at hu ⊢;rw [EE _ _ _ e];exact h.up j hj u hu
 .by_cases e:j=i
  .subst e;have e2:(fL G j m).mem j=m:=aS _ _ _;rw [e2] at hn;exact absurd hn hun
  .have e2:(fL G i m).mem j=G.mem j:=bG _ _ e;rw [e2] at hn ⊢;exact (h.dn j hj hn).mono λt v l a=>(a.more hN hB).keep (by rw [EE _ _ _ e]) hs
 .obtain ⟨K,t,e,hsu⟩:=h.eS;exact ⟨K,t,e,aII b1I hsu⟩
theorem a0o(id:Nat):∀ (l:List bA) (n:KQ),(∀ p∈n.aZ,V4 C p)->n.aZ.length<=500->(∀ a∈l,a∈C.sent/\T7 a/\a.aE.length<=8/\a.src=id/\0<=a.to/\a.to<=2)->id<3->(∀ p∈(lM id n l).aZ,V4 C p)/\(lM id n l).aZ.length<=500
 | [],n,h1,h2,_,_=>⟨h1,h2⟩
 | a :: l,n,h1,h2,h3,hid=>by
  obtain ⟨b1,b2,b3,b4,b5⟩:=h3 a (by simp);have hn:(∀ p∈(vU n id a.to (bs (rZ a))).1.aZ,V4 C p)/\(vU n id a.to (bs (rZ a))).1.aZ.length<=500:=by
   unfold vU;split
   .exact ⟨h1,h2⟩
   split
   .exact ⟨h1,h2⟩
   split
   .exact ⟨h1,h2⟩
   .refine ⟨λp hp=>?_,?_⟩
    .rcases List.mem_append.1 (show p∈n.aZ++[_] from hp) with hp|hp
     .exact h1 p hp
     .rw [List.mem_singleton.1 hp];exact ⟨a,b1,b2,b3,by omega,b5,by rw [b4]⟩
    .show (n.aZ++[_]).length<=500;rw [List.length_append,List.length_singleton];omega
  exact a0o id l _ hn.1 hn.2 (λb hb=>h3 b (by simp [hb])) hid
theorem GI.do(h:GI N B D G C g A)(hN:N<=N')(hB:B<=B')(nR:N'*(D+90)<=1048576)(hi:i<3){u}(hu:(G.mem i).up=some u){x}(hx:Hap C i x)(hrb:RB N' B' x.1)(hmb:∀ a∈x.2.send,MB N' B' a)(hd:∀ y∈x.1.log,y.data.size<=D)(hg:∀ a∈x.2.send,VW i x.1.log a):RU N' B' D G g A (doG G i u x).1:=by
 obtain ⟨hr,hU⟩:=h.j.up i hi u hu;obtain ⟨hw,hf⟩:=hx.fits h.j.s.m.wf hi;have hid:x.1.id=i:=by rw [hf.id];exact (h.j.s.m.wf.rep i hi).2
 have hok:=hw.ok;have hst:=a0a (d:=(G.mem i).d) (u:=u) (r:=(C.nd i).rep) (r':=x.1) (o:=x.2) (by rw [<-hr];exact hU) hf ⟨by have:=hok.kK;have:=hok.iD;unfold bE;omega,by have:=hok.y6;have:=hok.y7;unfold bE;omega⟩ (RG hok.log hok.iD hrb.len hd nR);unfold doG;simp only;obtain ⟨⟨d1,u1,e1⟩,hs⟩:∃ y,cY (G.mem i).d { u with r:=x.1 } x.2=y:=⟨_,rfl⟩;rw [hs] at hst ⊢;simp only;by_cases he:e1=0
 .rw [if_pos he];rcases hst.or with ⟨_,g1,g2⟩|⟨e,_⟩
  .obtain ⟨g',n,f⟩:=hx.aQu h.j.s hi;have hj:=h.j.set hN hB hi f hw hid hrb hmb hd (λa ha y hy=>hd y ((hg a ha).aE y hy)) (m:=⟨d1,some u1⟩) (λv hv=>by cases hv;exact ⟨g2,g1⟩) (by simp);have hsn:=a0o (C:=V1 C i x.1 (C.sent++x.2.send)) i x.2.send G.gF hj.gF hj.WD (λa ha=>by
    have hga:=hg a ha;exact ⟨List.mem_append_right _ ha,a4H hok hga,hga.len,hga.src,hga.to⟩) hi
   exact RU.note (G':={ fL G i ⟨d1,some u1⟩ with gF:=lM i (fL G i ⟨d1,some u1⟩).gF x.2.send }) ⟨hj.s,hj.b,hj.data,hj.mdata,hj.up,hj.dn,hsn.1,hsn.2,hj.eS⟩ f.aft rfl
  .have e:e1=9\/e1=10:=e;omega
 .rw [if_neg he];rcases hst.or with ⟨e,_⟩|⟨_,hdn⟩
  .exact absurd e he
  .have hm:=h.j.more hN hB;refine RU.note (hm.b1H hi (m:=⟨d1,none⟩) (λv hv=>by cases hv) λ_=>hdn.mono λt v l hp=>?_) (Aft.refl _ _) rfl;refine ⟨a4C.of hx hp,?_⟩;have ho:=hm.b.rep i hi;have hod:=h.j.data i hi;have hup:=hf.term;have hxt:=hrb.term;rcases hp with ⟨⟨a,_⟩,c⟩|⟨⟨a,_⟩,c⟩
   .rw [a,c];exact ⟨ho.len,ho.term,hod⟩
   .rw [a];rcases c with rfl|⟨_,rfl⟩|rfl
    .exact ⟨ho.len,hxt,hod⟩
    .exact ⟨by rw [List.length_take];have:=ho.len;omega,hxt,λy hy=>hod y (List.mem_of_mem_take hy)⟩
    .exact ⟨hrb.len,hxt,hd⟩
theorem a2Y{id:Int}(h:¬ (id<0\/3<=id)):id.toNat<3:=by omega
theorem GI.tick(h:GI N B D G C g A)(nR:N*(D+90)<=1048576)(id):RU N (B+1) D G g A (zZ G id).1:=by
 have hr:=(RU.refl h).more (Nat.le_refl N) (show B<=B+1 by omega);unfold zZ CI;split
 .exact hr
 rename_i hid;have hi:=a2Y hid;split
 .exact hr
 rename_i u hu;obtain ⟨e,hU⟩:=h.j.up _ hi u hu;have hw:=(h.j.s.m.wf.rep _ hi).1;have hb:=WJ hw (h.j.b.rep _ hi);rw [e];refine h.do (Nat.le_refl _) (by omega) nR hi hu (.inl rfl) hb.1 hb.2 (by rw [a0m];exact h.j.data _ hi) ?_;have:=a4F hw.ok;rw [(h.j.s.m.wf.rep _ hi).2] at this;exact this
theorem GI.rS(h:GI N B D G C g A)(nR:(N+1)*(D+90)<=1048576)(id){data}(aIJ:data.size<=D):RU (N+1) B D G g A (cR G id data).1:=by
 have hr:=(RU.refl h).more (Nat.le_succ N) (Int.le_refl B);unfold cR;split
 .exact hr
 rename_i hid;have hi:=a2Y hid;split
 .exact hr
 rename_i u hu;simp only;split
 .exact hr
 obtain ⟨e,hU⟩:=h.j.up _ hi u hu;have hw:=(h.j.s.m.wf.rep _ hi).1;have hb:=a4E hw (h.j.b.rep _ hi) data;have key:RU (N+1) B D G g A (doG G id.toNat u ((aF u.r data).1,(aF u.r data).2.2.2)).1:=by
  rw [e];refine h.do (Nat.le_succ _) (Int.le_refl _) nR hi hu (.inr (.inr ⟨data,rfl⟩)) hb.1 hb.2 (λy hy=>?_) ?_
  .rcases a0n y hy with a|a
   .exact h.j.data _ hi y a
   .rw [a];exact aIJ
  .have:=a4G hw data;rw [(h.j.s.m.wf.rep _ hi).2] at this;exact this
 split<;>exact key
theorem GI.b1K(h:GI N B D G C g A)(nR:N*(D+90)<=1048576){m}(hm:m∈C.sent)(id):RU N B D G g A (CI G id λr=>aT r m).1:=by
 unfold CI;split
 .exact .refl h
 rename_i hid;have hi:=a2Y hid;split
 .exact .refl h
 rename_i u hu;obtain ⟨e,hU⟩:=h.j.up _ hi u hu;have hw:=(h.j.s.m.wf.rep _ hi).1;have hb:=WI hw (h.j.b.rep _ hi) (h.j.b.msg m hm);have hg:=a0l hw m;rw [e];refine h.do (Nat.le_refl _) (Int.le_refl _) nR hi hu (.inr (.inl ⟨m,hm,rfl⟩)) hb.1 hb.2 (λy hy=>?_) ?_
 .rcases hg.2 y hy with a|a
  .exact h.j.data _ hi y a
  .exact h.j.mdata m hm y a
 .have:=hg.1;rw [(h.j.s.m.wf.rep _ hi).2] at this;exact this
theorem GI.aIK(h:GI N B D G C g A){n}(hn:∀ p∈n.aZ,p∈G.gF.aZ)(hl:n.aZ.length<=500):GI N B D { G with gF:=n } C g A :=
 ⟨⟨h.j.s,h.j.b,h.j.data,h.j.mdata,h.j.up,h.j.dn,λp hp=>h.j.gF p (hn p hp),hl,h.j.eS⟩,h.aIH⟩
theorem a0p(n i):(∀ p∈(takeN n i).aZ,p∈n.aZ)/\(takeN n i).aZ.length<=n.aZ.length :=
 ⟨λp hp=>List.mem_of_mem_eraseIdx hp,List.length_eraseIdx_le _ _⟩
theorem GI.nxt(h:GI N B D G' C g A)(hc:G'.eS=G.eS):RU N B D G g A G':=⟨C,g,A,h,Aft.refl _ _,[],by rw [hc];simp⟩
theorem GI.takeN(h:GI N B D G C g A)(i):GI N B D { G with gF:=takeN G.gF i } C g A:=h.aIK (a0p _ _).1 (Nat.le_trans (a0p _ _).2 h.j.WD)
theorem GI.lR(h:GI N B D G C g A)(nR:N*(D+90)<=1048576)(k):RU N B D G g A (gS G k).1:=by
 unfold gS;split
 .exact .refl h
 split
 .exact .refl h
 rename_i p hp;obtain ⟨m,hm,hmw,hlen,hsrc,hto,rfl⟩:=h.j.gF p (List.mem_of_getElem? hp);have ht:=h.takeN k.toNat;simp only;split
 .exact GI.nxt (G:=G) ht rfl
 .have e:(zX (bs (rZ m)).data.toList).getD UL=m:=by
   rw [pT,ZA hmw (by omega)];rfl
  rw [e];exact ht.b1K nR hm m.to
theorem GI.split(h:GI N B D G C g A)(m):RU N B D G g A (E3 G m):=GI.nxt (G:=G) (h.aIK (λ_ hp=>hp) h.j.WD) rfl
theorem GI.aQy(h:GI N B D G C g A):RU N B D G g A (ZG G):=GI.nxt (G:=G) (h.aIK (λ_ hp=>hp) h.j.WD) rfl
theorem a2Z(nR:N*(D+90)<=1048576):∀ (k:Nat) {G:gV} {C:Cl} {g:Gh} {A:Int->Nat->Nat},GI N B D G C g A->RU N B D G g A (yE k G).1
 | 0,_,_,_,_,h=>.refl h
 | k+1,G,_,_,_,h=>by
  unfold yE;split
  .exact .refl h
  .exact (h.lR nR 0).then λC' g' A' h'=>a2Z nR k h'
theorem GI.settle(h:GI N B D G C g A)(nR:N*(D+90)<=1048576)(id most):RU N (B+1) D G g A (bS G id most).1:=by
 unfold bS;exact (h.tick nR id).then λC' g' A' h'=>a2Z nR _ h'
theorem EG(i):∃ u,(CJ i).up=some u/\RT (CJ i).d u/\u.r=dP i 0 (-1) []/\NV (CJ i).d:=by
 have ho:=a2K (id:=i) aIb;have hf:=ho.vR aLl;rcases ho.or with ⟨u,a1,a2,a3,a4,a5,a6,a7⟩|⟨a1,a2,a3⟩
 .refine ⟨u,a1,a3,?_,hf.1⟩;rw [a4,a5,a6,a7]
 .have:=hf.2;omega
theorem aIL:GI 0 0 D NJ cl0 gh0 λ_ _=>0:=by
 refine ⟨⟨aWv,cb0,λj hj x hx=>(by cases hx),λm hm=>(by cases hm),λi hi u hu=>?_,λi hi hn=>?_,λp hp=>(by cases hp),Nat.zero_le _,[],0,rfl,.inl rfl⟩,λi hi u hu=>?_⟩
 .obtain ⟨v,h1,h2,h3,_⟩:=EG i;have hu:(CJ i).up=some u:=hu;rw [h1] at hu;cases hu;exact ⟨h3,h2⟩
 .obtain ⟨v,h1,_⟩:=EG i;have hn:(CJ i).up=none:=hn;rw [h1] at hn;cases hn
 .obtain ⟨v,h1,h2,h3,_⟩:=EG i;have hu:(CJ i).up=some u:=hu;rw [h1] at hu;cases hu;rw [h3];exact Nat.zero_le _
end
section
variable {W w:World}{S:List Own}{Φ:PW}{L:KS}{G:gV}{i:Nat}
theorem a4K[aB Φ]{id}(cx:Ctx W w (eG L G++S) Φ){K}(hk:∀ w',Ctx W w' (eG L G++S) Φ->K (.returned (.int .i64 (upG G id))) w'):
  aG F.mY #[.pointer (some ⟨L.gb,0,none⟩),.int .i64 id] w K:=by
 unfold upG at hk;refine iO (KJ L.gb 0 id (J:=K∘.returned) cx λw F cx=>Br.intro (λh=>λw F cx=>?_) (λh=>?_))
 .rw [if_pos (by simpa using h)] at hk;exact hk w cx.left
 .have h:¬ (id<0\/3<=id):=by simpa using h
  rw [if_neg h] at hk;refine ⟨by omega,λw F cx=>⟨_,cx.get 0 rfl (by rw [Nat.zero_add];exact (UW L G (i:=id.toNat) (k:=3) (by omega) (by decide)).trans rfl),?_⟩⟩;cases hu:(G.mem id.toNat).up with
  | none =>
   rw [hu] at hk;exact Br.intro (λ_=>λw F cx=>hk w cx.left) (λh=>by cases h)
  | some u =>
   rw [hu] at hk;exact Br.intro (λh=>by cases h) (λ_=>λw F cx=>hk w cx.left)
theorem a4L(L G F):(eG L G++F).Perm (iG L.N G.gF++(kG L.gb (B9 L G) :: (TI L G.eS :: (IX L G++F)))):=by
 have e:eG L G++F=kG L.gb (B9 L G) :: (iG L.N G.gF++(TI L G.eS :: (IX L G++F))):=by
  unfold eG;simp only [bM,List.cons_append]
 rw [e];exact List.perm_middle.symm
def RI(L:KS)(fp:Option Addr)(fc:Nat):KS:={ L with N:=⟨L.N.nb,fp,fc⟩ }
def u0(G:gV)(n:KQ):gV:={ G with gF:=n }
theorem NR(L G fp fc n F):(iG ⟨L.N.nb,fp,fc⟩ n++(kG L.gb (B9 L G) :: (TI L G.eS :: (IX L G++F)))).Perm (eG (RI L fp fc) (u0 G n)++F):=(a4L (RI L fp fc) (u0 G n) F).symm
theorem aEg(G i a b):fL (fL G i a) i b=fL G i b:=by
 unfold fL;rw [a4s]
def doH(H:gV)(i:Nat)(u:VV)(o:kR):gV × Int :=
 let s:=cY (H.mem i).d u o
 if s.2.2=0 then (kZ (u0 (fL H i ⟨s.1,some s.2.1⟩) (lM i H.gF o.send)),0) else (kZ (fL H i ⟨s.1,none⟩),s.2.2)
theorem aQz(G i u x):doG G i u x=doH (fL G i ⟨(G.mem i).d,some { u with r:=x.1 }⟩) i { u with r:=x.1 } x.2:=by
 unfold doG doH;have e:((fL G i ⟨(G.mem i).d,some { u with r:=x.1 }⟩).mem i).d=(G.mem i).d:=by show (put G.mem i _ i).d=_;rw [aS]
 rw [e];simp only [aEg];rfl
structure aWA(l:List bA):Prop where
 msg:∀ a∈l,T7 a/\a.aE.length<=1000000
theorem aNC(R J D:List Own)(c T):((R++(J++(D++[c])))++T).Perm (J++(D++(c :: (R++T)))):=by
 have e:(R++(J++(D++[c])))++T=R++((J++(D++[c]))++T):=by simp only [bM]
 rw [e];refine (List.perm_append_comm_assoc _ _ _).trans ?_;simp only [bM,List.cons_append,List.nil_append];exact .refl _
theorem TN(id):∀ (l:List bA) (n:KQ),n.aZ.length<=500->(lM id n l).aZ.length<=500
 | [],n,h=>h
 | a :: l,n,h=>by
  have hn:(vU n id a.to (bs (rZ a))).1.aZ.length<=500:=by
   unfold vU;split
   .exact h
   split
   .exact h
   split
   .exact h
   .show (n.aZ++[_]).length<=500;rw [List.length_append,List.length_singleton];omega
  exact TN id l _ hn
theorem a7F(G):(kZ G).mem=G.mem/\(kZ G).gF=G.gF:=by
 unfold kZ;have h0:=oD G 0;have h1:=oD (iF G 0) 1;have h2:=oD (iF (iF G 0) 1) 2;exact ⟨h2.1.trans (h1.1.trans h0.1),h2.2.trans (h1.2.trans h0.2)⟩
theorem x4.note(h:x4 Φ L G)(cp cc):x4 Φ (CP L cp cc) (kZ G):=⟨λi hi=>by rw [(a7F G).1];exact h.mem i hi,by rw [(a7F G).2];exact h.WD⟩
end
section
variable {W w:World}{S:List Own}{Φ:PW}{L:KS}{G:gV}{i:Nat}
theorem aAA[aB Φ](hoff:∀ M w,Φ M w->uW M w)(hT:∀ M w,Φ M w->yB M w)(hF:x4 Φ L G)(hi:i<3){u}(hu:(G.mem i).up=some u){o p1 p2 c1 c2}(hb:aLQ u o)(qU:∀ M w,Φ M w->Sl M w p1 o.aE)(cx:Ctx W w (eG L G++S) Φ){K}(h0:∀ P' w',(cY (G.mem i).d u o).2.2=0->(∀ Ξ:PW,LN Ξ (L.P i).q (G.mem i).d->a1v Ξ P' ⟨(cY (G.mem i).d u o).1,some (cY (G.mem i).d u o).2.1⟩)->Ctx W w' (eG (mC L i P') (fL G i ⟨(cY (G.mem i).d u o).1,some (cY (G.mem i).d u o).2.1⟩)++S) Φ->K (.returned (.int .i64 0)) w')(h1:∀ P' w',(cY (G.mem i).d u o).2.2≠0->(∀ Ξ:PW,LN Ξ (L.P i).q (G.mem i).d->a1v Ξ P' ⟨(cY (G.mem i).d u o).1,none⟩)->Ctx W w' (eG (mC L i P') (fL G i ⟨(cY (G.mem i).d u o).1,none⟩)++S) Φ->K (.returned (.int .i64 (cY (G.mem i).d u o).2.2)) w'):
  aG F.lF #[.pointer (some ⟨L.gb,i*4,none⟩),VT o p1 c1 p2 c2] w K:=by
 have hm:=hF.mem i hi;have em:qB (L.P i) (G.mem i)=aV (L.P i).rb u.r (L.P i).rp (L.P i).rc++(fG (L.P i).x (L.P i).q u.j++(bQ (L.P i).q (G.mem i).d++[fN (L.P i).cb (L.P i).q u.c])):=by unfold qB;rw [hu];rfl
 have hsm:(G.mem i).up.isSome=true:=by rw [hu];rfl
 have hc1:(B9 L G)[i*4+1]? = some (pA (L.P i).x.jb):=by rw [UW L G hi (by decide),hsm];rfl
 have JR:(B9 L G)[i*4+2]? = some (pA (L.P i).cb):=by rw [UW L G hi (by decide),hsm];rfl
 have pm:=a4v L G hi S;rw [em] at pm;have ps:=(aNC (aV (L.P i).rb u.r (L.P i).rp (L.P i).rc) (fG (L.P i).x (L.P i).q u.j) (bQ (L.P i).q (G.mem i).d) (fN (L.P i).cb (L.P i).q u.c) (KT L G i++S));have er:(cY (G.mem i).d u o).2.1.r=u.r:=by unfold cY;simp only;split<;>rfl
 refine aD3 (gb:=L.gb) (mO:=i*4) (cb:=(L.P i).cb) (cs:=B9 L G) (q:=(L.P i).q) (d:=(G.mem i).d) (x:=(L.P i).x) (u:=u) (o:=o) (S:=aV (L.P i).rb u.r (L.P i).rp (L.P i).rc++(KT L G i++S)) hoff hT (by rw [aQe];omega) hc1 JR hm.dq hm.dk (hm.sb u hu) hb qU (cx.perm (pm.trans (ps.cons _))) λv p c oo w hsb hq hke cx=>?_;obtain ⟨⟨d1,u1,e1⟩,hs⟩:∃ s,cY (G.mem i).d u o=s:=⟨_,rfl⟩;rw [hs] at hsb hq hke cx h0 h1 er ⊢
 simp only at hsb hq hke cx h0 h1 er ⊢;by_cases he:e1=0
 .subst he;rw [if_pos rfl] at cx;have hP:∀ Ξ:PW,LN Ξ (L.P i).q (G.mem i).d->a1v Ξ ⟨(L.P i).q.mv v,(L.P i).x.mv p c oo,(L.P i).cb,(L.P i).rb,(L.P i).rp,(L.P i).rc⟩ ⟨d1,some u1⟩:=λΞ hd=>⟨hq,hd.of hke v,λu2 h2=>by cases h2;exact hsb⟩;refine h0 _ w rfl hP ?_;have e4:=a7v (L:=L) (G:=G) (i:=i) (P:=⟨(L.P i).q.mv v,(L.P i).x.mv p c oo,(L.P i).cb,(L.P i).rb,(L.P i).rp,(L.P i).rc⟩) (m:=⟨d1,some u1⟩) rfl rfl rfl rfl (by rw [hsm];rfl) hi
  refine cx.perm (List.Perm.trans ?_ (a4w (L:=L) (G:=G) ⟨(L.P i).q.mv v,(L.P i).x.mv p c oo,(L.P i).cb,(L.P i).rb,(L.P i).rp,(L.P i).rc⟩ ⟨d1,some u1⟩ hi S));rw [<-e4];refine .cons _ ?_;have ps2:=(aNC (aV (L.P i).rb u.r (L.P i).rp (L.P i).rc) (fG ((L.P i).x.mv p c oo) (L.P i).q u1.j) (bQ ((L.P i).q.mv v) d1) (fN (L.P i).cb (L.P i).q u1.c) (KT L G i++S)).symm;rw [<-er] at ps2 ⊢;exact ps2
 .rw [if_neg he] at cx;have hP:∀ Ξ:PW,LN Ξ (L.P i).q (G.mem i).d->a1v Ξ ⟨(L.P i).q.mv v,(L.P i).x,(L.P i).cb,(L.P i).rb,(L.P i).rp,(L.P i).rc⟩ ⟨d1,none⟩:=λΞ hd=>⟨hq,hd.of hke v,λu2 h2=>by cases h2⟩;refine h1 _ w he hP ?_;have e4:=aIh (L:=L) (G:=G) (i:=i) (P:=⟨(L.P i).q.mv v,(L.P i).x,(L.P i).cb,(L.P i).rb,(L.P i).rp,(L.P i).rc⟩) (d:=d1) rfl hi;have c5:Ctx W w (kG L.gb (IP (B9 L G) (i*4)) :: (bQ ((L.P i).q.mv v) d1++(KT L G i++S))) Φ:=by
   refine cx.sub (.cons_cons _ (List.Sublist.trans ?_ (List.sublist_append_right _ _)));exact List.Sublist.append_left (((List.sublist_append_right _ _)).cons _) _
  rw [e4] at c5;exact c5.perm (a4w (L:=L) (G:=G) ⟨(L.P i).q.mv v,(L.P i).x,(L.P i).cb,(L.P i).rb,(L.P i).rp,(L.P i).rc⟩ ⟨d1,none⟩ hi S)
theorem a7G(id n l a):lM id n (l++[a])=(vU (lM id n l) id a.to (bs (rZ a))).1:=by unfold lM;rw [List.foldl_append];rfl
theorem aL2[aB Φ](hoff:∀ M w,Φ M w->uW M w)(hT:∀ M w,Φ M w->yB M w)(hF:x4 Φ L G)(hi:i<3){u}(hu:(G.mem i).up=some u){o p1 p2 c1 c2}(hb:aLQ u o)(hsd:aWA o.send)(hok:∀ j,j<3->∀ v,(G.mem j).up=some v->v.r.Ok)(hlen:o.send.length<=1000000)(qU:∀ M w,Φ M w->Sl M w p1 o.aE)(b1M:∀ M w,Φ M w->Sl M w p2 o.send)(cx:Ctx W w (eG L G++S) Φ){K}(hk:∀ L' w',L'.gb=L.gb->(∀ Ξ:PW,x4 Ξ L G->x4 Ξ L' (doH G i u o).1)->Ctx W w' (eG L' (doH G i u o).1++S) Φ->K (.returned (.int .i64 (doH G i u o).2)) w'):
  aG F.mZ #[.pointer (some ⟨L.gb,0,none⟩),.int .i64 (i:Int),VT o p1 c1 p2 c2] w K:=by
 obtain ⟨pb,po,pcs,hp2,cp⟩:=cx.pin (b1M _ _ cx.yK);obtain ⟨Ψ,hΨ⟩:∃ Ψ:PW,Ψ=λM w=>Φ M w/\Pin pb po pcs o.send M w:=⟨_,rfl⟩
 haveI:aB Ψ:=by rw [hΨ];infer_instance
 have hw1:∀ M w,Ψ M w->Φ M w:=by rw [hΨ];exact λM w h=>h.1
 have EP:∀ M w,Ψ M w->Pin pb po pcs o.send M w:=by rw [hΨ];exact λM w h=>h.2
 rw [<-hΨ] at cp;have aND:∀ (L1:KS) (G1:gV),G1.mem=G.mem\/(∃ m:a6Y,G1.mem=(fL G i m).mem/\∀ v,m.up=some v->v.r=u.r)->∀ j,j<3->∀ v,(G1.mem j).up=some v->v.r.Ok:=λL1 G1 h j hj v hv=>by
  rcases h with e|⟨m,e,hr⟩
  .rw [e] at hv;exact hok j hj v hv
  .rw [e] at hv;by_cases hij:j=i
   .subst hij;have e2:(fL G j m).mem j=m:=aS _ _ _;rw [e2] at hv;rw [hr v hv];exact hok j hj u hu
   .have e2:(fL G i m).mem j=G.mem j:=bG _ _ hij;rw [e2] at hv;exact hok j hj v hv
 have er:(cY (G.mem i).d u o).2.1.r=u.r:=by unfold cY;simp only;split<;>rfl
 refine iO (KK L.gb 0 (i:Int) o.save o.term o.aK o.src p1 o.aE.length c1 p2 o.send.length c2 (J:=K∘.returned) cp λ_=>?_);refine ⟨[],tru,aR,λw F cx=>(Ctx.right cx).weak λ_ _ _=>trivial,by omega,λw F cx=>?_⟩;rw [Nat.zero_add,Int.toNat_natCast];rw [bM] at cx;refine aAA (L:=L) (G:=G) (i:=i) (S:=S++F) (λM w h=>hoff M w (hw1 M w h)) (λM w h=>hT M w (hw1 M w h)) (hF.weak hw1) hi hu hb (λM w h=>qU M w (hw1 M w h)) cx (λP' w he hP cx=>?_) (λP' w he hP cx=>?_)
 rotate_left 1
 ·-- storing fails
  have eD:doH G i u o=(kZ (fL G i ⟨(cY (G.mem i).d u o).1,none⟩),(cY (G.mem i).d u o).2.2):=by unfold doH;simp only;rw [if_neg he]
  rw [eD] at hk;refine ⟨_,rfl,eG (mC L i P') (fL G i ⟨(cY (G.mem i).d u o).1,none⟩)++S,Ψ,aR,by rw [bM];exact cx,Br.intro (λh=>absurd (fV h) he) (λ_=>λw F cx=>?_)⟩;rw [bM] at cx;refine a2N (L:=mC L i P') (aND (mC L i P') _ (.inr ⟨_,rfl,λv hv=>by cases hv⟩)) cx λcp cc w cx=>⟨rfl,eG (CP (mC L i P') cp cc) (kZ (fL G i ⟨(cY (G.mem i).d u o).1,none⟩))++S,Ψ,aR,by rw [bM];exact cx,λw F cx=>?_⟩;exact hk (CP (mC L i P') cp cc) w rfl (λΞ h=>x4.note (h.put (hP Ξ (h.mem i hi).dk)) cp cc) (cx.left.weak hw1)
 ·-- the messages are sent
  obtain ⟨L1,B8⟩:∃ L1,mC L i P'=L1:=⟨_,rfl⟩;obtain ⟨G1,hG1⟩:∃ G1,fL G i ⟨(cY (G.mem i).d u o).1,some (cY (G.mem i).d u o).2.1⟩=G1:=⟨_,rfl⟩;have hF1:∀ Ξ:PW,x4 Ξ L G->x4 Ξ L1 G1:=λΞ h=>by rw [<-B8,<-hG1];exact h.put (hP Ξ (h.mem i hi).dk)
  have hgb:L1.gb=L.gb:=by rw [<-B8];rfl
  have b1N:G1.gF=G.gF:=by rw [<-hG1];rfl
  have eD:doH G i u o=(kZ (u0 G1 (lM i G1.gF o.send)),0):=by unfold doH;simp only;rw [if_pos he,hG1,b1N]
  rw [B8,hG1] at cx;rw [eD] at hk;have aWB:∀ j,j<3->∀ v,(G1.mem j).up=some v->v.r.Ok:=aND L1 G1 (.inr ⟨⟨(cY (G.mem i).d u o).1,some (cY (G.mem i).d u o).2.1⟩,by rw [<-hG1],λv hv=>by cases hv;exact er⟩);refine ⟨0,rfl,eG L1 G1++S,Ψ,aR,by rw [bM];exact cx,Br.intro (λ_=>?_) (λh=>absurd rfl (eV h))⟩;refine dS (λnI R' Ξ κ=>∃ (j:Nat) (fp:Option Addr) (fc:Nat),nI=j/\j<=o.send.length/\κ=o.send.length - j/\Ξ=Ψ/\R'=eG (RI L1 fp fc) (u0 G1 (lM i G1.gF (o.send.take j)))++S) ⟨⟨_,Ψ,_,aR,λw G cx=>cx,0,L1.N.fp,L1.N.fc,rfl,Nat.zero_le _,rfl,rfl,by rw [List.take_zero];rfl⟩,?_⟩
  rintro nI R1 Ξ κ _ ⟨j,fp,fc,rfl,hj,rfl,rfl,rfl⟩;refine Br.intro (λhlt=>?_) (λhge=>λw F cx=>?_)
  .have hlt:j<o.send.length:=by have:=fV hlt;omega
   obtain ⟨mp,mc,hp,HP,hr2,hmo⟩:=aLR (EP _ _ cx.yK) hlt;have aWC:=hsd.msg _ (List.getElem_mem hlt);refine ⟨by omega,bF pb po (hp2 (by omega)) λw F cx=>⟨_,_,_,_,_,_,_,_,mp,_,mc,by rw [Int.toNat_natCast];exact aD5 (EP _ _ cx.yK) hlt hp,λ_=>?_⟩⟩;obtain ⟨n0,hn0⟩:∃ n0,lM i G1.gF (o.send.take j)=n0:=⟨_,rfl⟩;rw [hn0] at cx ⊢;have hl0:n0.aZ.length<=500:=by rw [<-hn0];exact TN i _ _ (hF1 Φ hF).WD
   have sG:∀ Y:List Own,List.Sublist [kG L1.gb (B9 (RI L1 fp fc) (u0 G1 n0))] (eG (RI L1 fp fc) (u0 G1 n0)++Y):=λY=>.cons_cons _ (List.nil_sublist _);refine ⟨[kG L1.gb (B9 (RI L1 fp fc) (u0 G1 n0))],tru,aR,λw G cx=>dM cx (sG S),some ⟨L1.N.nb,0,none⟩,λw G cx=>⟨_,by rw [<-hgb];exact cx.get 0 rfl rfl,rfl⟩,λw F cx=>?_⟩;refine (a7d (Φ:=Ξ) (m:=o.send[j]) (p:=mp) (c:=mc) (λM w h=>hT M w (hw1 M w h)) (λM w h=>aD4 (EP M w h) hlt hp) aWC.1 aWC.2).use cx λw cx=>⟨_,rfl,_,Ξ,aR,cx,λw G cx=>dM cx (sG S),λw F cx=>?_⟩
   rw [bM] at cx;refine aDL (N:=⟨L1.N.nb,fp,fc⟩) (n:=n0) hl0 (cx.perm (a4L (RI L1 fp fc) (u0 G1 n0) (S++F))) λfp2 fc2 w cx=>⟨_,rfl,eG (RI L1 fp2 fc2) (u0 G1 (vU n0 i o.send[j].to (bs (rZ o.send[j]))).1)++S,Ξ,aR,by
    rw [bM];exact cx.perm (NR (RI L1 fp fc) (u0 G1 n0) fp2 fc2 (vU n0 i o.send[j].to (bs (rZ o.send[j]))).1 (S++F)),by unfold bE;omega,_,Ξ,_,aR,λw G cx=>cx,⟨j+1,fp2,fc2,by omega,by omega,rfl,rfl,by rw [List.take_succ_eq_append_getElem hlt,a7G,hn0]⟩,by omega⟩
  .have hje:j=o.send.length:=by have:=eV hge;omega
   subst hje;rw [List.take_length,bM] at cx;rw [<-hgb];refine a2N (L:=RI L1 fp fc) (G:=u0 G1 (lM i G1.gF o.send)) aWB cx λcp cc w cx=>⟨rfl,eG (CP (RI L1 fp fc) cp cc) (kZ (u0 G1 (lM i G1.gF o.send)))++S,Ξ,aR,by rw [bM];exact cx,λw F cx=>?_⟩;refine hk (CP (RI L1 fp fc) cp cc) w hgb (λΞ h=>x4.note (L:=RI L1 fp fc) (G:=u0 G1 (lM i G1.gF o.send)) ⟨(hF1 Ξ h).mem,TN i _ _ (hF1 Ξ h).WD⟩ cp cc) (cx.left.weak hw1)
end
section
variable {W w:World}{S:List Own}{Φ:PW}{L:KS}{G:gV}{i:Nat}
theorem RJ(L G i u A F):KU L G i u (A++F)=KU L G i u A++F:=by
 have e:∀ (a:Own) (X R A F:List Own),a :: (X++(R++(A++F)))=(a :: (X++(R++A)))++F:=by intros;simp only [bM,List.cons_append]
 exact e _ _ _ _ _
theorem a7H(hi:i<3){u}(hu:(G.mem i).up=some u)(r p c F):
  (aV (L.P i).rb r p c++KU L G i u F).Perm (eG (mC L i { L.P i with rp:=p,rc:=c }) (fL G i ⟨(G.mem i).d,some { u with r:=r }⟩)++F):=by
 refine List.Perm.trans ?_ (a4w (L:=L) (G:=G) { L.P i with rp:=p,rc:=c } ⟨(G.mem i).d,some { u with r:=r }⟩ hi F);have e4:=a7v (L:=L) (G:=G) (i:=i) (P:={ L.P i with rp:=p,rc:=c }) (m:=⟨(G.mem i).d,some { u with r:=r }⟩) rfl rfl rfl rfl (by rw [hu];rfl) hi;rw [<-e4];refine List.perm_middle.trans (.cons _ ?_);show (aV (L.P i).rb r p c++((fG (L.P i).x (L.P i).q u.j++(bQ (L.P i).q (G.mem i).d++[fN (L.P i).cb (L.P i).q u.c]))++(KT L G i++F))).Perm ((aV (L.P i).rb r p c++(fG (L.P i).x (L.P i).q u.j++(bQ (L.P i).q (G.mem i).d++[fN (L.P i).cb (L.P i).q u.c])))++(KT L G i++F))
 rw [bM (aV (L.P i).rb r p c)]
structure a1x(u:VV)(x:dH × kR):Prop where
 sto:aLQ { u with r:=x.1 } x.2
 snd:aWA x.2.send
 len:x.2.send.length<=1000000
 ok:x.1.Ok
def EM(G:gV):Prop:=∀ j,j<3->∀ v,(G.mem j).up=some v->v.r.Ok
theorem EM.put(h:EM G){m}(hm:∀ v,m.up=some v->v.r.Ok):EM (fL G i m):=λj hj v hv=>by
 by_cases e:j=i
 .subst e;have e2:(fL G j m).mem j=m:=aS _ _ _;rw [e2] at hv;exact hm v hv
 .have e2:(fL G i m).mem j=G.mem j:=bG _ _ e;rw [e2] at hv;exact h j hj v hv
theorem V5[aB Φ](hoff:∀ M w,Φ M w->uW M w)(hT:∀ M w,Φ M w->yB M w)(hF:x4 Φ L G)(hi:i<3){u}(hu:(G.mem i).up=some u)(x)(hx:a1x u x)(hok:EM G){q1 q2 c1 c2 p c}(cx:Ctx W w (aV (L.P i).rb x.1 p c++KU L G i u S) (a3Z Φ q1 x.2.aE q2 x.2.send)){K}(hk:∀ L' w',L'.gb=L.gb->(∀ Ξ:PW,x4 Ξ L G->x4 Ξ L' (doG G i u x).1)->Ctx W w' (eG L' (doG G i u x).1++S) Φ->K (.returned (.int .i64 (doG G i u x).2)) w'):
  aG F.mZ #[.pointer (some ⟨L.gb,0,none⟩),.int .i64 (i:Int),VT x.2 q1 c1 q2 c2] w K:=by
 have hw1:∀ M w,a3Z Φ q1 x.2.aE q2 x.2.send M w->Φ M w:=λM w h=>h.1;have hput:∀ Ξ:PW,x4 Ξ L G->x4 Ξ (mC L i { L.P i with rp:=p,rc:=c }) (fL G i ⟨(G.mem i).d,some { u with r:=x.1 }⟩):=λΞ h=>h.put ⟨(h.mem i hi).dq,(h.mem i hi).dk,λv hv=>by cases hv;exact (h.mem i hi).sb u hu⟩;have eI:((fL G i ⟨(G.mem i).d,some { u with r:=x.1 }⟩).mem i).up=some { u with r:=x.1 }:=by show (put G.mem i _ i).up=_;rw [aS]
 rw [aQz] at hk;refine aL2 (L:=mC L i { L.P i with rp:=p,rc:=c }) (G:=fL G i ⟨(G.mem i).d,some { u with r:=x.1 }⟩) (i:=i) (S:=S) (λM w h=>hoff M w (hw1 M w h)) (λM w h=>hT M w (hw1 M w h)) ((hput Φ hF).weak hw1) hi eI hx.sto hx.snd (hok.put λv hv=>by cases hv;exact hx.ok) hx.len (λM w h=>h.2.1) (λM w h=>h.2.2) (cx.perm (a7H hi hu x.1 p c S)) λL' w hgb hg cx=>?_;exact hk L' w hgb (λΞ h=>hg Ξ (hput Ξ h)) (cx.weak hw1)
theorem a27[aB Φ](hoff:∀ M w,Φ M w->uW M w)(hT:∀ M w,Φ M w->yB M w)(hF:x4 Φ L G)(hok:EM G){id fF fC f Z}(hx:∀ u,¬ (id<0\/3<=id)->(G.mem id.toNat).up=some u->a1x u (f u.r))(hf:sI prog fF=true)(hfc:∀ u,¬ (id<0\/3<=id)->(G.mem id.toNat).up=some u->∀ {W w:World} {T:List Own} {b:Nat} {p:Option Addr} {c:Nat} {K:EkV},Ctx W w (aV b u.r p c++(Z++T)) Φ->HM W (Z++T) Φ b (f u.r).1 (f u.r).2 (λv w=>K (.returned v) w)->Calls prog fF (Array.mk (.pointer (some ⟨b,0,none⟩) :: fC.toList)) w K)(cx:Ctx W w (eG L G++(Z++S)) Φ){K}(hk:∀ L' w',L'.gb=L.gb->(∀ Ξ:PW,x4 Ξ L G->x4 Ξ L' (CI G id f).1)->Ctx W w' (eG L' (CI G id f).1++(Z++S)) Φ->K (.returned (.int .i64 (CI G id f).2)) w'):
  aG F.nV #[.pointer (some ⟨L.gb,0,none⟩),.int .i64 id,.func (.func fF) #[] fC] w K:=by
 unfold CI at hk;refine iO (FA L.gb 0 id fF fC (J:=K∘.returned) cx λw F cx=>?_);rw [bM] at cx;refine a4K cx λw cx=>⟨_,rfl,eG L G++(Z++S),Φ,aR,by rw [bM];exact cx,?_⟩;unfold upG;by_cases hid:id<0\/3<=id
 .rw [if_pos hid] at hk ⊢;exact Br.intro (λ_=>λw F cx=>hk L w rfl (λ_ h=>h) cx.left) (λh=>absurd (eV h) (by decide))
 rw [if_neg hid] at hk ⊢;cases hu:(G.mem id.toNat).up with
 | none =>
  rw [hu] at hk;exact Br.intro (λ_=>λw F cx=>hk L w rfl (λ_ h=>h) cx.left) (λh=>absurd (eV h) (by decide))
 | some u =>
  rw [hu] at hk;simp only at hk;have hi:id.toNat<3:=by omega
  obtain ⟨i,rfl⟩:∃ i:Nat,id=i:=⟨id.toNat,by omega⟩;rw [Int.toNat_natCast] at hu hi hk ⊢;refine Br.intro (λh=>absurd rfl (fV h)) (λ_=>⟨by omega,λw F cx=>⟨some ⟨(L.P i).rb,0,none⟩,cx.get 0 rfl (by rw [Nat.zero_add,UW L G hi (by decide),hu];rfl),λw F cx=>⟨hf,?_⟩⟩⟩);rw [bM] at cx;have pq:∀ F:List Own,(KU L G i u ((Z++S)++F)).Perm (Z++KU L G i u (S++F)):=λF=>by
   show (kG L.gb (B9 L G) :: (_++(KT L G i++((Z++S)++F)))).Perm _;have e1:kG L.gb (B9 L G) :: ((fG (L.P i).x (L.P i).q u.j++(bQ (L.P i).q (G.mem i).d++[fN (L.P i).cb (L.P i).q u.c]))++(KT L G i++((Z++S)++F)))=(kG L.gb (B9 L G) :: ((fG (L.P i).x (L.P i).q u.j++(bQ (L.P i).q (G.mem i).d++[fN (L.P i).cb (L.P i).q u.c]))++KT L G i))++(Z++(S++F)):=by simp only [bM,List.cons_append]
   rw [e1];refine (List.perm_append_comm_assoc _ _ _).trans ?_;simp only [bM,List.cons_append];exact .refl _
  have c1:Ctx W w (aV (L.P i).rb u.r (L.P i).rp (L.P i).rc++(Z++KU L G i u (S++F))) Φ:=cx.perm ((EA hi hu ((Z++S)++F)).trans ((pq F).append_left _));refine hfc u hid (by rw [Int.toNat_natCast];exact hu) c1 λp' c' q1 c1 q2 c2 w _ _ _ _ cx=>?_;have c2:Ctx W w (aV (L.P i).rb (f u.r).1 p' c'++KU L G i u ((Z++S)++F)) (a3Z Φ q1 (f u.r).2.aE q2 (f u.r).2.send):=cx.perm ((pq F).symm.append_left _);have e5:∀ F:List Own,aV (L.P i).rb (f u.r).1 p' c'++KU L G i u ((Z++S)++F)=(aV (L.P i).rb (f u.r).1 p' c'++KU L G i u (Z++S))++F:=λF=>by
   have e6:KU L G i u ((Z++S)++F)=KU L G i u (Z++S)++F:=RJ _ _ _ _ _ _;rw [e6,<-bM (aV _ _ _ _)]
  refine ⟨_,_,_,_,_,_,_,_,_,_,rfl,aV (L.P i).rb (f u.r).1 p' c'++KU L G i u (Z++S),_,aR,by rw [<-e5];exact c2,λw F cx=>?_⟩;rw [<-e5] at cx;refine V5 hoff hT hF hi hu (f u.r) (hx u hid (by rw [Int.toNat_natCast];exact hu)) hok (S:=(Z++S)++F) cx λL' w hgb hg cx=>⟨_,rfl,eG L' (doG G i u (f u.r)).1++(Z++S),Φ,aR,by rw [bM];exact cx,λw F cx=>hk L' w hgb hg cx.left⟩
end
section
variable {W w:World}{S:List Own}{Φ:PW}{L:KS}{G:gV}{i:Nat}
theorem aEi[aB Φ](hoff:∀ M w,Φ M w->uW M w)(hT:∀ M w,Φ M w->yB M w)(hF:x4 Φ L G)(hok:EM G){id}(hx:∀ u:VV,¬ (id<0\/3<=id)->(G.mem id.toNat).up=some u->a1x u (cV u.r))(cx:Ctx W w (eG L G++S) Φ){K}(hk:∀ L' w',L'.gb=L.gb->(∀ Ξ:PW,x4 Ξ L G->x4 Ξ L' (zZ G id).1)->Ctx W w' (eG L' (zZ G id).1++S) Φ->K (.returned (.int .i64 (zZ G id).2)) w'):
  aG F.tF #[.pointer (some ⟨L.gb,0,none⟩),.int .i64 id] w K:=by
 refine iO (F9 L.gb 0 id (J:=K∘.returned) cx λw Y cx=>?_);rw [bM] at cx;refine a27 (Z:=[]) (fF:=F.nC) (fC:=#[]) (f:=cV) hoff hT hF hok hx (by kernel_rfl) (λu hid hu {_ _ _ _ _ _ _} cx hK=>aG7 cx (hok _ (by omega) u hu) hK) cx λL' w hgb hg cx=>⟨_,rfl,eG L' (zZ G id).1++S,Φ,aR,by rw [bM];exact cx,λw Y cx=>hk L' w hgb hg cx.left⟩
theorem rT[aB Φ](hoff:∀ M w,Φ M w->uW M w)(hT:∀ M w,Φ M w->yB M w)(hF:x4 Φ L G)(hok:EM G){id data}(hx:∀ u:VV,¬ (id<0\/3<=id)->(G.mem id.toNat).up=some u->(u.r.role=2->1<=u.r.term)/\a1x u ((aF u.r data).1,(aF u.r data).2.2.2))(hsame:∀ u:VV,(aF u.r data).2.2.1≠0->(aF u.r data).1=u.r)(cx:Ctx W w (eG L G++S) Φ){K}(hk:∀ L' w',L'.gb=L.gb->(∀ Ξ:PW,x4 Ξ L G->x4 Ξ L' (cR G id data).1)->Ctx W w' (eG L' (cR G id data).1++S) Φ->K (.returned (.tuple #[.int .i64 (cR G id data).2.1,.int .i64 (cR G id data).2.2])) w'):
  aG F.dK #[.pointer (some ⟨L.gb,0,none⟩),.int .i64 id,.string data] w K:=by
 unfold cR at hk;refine iO (B0 L.gb 0 id data (J:=K∘.returned) cx λw Y cx=>?_);rw [bM] at cx;refine a4K cx λw cx=>⟨_,rfl,eG L G++S,Φ,aR,by rw [bM];exact cx,?_⟩;unfold upG;by_cases hid:id<0\/3<=id
 .rw [if_pos hid] at hk ⊢;exact Br.intro (λ_=>λw Y cx=>hk L w rfl (λ_ h=>h) cx.left) (λh=>absurd (eV h) (by decide))
 rw [if_neg hid] at hk ⊢;cases hu:(G.mem id.toNat).up with
 | none =>
  rw [hu] at hk;exact Br.intro (λ_=>λw Y cx=>hk L w rfl (λ_ h=>h) cx.left) (λh=>absurd (eV h) (by decide))
 | some u =>
  rw [hu] at hk;simp only at hk;have hi:id.toNat<3:=by omega
  obtain ⟨i,rfl⟩:∃ i:Nat,id=i:=⟨id.toNat,by omega⟩;obtain ⟨hx1,hx2⟩:=hx u hid hu;rw [Int.toNat_natCast] at hu hi hk ⊢;refine Br.intro (λh=>absurd rfl (fV h)) (λ_=>⟨by omega,λw Y cx=>⟨some ⟨(L.P i).rb,0,none⟩,cx.get 0 rfl (by rw [Nat.zero_add,UW L G hi (by decide),hu];rfl),λw Y cx=>?_⟩⟩);rw [bM] at cx;refine a6G (cx.perm (EA hi hu (S++Y))) (hok i hi u hu) hx1 data λp' c' q1 c1 q2 c2 w _ _ _ _ cx=>?_
  obtain ⟨P,hP⟩:∃ P,aF u.r data=P:=⟨_,rfl⟩;have hsm:=hsame u;rw [hP] at cx hk hx2 hsm ⊢;refine ⟨_,_,_,_,_,_,_,_,_,_,_,_,rfl,aV (L.P i).rb P.1 p' c'++KU L G i u S,_,aR,by rw [bM,<-RJ];exact cx,λ_=>Br.intro (λh=>λw Y cx=>?_) (λh=>Br.intro (λ_=>λw Y cx=>?_) (λh2=>absurd (Decidable.not_not.1 (eV h2)) (eV h) ))⟩
  .have h0:P.2.2.1=0:=fV h;rw [if_neg (by simp [h0])] at hk;rw [bM,<-RJ] at cx;refine V5 hoff hT hF hi hu (P.1,P.2.2.2) hx2 hok (S:=S++Y) cx λL' w hgb hg cx=>⟨_,rfl,eG L' (doG G i u (P.1,P.2.2.2)).1++S,Φ,aR,by rw [bM];exact cx,Br.intro (λh=>λw Y cx=>?_) (λh=>λw Y cx=>?_)⟩
   .rw [if_pos (fV h)] at hk;exact hk L' w hgb hg cx.left
   .rw [if_neg (eV h)] at hk;exact hk L' w hgb hg cx.left
  .have h0:P.2.2.1≠0:=eV h;rw [if_pos h0] at hk;rw [bM,<-RJ,hsm h0] at cx;have c2:=(cx.perm (a7H hi hu u.r p' c' (S++Y))).weak (Ψ:=Φ) λM w h=>h.1;have e1:fL G i ⟨(G.mem i).d,some { u with r:=u.r }⟩=G:=by
    unfold fL;have:(⟨(G.mem i).d,some { u with r:=u.r }⟩:a6Y)=G.mem i:=by rw [<-hu]
    rw [this,aH7]
   rw [e1] at c2;refine hk (mC L i { L.P i with rp:=p',rc:=c' }) w rfl (λΞ h=>?_) (by rw [<-bM] at c2;exact c2.left);have:=h.put (i:=i) (P:={ L.P i with rp:=p',rc:=c' }) (m:=⟨(G.mem i).d,some { u with r:=u.r }⟩) ⟨(h.mem i hi).dq,(h.mem i hi).dk,λv hv=>by cases hv;exact (h.mem i hi).sb u hu⟩;rw [e1] at this;exact this
theorem aEj[aB Φ](hN:∀ M w,Φ M w->wU M w){k p m}(hl:p.body.data.toList.length<=1000000)(hm:zX p.body.data.toList=some m)(hmo:m.Ok){b r}(hr:r.Ok){rp rc T}(cx:Ctx W w (aV b r rp rc++([.blk k (FG p) 267]++T)) Φ){K}(hK:HM W ([.blk k (FG p) 267]++T) Φ b (aT r m).1 (aT r m).2 λv w=>K (.returned v) w):
  aG F.mF #[.pointer (some ⟨b,0,none⟩),.pointer (some ⟨k,0,none⟩)] w K:=by
 refine iO (y3 b 0 k 0 (J:=K∘.returned) cx λ_ w Y cx=>⟨p.body,cx.get 2 rfl rfl,λw Y cx=>?_⟩);have eb:p.body=bs p.body.data.toList:=(aVL _).symm;rw [eb];refine aDD hN p.body.data.toList hl cx (λw h=>by rw [hm] at h;cases h) (λm2 q c w h EP hlen hqc hqm cx=>?_);rw [hm] at h;cases h;obtain ⟨Ψ,hΨ⟩:∃ Ψ:PW,Ψ=λM w=>Φ M w/\Sl M w q m.aE:=⟨_,rfl⟩
 haveI:aB Ψ:=by rw [hΨ];infer_instance
 have hw1:∀ M w,Ψ M w->Φ M w:=by rw [hΨ];exact λM w h=>h.1
 have EP:∀ M w,Ψ M w->Sl M w q m.aE:=by rw [hΨ];exact λM w h=>h.2
 rw [<-hΨ] at cx;refine ⟨_,_,_,_,_,_,_,_,_,_,_,_,rfl,aV b r rp rc++([.blk k (FG p) 267]++T),Ψ,aR,cx,λ_ w Y cx=>?_⟩;rw [bM] at cx;refine aHc cx hr m hmo q c EP hqc hqm λp' c' q1 c1 q2 c2 w b1 b2 b3 b4 cx=>⟨_,_,_,_,_,_,_,_,_,_,rfl,aV b (aT r m).1 p' c'++([.blk k (FG p) 267]++T),a3Z Ψ q1 (aT r m).2.aE q2 (aT r m).2.send,aR,by rw [bM];exact cx,λw Y cx=>?_⟩;exact hK p' c' q1 c1 q2 c2 w b1 b2 b3 b4 (cx.left.weak λM w h=>⟨hw1 M w h.1,h.2⟩)
structure PkH(G:gV)(p:NI)(m:bA):Prop where
 read:zX p.body.data.toList=some m
 ok:m.Ok
 len:p.body.data.toList.length<=1000000
 trn:∀ u:VV,¬ (p.to<0\/3<=p.to)->(G.mem p.to.toNat).up=some u->a1x u (aT u.r m)
theorem a4M{k}(h:uX G.gF k=none):gS G k=(G,4):=by
 unfold uX at h;unfold gS;split at h
 .rename_i hk;rw [if_pos hk]
 .rename_i hk;rw [if_neg hk,h]
theorem RL{k p}(h:uX G.gF k=some p):gS G k=if kY G.gF.split p.src p.to=false then (u0 G (takeN G.gF k.toNat),10) else CI (u0 G (takeN G.gF k.toNat)) p.to λr=>aT r ((zX p.body.data.toList).getD UL):=by
 unfold uX at h;unfold gS;split at h
 .cases h
 .rename_i hk;rw [if_neg hk,h];rfl
theorem a4N[aB Φ](hoff:∀ M w,Φ M w->uW M w)(hN:∀ M w,Φ M w->wU M w)(hF:x4 Φ L G)(hok:EM G){k}(hpk:∀ p,uX G.gF k=some p->∃ m,PkH G p m)(cx:Ctx W w (eG L G++S) Φ){K}(hk:∀ L' w',L'.gb=L.gb->(∀ Ξ:PW,x4 Ξ L G->x4 Ξ L' (gS G k).1)->Ctx W w' (eG L' (gS G k).1++S) Φ->K (.returned (.int .i64 (gS G k).2)) w'):
  aG F.oK #[.pointer (some ⟨L.gb,0,none⟩),.int .i64 k] w K:=by
 have hnb:(B9 L G)[12]? = some (.pointer (some ⟨L.N.nb,0,none⟩)):=rfl;refine iO (B2 L.gb 0 k (J:=K∘.returned) cx λw Y cx=>⟨_,cx.get 0 rfl hnb,λw Y cx=>?_⟩);rw [bM] at cx;have hgt:∀ Ξ:PW,x4 Ξ L G->x4 Ξ L (u0 G (takeN G.gF k.toNat)):=λΞ h=>⟨h.mem,Nat.le_trans (a0p _ _).2 h.WD⟩;have back:∀ {w:World} {n:KQ} {Y:List Own},Ctx W w (iG L.N n++(kG L.gb (B9 L G) :: (TI L G.eS :: (IX L G++Y)))) Φ->Ctx W w (eG L (u0 G n)++Y) Φ:=fun {w n Y} c=>c.perm (NR L G L.N.fp L.N.fc n Y)
 refine a4p (N:=L.N) (n:=G.gF) hF.WD (cx.perm (a4L L G (S++Y))) (λw ht cx=>?_) (λp w ht hh cx=>?_) (λp w ht hh cx=>?_)
 .have hd:=a4M (G:=G) ht;refine ⟨_,_,_,_,rfl,eG L G++S,Φ,aR,by rw [bM];exact back cx,λb w Y cx=>⟨cx.can 0 rfl (by show 0+3<=3;omega),λw' hw'=>⟨.blk b (FG aH4) 267 :: (eG L G++S),Φ,aR,cx.FR 0 hw' rfl,Br.intro (λ_=>λw Y cx=>?_) (λh=>absurd (eV h) (by decide))⟩⟩⟩;rw [hd] at hk;exact hk L w rfl (λ_ h=>h) (Ctx.drop1 cx.left)
 .have hd:=RL (G:=G) ht;rw [if_pos hh] at hd;refine ⟨_,_,_,_,rfl,eG L (u0 G (takeN G.gF k.toNat))++S,Φ,aR,by rw [bM];exact back cx,λb w Y cx=>⟨cx.can 0 rfl (by show 0+3<=3;omega),λw' hw'=>⟨.blk b (FG aH4) 267 :: (eG L (u0 G (takeN G.gF k.toNat))++S),Φ,aR,cx.FR 0 hw' rfl,Br.intro (λ_=>λw Y cx=>?_) (λh=>absurd (eV h) (by decide))⟩⟩⟩;rw [hd] at hk;exact hk L w rfl hgt (Ctx.drop1 cx.left)
 .have hd:=RL (G:=G) ht;obtain ⟨m,hm⟩:=hpk p ht;rw [if_neg (by rw [hh];simp),hm.read] at hd;rw [hd] at hk;refine ⟨_,_,_,_,rfl,eG L (u0 G (takeN G.gF k.toNat))++S,Φ,aR,by rw [bM];exact back cx,λb w Y cx=>⟨cx.can 0 rfl (by show 0+3<=3;omega),λw' hw'=>⟨.blk b (FG p) 267 :: (eG L (u0 G (takeN G.gF k.toNat))++S),Φ,aR,cx.FR 0 hw' rfl,Br.intro (λh=>absurd rfl (fV h)) (λ_=>λw Y cx=>⟨p.to,cx.get 0 rfl rfl,λw Y cx=>?_⟩)⟩⟩⟩
  have c1:Ctx W w (eG L (u0 G (takeN G.gF k.toNat))++([.blk b (FG p) 267]++(S++Y))) Φ:=cx.perm (by
   rw [List.cons_append,bM];exact List.perm_append_comm_assoc [Own.blk b (FG p) 267] (eG L (u0 G (takeN G.gF k.toNat))) (S++Y))
  refine a27 (L:=L) (G:=u0 G (takeN G.gF k.toNat)) (Z:=[.blk b (FG p) 267]) (fF:=F.mF) (fC:=#[.pointer (some ⟨b,0,none⟩)]) (f:=λr=>aT r ((some m).getD UL)) hoff (λM w h=>(hN M w h).1) (hgt Φ hF) hok (λu h1 h2=>hm.trn u h1 h2) (by kernel_rfl) (λu h1 h2 {_ _ _ _ _ _ _} cx hK=>aEj hN hm.len hm.read hm.ok (hok _ (by omega) u h2) cx hK) c1 λL' w hgb hg cx=>⟨_,rfl,eG L' (CI (u0 G (takeN G.gF k.toNat)) p.to λr=>aT r ((some m).getD UL)).1++S,Φ,aR,?_,λw Y cx=>hk L' w hgb (λΞ h=>hg Ξ (hgt Ξ h)) cx.left⟩
  rw [bM];exact Ctx.drop1 (cx.perm (List.perm_append_comm_assoc (eG L' _) [Own.blk b (FG p) 267] (S++Y)))
end
section
variable {W w:World}{S:List Own}{Φ:PW}{L:KS}{G:gV}{i:Nat}
end
structure OpG where
 kind:Int
 id:Int
 n:Int
 data:ByteArray
 keep:List Int
def opK(G:gV)(o:OpG)(i k:Int):gV × Int × Int :=
 if k=0 then ((zZ G o.id).1,0,(zZ G o.id).2) else
 if k=1 then cR G o.id o.data else
 if k=2\/k=3\/k=4 then ((gS G i).1,0,(gS G i).2) else
 if k=5 then ((aNn G i).1,0,(aNn G i).2) else
 if k=6 then ((aBI G i).1,0,(aBI G i).2) else
 if k=7 then (E3 G o.n,0,0) else
 if k=8 then (ZG G,0,0) else
 if k=9 then ((aHx G o.id o.keep).1,0,(aHx G o.id o.keep).2) else
 if k=10 then ((aHy G o.id).1,0,(aHy G o.id).2) else
 if k=11 then ((aNo G o.id o.n).1,0,(aNo G o.id o.n).2) else
 if k=12 then ((aVU G o.id o.n o.keep).1,0,(aVU G o.id o.n o.keep).2) else
 ((bS G o.id (vV o.n 100)).1,((bS G o.id (vV o.n 100)).2:Int),0)
section
variable {N N' D:Nat}{B B':Int}{G G':gV}{C C':Cl}{g g':Gh}{A A':Int->Nat->Nat}{i:Nat}
end
section
variable {W w:World}{S:List Own}{Φ:PW}{L:KS}{G:gV}{i:Nat}
theorem aIM:(B9 L G)[12]? = some (.pointer (some ⟨L.N.nb,0,none⟩)):=rfl
theorem aAB[aB Φ]{w Y}(cx:Ctx W w ((eG L G++S)++Y) Φ):Ctx W w (iG L.N G.gF++(kG L.gb (B9 L G) :: (TI L G.eS :: (IX L G++(S++Y))))) Φ:=by
 rw [bM] at cx;exact cx.perm (a4L L G (S++Y))
theorem a4O[aB Φ]{w fp fc n Y}(cx:Ctx W w (iG ⟨L.N.nb,fp,fc⟩ n++(kG L.gb (B9 L G) :: (TI L G.eS :: (IX L G++(S++Y))))) Φ):Ctx W w ((eG (RI L fp fc) (u0 G n)++S)++Y) Φ:=by
 rw [bM];exact cx.perm (NR L G fp fc n (S++Y))
theorem aAC[aB Φ]{m}(cx:Ctx W w (eG L G++S) Φ){K}(hk:∀ w',(∀ Ξ:PW,x4 Ξ L G->x4 Ξ L (E3 G m))->Ctx W w' (eG L (E3 G m)++S) Φ->K (.returned (.tuple #[])) w'):
  aG F.rE #[.pointer (some ⟨L.gb,0,none⟩),.int .i64 m] w K:=by
 refine iO (DT L.gb 0 m (J:=K∘.returned) cx λw Y cx=>⟨_,cx.get 0 rfl aIM,λw Y cx=>?_⟩);exact a9Y (N:=L.N) (n:=G.gF) (aAB cx) λw cx=>⟨rfl,eG L (E3 G m)++S,Φ,aR,a4O cx,λw Y cx=>hk w (λΞ h=>⟨h.mem,h.WD⟩) cx.left⟩
theorem aEk[aB Φ](cx:Ctx W w (eG L G++S) Φ){K}(hk:∀ w',(∀ Ξ:PW,x4 Ξ L G->x4 Ξ L (ZG G))->Ctx W w' (eG L (ZG G)++S) Φ->K (.returned (.tuple #[])) w'):
  aG F.tC #[.pointer (some ⟨L.gb,0,none⟩)] w K:=by
 refine iO (F6 L.gb 0 (J:=K∘.returned) cx λw Y cx=>⟨_,cx.get 0 rfl aIM,λw Y cx=>?_⟩);exact aDO (N:=L.N) (n:=G.gF) (aAB cx) λw cx=>⟨rfl,eG L (ZG G)++S,Φ,aR,a4O cx,λw Y cx=>hk w (λΞ h=>⟨h.mem,h.WD⟩) cx.left⟩
theorem a4P[aB Φ](cx:Ctx W w (eG L G++S) Φ){K}(hk:∀ w',Ctx W w' (eG L G++S) Φ->K (.returned (.int .i64 (G.gF.aZ.length:Int))) w'):
  aG F.oJ #[.pointer (some ⟨L.gb,0,none⟩)] w K:=by
 refine iO (B1 L.gb 0 (J:=K∘.returned) cx λw Y cx=>⟨_,cx.get 0 rfl aIM,λw Y cx=>?_⟩);exact a9Z (N:=L.N) (n:=G.gF) (aAB cx) λw cx=>⟨_,rfl,eG L G++S,Φ,aR,a4O cx,λw Y cx=>hk w cx.left⟩
theorem a7I[aB Φ](hoff:∀ M w,Φ M w->uW M w)(hN:∀ M w,Φ M w->wU M w)(hF:x4 Φ L G)(hok:EM G){id most}(a6X:bE most)(hx:∀ u,¬ (id<0\/3<=id)->(G.mem id.toNat).up=some u->a1x u (cV u.r))(Q:gV->Prop)(hQ:∀ G,Q G->EM G/\∀ p,uX G.gF 0=some p->∃ m,PkH G p m)(hnext:∀ G,Q G->Q (gS G 0).1)(h0:Q (zZ G id).1)(cx:Ctx W w (eG L G++S) Φ){K}(hk:∀ L' w',L'.gb=L.gb->(∀ Ξ:PW,x4 Ξ L G->x4 Ξ L' (bS G id most).1)->Ctx W w' (eG L' (bS G id most).1++S) Φ->K (.returned (.int .i64 ((bS G id most).2:Int))) w'):
  aG F.cF #[.pointer (some ⟨L.gb,0,none⟩),.int .i64 id,.int .i64 most] w K:=by
 refine iO (BW L.gb 0 id most (J:=K∘.returned) cx λw Y cx=>?_);rw [bM] at cx;refine aEi hoff (λM w h=>(hN M w h).1) hF hok hx cx λL1 w aEl hg1 cx=>⟨_,rfl,eG L1 (zZ G id).1++S,Φ,aR,by rw [bM];exact cx,?_⟩;refine dS (λnI R' Ψ κ=>∃ (j:Nat) (L':KS) (G':gV),nI=j/\Ψ=Φ/\L'.gb=L.gb/\Q G'/\(∀ Ξ:PW,x4 Ξ L G->x4 Ξ L' G')/\R'=eG L' G'++S/\j<=most.toNat/\κ=most.toNat - j/\(yE (most.toNat - j) G').1=(bS G id most).1/\(yE (most.toNat - j) G').2+j=(bS G id most).2) ⟨⟨_,Φ,_,aR,λw G cx=>cx,0,L1,(zZ G id).1,rfl,rfl,aEl,h0,hg1,rfl,Nat.zero_le _,rfl,rfl,rfl⟩,?_⟩
 rintro nI R' Ψ κ _ ⟨j,L',G',rfl,rfl,hgb,hq,hg,rfl,hj,rfl,e1,e2⟩;obtain ⟨ho,hp⟩:=hQ G' hq;refine Br.intro (λhlt=>λw Y cx=>?_) (λhge=>λw Y cx=>?_)
 .have hlt:(j:Int)<most:=fV hlt;have hs:most.toNat - j=(most.toNat - (j+1))+1:=by omega
  rw [hs] at e1 e2;unfold yE at e1 e2;rw [bM] at cx;rw [<-hgb];refine a4P cx λw cx=>⟨_,rfl,eG L' G'++S,Ψ,aR,by rw [bM];exact cx,Br.intro (λhpos=>λw Y cx=>?_) (λhpos=>λw Y cx=>?_)⟩
  .have hne:¬ G'.gF.aZ=[]:=λe=>by
    have:=fV hpos;rw [e] at this;simp at this
   rw [if_neg hne] at e1 e2;rw [bM] at cx;refine a4N hoff hN (hg Ψ hF) ho hp cx λL2 w aQA hg2 cx=>⟨_,rfl,eG L2 (gS G' 0).1++S,Ψ,aR,by rw [bM];exact cx,by unfold bE at *;omega,_,Ψ,_,aR,λw G cx=>cx,⟨j+1,L2,(gS G' 0).1,by omega,rfl,aQA,hnext G' hq,λΞ h=>hg2 Ξ (hg Ξ h),rfl,by omega,rfl,e1,by simp only at e2;omega⟩,by omega⟩
  .have b1S:G'.gF.aZ=[]:=by
    have:=eV hpos;exact List.eq_nil_of_length_eq_zero (by omega)
   rw [if_pos b1S] at e1 e2;have:=hk L' w hgb (λΞ h=>by rw [<-e1];exact hg Ξ h) (by rw [<-e1];exact cx.left);rw [<-e2] at this;simp only [Nat.zero_add] at this;exact this
 .have hje:most.toNat - j=0:=by have:=eV hge;omega
  rw [hje] at e1 e2;unfold yE at e1 e2;have:=hk L' w hgb (λΞ h=>by rw [<-e1];exact hg Ξ h) (by rw [<-e1];exact cx.left);rw [<-e2] at this;simp only [Nat.zero_add] at this;exact this
end
section
variable {W w:World}{S:List Own}{Φ:PW}{L:KS}{G:gV}{i:Nat}
def upB(G:gV)(id:Int):Bool:=decide (upG G id=0)
theorem a0q[aB Φ]{id}(cx:Ctx W w (eG L G++S) Φ){K}(hk:∀ w',Ctx W w' (eG L G++S) Φ->K (.returned (.bool (upB G id))) w'):
  aG F.mW #[.pointer (some ⟨L.gb,0,none⟩),.int .i64 id] w K:=by
 refine iO (KG L.gb 0 id (J:=K∘.returned) cx λw Y cx=>?_);rw [bM] at cx;exact a4K cx λw cx=>⟨_,rfl,eG L G++S,Φ,aR,by rw [bM];exact cx,λw Y cx=>hk w cx.left⟩
theorem aIN{id}(h:(!upB G id)=true):id<0\/3<=id\/(G.mem id.toNat).up=none:=by
 unfold upB upG at h;by_cases hid:id<0\/3<=id
 .omega
 .rw [if_neg hid] at h;cases hu:(G.mem id.toNat).up with
  | none=>exact .inr (.inr rfl)
  | some u=>rw [hu] at h;simp at h
theorem aAD{id}(h:(!upB G id)=false):¬ (id<0\/3<=id)/\∃ u,(G.mem id.toNat).up=some u:=by
 unfold upB upG at h;by_cases hid:id<0\/3<=id
 .rw [if_pos hid] at h;simp at h
 .rw [if_neg hid] at h;cases hu:(G.mem id.toNat).up with
  | none=>rw [hu] at h;simp at h
  | some u=>exact ⟨hid,u,rfl⟩
theorem aEm[aB Φ]{b r p c}(cx:Ctx W w (aV b r p c++S) Φ){K}(hK:∀ w',Ctx W w' (aV b r p c++S) Φ->K (.returned (.int .i64 r.role)) w'):
  aG F.gN #[.pointer (some ⟨b,0,none⟩)] w K :=
 (aQd (DX cx)).mono λe w' ⟨h1,h2⟩=>by subst h2;rw [h1];exact hK _ cx
theorem aEn[aB Φ]{id}(cx:Ctx W w (eG L G++S) Φ){K}(hk:∀ w',Ctx W w' (eG L G++S) Φ->K (.returned (.int .i64 (UO G id))) w'):
  aG F.tD #[.pointer (some ⟨L.gb,0,none⟩),.int .i64 id] w K:=by
 refine iO (F7 L.gb 0 id (J:=K∘.returned) cx λw Y cx=>?_);rw [bM] at cx;refine a0q cx λw cx=>⟨_,rfl,eG L G++S,Φ,aR,by rw [bM];exact cx,Br.intro (λh=>λw Y cx=>?_) (λh=>?_)⟩
 .have e:UO G id = -1:=by
   unfold UO;rcases aIN h with h|h|h
   .rw [if_pos (.inl h)]
   .rw [if_pos (.inr h)]
   .split
    .rfl
    .rw [h]
  rw [e] at hk;exact hk w cx.left
 .obtain ⟨hid,u,hu⟩:=aAD h;have e:UO G id=u.r.role:=by unfold UO;rw [if_neg hid,hu]
  rw [e] at hk;obtain ⟨i,rfl⟩:∃ i:Nat,id=i:=⟨id.toNat,by omega⟩;have hi:i<3:=by omega
  rw [Int.toNat_natCast] at hu ⊢;refine ⟨by omega,λw Y cx=>⟨some ⟨(L.P i).rb,0,none⟩,cx.get 0 rfl (by rw [Nat.zero_add,UW L G hi (by decide),hu];rfl),λw Y cx=>?_⟩⟩;rw [bM] at cx;exact aEm (cx.perm (EA hi hu (S++Y))) λw cx=>⟨_,rfl,eG L G++S,Φ,aR,by rw [bM];exact cx.perm (EA hi hu (S++Y)).symm,λw Y cx=>hk w cx.left⟩
theorem aEo[aB Φ]{id}(cx:Ctx W w (eG L G++S) Φ){K}(hk:∀ w',Ctx W w' (eG L G++S) Φ->K (.returned (.int .i64 (UP G id))) w'):
  aG F.tE #[.pointer (some ⟨L.gb,0,none⟩),.int .i64 id] w K:=by
 refine iO (F8 L.gb 0 id (J:=K∘.returned) cx λw Y cx=>?_);rw [bM] at cx;refine a0q cx λw cx=>⟨_,rfl,eG L G++S,Φ,aR,by rw [bM];exact cx,Br.intro (λh=>λw Y cx=>?_) (λh=>?_)⟩
 .have e:UP G id=0:=by
   unfold UP;rcases aIN h with h|h|h
   .rw [if_pos (.inl h)]
   .rw [if_pos (.inr h)]
   .split
    .rfl
    .rw [h]
  rw [e] at hk;exact hk w cx.left
 .obtain ⟨hid,u,hu⟩:=aAD h;have e:UP G id=u.r.term:=by unfold UP;rw [if_neg hid,hu]
  rw [e] at hk;obtain ⟨i,rfl⟩:∃ i:Nat,id=i:=⟨id.toNat,by omega⟩;have hi:i<3:=by omega
  rw [Int.toNat_natCast] at hu ⊢;refine ⟨by omega,λw Y cx=>⟨some ⟨(L.P i).rb,0,none⟩,cx.get 0 rfl (by rw [Nat.zero_add,UW L G hi (by decide),hu];rfl),λw Y cx=>?_⟩⟩;rw [bM] at cx;exact aIg (cx.perm (EA hi hu (S++Y))) λw cx=>⟨_,_,rfl,eG L G++S,Φ,aR,by rw [bM];exact cx.perm (EA hi hu (S++Y)).symm,λw Y cx=>hk w cx.left⟩
theorem a0r[aB Φ](hok:EM G){id}(cx:Ctx W w (eG L G++S) Φ){K}(hk:∀ p c w',Ctx W w' (eG L G++S) (λM w=>Φ M w/\Sl M w p (a4f G id))->K (.returned (.slice p (a4f G id).length c)) w'):
  aG F.lU #[.pointer (some ⟨L.gb,0,none⟩),.int .i64 id] w K:=by
 refine iO (H9 L.gb 0 id (J:=K∘.returned) cx λw Y cx=>?_);rw [bM] at cx;refine a0q cx λw cx=>⟨_,rfl,eG L G++S,Φ,aR,by rw [bM];exact cx,Br.intro (λh=>λw Y cx=>?_) (λh=>?_)⟩
 .have e:a4f G id=[]:=by
   unfold a4f;rcases aIN h with h|h|h
   .rw [if_pos (.inl h)]
   .rw [if_pos (.inr h)]
   .split
    .rfl
    .rw [h]
  rw [e] at hk;exact hk none 0 w (cx.left.weak λM w h=>⟨h,Sl.nil⟩)
 .obtain ⟨hid,u,hu⟩:=aAD h;have e:a4f G id=u.r.log:=by unfold a4f;rw [if_neg hid,hu]
  rw [e] at hk;obtain ⟨i,rfl⟩:∃ i:Nat,id=i:=⟨id.toNat,by omega⟩;have hi:i<3:=by omega
  rw [Int.toNat_natCast] at hu ⊢;have ho:=hok i hi u hu;refine ⟨by omega,λw Y cx=>⟨some ⟨(L.P i).rb,0,none⟩,cx.get 0 rfl (by rw [Nat.zero_add,UW L G hi (by decide),hu];rfl),λw Y cx=>?_⟩⟩;rw [bM] at cx;exact aBZ (cx.perm (EA hi hu (S++Y))) ho.aE ho.len λq c w _ _ cx=>⟨q,_,c,rfl,eG L G++S,_,dD Φ (λM w=>Sl M w q u.r.log),by rw [bM];exact cx.perm (EA hi hu (S++Y)).symm,λw Y cx=>hk q c w cx.left⟩
end
structure a0s(o:kR):Prop where
 tv:o.save=true\/(o.term=0/\o.aK=0)
 src:(o.src=0/\o.aE=[])\/(0<o.src/\o.src<=5000)
 WD:o.send.length<=2
theorem aAE{l}(h:l.length<=2):a0s (mI l):=⟨.inr ⟨rfl,rfl⟩,.inl ⟨rfl,rfl⟩,h⟩
theorem J1:a0s jS:=aAE (l:=[]) (Nat.zero_le _)
theorem a0t(m):a0s (mI [m]):=aAE (l:=[m]) (by simp)
theorem aAF(i):(aL i).length=2:=by
 unfold aL;split
 .rfl
 .split<;>rfl
theorem aNE(r):a0s (mI (bL r)):=aAE (WB r)
theorem aQB(r):a0s (cV r).2:=by
 unfold cV;split
 .exact aNE r
 split
 .exact J1
 .exact ⟨.inl rfl,.inl ⟨rfl,rfl⟩,by show ((aL _).map _).length<=2;rw [List.length_map,aAF];exact Nat.le_refl _⟩
theorem aQC{r}(hr:r.Ok)(data):a0s (aF r data).2.2.2:=by
 by_cases h1:r.role≠2
 .rw [wT h1];exact J1
 by_cases h2:2000<(data.size:Int)
 .rw [uR h1 h2];exact J1
 by_cases h3:r.log.length=4000
 .rw [qI h1 h2 h3];exact J1
 rw [rL h1 h2 h3];have:=hr.len;exact ⟨.inr ⟨rfl,rfl⟩,.inr ⟨by show 0<((r.log.length+1:Nat):Int);omega,by show ((r.log.length+1:Nat):Int)<=5000;omega⟩,WB _⟩
theorem CT{r data}(h:(aF r data).2.2.1≠0):(aF r data).1=r:=by
 by_cases h1:r.role≠2
 .rw [wT h1]
 by_cases h2:2000<(data.size:Int)
 .rw [uR h1 h2]
 by_cases h3:r.log.length=4000
 .rw [qI h1 h2 h3]
 rw [rL h1 h2 h3] at h;exact absurd rfl h
theorem aWF{r x}(h:a0s x.2):a0s (yA r x).2:=by
 unfold yA;split
 .exact h
 .exact ⟨.inl rfl,h.src,h.WD⟩
theorem aL3{r id m}(hm:m.fY id):a0s (dJ r m).2:=by
 have hk:=hm.kind;have RF:m.kind=0\/m.kind=1\/m.kind=2\/m.kind=3:=by omega
 rcases RF with hk|hk|hk|hk
 .rw [a2V hk];unfold cX;split
  .exact a0t _
  .exact a0t _
 .rw [a2W hk];by_cases hc:(decide (r.role≠1)||decide (m.term≠r.term) || !m.yes)=true
  .rw [y9 hc];exact J1
  have hc:(decide (r.role≠1)||decide (m.term≠r.term) || !m.yes)=false:=by simpa using hc
  by_cases h2:kF (fX r m).bX<2
  .rw [tQ hc h2];exact J1
  .rw [nG hc h2];exact aNE _
 .rw [a0i hk];by_cases h2:m.term<r.term
  .rw [pY h2];exact a0t _
  by_cases h3:r.role=2
  .rw [nJ h2 h3];exact J1
  by_cases h4:(decide ((r.log.length:Int)<m.index)||decide (aU r.log m.index.toNat≠m.prev))=true
  .rw [pZ h2 h3 h4];exact a0t _
  have h4:(decide ((r.log.length:Int)<m.index)||decide (aU r.log m.index.toNat≠m.prev))=false:=by simpa using h4
  by_cases h5:eM r m<m.aE.length
  .by_cases h6:m.index.toNat+eM r m+1<=r.aD
   .rw [nK h2 h3 h4 h5 h6];exact J1
   .rw [nL h2 h3 h4 h5 h6];have h7:=hm.fits;have h8:=hm.index.1;exact ⟨.inr ⟨rfl,rfl⟩,.inr ⟨by show 0<((m.index.toNat+eM r m+1:Nat):Int);omega,by show ((m.index.toNat+eM r m+1:Nat):Int)<=5000;omega⟩,by show [_].length<=2;simp⟩
  .rw [kV h2 h3 h4 h5];exact a0t _
 .rw [a2X hk];by_cases hc:(decide (r.role≠2)||decide (m.term≠r.term)||m.yes&&decide ((r.log.length:Int)<m.index))=true
  .rw [nH hc];exact J1
  have hc:(decide (r.role≠2)||decide (m.term≠r.term)||m.yes&&decide ((r.log.length:Int)<m.index))=false:=by simpa using hc
  cases hyes:m.yes with
  | false=>rw [jN hc hyes];exact a0t _
  | true =>
   rw [jF hc hyes];split
   .exact a0t _
   .exact J1
theorem aQD(r m):a0s (aT r m).2:=by
 cases hy:gQ r.id m with
 | false=>rw [pS hy];exact J1
 | true=>rw [nM hy];exact aWF (aL3 (gU.1 hy))
theorem aL4{x}(h:bE x.term)(h2:x.data.size<=2000):(vP x).length<=2043:=by
 have:=a4I h (show x.data.size<=1000000 by omega);omega
theorem a7J:∀ (l:List bH),(∀ x∈l,bE x.term/\x.data.size<=2000)->(kW l).length<=l.length*2043
 | [],_=>by simp [kW]
 | x :: l,h=>by
  have hx:=h x (by simp);have ih:=a7J l λy hy=>h y (by simp [hy]);have:=aL4 hx.1 hx.2;rw [ND,List.length_append,List.length_cons,Nat.add_mul];omega
theorem a7K:∀ (l:List Int),(∀ n∈l,bE n)->(oG l).length<=l.length*21
 | [],_=>by simp [oG]
 | n :: l,h=>by
  have ih:=a7K l λy hy=>h y (by simp [hy]);have h1:=(fU (h n (by simp))).2;rw [NF,List.length_append,fT,List.length_cons,Nat.add_mul];omega
theorem aL5{m}(h:T7 m)(hl:m.aE.length<=8)(hd:∀ x∈m.aE,x.data.size<=2000):(rZ m).length<=1000000:=by
 have h1:=a7K (pL m) h.ints;have h2:=a7J m.aE λx hx=>⟨(h.aE x hx).1,hd x hx⟩;have h3:=T0 (n:=(m.aE.length:Int)) (by unfold bE;omega);have e8:(pL m).length=8:=rfl;have e:(rZ m).length=(oG (pL m)).length+((SZ m.aE.length).data.toList.length+(kW m.aE).length):=by
  unfold rZ EK;simp only [List.length_append];omega
 rw [e,fT];have:m.aE.length*2043<=8*2043:=Nat.mul_le_mul_right _ hl;omega
theorem aL6{m}(h:T7 m):m.Ok :=
 ⟨h.ints _ (by simp [pL]),h.ints _ (by simp [pL]),h.ints _ (by simp [pL]),h.ints _ (by simp [pL]),h.ints _ (by simp [pL]),h.ints _ (by simp [pL]),h.ints _ (by simp [pL])⟩
section
variable {N N' D:Nat}{B B':Int}{G G':gV}{C C':Cl}{g g':Gh}{A A':Int->Nat->Nat}{i:Nat}
theorem GI.V6(h:GI N B D G C g A):EM G:=λj hj v hv=>by
 rw [(h.j.up j hj v hv).1];exact (h.j.s.m.wf.rep j hj).1.ok
theorem aEp{a b:List bH}:(aM (b.map iE)).length<=(aM ((a++b).map iE)).length:=by
 rw [List.map_append,mD,List.length_append];omega
theorem GI.trn(h:GI N B D G C g A)(hi:i<3){u}(hu:(G.mem i).up=some u){x}(hx:Hap C i x)(hlw:IW x.1.log)(hg:∀ a∈x.2.send,VW i x.1.log a)(hb:a0s x.2):a1x u x:=by
 obtain ⟨hr,hU⟩:=h.j.up i hi u hu;obtain ⟨hw,hf⟩:=hx.fits h.j.s.m.wf hi;have hok:=hw.ok;have hin:∀ y∈x.2.aE,y∈x.1.log:=λy hy=>by
  rcases hb.src with ⟨_,e⟩|⟨h0,_⟩
  .rw [e] at hy;cases hy
  .rw [hf.log h0];exact List.mem_append_right _ hy
 have hlen:x.2.aE.length<=x.1.log.length/\(aM (x.2.aE.map iE)).length<=(aM (x.1.log.map iE)).length:=by
  rcases hb.src with ⟨_,e⟩|⟨h0,_⟩
  .rw [e];exact ⟨Nat.zero_le _,by simp [aM]⟩
  .rw [hf.log h0];exact ⟨by rw [List.length_append];omega,aEp⟩
 have h1:=hok.len;have h2:=hlw.size;have hjl:u.j.list.length<=1000000:=by
  rw [hU.log,List.length_map,hr];have:=(h.j.s.m.wf.rep i hi).1.ok.len;omega
 have hjf:(aM u.j.list).length<=1000000000:=by
  rw [hU.log];have:=hU.lw.size;omega
 have hjb:=hU.live.bytes;refine ⟨⟨⟨?_,?_⟩,λy hy=>hlw.aDX y (hin y hy),by omega,by omega,hjf,by show u.j.bytes<=_;omega,hjl⟩,⟨λa ha=>⟨a4H hok (hg a ha),Nat.le_trans (hg a ha).len (by omega)⟩⟩,Nat.le_trans hb.WD (by omega),hok⟩
 .rcases hb.tv with hs|⟨e1,e2⟩
  .obtain ⟨e1,e2⟩:=hf.save hs;rw [e1,e2];have:=hok.kK;have:=hok.iD;have:=hok.y6;have:=hok.y7;unfold bE;omega
  .rw [e1,e2];unfold bE;decide
 .have:=hb.src;unfold bE;omega
theorem GI.aIO(h:GI N B D G C g A)(nR:N*(D+90)<=1048576){id:Int}{u}(hid:¬ (id<0\/3<=id))(hu:(G.mem id.toNat).up=some u):a1x u (cV u.r):=by
 have hi:=a2Y hid;obtain ⟨e,hU⟩:=h.j.up _ hi u hu;have hw:=(h.j.s.m.wf.rep _ hi).1;have hb:=WJ hw (h.j.b.rep _ hi);have EP:=(WA hw).1.ok;rw [e];refine h.trn hi hu (.inl rfl) (RG EP.log EP.iD hb.1.len (by rw [a0m];exact h.j.data _ hi) nR) ?_ (aQB _);have:=a4F hw.ok;rw [(h.j.s.m.wf.rep _ hi).2] at this;exact this
theorem GI.J2(h:GI N B D G C g A)(nR:(N+1)*(D+90)<=1048576){id:Int}{data}(aIJ:data.size<=D){u}(hid:¬ (id<0\/3<=id))(hu:(G.mem id.toNat).up=some u):
  (u.r.role=2->1<=u.r.term)/\a1x u ((aF u.r data).1,(aF u.r data).2.2.2):=by
 have hi:=a2Y hid;obtain ⟨e,hU⟩:=h.j.up _ hi u hu;have hw:=(h.j.s.m.wf.rep _ hi).1;have hb:=a4E hw (h.j.b.rep _ hi) data;have EP:=(qA hw data).1.ok;rw [e];refine ⟨λh2=>hw.one (by rw [h2];decide),h.trn hi hu (.inr (.inr ⟨data,rfl⟩)) (RG EP.log EP.iD hb.1.len (λy hy=>?_) nR) ?_ (aQC hw.ok data)⟩
 .rcases a0n y hy with a|a
  .exact h.j.data _ hi y a
  .rw [a];exact aIJ
 .have:=a4G hw data;rw [(h.j.s.m.wf.rep _ hi).2] at this;exact this
theorem GI.aIP(h:GI N B D G C g A)(nR:N*(D+90)<=1048576){m}(hm:m∈C.sent){id:Int}{u}(hid:¬ (id<0\/3<=id))(hu:(G.mem id.toNat).up=some u):a1x u (aT u.r m):=by
 have hi:=a2Y hid;obtain ⟨e,hU⟩:=h.j.up _ hi u hu;have hw:=(h.j.s.m.wf.rep _ hi).1;have hb:=WI hw (h.j.b.rep _ hi) (h.j.b.msg m hm);have hg:=a0l hw m;have EP:=(lQ (m:=m) hw).1.ok;rw [e];refine h.trn hi hu (.inr (.inl ⟨m,hm,rfl⟩)) (RG EP.log EP.iD hb.1.len (λy hy=>?_) nR) ?_ (aQD _ _)
 .rcases hg.2 y hy with a|a
  .exact h.j.data _ hi y a
  .exact h.j.mdata m hm y a
 .have:=hg.1;rw [(h.j.s.m.wf.rep _ hi).2] at this;exact this
theorem GI.pkt(h:GI N B D G C g A)(nR:N*(D+90)<=1048576)(hD:D<=2000){k p}(ht:uX G.gF k=some p):∃ m,PkH G p m:=by
 obtain ⟨_,_,hp⟩:=aDM ht;obtain ⟨m,hm,hw,hl,hs,hto,rfl⟩:=h.j.gF p (List.mem_of_getElem? hp);refine ⟨m,⟨?_,aL6 hw,?_,λu hid hu=>h.aIP nR hm hid hu⟩⟩
 .show zX (bs (rZ m)).data.toList=some m;rw [pT,ZA hw (by omega)]
 .show (bs (rZ m)).data.toList.length<=1000000;rw [pT];exact aL5 hw hl λx hx=>Nat.le_trans (h.j.mdata m hm x hx) hD
theorem aQE{d u}(hi:i<3)(hU:RT d u)(hok:u.r.Ok):aLJ i u:=by
 have hl:∀ s∈u.j.list,∃ x∈u.r.log,s=iE x:=λs hs=>by
  rw [hU.log] at hs;obtain ⟨x,hx,rfl⟩:=List.mem_map.1 hs;exact ⟨x,hx,rfl⟩
 refine ⟨aLM (by omega) hok,?_,λs hs=>?_,λs hs=>?_,?_⟩
 .rw [hU.log,List.length_map];have:=hok.len;omega
 .obtain ⟨x,hx,rfl⟩:=hl s hs;have h1:=hU.lw.aDX x hx;have:=a4I h1.1 h1.2;show (bs (vP x)).size<=_;rw [bK];omega
 .obtain ⟨x,hx,rfl⟩:=hl s hs;have h1:=hU.lw.aDX x hx;rw [a1O h1.1 h1.2];exact hok.aE x hx
 .rcases hU.now with ⟨_,e,_⟩|⟨_,e,_⟩
  .rw [e];exact Nat.zero_le _
  .omega
theorem GI.opens(h:GI N B D G C g A)(hi:i<3){d}(hd:DnI d (RH N B D C i)){up}(hu:(eZ i d).2.1=some up):(eZ i d).2.2=0/\aLJ i up/\up.r.Ok:=by
 have ho:=a2K (id:=i) hd;rcases ho.or with ⟨u,a1,a2,a3,a4,a5,a6,a7,a8⟩|⟨a1,_⟩
 .rw [a1] at hu;cases hu;obtain ⟨C',g',A',bk⟩:=aEb h.j.s hi a5;rw [<-a4] at bk;have hok:up.r.Ok:=by
   rw [<-bk.rep];exact (bk.s.m.wf.rep i hi).1.ok
  exact ⟨a2,aQE hi a3 hok,hok⟩
 .rw [a1] at hu;cases hu
theorem aL7{n}(hn:n<3):∀ up,(eZ n nN).2.1=some up->aLJ n up/\up.r.Ok:=λup hu=>by
 have h:GI 0 0 0 NJ cl0 gh0 λ_ _=>0:=aIL;refine (h.opens (i:=n) hn (aIb.mono λt v l e=>?_) hu).2;obtain ⟨rfl,rfl,rfl⟩:=e;exact ⟨.inl ⟨⟨rfl,rfl⟩,rfl⟩,Nat.le_refl _,Int.le_refl _,by simp⟩
end
end Go.Proofs.YtnlkemjhgdbfkaaGreatDoor
end

section
namespace Go.Proofs
open Go.Shelf
end Go.Proofs
end

section
namespace Go.Proofs.YtnlkemjhgdbfkaaGreatDoor
open Go.Vc
theorem aIQ(M w cs)(x:ByteArray)(h:Gv.rep M w cs x):(cs.all λu=>oY u)=true:=by
 obtain ⟨rfl,_⟩:=h;rfl
theorem aIR{W w Q Φ M p n c l}(h:Go.Vc.iT W Q Φ M w)(hm:Own.buf p n c (cW l) 9 1∈Q)(hok:∀ x∈l,x.size<=maxLen):Sl M w p l :=
 y4.sl (α:=ByteArray) (D:=[]) (h.parked hm) (tX hok)
section
variable {W w:World}{S:List Own}{Φ:PW}{L:KS}{G:gV}{i:Nat}
theorem a0u[aB Φ]{q l c2}(c:Ctx W w S Φ)(qU:∀ M w,Φ M w->Sl M w q l)(hlen:l.length<100000000){K}(hk:∀ p cap w',Ctx W w' (.buf p l.length cap (cW l) 9 1 :: S) Φ->K (.returned (.slice p l.length cap)) w'):aG F.iS #[.slice q l.length c2] w K:=by
 refine iO (rY q l.length c2 (J:=K∘.returned) c ?_);refine Br.intro (λh=>λw G cx=>?_) (λh=>λk w G cx=>?_)
 .have hq:q=none:=by simpa using h
  have hl:l.length=0:=by
   rcases Nat.eq_zero_or_pos l.length with h0|h0
   .exact h0
   .obtain ⟨b,o,hb⟩:=(qU _ _ cx.yK).there h0;rw [hq] at hb;cases hb
  have hl':l=[]:=List.eq_nil_of_length_eq_zero hl;subst hl';exact hk none 0 w (cx.left.Q3 9 1)
 .obtain ⟨p',cap',w',cs,hrun,cx'⟩:=Ctx.aGW (P:=prog) (ts:=40) (ty:=40) (kb:=#[false,false]) (bytes:=16) (c2:=c2) cx (by kernel_rfl) aIQ qU hlen (by omega);have hcs:=NM cx'.yK.2;subst hcs;exact ⟨p',l.length,cap',w',hrun,.buf p' l.length cap' (cW l) 9 1 :: S,Φ,aR,cx'.fst,λw G cx=>hk p' cap' w cx.left⟩
theorem yI[aB Φ](hsz:∀ s∈G.eS,s.size<=maxLen)(hlen:G.eS.length<100000000)(cx:Ctx W w (eG L G++S) Φ){K}(hk:∀ p c w',G.eS.length<=c->Ctx W w' (eG L G++S) (λM w=>Φ M w/\Sl M w p G.eS)->K (.returned (.slice p G.eS.length c)) w'):
  aG F.dZ #[.pointer (some ⟨L.gb,0,none⟩)] w K:=by
 refine iO (nF L.gb 0 (J:=K∘.returned) cx λw Y cx=>⟨L.cp,G.eS.length,L.cc,cx.get 0 rfl (by rfl),λw Y cx=>?_⟩);have jE:Ctx W w (S++Y) (Go.Vc.iT W (eG L G) Φ):=Ctx.aside (cx.re (bM _ _ _));refine a0u jE (λM w h=>aIR h (n:=G.eS.length) (c:=L.cc) (by unfold eG;simp) hsz) hlen λq cap w cx=>?_;obtain ⟨_,a2e,hcap2⟩:=cx.sU 0 rfl;have x9:Ctx W w (.buf q G.eS.length cap (cW G.eS) 9 1 :: (eG L G++(S++Y))) Φ:=cx.zU.perm List.perm_middle
 obtain ⟨QA,hs,_⟩:=Ctx.freeze (α:=ByteArray) x9 (tX hsz);have hst:aB (λM w=>Φ M w/\Sl M w q G.eS):=dD Φ (λM w=>Sl M w q G.eS);exact ⟨q,_,cap,rfl,eG L G++S,λM w=>Φ M w/\Sl M w q G.eS,hst,gr (QA.add hs),λw Y cx=>hk q cap w a2e cx.left⟩
abbrev aQF:List Value:=[dG,dG,dG,dG]
def FH(P:Nat->a1u)(N:aHX)(j:Nat):List Value :=
 (if 0<j then E9 (P 0) true else aQF)++((if 1<j then E9 (P 1) true else aQF)++((if 2<j then E9 (P 2) true else aQF)++[.pointer (some ⟨N.nb,0,none⟩),.slice none 0 0]))
def J3(P:Nat->a1u):Nat->List Own
 | 0=>[]
 | j+1=>qB (P j) (CJ j)++J3 P j
theorem a0v(P N j):(FH P N j).length=14:=by
 unfold FH;split<;>split<;>split<;>rfl
theorem a7L(P X){k}:∀ j,j<=k->J3 (put P k X) j=J3 P j
 | 0,_=>rfl
 | j+1,h=>by
  show qB (put P k X j) (CJ j)++J3 (put P k X) j=qB (P j) (CJ j)++J3 P j;rw [bG _ _ (by omega),a7L P X j (by omega)]
theorem aEq(P N){j}(hj:j<3)(X):up3 ((FH P N j).set (j*4) (pA X.q.db)) (j*4) X.x.jb X.cb X.rb=FH (put P j X) N (j+1):=by
 match j,hj with
 | 0,_=>rfl
 | 1,_=>rfl
 | 2,_=>rfl
theorem aEr(i):(CJ i).up.isSome=true:=by
 obtain ⟨u,h,_⟩:=EG i;rw [h];rfl
theorem aL8(gb N P):B9 ⟨gb,N,none,0,P⟩ NJ=FH P N 3:=by
 have e:∀ i,(NJ.mem i).up.isSome=true:=aEr;unfold B9;rw [e,e,e];rfl
theorem aL9(a)(D X Y:List Own):(D++((a :: X)++Y)).Perm ((a :: (D++X))++Y):=by
 rw [List.cons_append,List.cons_append,bM];exact List.perm_middle
theorem aEs(P N):FH P N 0=[dG,dG,dG,dG,dG,dG,dG,dG,dG,dG,dG,dG,.pointer (some ⟨N.nb,0,none⟩),.slice none 0 0]:=rfl
theorem a7M[aB Φ](hoff:∀ M w,Φ M w->uW M w)(hN:∀ M w,Φ M w->wU M w)(cx:Ctx W w S Φ){K}(hk:∀ L Ψ w',aB Ψ->(∀ M w,Ψ M w->Φ M w)->x4 Ψ L NJ->Ctx W w' (eG L NJ++S) Ψ->K (.returned (.pointer (some ⟨L.gb,0,none⟩))) w'):
  aG F.JH #[] w K:=by
 refine iO (YI (J:=K∘.returned) cx λw Y cx=>aH2 (S:=S++Y) cx λN w cx=>⟨_,rfl,iG N ⟨[],0⟩++S,Φ,aR,by rw [bM];exact cx,λgb=>?_⟩);refine dS (λnI R' Ψ κ=>∃ (j:Nat) (P:Nat->a1u),nI=j/\j<=3/\κ=3 - j/\R'=kG gb (FH P N j) :: (J3 P j++(iG N ⟨[],0⟩++S))/\(∀ M w,Ψ M w->Φ M w)/\∀ i,i<j->a1v Ψ (P i) (CJ i)) ⟨⟨kG gb (FH (λ_=>⟨⟨0,0,[],0,0,[],0,none,0,none,0⟩,⟨0,0,none,0,.obj 0 (.map #[] 0)⟩,0,0,none,0⟩) N 0) :: ([]++(iG N ⟨[],0⟩++S)),Φ,_,aR,λw Y cx=>by rw [aEs];exact cx,0,_,rfl,Nat.zero_le _,rfl,rfl,λ_ _ h=>h,λi hi=>absurd hi (Nat.not_lt_zero _)⟩,?_⟩
 rintro nI R' Ψ κ hst ⟨j,P,rfl,hj,rfl,rfl,hw,hM⟩;refine Br.intro (λhlt=>?_) (λhge=>λw Y cx=>?_)
 .have hlt:j<3:=by have:=fV hlt;omega
  refine ⟨[],tru,aR,λw Y cx=>dM cx (List.nil_sublist _),λw Y cx=>?_⟩;refine aHC cx λq w hq cx=>?_;obtain ⟨Ξ,hΞ⟩:∃ Ξ:PW,Ξ=λM w=>Ψ M w/\dkF q nN M w:=⟨_,rfl⟩
  haveI:aB Ξ:=by rw [hΞ];infer_instance
  have hw1:∀ M w,Ξ M w->Ψ M w:=by rw [hΞ];exact λM w h=>h.1
  have EP:∀ M w,Ξ M w->dkF q nN M w:=by rw [hΞ];exact λM w h=>h.2
  rw [<-hΞ] at cx;have c1:Ctx W w ((kG gb (FH P N j) :: (bQ q nN++(J3 P j++(iG N ⟨[],0⟩++S))))++Y) Ξ:=cx.perm (aL9 _ _ _ _);refine ⟨some ⟨q.db,0,none⟩,rfl,kG gb (FH P N j) :: (bQ q nN++(J3 P j++(iG N ⟨[],0⟩++S))),Ξ,aR,c1,λw Y cx=>dM cx (List.nil_sublist _),by omega,λw Y cx=>?_⟩;rw [Int.toNat_natCast,Nat.zero_add];refine ⟨cx.can 0 rfl (by rw [a0v];omega),λw' hw'=>⟨kG gb ((FH P N j).set (j*4) (pA q.db)) :: (bQ q nN++(J3 P j++(iG N ⟨[],0⟩++S))),Ξ,aR,cx.put 0 hw' rfl,by omega,λw Y cx=>?_⟩⟩
  have aPX:((FH P N j).set (j*4) (pA q.db))[j*4]? = some (.pointer (some ⟨q.db,0,none⟩)):=by
   rw [List.getElem?_set_self (by rw [a0v];omega)]
  rw [List.cons_append,bM] at cx;refine aDP (id:=j) (λM w h=>hoff M w (hw M w (hw1 M w h))) (λM w h=>hN M w (hw M w (hw1 M w h))) aPX (by rw [List.length_set,a0v];omega) hq ⟨Nat.zero_le _,EP⟩ (λup hu=>(aL7 hlt up hu).1) cx (λu w ho he hq1 hke cx=>?_) (λu x cb rb rp rc up w ho he hsb hq1 hke cx=>?_)
  .exfalso;obtain ⟨u',h1,_⟩:=EG j;have h1:(eZ j nN).2.1=some u':=h1;rw [ho] at h1;cases h1
  .have e1:=aEq P N hlt ⟨q.mv u,x,cb,rb,rp,rc⟩;have e1:up3 ((FH P N j).set (j*4) (pA q.db)) (j*4) x.jb cb rb=FH (put P j ⟨q.mv u,x,cb,rb,rp,rc⟩) N (j+1):=e1;rw [e1] at cx;have em:CJ j=⟨(eZ j nN).1,some up⟩:=by rw [<-ho];rfl
   have e2:J3 (put P j ⟨q.mv u,x,cb,rb,rp,rc⟩) (j+1)=qB ⟨q.mv u,x,cb,rb,rp,rc⟩ ⟨(eZ j nN).1,some up⟩++J3 P j:=by
    show qB (put P j _ j) (CJ j)++J3 (put P j _) j=_;rw [aS,a7L P _ j (Nat.le_refl _),em]
   have c2:Ctx W w ((kG gb (FH (put P j ⟨q.mv u,x,cb,rb,rp,rc⟩) N (j+1)) :: (J3 (put P j ⟨q.mv u,x,cb,rb,rp,rc⟩) (j+1)++(iG N ⟨[],0⟩++S)))++Y) Ξ:=by
    rw [e2];refine cx.perm (.cons _ ?_);show (aV rb up.r rp rc++(fG x q up.j++([fN cb q up.c]++(bQ (q.mv u) (eZ j nN).1++((J3 P j++(iG N ⟨[],0⟩++S))++Y))))).Perm (((aV rb up.r rp rc++(fG x (q.mv u) up.j++(bQ (q.mv u) (eZ j nN).1++[fN cb (q.mv u) up.c])))++J3 P j++(iG N ⟨[],0⟩++S))++Y);rw [bM (aV rb up.r rp rc++_) (J3 P j),bM (aV rb up.r rp rc++_),bM (aV rb up.r rp rc),bM (fG x _ up.j),bM (bQ _ _)]
    exact .append_left _ (.append_left _ (List.perm_append_comm_assoc _ _ _))
   refine ⟨0,rfl,kG gb (FH (put P j ⟨q.mv u,x,cb,rb,rp,rc⟩) N (j+1)) :: (J3 (put P j ⟨q.mv u,x,cb,rb,rp,rc⟩) (j+1)++(iG N ⟨[],0⟩++S)),Ξ,aR,c2,by unfold bE;omega,_,Ξ,_,aR,λw Y cx=>cx,⟨j+1,_,by omega,by omega,rfl,rfl,λM w h=>hw M w (hw1 M w h),λi hi=>?_⟩,by omega⟩;by_cases e:i=j
   .subst e;rw [aS,em];exact ⟨hq1,⟨by rw [hke];exact Nat.zero_le _,λM w h=>by rw [hke];exact EP M w h⟩,λv hv=>by cases hv;exact hsb⟩
   .rw [bG _ _ e];exact (hM i (by omega)).weak hw1
 .have he:j=3:=by have:=eV hge;omega
  subst he;refine hk ⟨gb,N,none,0,P⟩ Ψ w hst hw ⟨hM,Nat.zero_le _⟩ ?_;have c1:=(Ctx.left cx).Q3 9 1;refine c1.perm ?_;unfold eG;rw [aL8];show (Own.buf none 0 0 [] 9 1 :: kG gb (FH P N 3) :: ((qB (P 2) (CJ 2)++(qB (P 1) (CJ 1)++(qB (P 0) (CJ 0)++[])))++(iG N ⟨[],0⟩++S))).Perm ((kG gb (FH P N 3) :: (iG N ⟨[],0⟩++(Own.buf none 0 0 [] 9 1 :: (qB (P 0) (CJ 0)++(qB (P 1) (CJ 1)++qB (P 2) (CJ 2))))))++S)
  have key:∀ (a b:Own) (X Y Z N S:List Own),(a :: b :: ((X++(Y++(Z++[])))++(N++S))).Perm ((b :: (N++(a :: (Z++(Y++X)))))++S):=λa b X Y Z N S=>by
   refine (List.Perm.swap _ _ _).trans ?_;rw [List.append_nil,List.cons_append];refine .cons _ ?_;have e:(N++a :: (Z++(Y++X)))++S=N++((a :: (Z++(Y++X)))++S):=bM _ _ _;rw [e];refine List.Perm.trans ?_ (List.perm_append_comm_assoc (a :: (Z++(Y++X))) N S);rw [List.cons_append];refine .cons _ (.append_right _ ?_);refine (List.perm_append_comm_assoc X Y Z).trans ?_;refine (List.Perm.append_left Y List.perm_append_comm).trans ?_
   exact List.perm_append_comm_assoc Y Z X
  exact key _ _ _ _ _ _ _
end
structure vB where
 r:Nat->dH
 fl:List bA
 sp:Int
 eS:List ByteArray
def CU(m:bA):NI:=⟨m.src,m.to,bs (rZ m)⟩
def oW(P:vB)(i:Nat):vB:=if P.eS.length<(P.r i).aD then { P with eS:=((P.r i).log.take (P.r i).aD).map bH.data } else P
def J4(P:vB):vB:=oW (oW (oW P 0) 1) 2
def EN(sp:Int)(id:Nat)(m:bA):Bool:=(uT id&&(uT m.to&&decide ((id:Int)≠m.to)))&&kY sp id m.to
def pP(sp:Int)(id:Nat)(fl:List bA)(m:bA):List bA:=if (EN sp id m&&decide (fl.length<500))=true then fl++[m] else fl
def iN(sp:Int)(id:Nat)(fl l:List bA):List bA:=l.foldl (pP sp id) fl
def a4Q(P:vB)(i:Nat)(x:dH × kR):vB:={ P with r:=put P.r i x.1,fl:=iN P.sp i P.fl x.2.send }
def doP(P:vB)(i:Nat)(x:dH × kR):vB:=J4 (a4Q P i x)
def eE(P:vB)(i:Nat):vB:=doP P i (cV (P.r i))
def gD(P:vB)(i:Nat)(data:ByteArray):vB:=doP P i ((aF (P.r i) data).1,(aF (P.r i) data).2.2.2)
def dV(P:vB):vB:=match P.fl with
 | []=>P
 | m :: rest=>if kY P.sp m.src m.to=false then { P with fl:=rest } else doP { P with fl:=rest } m.to.toNat (aT (P.r m.to.toNat) m)
def mK:Nat->vB->vB × Nat
 | 0,P=>(P,0)
 | k+1,P=>if P.fl=[] then (P,0) else
  let x:=mK k (dV P)
  (x.1,x.2+1)
def gA(P:vB)(i:Nat)(most:Int):vB × Nat:=mK most.toNat (eE P i)
theorem J5(P i):(oW P i).r=P.r/\(oW P i).fl=P.fl/\(oW P i).sp=P.sp:=by
 unfold oW;split<;>exact ⟨rfl,rfl,rfl⟩
theorem aB8(P):(J4 P).r=P.r/\(J4 P).fl=P.fl/\(J4 P).sp=P.sp:=by
 unfold J4;obtain ⟨a1,a2,a3⟩:=J5 P 0;obtain ⟨b1,b2,b3⟩:=J5 (oW P 0) 1;obtain ⟨c1,c2,c3⟩:=J5 (oW (oW P 0) 1) 2;exact ⟨by rw [c1,b1,a1],by rw [c2,b2,a2],by rw [c3,b3,a3]⟩
theorem V7(P i x):(doP P i x).r=put P.r i x.1/\(doP P i x).fl=iN P.sp i P.fl x.2.send/\(doP P i x).sp=P.sp:=aB8 (a4Q P i x)
def aMa(r:dH):Node:=⟨r,r.term,r.aK,r.log,0⟩
def LS(P:vB):Cl:=⟨λj=>aMa (P.r j),P.fl⟩
theorem aAH{P Q}(h1:P.r=Q.r)(h2:P.fl=Q.fl):LS P=LS Q:=by unfold LS;rw [h1,h2]
theorem aIS{P}{C:Cl}(h:C.Wf)(e:∀ j,P.r j=(C.nd j).rep):(LS P).Wf :=
 ⟨λi hi=>by
  show (P.r i).Wf/\(P.r i).id=i;rw [e i];exact h.rep i hi,λi hi=>⟨rfl,rfl,rfl⟩,λi hi=>.inl rfl,Nat.zero_le _⟩
theorem a4R(P j r fl):a7D (LS P) j r fl=LS { P with r:=put P.r j r,fl:=fl }:=by
 unfold a7D LS;have:put (λj=>aMa (P.r j)) j (UU (aMa (P.r j)) r)=λk=>aMa (put P.r j r k):=by
  funext k
  by_cases h:k=j
  .subst h;rw [aS,aS];rfl
  .rw [bG _ _ h,bG _ _ h]
 simp only [this]
theorem a29{i k}(h:k∈aL i):k≠i:=by
 unfold aL at h;split at h
 .simp only [List.mem_cons,List.not_mem_nil,or_false] at h;omega
 split at h
 .simp only [List.mem_cons,List.not_mem_nil,or_false] at h;omega
 .simp only [List.mem_cons,List.not_mem_nil,or_false] at h;omega
def AF(i:Nat)(a:bA):Prop:=a.to≠i
theorem aAI(r):∀ a∈bL r,AF r.id a:=λa ha=>by
 unfold bL at ha;obtain ⟨k,hk,rfl⟩:=List.mem_map.1 ha;have:=a29 hk;show ((k:Nat):Int)≠r.id;omega
theorem aMb(r):∀ a∈(cV r).2.send,AF r.id a:=by
 by_cases h1:r.role=2
 .rw [j6 h1];exact aAI r
 by_cases h2:r.term=1099511627776
 .rw [HN h1 h2];intro a ha;cases ha
 rw [CD h1 h2];intro a ha;obtain ⟨k,hk,rfl⟩:=List.mem_map.1 ha;have:=a29 hk;show ((k:Nat):Int)≠r.id;omega
theorem aMc(r data):∀ a∈(aF r data).2.2.2.send,AF r.id a:=by
 by_cases h1:r.role≠2
 .rw [wT h1];intro a ha;cases ha
 by_cases h2:2000<(data.size:Int)
 .rw [uR h1 h2];intro a ha;cases ha
 by_cases h3:r.log.length=4000
 .rw [qI h1 h2 h3];intro a ha;cases ha
 rw [rL h1 h2 h3];exact aAI _
theorem aMd(r m):∀ a∈(aT r m).2.send,AF r.id a:=by
 cases hy:gQ r.id m with
 | false=>rw [pS hy];intro a ha;cases ha
 | true =>
  have hr:=gU.1 hy;rw [(rR hr).2];have hid:=(oC r m).1;rw [<-hid] at hr ⊢;generalize b8 r m=r1 at hr;have hs:=hr.src;have one:∀ {a:bA},a.to=m.src->∀ b∈[a],AF r1.id b:=fun {a} e b hb=>by
   rw [List.mem_singleton.1 hb];show a.to≠_;rw [e];exact hs.1
  have hk:=hr.kind;have RF:m.kind=0\/m.kind=1\/m.kind=2\/m.kind=3:=by omega
  rcases RF with hk|hk|hk|hk
  .rw [a2V hk];obtain ⟨y,ey,_⟩:=a0j r1 m;rw [ey];exact one rfl
  .rw [a2W hk];by_cases hc:(decide (r1.role≠1)||decide (m.term≠r1.term) || !m.yes)=true
   .rw [y9 hc];exact λa ha=>(by cases ha)
   have hc:(decide (r1.role≠1)||decide (m.term≠r1.term) || !m.yes)=false:=by simpa using hc
   by_cases h2:kF (fX r1 m).bX<2
   .rw [tQ hc h2];exact λa ha=>(by cases ha)
   .rw [nG hc h2];exact aAI (gH r1 m)
  .rw [a0i hk];by_cases h2:m.term<r1.term
   .rw [pY h2];exact one rfl
   by_cases h3:r1.role=2
   .rw [nJ h2 h3];exact λa ha=>(by cases ha)
   by_cases h4:(decide ((r1.log.length:Int)<m.index)||decide (aU r1.log m.index.toNat≠m.prev))=true
   .rw [pZ h2 h3 h4];exact one rfl
   have h4:(decide ((r1.log.length:Int)<m.index)||decide (aU r1.log m.index.toNat≠m.prev))=false:=by simpa using h4
   by_cases h5:eM r1 m<m.aE.length
   .by_cases h6:m.index.toNat+eM r1 m+1<=r1.aD
    .rw [nK h2 h3 h4 h5 h6];exact λa ha=>(by cases ha)
    .rw [nL h2 h3 h4 h5 h6];exact one rfl
   .rw [kV h2 h3 h4 h5];exact one rfl
  .rw [a2X hk];have ent:∀ (r2:dH),∀ b∈[entriesOf r2 m.src.toNat],AF r1.id b:=λr2 b hb=>by
    rw [List.mem_singleton.1 hb];show ((m.src.toNat:Nat):Int)≠_;have:=hs.1;omega
   by_cases hc:(decide (r1.role≠2)||decide (m.term≠r1.term)||m.yes&&decide ((r1.log.length:Int)<m.index))=true
   .rw [nH hc];exact λa ha=>(by cases ha)
   have hc:(decide (r1.role≠2)||decide (m.term≠r1.term)||m.yes&&decide ((r1.log.length:Int)<m.index))=false:=by simpa using hc
   cases hyes:m.yes with
   | false=>rw [jN hc hyes];exact ent _
   | true =>
    rw [jF hc hyes];split
    .exact ent _
    .exact λa ha=>(by cases ha)
theorem a3a{a b}(ha:0<=a/\a<=2)(hb:0<=b/\b<=2):kY 0 a b=true:=by
 unfold kY uT a9E;simp;omega
theorem a3b{i a}(hi:i<3)(ha:AF i a)(ht:0<=a.to/\a.to<=2):EN 0 i a=true:=by
 unfold EN;rw [a3a (by omega) ht];have:((i:Nat):Int)≠a.to:=λe=>ha e.symm;unfold uT;simp [this];omega
theorem TO{sp i}:∀ {l fl:List bA},(∀ a∈l,EN sp i a=true)->fl.length+l.length<=500->iN sp i fl l=fl++l
 | [],fl,_,_=>by simp [iN]
 | a :: l,fl,h,hl=>by
  have e:pP sp i fl a=fl++[a]:=by
   unfold pP;rw [if_pos (by rw [h a (by simp)];rw [List.length_cons] at hl;simp;omega)]
  show iN sp i (pP sp i fl a) l=_;rw [e,TO (λb hb=>h b (by simp [hb])) (by rw [List.length_append,List.length_singleton];rw [List.length_cons] at hl;omega)];simp
theorem a3c{sp i}:∀ {l fl:List bA} {a:bA},a∈iN sp i fl l->a∈fl\/a∈l
 | [],fl,a,h=>.inl h
 | b :: l,fl,a,h=>by
  rcases a3c (l:=l) (fl:=pP sp i fl b) h with h|h
  .unfold pP at h;split at h
   .rcases List.mem_append.1 h with h|h
    .exact .inl h
    .rw [List.mem_singleton.1 h];exact .inr (by simp)
   .exact .inl h
  .exact .inr (by simp [h])
structure aMe(G:gV)(P:vB)(C:Cl):Prop where
 r:∀ j,P.r j=(C.nd j).rep
 up:∀ i,i<3->∃ u,(G.mem i).up=some u
 h:∀ i,i<3->NV (G.mem i).d
 fl:G.gF.aZ=P.fl.map CU
 sp:G.gF.split=P.sp
 eS:G.eS=P.eS
 ms:∀ m∈P.fl,m∈C.sent/\T7 m/\m.aE.length<=8/\(0<=m.src/\m.src<=2)/\(0<=m.to/\m.to<=2)
theorem a3d(id:Nat):∀ (l:List bA) (n:KQ) (fl:List bA),(∀ a∈l,a.src=id)->n.aZ=fl.map CU->(lM id n l).aZ=(iN n.split id fl l).map CU/\(lM id n l).split=n.split
 | [],n,fl,_,h=>⟨h,rfl⟩
 | a :: l,n,fl,hs,h=>by
  have key:(vU n id a.to (bs (rZ a))).1.aZ=(pP n.split id fl a).map CU/\(vU n id a.to (bs (rZ a))).1.split=n.split:=by
   have hl:n.aZ.length=fl.length:=by rw [h,List.length_map]
   unfold vU pP EN;by_cases h1:(uT id&&(uT a.to&&decide ((id:Int)≠a.to)))=false
   .rw [if_pos h1,h1];exact ⟨h,rfl⟩
   rw [if_neg h1];have h1:(uT id&&(uT a.to&&decide ((id:Int)≠a.to)))=true:=by simpa using h1
   by_cases h2:kY n.split id a.to=false
   .rw [if_pos h2,h1,h2];exact ⟨h,rfl⟩
   rw [if_neg h2];have h2:kY n.split id a.to=true:=by simpa using h2
   by_cases h3:500<=n.aZ.length
   .rw [if_pos h3,if_neg (by rw [h1,h2];simp;omega)];exact ⟨h,rfl⟩
   .rw [if_neg h3,if_pos (by rw [h1,h2];simp;omega)];refine ⟨?_,rfl⟩;show n.aZ++[_]=_;rw [h,List.map_append];have:a.src=id:=hs a (by simp);show _=List.map CU fl++[⟨a.src,a.to,bs (rZ a)⟩];rw [this]
  have h2:=a3d id l (vU n id a.to (bs (rZ a))).1 (pP n.split id fl a) (λb hb=>hs b (by simp [hb])) key.1;rw [key.2] at h2;exact h2
theorem TP{G P i}(hu:∃ u,(G.mem i).up=some u/\u.r=P.r i)(hc:G.eS=P.eS):(iF G i).eS=(oW P i).eS:=by
 obtain ⟨u,hu,hr⟩:=hu;unfold iF oW;rw [hu];simp only;rw [hr,hc];split
 .rfl
 .exact hc
theorem aIT{G P}(hu:∀ i,i<3->∃ u,(G.mem i).up=some u/\u.r=P.r i)(hc:G.eS=P.eS):(kZ G).eS=(J4 P).eS/\(kZ G).mem=G.mem/\(kZ G).gF=G.gF:=by
 unfold kZ J4;obtain ⟨m0,n0⟩:=oD G 0;obtain ⟨m1,n1⟩:=oD (iF G 0) 1;obtain ⟨m2,n2⟩:=oD (iF (iF G 0) 1) 2;have p0:=(J5 P 0).1;have p1:=(J5 (oW P 0) 1).1;have c0:=TP (hu 0 (by decide)) hc;have c1:=TP (G:=iF G 0) (P:=oW P 0) (i:=1) (by rw [m0,p0];exact hu 1 (by decide)) c0;have c2:=TP (G:=iF (iF G 0) 1) (P:=oW (oW P 0) 1) (i:=2) (by rw [m1,m0,p1,p0];exact hu 2 (by decide)) c1;exact ⟨c2,by rw [m2,m1,m0],by rw [n2,n1,n0]⟩
section
variable {N N' D:Nat}{B B':Int}{G G':gV}{C C':Cl}{g g':Gh}{A A':Int->Nat->Nat}{i:Nat}{P:vB}
theorem GI.doF(h:GI N B D G C g A)(hs:aMe G P C)(hN:N<=N')(hB:B<=B')(nR:N'*(D+90)<=1048576)(hi:i<3){u}(hu:(G.mem i).up=some u){x}(hx:Hap C i x)(hrb:RB N' B' x.1)(hmb:∀ a∈x.2.send,MB N' B' a)(hd:∀ y∈x.1.log,y.data.size<=D)(hg:∀ a∈x.2.send,VW i x.1.log a):
  ∃ C' g' A',GI N' B' D (doG G i u x).1 C' g' A'/\aMe (doG G i u x).1 (doP P i x) C'/\(doG G i u x).2=0:=by
 obtain ⟨hr,hU⟩:=h.j.up i hi u hu;obtain ⟨hw,hf⟩:=hx.fits h.j.s.m.wf hi;have hid:x.1.id=i:=by rw [hf.id];exact (h.j.s.m.wf.rep i hi).2
 have hok:=hw.ok;have hst:=a0a (d:=(G.mem i).d) (u:=u) (r:=(C.nd i).rep) (r':=x.1) (o:=x.2) (by rw [<-hr];exact hU) hf ⟨by have:=hok.kK;have:=hok.iD;unfold bE;omega,by have:=hok.y6;have:=hok.y7;unfold bE;omega⟩ (RG hok.log hok.iD hrb.len hd nR);have aIU:=hst.vR (hs.h i hi);unfold doG;simp only;obtain ⟨⟨d1,u1,e1⟩,hq⟩:∃ y,cY (G.mem i).d { u with r:=x.1 } x.2=y:=⟨_,rfl⟩;rw [hq] at hst aIU ⊢;simp only
 have he:e1=0:=aIU.2;rw [if_pos he];rcases hst.or with ⟨_,g1,g2⟩|⟨e,_⟩
 rotate_left 1
 .have e:e1=9\/e1=10:=e;omega
 have g2:u1.r=x.1:=g2;obtain ⟨g',n,f⟩:=hx.aQu h.j.s hi;have hj:=h.j.set hN hB hi f hw hid hrb hmb hd (λa ha y hy=>hd y ((hg a ha).aE y hy)) (m:=⟨d1,some u1⟩) (λv hv=>by cases hv;exact ⟨g2,g1⟩) (by simp);have hsn:=a0o (C:=V1 C i x.1 (C.sent++x.2.send)) i x.2.send G.gF hj.gF hj.WD (λa ha=>by
  have hga:=hg a ha;exact ⟨List.mem_append_right _ ha,a4H hok hga,hga.len,hga.src,hga.to⟩) hi
 have hgi:=(aB6 (G:={ fL G i ⟨d1,some u1⟩ with gF:=lM i (fL G i ⟨d1,some u1⟩).gF x.2.send }) ⟨hj.s,hj.b,hj.data,hj.mdata,hj.up,hj.dn,hsn.1,hsn.2,hj.eS⟩).1;obtain ⟨p1,p2,p3⟩:=aB8 (a4Q P i x);have hup:∀ k,k<3->∃ v,((fL G i ⟨d1,some u1⟩).mem k).up=some v/\v.r=(a4Q P i x).r k:=λk hk=>by
  by_cases e:k=i
  .subst e;refine ⟨u1,by show ((put G.mem k _ k)).up=_;rw [aS],?_⟩;show u1.r=put P.r k x.1 k;rw [aS,g2]
  .obtain ⟨v,hv⟩:=hs.up k hk;refine ⟨v,by show ((put G.mem i _ k)).up=_;rw [bG _ _ e];exact hv,?_⟩;show v.r=put P.r i x.1 k;rw [bG _ _ e,(h.j.up k hk v hv).1,hs.r k]
 obtain ⟨c1,c2,c3⟩:=aIT (G:={ fL G i ⟨d1,some u1⟩ with gF:=lM i (fL G i ⟨d1,some u1⟩).gF x.2.send }) (P:=a4Q P i x) hup hs.eS;have hsd:=a3d i x.2.send G.gF P.fl (λa ha=>(hg a ha).src) hs.fl;refine ⟨_,_,_,hgi,⟨λj=>?_,λk hk=>?_,λk hk=>?_,?_,?_,c1,λm hm=>?_⟩,rfl⟩
 .show (J4 (a4Q P i x)).r j=_;rw [p1];show put P.r i x.1 j=((V1 C i x.1 (C.sent++x.2.send)).nd j).rep;by_cases e:j=i
  .subst e;rw [aS,K3]
  .rw [bG _ _ e,EE _ _ _ e,hs.r j]
 .rw [c2];obtain ⟨v,hv,_⟩:=hup k hk;exact ⟨v,hv⟩
 .rw [c2];show NV (put G.mem i _ k).d;by_cases e:k=i
  .subst e;rw [aS];exact aIU.1
  .rw [bG _ _ e];exact hs.h k hk
 .rw [c3];show _=(J4 (a4Q P i x)).fl.map CU;rw [p2];have:=hsd.1;rw [hs.sp] at this;exact this
 .rw [c3];show _=(J4 (a4Q P i x)).sp;rw [p3];exact hsd.2.trans hs.sp
 .have hm:m∈(J4 (a4Q P i x)).fl:=hm;rw [p2] at hm;rcases a3c hm with hm|hm
  .obtain ⟨a,b⟩:=hs.ms m hm;exact ⟨List.mem_append_left _ a,b⟩
  .have hga:=hg m hm;refine ⟨List.mem_append_right _ hm,a4H hok hga,hga.len,?_,hga.to⟩;rw [hga.src];omega
def dA(N:Nat)(B:Int)(D:Nat)(G:gV)(P:vB):Prop:=∃ C g A,GI N B D G C g A/\aMe G P C
theorem J6(i):((i:Nat):Int).toNat=i:=Int.toNat_natCast i
theorem dA.tick(h:dA N B D G P)(nR:N*(D+90)<=1048576)(hi:i<3):dA N (B+1) D (zZ G i).1 (eE P i):=by
 obtain ⟨C,g,A,h,hs⟩:=h;obtain ⟨u,hu⟩:=hs.up i hi;obtain ⟨e,hU⟩:=h.j.up _ hi u hu;have hw:=(h.j.s.m.wf.rep _ hi).1;have hb:=WJ hw (h.j.b.rep _ hi);unfold zZ CI eE;rw [if_neg (by omega),J6,hu];simp only;rw [hs.r i,e];have hg:=a4F hw.ok;rw [(h.j.s.m.wf.rep _ hi).2] at hg;obtain ⟨C',g',A',a,b,_⟩:=h.doF hs (Nat.le_refl _) (show B<=B+1 by omega) nR hi hu (x:=cV (C.nd i).rep) (.inl rfl) hb.1 hb.2 (by rw [a0m];exact h.j.data _ hi) hg
 exact ⟨C',g',A',a,b⟩
theorem dA.rS(h:dA N B D G P)(nR:(N+1)*(D+90)<=1048576)(hi:i<3){data}(aIJ:data.size<=D)(h0:(aF (P.r i) data).2.2.1=0):
  dA (N+1) B D (cR G i data).1 (gD P i data)/\(cR G i data).2=((aF (P.r i) data).2.1,0):=by
 obtain ⟨C,g,A,h,hs⟩:=h;obtain ⟨u,hu⟩:=hs.up i hi;obtain ⟨e,hU⟩:=h.j.up _ hi u hu;have hw:=(h.j.s.m.wf.rep _ hi).1;have hb:=a4E hw (h.j.b.rep _ hi) data;rw [hs.r i] at h0;unfold cR gD;rw [if_neg (by omega),J6,hu];simp only;rw [hs.r i,e,if_neg (by rw [h0];simp)];have hg:=a4G hw data;rw [(h.j.s.m.wf.rep _ hi).2] at hg;obtain ⟨C',g',A',a,b,c⟩:=h.doF hs (Nat.le_succ _) (Int.le_refl B) nR hi hu (x:=((aF (C.nd i).rep data).1,(aF (C.nd i).rep data).2.2.2)) (.inr (.inr ⟨data,rfl⟩)) hb.1 hb.2 (λy hy=>by
  rcases a0n y hy with a|a
  .exact h.j.data _ hi y a
  .rw [a];exact aIJ) hg
 rw [if_neg (by rw [c];simp)];exact ⟨⟨C',g',A',a,b⟩,rfl⟩
theorem dA.lR(h:dA N B D G P)(nR:N*(D+90)<=1048576):dA N B D (gS G 0).1 (dV P):=by
 obtain ⟨C,g,A,h,hs⟩:=h;have hfl:=hs.fl;unfold gS dV;rw [if_neg (by decide),show ((0:Int).toNat)=0 from rfl];cases he:P.fl with
 | nil =>
  rw [he] at hfl;rw [hfl];exact ⟨C,g,A,h,hs⟩
 | cons m rest =>
  rw [he] at hfl;obtain ⟨m1,m2,m3,m4,m5⟩:=hs.ms m (by rw [he];simp);rw [hfl];simp only [List.map_cons,List.getElem?_cons_zero];have htk:(takeN G.gF 0).aZ=rest.map CU:=by
   show G.gF.aZ.eraseIdx 0=_;rw [hfl];rfl
  have h1:=h.takeN 0;have hs1:aMe { G with gF:=takeN G.gF 0 } { P with fl:=rest } C:=⟨hs.r,hs.up,hs.h,htk,hs.sp,hs.eS,λx hx=>hs.ms x (by rw [he];simp [hx])⟩;have e1:(CU m).src=m.src:=rfl;have e2:(CU m).to=m.to:=rfl;rw [e1,e2,hs.sp];by_cases hh:kY P.sp m.src m.to=false
  .rw [if_pos hh,if_pos hh];exact ⟨C,g,A,h1,hs1⟩
  rw [if_neg hh,if_neg hh];have e3:(zX (CU m).body.data.toList).getD UL=m:=by
   show (zX (bs (rZ m)).data.toList).getD UL=m;rw [pT,ZA m2 (by omega)];rfl
  rw [e3];obtain ⟨i,hto⟩:∃ i:Nat,m.to=i:=⟨m.to.toNat,by omega⟩;rw [hto];have hi:i<3:=by omega
  obtain ⟨u,hu⟩:=hs1.up i hi;obtain ⟨e,hU⟩:=h1.j.up _ hi u hu;have hw:=(h1.j.s.m.wf.rep _ hi).1;have hb:=WI hw (h1.j.b.rep _ hi) (h1.j.b.msg m m1);have hg:=a0l hw m;unfold CI;rw [if_neg (by omega),J6,hu];simp only;rw [hs.r i,e];have hg2:=hg.1;rw [(h1.j.s.m.wf.rep _ hi).2] at hg2;obtain ⟨C',g',A',a,b,_⟩:=h1.doF hs1 (Nat.le_refl _) (Int.le_refl B) nR hi hu (x:=aT (C.nd i).rep m) (.inr (.inl ⟨m,m1,rfl⟩)) hb.1 hb.2 (λy hy=>by
   rcases hg.2 y hy with a|a
   .exact h1.j.data _ hi y a
   .exact h1.j.mdata m m1 y a) hg2
  exact ⟨C',g',A',a,b⟩
theorem dA.drain(nR:N*(D+90)<=1048576):∀ (k:Nat) {G:gV} {P:vB},dA N B D G P->dA N B D (yE k G).1 (mK k P).1/\(yE k G).2=(mK k P).2
 | 0,_,_,h=>⟨h,rfl⟩
 | k+1,G,P,h=>by
  have hfl:(G.gF.aZ=[]) ↔ (P.fl=[]):=by
   obtain ⟨C,g,A,_,hs⟩:=h;rw [hs.fl];exact List.map_eq_nil_iff
  unfold yE mK;by_cases he:P.fl=[]
  .rw [if_pos he,if_pos (hfl.2 he)];exact ⟨h,rfl⟩
  .rw [if_neg he,if_neg (λe=>he (hfl.1 e))];have ih:=dA.drain nR k (h.lR nR);exact ⟨ih.1,by show _+1=_+1;rw [ih.2]⟩
theorem dA.settle(h:dA N B D G P)(nR:N*(D+90)<=1048576)(hi:i<3)(most):dA N (B+1) D (bS G i most).1 (gA P i most).1/\(bS G i most).2=(gA P i most).2:=by
 unfold bS gA;exact dA.drain nR _ (h.tick nR hi)
theorem dA.aQG(h:dA N B D G P)(m):dA N B D (E3 G m) { P with sp:=m % 65536 }:=by
 obtain ⟨C,g,A,h,hs⟩:=h;exact ⟨C,g,A,h.aIK (λ_ hp=>hp) h.j.WD,hs.r,hs.up,hs.h,hs.fl,rfl,hs.eS,hs.ms⟩
theorem dA.aQy(h:dA N B D G P):dA N B D (ZG G) { P with sp:=0 }:=by
 obtain ⟨C,g,A,h,hs⟩:=h;exact ⟨C,g,A,h.aIK (λ_ hp=>hp) h.j.WD,hs.r,hs.up,hs.h,hs.fl,rfl,hs.eS,hs.ms⟩
theorem dA.inv(h:dA N B D G P):∃ g A,eL (LS P) g A:=by
 obtain ⟨C,g,A,h,hs⟩:=h;exact ⟨g,A,h.j.s.same (aIS h.j.s.m.wf hs.r) (λj=>hs.r j) λm hm=>(hs.ms m hm).1⟩
theorem dA.cb(h:dA N B D G P):CB N B (LS P):=by
 obtain ⟨C,g,A,h,hs⟩:=h;refine ⟨λj hj=>?_,λm hm=>h.j.b.msg m (hs.ms m hm).1⟩;show RB N B (P.r j);rw [hs.r j];exact h.j.b.rep j hj
theorem dA.eS(h:dA N B D G P):G.eS=P.eS:=by
 obtain ⟨C,g,A,h,hs⟩:=h;exact hs.eS
theorem dA.gF(h:dA N B D G P):G.gF.aZ=P.fl.map CU:=by
 obtain ⟨C,g,A,h,hs⟩:=h;exact hs.fl
theorem dA.upS(h:dA N B D G P)(hi:i<3):∃ u,(G.mem i).up=some u/\u.r=P.r i/\RT (G.mem i).d u:=by
 obtain ⟨C,g,A,h,hs⟩:=h;obtain ⟨u,hu⟩:=hs.up i hi;obtain ⟨e,hU⟩:=h.j.up _ hi u hu;exact ⟨u,hu,by rw [e,hs.r i],hU⟩
theorem dA.role(h:dA N B D G P)(hi:i<3):UO G i=(P.r i).role/\UP G i=(P.r i).term/\a4f G i=(P.r i).log/\aBJ G i=(P.r i).log:=by
 obtain ⟨u,hu,e,hU⟩:=h.upS hi;have hid:¬ ((i:Int)<0\/3<=(i:Int)):=by omega
 refine ⟨?_,?_,?_,?_⟩
 .unfold UO;rw [if_neg hid,J6,hu];show u.r.role=_;rw [e]
 .unfold UP;rw [if_neg hid,J6,hu];show u.r.term=_;rw [e]
 .unfold a4f;rw [if_neg hid,J6,hu];show u.r.log=_;rw [e]
 .unfold aBJ;rw [if_neg hid,J6,aAj hU,e]
theorem dA.sure(h:dA N B D G P):∃ g A,eL (LS P) g A/\(∃ (K:List bH) (t:Int),P.eS=K.map bH.data/\jP g A t K K.length)/\∀ i,i<3->(P.r i).aD<=P.eS.length:=by
 obtain ⟨C,g,A,h,hs⟩:=h;refine ⟨g,A,h.j.s.same (aIS h.j.s.m.wf hs.r) (λj=>hs.r j) (λm hm=>(hs.ms m hm).1),?_,λi hi=>?_⟩
 .obtain ⟨K,t,e,k⟩:=h.j.eS;exact ⟨K,t,by rw [<-hs.eS,e],k⟩
 .obtain ⟨u,hu⟩:=hs.up i hi;have:=h.aIH i hi u hu;rw [(h.j.up i hi u hu).1,<-hs.r i,hs.eS] at this;exact this
theorem GI.vR(h:GI N B D G C g A)(hup:∀ i,i<3->∃ u,(G.mem i).up=some u)(hh:∀ i,i<3->NV (G.mem i).d):∃ P,dA N B D G P/\(∀ j,P.r j=(C.nd j).rep)/\P.sp=G.gF.split:=by
 have key:∀ l:List NI,(∀ p∈l,V4 C p)->∃ fl:List bA,l=fl.map CU/\∀ m∈fl,m∈C.sent/\T7 m/\m.aE.length<=8/\(0<=m.src/\m.src<=2)/\(0<=m.to/\m.to<=2):=by
  intro l
  induction l with
  | nil=>intro _;exact ⟨[],rfl,λm hm=>by cases hm⟩
  | cons p l ih =>
   intro hp;obtain ⟨fl,e,hf⟩:=ih λq hq=>hp q (by simp [hq]);obtain ⟨m,a,b,c,d,f,rfl⟩:=hp p (by simp);refine ⟨m :: fl,by rw [e];rfl,λx hx=>?_⟩;rcases List.mem_cons.1 hx with rfl|hx
   .exact ⟨a,b,c,d,f⟩
   .exact hf x hx
 obtain ⟨fl,e,hf⟩:=key G.gF.aZ h.j.gF;exact ⟨⟨λj=>(C.nd j).rep,fl,G.gF.split,G.eS⟩,⟨C,g,A,h,⟨λj=>rfl,hup,hh,e,rfl,rfl,hf⟩⟩,λj=>rfl,rfl⟩
end
end Go.Proofs.YtnlkemjhgdbfkaaGreatDoor
end

