/-
 For every input erratalaw09.GroupSplit returns true,does not panic,comes to an end,and leaves what came in as it was;the variables that its row lists are as the program's text lays them.
 Conditions: none beyond the given statement's own (GroupSplitCardSaid).
-/
import Derived.Test.YtnlkemjhgdbfkaaGreatDoorCu12
import Derived.Test.YtnlkemjhgdbfkaaGreatDoorCu6
import Derived.Test.YtnlkemjhgdbfkaaGreatDoorCu10
import Derived.Test.YtnlkemjhgdbfkaaGreatDoorCu9
import Derived.Test.YtnlkemjhgdbfkaaGreatDoorCards
import Derived.MakeChecks
import Derived.Stop.LaidErr
import Derived.Lib.LaidTab
import Derived.Test.YtnlkemjhgdbfkaaGreatDoorTie
import Derived.SevenTiedAt
import Derived.LaidMore
import Derived.ChangeMaps5
import Derived.Test.YtnlkemjhgdbfkaaGreatDoorRows
open Go.Proofs.Tryz
set_option linter.unusedVariables false
set_option linter.unusedSimpArgs false
section
namespace Go.Proofs.YtnlkemjhgdbfkaaGreatDoor
open Go.Vc
def J7(l:List bH)(m:bA):Bool:=decide ((l.length:Int)<m.index)||decide (aU l m.index.toNat≠m.prev)
inductive HK(r:dH)(m:bA):dH->List bA->Prop
 | aK (v:Int) (y:Bool):m.kind=0->HK r m { b8 r m with aK:=v } [⟨1,(b8 r m).id,m.src,(b8 r m).term,0,0,0,y,[]⟩]
 | mute (vs:Nat->Bool):(m.kind=1\/(m.kind=3/\((b8 r m).role≠2\/m.term≠(b8 r m).term\/(m.yes=true/\(r.log.length:Int)<m.index))))->HK r m { b8 r m with bX:=vs } []
 | lead:m.kind=1->r.role=1->m.term=r.term->HK r m (gH r m) (bL (gH r m))
 | old:m.kind=2->m.term<r.term->HK r m r [mP r 3 m.src]
 | deaf:m.kind=2->r.role=2->m.term=r.term->HK r m r []
 | gap:m.kind=2->r.term<=m.term->(b8 r m).role≠2->J7 r.log m=true->HK r m (vO (b8 r m)) [HT (b8 r m) m]
 | done:m.kind=2->r.term<=m.term->(b8 r m).role≠2->J7 r.log m=false->eM r m<m.aE.length->m.index.toNat+eM r m+1<=r.aD->HK r m (vO (b8 r m)) []
 | ack (r2:dH):m.kind=2->r.term<=m.term->(b8 r m).role≠2->J7 r.log m=false->r2.role=0->r2.term=m.term->HK r m r2 [iC (b8 r m) m]
 | back:m.kind=3->r.role=2->m.term=r.term->m.yes=false->HK r m (mQ r m) [entriesOf (mQ r m) m.src.toNat]
 | fwd (s:List bA):m.kind=3->r.role=2->m.term=r.term->m.yes=true->m.index<=(r.log.length:Int) ->
   ((max (r.cE m.src.toNat) m.index.toNat+1<=r.log.length/\s=[entriesOf (aQ (dQ r m)) m.src.toNat])\/(r.log.length<max (r.cE m.src.toNat) m.index.toNat+1/\s=[]))->HK r m (aQ (dQ r m)) s
theorem a7N(r):(aQ r).next=r.next:=(vN r).2.2.1
theorem a4S(r):(aQ r).cE=r.cE:=(vN r).2.2.2.1
theorem aIV(r):(aQ r).id=r.id:=(vN r).2.2.2.2.1
theorem xE{r m}(h:(b8 r m).role≠0):b8 r m=r/\¬ r.term<m.term:=by
 by_cases hu:r.term<m.term
 .rw [a4D hu] at h;exact absurd rfl h
 .exact ⟨x5 hu,hu⟩
theorem aQH{r m}(hm:m.fY r.id):HK r m (aT r m).1 (aT r m).2.send:=by
 obtain ⟨e1,e2⟩:=rR hm;rw [e1,e2];obtain ⟨t1,t2,t3,t4,t5,t6⟩:=oC r m;have t7:=xD r m;have hk:=hm.kind;have RF:m.kind=0\/m.kind=1\/m.kind=2\/m.kind=3:=by omega
 rcases RF with hk|hk|hk|hk
 .rw [a2V hk];unfold cX;split
  .exact .aK m.src true hk
  .exact .aK (b8 r m).aK false hk
 .rw [a2W hk];by_cases hc:(decide ((b8 r m).role≠1)||decide (m.term≠(b8 r m).term) || !m.yes)=true
  .rw [y9 hc];exact .mute (b8 r m).bX (.inl hk)
  have hc:(decide ((b8 r m).role≠1)||decide (m.term≠(b8 r m).term) || !m.yes)=false:=by simpa using hc
  by_cases h2:kF (fX (b8 r m) m).bX<2
  .rw [tQ hc h2];exact .mute (fX (b8 r m) m).bX (.inl hk)
  .rw [nG hc h2];have JR:=hc;simp only [Bool.or_eq_false_iff,decide_eq_false_iff_not] at JR;have h3:(b8 r m).role=1:=Decidable.not_not.1 JR.1.1;have h4:m.term=(b8 r m).term:=Decidable.not_not.1 JR.1.2;obtain ⟨e,_⟩:=xE (r:=r) (m:=m) (by rw [h3];decide);rw [e] at h3 h4 ⊢;exact .lead hk h3 h4
 .rw [a0i hk];by_cases h2:m.term<(b8 r m).term
  .have h3:m.term<r.term:=by omega
   rw [pY h2,x5 (show ¬ r.term<m.term by omega)];exact .old hk h3
  have h2':r.term<=m.term:=by omega
  by_cases h3:(b8 r m).role=2
  .rw [nJ h2 h3];obtain ⟨e,hn⟩:=xE (r:=r) (m:=m) (by rw [h3];decide);rw [e] at h3 ⊢;exact .deaf hk h3 (by omega)
  by_cases h4:(decide (((b8 r m).log.length:Int)<m.index)||decide (aU (b8 r m).log m.index.toNat≠m.prev))=true
  .rw [pZ h2 h3 h4];exact .gap hk h2' h3 (by unfold J7;rw [<-t2];exact h4)
  have h4:(decide (((b8 r m).log.length:Int)<m.index)||decide (aU (b8 r m).log m.index.toNat≠m.prev))=false:=by simpa using h4
  have h4':J7 r.log m=false:=by unfold J7;rw [<-t2];exact h4
  have ea:eM (b8 r m) m=eM r m:=by unfold eM;rw [t2]
  by_cases h5:eM (b8 r m) m<m.aE.length
  .by_cases h6:m.index.toNat+eM (b8 r m) m+1<=(b8 r m).aD
   .rw [nK h2 h3 h4 h5 h6];rw [ea] at h5 h6;rw [t3] at h6;exact .done hk h2' h3 h4' h5 h6
   .rw [nL h2 h3 h4 h5 h6];exact .ack _ hk h2' h3 h4' rfl (by show (b8 r m).term=_;omega)
  .rw [kV h2 h3 h4 h5];exact .ack _ hk h2' h3 h4' rfl (by show (b8 r m).term=_;omega)
 .rw [a2X hk];by_cases hc:(decide ((b8 r m).role≠2)||decide (m.term≠(b8 r m).term)||m.yes&&decide (((b8 r m).log.length:Int)<m.index))=true
  .rw [nH hc];refine .mute (b8 r m).bX (.inr ⟨hk,?_⟩);rw [t2] at hc;simp only [Bool.or_eq_true,Bool.and_eq_true,decide_eq_true_eq] at hc;rcases hc with (h|h)|h
   .exact .inl h
   .exact .inr (.inl h)
   .exact .inr (.inr h)
  have hc:(decide ((b8 r m).role≠2)||decide (m.term≠(b8 r m).term)||m.yes&&decide (((b8 r m).log.length:Int)<m.index))=false:=by simpa using hc
  have JR:=hc;simp only [Bool.or_eq_false_iff,decide_eq_false_iff_not] at JR;have h3:(b8 r m).role=2:=Decidable.not_not.1 JR.1.1;have h4:m.term=(b8 r m).term:=Decidable.not_not.1 JR.1.2;obtain ⟨e,_⟩:=xE (r:=r) (m:=m) (by rw [h3];decide);rw [e] at h3 h4 hc JR ⊢;cases hyes:m.yes with
  | false =>
   rw [jN hc hyes];exact .back hk h3 h4 hyes
  | true =>
   rw [jF hc hyes];have h5:=JR.2;rw [hyes,Bool.true_and] at h5;have h5:¬ (r.log.length:Int)<m.index:=eV h5;split
   .rename_i h6;exact .fwd _ hk h3 h4 hyes (by omega) (.inl ⟨h6,rfl⟩)
   .rename_i h6;exact .fwd _ hk h3 h4 hyes (by omega) (.inr ⟨by omega,rfl⟩)
section
variable {r r':dH}{m:bA}{s:List bA}
def gK(r:dH):Nat:=if r.role=1 then 1 else 0
theorem a0w(r m):(b8 r m).role=0\/((b8 r m).role=r.role/\b8 r m=r):=by
 by_cases hu:r.term<m.term
 .rw [a4D hu];exact .inl rfl
 .rw [x5 hu];exact .inr ⟨rfl,rfl⟩
theorem HK.term(h:HK r m r' s):r.term<=r'.term/\r'.term<=max r.term m.term:=by
 have t7:=xD r m;have ha:=pO (dQ r m);cases h with
 | aK v y _=>show r.term<=(b8 r m).term/\(b8 r m).term<=_;omega
 | mute vs _=>show r.term<=(b8 r m).term/\(b8 r m).term<=_;omega
 | lead _ _ _=>show r.term<=r.term/\r.term<=_;omega
 | old _ _=>omega
 | deaf _ _ _=>omega
 | gap _ _ _ _=>show r.term<=(b8 r m).term/\(b8 r m).term<=_;omega
 | done _ _ _ _ _ _=>show r.term<=(b8 r m).term/\(b8 r m).term<=_;omega
 | ack r2 _ h1 _ _ _ h2=>omega
 | back _ _ _ _=>show r.term<=r.term/\r.term<=_;omega
 | fwd s _ _ _ _ _ _=>rw [ha.2.1];show r.term<=r.term/\r.term<=_;omega
theorem HK.live(h:HK r m r' s)(h0:r'.role≠0):r'.term=r.term/\r'.log=r.log/\r'.id=r.id/\r.role≠0:=by
 have tb:=xE (r:=r) (m:=m);have ha:=pO (dQ r m);cases h with
 | aK v y _=>have e:=tb h0;rw [e.1] at h0 ⊢;exact ⟨rfl,rfl,rfl,h0⟩
 | mute vs _=>have e:=tb h0;rw [e.1] at h0 ⊢;exact ⟨rfl,rfl,rfl,h0⟩
 | lead _ h1 _=>exact ⟨rfl,rfl,rfl,by omega⟩
 | old _ _=>exact ⟨rfl,rfl,rfl,h0⟩
 | deaf _ _ _=>exact ⟨rfl,rfl,rfl,h0⟩
 | gap _ _ _ _=>exact absurd rfl h0
 | done _ _ _ _ _ _=>exact absurd rfl h0
 | ack r2 _ _ _ _ h2 _=>exact absurd h2 h0
 | back _ h1 _ _=>exact ⟨rfl,rfl,rfl,by omega⟩
 | fwd s _ h1 _ _ _ _=>exact ⟨ha.2.1,ha.2.2.2,aIV (dQ r m),by omega⟩
theorem HK.led(h:HK r m r' s)(h0:r.role=2)(ht:m.term<=r.term):r'.role=2:=by
 have e:b8 r m=r:=x5 (by omega);have ha:=pO (dQ r m);cases h with
 | aK v y _=>rw [e];exact h0
 | mute vs _=>rw [e];exact h0
 | lead _ h1 _=>omega
 | old _ _=>exact h0
 | deaf _ _ _=>exact h0
 | gap _ _ h1 _=>rw [e] at h1;exact absurd h0 h1
 | done _ _ h1 _ _ _=>rw [e] at h1;exact absurd h0 h1
 | ack r2 _ _ h1 _ _ _=>rw [e] at h1;exact absurd h0 h1
 | back _ h1 _ _=>exact h0
 | fwd s _ h1 _ _ _ _=>rw [ha.1];exact h0
theorem HK.sent(h:HK r m r' s):∀ a∈s,a.term=r'.term:=by
 have t7:=xD r m;have ha:=pO (dQ r m);have one:∀ {a:bA} {t:Int},a.term=t->∀ b∈[a],b.term=t:=fun {a t} e b hb=>by rw [List.mem_singleton.1 hb,e]
 cases h with
 | aK v y _=>exact one rfl
 | mute vs _=>intro a ha;cases ha
 | lead _ _ _ =>
  intro a ha;unfold bL at ha;obtain ⟨k,_,rfl⟩:=List.mem_map.1 ha;rfl
 | old _ _=>exact one rfl
 | deaf _ _ _=>intro a ha;cases ha
 | gap _ _ _ _=>exact one rfl
 | done _ _ _ _ _ _=>intro a ha;cases ha
 | ack r2 _ h1 _ _ _ h2=>exact one (by show (b8 r m).term=_;omega)
 | back _ _ _ _=>exact one rfl
 | fwd s _ _ _ _ _ h =>
  rcases h with ⟨_,rfl⟩|⟨_,rfl⟩
  .exact one rfl
  .intro a ha;cases ha
theorem aIW(r m):gK (b8 r m)<=gK r:=by
 rcases a0w r m with h|h
 .unfold gK;rw [h,if_neg (by decide)];exact Nat.zero_le _
 .rw [h.2];exact Nat.le_refl _
theorem HK.cnt(h:HK r m r' s):s.length+gK r'<=gK r+1:=by
 have ht:=aIW r m;have ha:=pO (dQ r m);cases h with
 | aK v y _=>show 1+gK (b8 r m)<=_;omega
 | mute vs _=>show 0+gK (b8 r m)<=_;omega
 | lead _ h1 _ =>
  rw [show (bL (gH r m)).length=2 by unfold bL;rw [List.length_map];unfold aL;split<;>(try split)<;>rfl];have e1:gK (gH r m)=0:=rfl;have e2:gK r=1:=if_pos h1;omega
 | old _ _=>show 1+gK r<=_;omega
 | deaf _ _ _=>show 0+gK r<=_;omega
 | gap _ _ _ _=>show 1+0<=_;omega
 | done _ _ _ _ _ _=>show 0+0<=_;omega
 | ack r2 _ _ _ _ h2 _ =>
  have:gK r'=0:=if_neg (by omega);show 1+gK r'<=_;omega
 | back _ h1 _ _=>show 1+gK r<=_;omega
 | fwd s _ h1 _ _ _ h =>
  have e1:gK (aQ (dQ r m))=0:=if_neg (by rw [ha.1];show ¬ r.role=1;omega);rcases h with ⟨_,rfl⟩|⟨_,rfl⟩
  .show 1+_<=_;omega
  .show 0+_<=_;omega
end
def rU(P:vB):Nat:=gK (P.r 0)+gK (P.r 1)+gK (P.r 2)
theorem a7O(r){j}(hj:j<3)(x):(gK (put r j x 0)+gK (put r j x 1)+gK (put r j x 2))+gK (r j)=(gK (r 0)+gK (r 1)+gK (r 2))+gK x:=by
 match j,hj with
 | 0,_=>show (gK x+gK (r 1)+gK (r 2))+gK (r 0)=_;omega
 | 1,_=>show (gK (r 0)+gK x+gK (r 2))+gK (r 1)=_;omega
 | 2,_=>show (gK (r 0)+gK (r 1)+gK x)+gK (r 2)=_;omega
structure Dr(P:vB):Prop where
 inv:∃ g A,eL (LS P) g A
 sp:P.sp=0
 ends:∀ m∈P.fl,(0<=m.src/\m.src<=2)/\(0<=m.to/\m.to<=2)
 cnt:P.fl.length+rU P<=298
structure Arr(P:vB)(m:bA)(rest:List bA)(j:Nat)(P':vB):Prop where
 hj:j<3
 to:m.to=(j:Nat)
 r:P'.r=put P.r j (aT (P.r j) m).1
 fl:P'.fl=rest++(aT (P.r j) m).2.send
 id:(P.r j).id=j
 wf:(P.r j).Wf
 out:(HK (P.r j) m (aT (P.r j) m).1 (aT (P.r j) m).2.send/\m.fY j)\/((aT (P.r j) m).1=P.r j/\(aT (P.r j) m).2.send=[]/\¬ m.fY j)
theorem Dr.arr{P m rest}(h:Dr P)(he:P.fl=m :: rest):Dr (dV P)/\∃ j,Arr P m rest j (dV P):=by
 obtain ⟨g,A,hs⟩:=h.inv;have hw:=hs.m.wf;obtain ⟨hsrc,hto⟩:=h.ends m (by rw [he];simp);obtain ⟨j,hj⟩:∃ j:Nat,m.to=j:=⟨m.to.toNat,by omega⟩;have hj3:j<3:=by omega
 obtain ⟨hwj,hid⟩:=hw.rep j hj3;have hwj:(P.r j).Wf:=hwj;have hid:(P.r j).id=j:=hid;have aIX:=h.cnt;rw [he,List.length_cons] at aIX;have hg:=(a0l hwj m).1;have b6D:=(ZX (P.r j) m).send;have hall:iN 0 j rest (aT (P.r j) m).2.send=rest++(aT (P.r j) m).2.send :=
  TO (λa ha=>a3b hj3 (by have:=aMd _ m a ha;rw [hid] at this;exact this) (hg a ha).to) (by omega)
 have hd:dV P=doP { P with fl:=rest } j (aT (P.r j) m):=by
  unfold dV;rw [he];simp only;rw [if_neg (by rw [h.sp,a3a hsrc hto];simp),hj,J6]
 obtain ⟨d1,d2,d3⟩:=V7 { P with fl:=rest } j (aT (P.r j) m);rw [<-hd] at d1 d2 d3;have d1:(dV P).r=put P.r j (aT (P.r j) m).1:=d1;have d2:(dV P).fl=iN P.sp j rest (aT (P.r j) m).2.send:=d2;rw [h.sp,hall] at d2;have hout:(HK (P.r j) m (aT (P.r j) m).1 (aT (P.r j) m).2.send/\m.fY j)\/((aT (P.r j) m).1=P.r j/\(aT (P.r j) m).2.send=[]/\¬ m.fY j):=by
  cases hy:gQ (P.r j).id m with
  | true =>
   have hr:=gU.1 hy;exact .inl ⟨aQH hr,by rw [hid] at hr;exact hr⟩
  | false =>
   rw [pS hy];exact .inr ⟨rfl,rfl,λhr=>by rw [hid,gU.2 hr] at hy;cases hy⟩
 refine ⟨⟨?_,d3.trans h.sp,λa ha=>?_,?_⟩,j,hj3,hj,d1,d2,hid,hwj,hout⟩
 .have hC:=V2 hw (λk _=>rfl) (C:=LS P) he hj3 hj (by omega);obtain ⟨g',A',h',_⟩:=hs.aAx 0 false;rw [hC,a4R] at h';have e:LS { P with r:=put P.r j (aT (P.r j) m).1,fl:=rest++(aT (P.r j) m).2.send }=LS (dV P):=aAH d1.symm d2.symm;have h':eL (LS { P with r:=put P.r j (aT (P.r j) m).1,fl:=rest++(aT (P.r j) m).2.send }) g' A':=h';rw [e] at h';exact ⟨g',A',h'⟩
 .rw [d2] at ha;rcases List.mem_append.1 ha with ha|ha
  .exact h.ends a (by rw [he];exact List.mem_cons_of_mem _ ha)
  .have:=hg a ha;refine ⟨?_,this.to⟩;rw [this.src,hid];omega
 .unfold rU at aIX ⊢;rw [d2,d1,List.length_append];have hp:=a7O P.r hj3 (aT (P.r j) m).1;rcases hout with ⟨hk,_⟩|⟨e1,e2,_⟩
  .have:=hk.cnt;omega
  .rw [e1] at hp;rw [e1,e2,List.length_nil];omega
theorem CV{P}(h:P.fl=[])(k):mK k P=(P,0):=by
 cases k with
 | zero=>rfl
 | succ k=>unfold mK;rw [if_pos h]
theorem jQ{P m rest}(h:P.fl=m :: rest)(k):(mK (k+1) P).1=(mK k (dV P)).1:=by
 show (if P.fl=[] then (P,0) else ((mK k (dV P)).1,(mK k (dV P)).2+1)).1=_;rw [if_neg (by rw [h];simp)]
theorem EH{Q:vB->Prop}(step:∀ P m rest j,Dr P->Q P->P.fl=m :: rest->Arr P m rest j (dV P)->Dr (dV P)->Q (dV P)):∀ (k:Nat) {P:vB},Dr P->Q P->Dr (mK k P).1/\Q (mK k P).1
 | 0,P,h,q=>⟨h,q⟩
 | k+1,P,h,q=>by
  cases he:P.fl with
  | nil=>rw [CV he];exact ⟨h,q⟩
  | cons m rest =>
   rw [jQ he];obtain ⟨h1,j,ha⟩:=h.arr he;exact EH step k h1 (step P m rest j h q he ha h1)
def wE(r:dH)(k:Nat)(m:bA):Nat :=
 if r.role=0 then 2 else if r.role=1 then 4*r.log.length+10 else
 if m.term≠r.term then 2*(r.log.length - r.cE k)+4 else
 if m.index.toNat<=r.cE k then 2*(r.log.length - max (r.cE k) (m.index.toNat+m.aE.length))+2 else
 2*(min m.index.toNat r.log.length - r.cE k)+2*(r.log.length - r.cE k)+2
def wA(r:dH)(k:Nat)(m:bA):Nat :=
 if r.role=0 then 1 else if r.role=1 then 4*r.log.length+9 else
 if m.term≠r.term then 1 else
 if m.yes=true then 2*(r.log.length - max (r.cE k) m.index.toNat)+1 else
 2*(max (r.cE k) (min m.index.toNat r.log.length) - r.cE k)+2*(r.log.length - r.cE k)+3
def wL(r:dH)(m:bA):Nat:=if m.kind=2 then wE r m.to.toNat m else if m.kind=3 then wA r m.src.toNat m else if m.kind=0 then 2 else 1
def vS(m:bA):Nat:=if m.kind=2 then m.src.toNat else m.to.toNat
def wP(f:Nat->dH)(m:bA):Nat:=wL (f (vS m)) m
def lS(r:dH):Nat:=if r.role=1 then 8*r.log.length+20 else 0
def psi(P:vB):Nat:=CS (wP P.r) P.fl+(lS (P.r 0)+lS (P.r 1)+lS (P.r 2))
section
variable {r r':dH}{m x:bA}{s:List bA}
theorem a7P(r k m):2<=wE r k m:=by
 unfold wE
 repeat' split
 all_goals omega
theorem aNF(r k m):1<=wA r k m:=by
 unfold wA
 repeat' split
 all_goals omega
theorem aWG(r m):1<=wL r m:=by
 have:=a7P r m.to.toNat m;have:=aNF r m.src.toNat m;unfold wL
 repeat' split
 all_goals omega
theorem aNG(r m):wL r m<=4*r.log.length+10:=by
 unfold wL wE wA
 repeat' split
 all_goals omega
theorem wE0(h:r.role=0)(k m):wE r k m=2:=if_pos h
theorem wA0(h:r.role=0)(k m):wA r k m=1:=if_pos h
theorem wE1(h:r.role=1)(k m):wE r k m=4*r.log.length+10:=by unfold wE;rw [if_neg (by omega),if_pos h]
theorem wA1(h:r.role=1)(k m):wA r k m=4*r.log.length+9:=by unfold wA;rw [if_neg (by omega),if_pos h]
theorem aQI(h:r.role=2){m}(ht:m.term≠r.term)(k):wE r k m=2*(r.log.length - r.cE k)+4:=by unfold wE;rw [if_neg (by omega),if_neg (by omega),if_pos ht]
theorem WK(h:r.role=2){m k}(ht:m.term=r.term)(hx:m.index.toNat<=r.cE k):wE r k m=2*(r.log.length - max (r.cE k) (m.index.toNat+m.aE.length))+2:=by
 unfold wE;rw [if_neg (by omega),if_neg (by omega),if_neg (λx=>x ht),if_pos hx]
theorem a4T(h:r.role=2){m k}(ht:m.term=r.term)(hx:¬ m.index.toNat<=r.cE k):wE r k m=2*(min m.index.toNat r.log.length - r.cE k)+2*(r.log.length - r.cE k)+2:=by
 unfold wE;rw [if_neg (by omega),if_neg (by omega),if_neg (λx=>x ht),if_neg hx]
theorem aAJ(h:r.role=2){m}(ht:m.term≠r.term)(k):wA r k m=1:=by unfold wA;rw [if_neg (by omega),if_neg (by omega),if_pos ht]
theorem aIY(h:r.role=2){m}(ht:m.term=r.term)(hy:m.yes=true)(k):wA r k m=2*(r.log.length - max (r.cE k) m.index.toNat)+1:=by
 unfold wA;rw [if_neg (by omega),if_neg (by omega),if_neg (λx=>x ht),if_pos hy]
theorem aIZ(h:r.role=2){m}(ht:m.term=r.term)(hy:m.yes=false)(k):wA r k m=2*(max (r.cE k) (min m.index.toNat r.log.length) - r.cE k)+2*(r.log.length - r.cE k)+3:=by
 unfold wA;rw [if_neg (by omega),if_neg (by omega),if_neg (λx=>x ht),if_neg (by rw [hy];decide)]
theorem WL(h:r'.role=0)(r x):wL r' x<=wL r x:=by
 have h1:=a7P r x.to.toNat x;have h2:=aNF r x.src.toNat x;have e1:wE r' x.to.toNat x=2:=if_pos h;have e2:wA r' x.src.toNat x=1:=if_pos h;unfold wL;rw [e1,e2]
 repeat' split
 all_goals omega
theorem aI0(h1:r'.role=r.role)(h2:r'.term=r.term)(h3:r'.log=r.log)(h4:r'.cE=r.cE)(x):wL r' x=wL r x:=by
 unfold wL wE wA;rw [h1,h2,h3,h4]
theorem aMf(r m x):wL (b8 r m) x<=wL r x:=by
 rcases a0w r m with h|h
 .exact WL h r x
 .rw [h.2];exact Nat.le_refl _
theorem aMg(h1:r'.role=2)(h0:r.role=2)(h2:r'.term=r.term)(h3:r'.log=r.log)(h4:∀ k,r.cE k<=r'.cE k)(x):wL r' x<=wL r x:=by
 have a:=h4 x.to.toNat;have b:=h4 x.src.toNat;unfold wL wE wA;rw [h1,h0,h2,h3]
 repeat' split
 all_goals first
  | omega
  | (rename_i hh;exact absurd hh (by decide))
theorem aMh(h:r.role=1)(hl:r'.log=r.log)(x):wL r' x<=wL r x:=by
 have hi:=aNG r' x;rw [hl] at hi;have e1:wE r x.to.toNat x=4*r.log.length+10:=by unfold wE;rw [if_neg (by omega),if_pos h]
 have e2:wA r x.src.toNat x=4*r.log.length+9:=by unfold wA;rw [if_neg (by omega),if_pos h]
 have e3:x.kind=3->wL r' x<=4*r.log.length+9:=λhk=>by
  unfold wL wA;rw [if_neg (by omega),if_pos hk,hl]
  repeat' split
  all_goals omega
 by_cases k2:x.kind=2
 .have:wL r x=wE r x.to.toNat x:=by unfold wL;rw [if_pos k2]
  omega
 by_cases k3:x.kind=3
 .have:wL r x=wA r x.src.toNat x:=by unfold wL;rw [if_neg k2,if_pos k3]
  have:=e3 k3;omega
 .have e4:wL r' x=wL r x:=by unfold wL;rw [if_neg k2,if_neg k3,if_neg k2,if_neg k3]
  omega
theorem HK.others(h:HK r m r' s)(x):wL r' x<=wL r x:=by
 have ha:=vN (dQ r m);have ht:=aMf r m x;cases h with
 | aK v y _=>exact Nat.le_trans (Nat.le_of_eq (aI0 (r:=b8 r m) rfl rfl rfl rfl x)) ht
 | mute vs _=>exact Nat.le_trans (Nat.le_of_eq (aI0 (r:=b8 r m) rfl rfl rfl rfl x)) ht
 | lead _ h1 _=>exact aMh (r':=gH r m) h1 rfl x
 | old _ _=>exact Nat.le_refl _
 | deaf _ _ _=>exact Nat.le_refl _
 | gap _ _ _ _=>exact WL rfl r x
 | done _ _ _ _ _ _=>exact WL rfl r x
 | ack r2 _ _ _ _ h2 _=>exact WL h2 r x
 | back _ _ _ _=>exact Nat.le_of_eq (aI0 (r:=r) rfl rfl rfl rfl x)
 | fwd s _ h1 _ _ _ _ =>
  obtain ⟨a1,a2,a3,a4,a5,a6,a7⟩:=ha;refine aMg (by rw [a1];exact h1) h1 (by rw [(pO (dQ r m)).2.1];rfl) a2 (λk=>?_) x;rw [a4S];show r.cE k<=put r.cE m.src.toNat _ k;unfold put;split
  .rename_i e;rw [e];omega
  .exact Nat.le_refl _
theorem HK.asks(h:HK r m r' s)(h1:r'.role=1):r.role=1:=by
 have h0:r'.role≠0:=by rw [h1];decide
 have tb:=xE (r:=r) (m:=m);have ha:=pO (dQ r m);cases h with
 | aK v y _=>have e:=(tb h0).1;rw [e] at h1;exact h1
 | mute vs _=>have e:=(tb h0).1;rw [e] at h1;exact h1
 | lead _ k1 _=>exact k1
 | old _ _=>exact h1
 | deaf _ _ _=>exact h1
 | gap _ _ _ _=>exact absurd rfl h0
 | done _ _ _ _ _ _=>exact absurd rfl h0
 | ack r2 _ _ _ _ h2 _=>exact absurd h2 h0
 | back _ k1 _ _=>exact h1
 | fwd s _ k1 _ _ _ _=>rw [ha.1] at h1;exact h1
theorem HK.lS(h:HK r m r' s):Go.Proofs.YtnlkemjhgdbfkaaGreatDoor.lS r'<=Go.Proofs.YtnlkemjhgdbfkaaGreatDoor.lS r:=by
 unfold Go.Proofs.YtnlkemjhgdbfkaaGreatDoor.lS;by_cases h0:r'.role=0
 .rw [if_neg (by omega)];exact Nat.zero_le _
 .obtain ⟨a,b,c,d⟩:=h.live h0;by_cases h1:r'.role=1
  .have:r.role=1:=h.asks h1;rw [if_pos h1,if_pos this,b];exact Nat.le_refl _
  .rw [if_neg h1];exact Nat.zero_le _
end
theorem a0x{P g A}(h:eL (LS P) g A){i j}(hi:i<3)(hj:j<3)(hji:j≠i)(hr:(P.r i).role=2){m}(hm:m∈P.fl)(hk:m.kind=2)(ht:m.term=(P.r i).term):
  m.index.toNat+m.aE.length<=(P.r i).log.length/\m.aE=((P.r i).log.drop m.index.toNat).take m.aE.length/\m.prev=aU (P.r i).log m.index.toNat/\0<=m.index:=by
 obtain ⟨h1,h2,h3,h4⟩:=h.m.app m hm hk;have hl:=(h.m.lead i hi hr).2;have hl:g.LL (P.r i).term=(P.r i).log:=hl;rw [ht,hl] at h2 h3 h4;exact ⟨h2,h3,h4,h1⟩
theorem aI1{P g A}(h:eL (LS P) g A){i j}(hi:i<3)(hj:j<3)(hji:j≠i)(hr:(P.r i).role=2){m}(hm:m∈P.fl)(hk:m.kind=2)(ht:m.term=(P.r i).term)(htj:(P.r j).term<=m.term)(hx:m.index.toNat<=(P.r i).cE j):J7 (P.r j).log m=false:=by
 obtain ⟨h1,h2,h3,h4⟩:=a0x h hi hj hji hr hm hk ht;obtain ⟨k1,k2⟩:=h.aB5 hi hj hji hr (show (P.r j).term<=(P.r i).term by omega);have k1:(P.r i).cE j<=(P.r j).log.length:=k1;have k2:(P.r j).log.take ((P.r i).cE j)=(P.r i).log.take ((P.r i).cE j):=k2;have e:aU (P.r j).log m.index.toNat=aU (P.r i).log m.index.toNat:=by
  rw [<-V3 (l:=(P.r j).log) (n:=m.index.toNat) (by omega),<-V3 (l:=(P.r i).log) (n:=m.index.toNat) (by omega)];have:∀ l:List bH,l.take m.index.toNat=(l.take ((P.r i).cE j)).take m.index.toNat:=λl=>by rw [List.take_take,Nat.min_eq_left hx]
  rw [this (P.r j).log,k2,<-this]
 unfold J7;rw [e,h3];simp;omega
section
variable {P P':vB}{m:bA}{rest:List bA}{j:Nat}
theorem aB9{a}(h:a.kind=2):vS a=a.src.toNat:=if_pos h
theorem aI2{a}(h:a.kind≠2):vS a=a.to.toNat:=if_neg h
theorem aMi{a}(h:a.kind=2)(r):wL r a=wE r a.to.toNat a:=if_pos h
theorem aQJ{a}(h:a.kind=3)(r):wL r a=wA r a.src.toNat a:=by unfold wL;rw [if_neg (by omega),if_pos h]
theorem aI3(hD:Dr P)(he:P.fl=m :: rest)(ha:Arr P m rest j P'):CS (wP P'.r) (aT (P.r j) m).2.send+lS (aT (P.r j) m).1<wP P.r m+lS (P.r j):=by
 obtain ⟨g,A,hs⟩:=hD.inv;obtain ⟨hj,hto,hr,hfl,hid,hwf,hout⟩:=ha;have hm0:m∈P.fl:=by rw [he];simp
 have hpos:=aWG (P.r (vS m)) m;have hpos:1<=wP P.r m:=hpos;rcases hout with ⟨hk,hright⟩|⟨e1,e2,_⟩
 rotate_left 1
 .rw [e1,e2];show 0+_<_;omega
 have ME:=hk.lS;have hown:∀ x,P'.r j=x ↔ (aT (P.r j) m).1=x:=λx=>by rw [hr,aS]
 have hsrc:=hright.src;obtain ⟨i,hi⟩:∃ i:Nat,m.src=i:=⟨m.src.toNat,by omega⟩;have hi3:i<3:=by omega
 have hij:i≠j:=by omega
 have aQK:P'.r i=P.r i:=by rw [hr,bG _ _ hij]
 have hsi:m.src.toNat=i:=by omega
 have htj:m.to.toNat=j:=by omega
 have t1:=(oC (P.r j) m).1;have t7:=xD (P.r j) m;have aQs:=vN (dQ (P.r j) m);have cP:(P.r i).role=0\/(P.r i).role=1\/(P.r i).role=2:=(hs.m.wf.rep i hi3).1.ok.role;have hpj:P'.r j=(aT (P.r j) m).1:=by rw [hr,aS]
 generalize hR:(aT (P.r j) m).1=R at hk ME hpj ⊢;generalize hS:(aT (P.r j) m).2.send=S at hk ⊢;have one:∀ a:bA,CS (wP P'.r) [a]=wP P'.r a:=λa=>by show wP P'.r a+0=_;omega
 have UI:∀ a:bA,a.kind=3->a.src=j->a.to=i->m.kind=2->(∀ k,wA (P.r i) k a<wE (P.r i) k m\/k≠j)->CS (wP P'.r) [a]<wP P.r m:=λa a1 a2 a3 a4 a5=>by
  rw [one];unfold wP;rw [aI2 (by omega),a3,J6,aQK,aB9 a4,hsi,aQJ a1,aMi a4,a2,J6,htj];rcases a5 j with h|h
  .exact h
  .exact absurd rfl h
 cases hk with
 | aK v y k0 =>
  have e:wP P.r m=2:=by unfold wP wL;rw [if_neg (by omega),if_neg (by omega),if_pos k0]
  rw [one,e];show wL _ _+_<_;have:wL (P'.r (vS ⟨1,(b8 (P.r j) m).id,m.src,(b8 (P.r j) m).term,0,0,0,y,[]⟩)) ⟨1,(b8 (P.r j) m).id,m.src,(b8 (P.r j) m).term,0,0,0,y,[]⟩=1:=rfl;rw [this];omega
 | mute vs _=>show 0+_<_;omega
 | lead k1 h1 h2 =>
  have eW:lS (P.r j)=8*(P.r j).log.length+20:=if_pos h1;have e0:lS (gH (P.r j) m)=0:=rfl;have each:∀ k,wP P'.r (entriesOf (gH (P.r j) m) k)<=4*(P.r j).log.length+2:=λk=>by
   have es:vS (entriesOf (gH (P.r j) m) k)=j:=by
    rw [aB9 rfl];show (((P.r j).id:Nat):Int).toNat=j;rw [J6,hid]
   unfold wP;rw [es,hpj,aMi rfl];have ex:(entriesOf (gH (P.r j) m) k).index.toNat=(P.r j).log.length:=by
    show ((((P.r j).log.length+1 - 1:Nat)):Int).toNat=_;omega
   have el:(gH (P.r j) m).log.length=(P.r j).log.length:=rfl;have em:∀ k,(gH (P.r j) m).cE k=0:=λ_=>rfl;by_cases hx:(entriesOf (gH (P.r j) m) k).index.toNat<=(gH (P.r j) m).cE (entriesOf (gH (P.r j) m) k).to.toNat
   .rw [WK (show (gH (P.r j) m).role=2 from rfl) rfl hx,el];omega
   .rw [a4T (show (gH (P.r j) m).role=2 from rfl) rfl hx,el,ex,em];omega
  obtain ⟨a,b,_,_,_,_,_,eo⟩:=aB4 (r:=gH (P.r j) m) (i:=j) hid hj;have:CS (wP P'.r) (bL (gH (P.r j) m))=wP P'.r (entriesOf (gH (P.r j) m) a)+(wP P'.r (entriesOf (gH (P.r j) m) b)+0):=by unfold bL;rw [eo];rfl
  have ea:=each a;have eb:=each b;rw [this,eW,e0];omega
 | old k2 h1 =>
  have:=UI (mP (P.r j) 3 m.src) rfl (by show (((P.r j).id:Nat):Int)=j;rw [hid]) hi k2 (λk=>.inl (by
   rcases cP with r0|r1|r2
   .rw [wE0 r0,wA0 r0];omega
   .rw [wE1 r1,wA1 r1];omega
   .by_cases rt:(mP (P.r j) 3 m.src).term=(P.r i).term
    .rw [aIZ r2 rt rfl,aQI r2 (show m.term≠(P.r i).term by have rt:(P.r j).term=(P.r i).term:=rt;omega)];have ex:(mP (P.r j) 3 m.src).index.toNat=0:=rfl;rw [ex];omega
    .rw [aAJ r2 rt];exact a7P _ _ _))
  omega
 | deaf k2 h1 h2=>show 0+_<_;omega
 | gap k2 h1 h2 h3 =>
  have:=UI (HT (b8 (P.r j) m) m) rfl (by show (((b8 (P.r j) m).id:Nat):Int)=j;rw [t1,hid]) hi k2 (λk=>if hkj:k=j then .inl (by
   subst hkj;have t2:=(oC (P.r k) m).2.1;have et:(HT (b8 (P.r k) m) m).term=m.term:=by show (b8 (P.r k) m).term=_;omega
   have ex:(HT (b8 (P.r k) m) m).index=min (((P.r k).log.length:Nat):Int) (m.index - 1):=by show min (((b8 (P.r k) m).log.length:Nat):Int) (m.index - 1)=_;rw [t2]
   rcases cP with r0|r1|r2
   .rw [wE0 r0,wA0 r0];omega
   .rw [wE1 r1,wA1 r1];omega
   .by_cases rt:m.term=(P.r i).term
    .have hge:=a0x hs hi3 hj (Ne.symm hij) r2 hm0 k2 rt;have hng:¬ m.index.toNat<=(P.r i).cE k:=λhle=>by
      have:=aI1 hs hi3 hj (Ne.symm hij) r2 hm0 k2 rt h1 hle;rw [this] at h3;cases h3
     rw [aIZ r2 (et.trans rt) rfl,a4T r2 rt hng,ex];have:=hge.1;omega
    .rw [aAJ r2 (by rw [et];exact rt)];exact a7P _ _ _) else .inr hkj)
  show _+0<_;omega
 | done k2 h1 h2 h3 h4 h5=>show 0+0<_;omega
 | ack _ k2 h1 h2 h3 h4 h5 =>
  have:=UI (iC (b8 (P.r j) m) m) rfl (by show (((b8 (P.r j) m).id:Nat):Int)=j;rw [t1,hid]) hi k2 (λk=>if hkj:k=j then .inl (by
   subst hkj;have et:(iC (b8 (P.r k) m) m).term=m.term:=by show (b8 (P.r k) m).term=_;omega
   have hix:=hright.index.1;have ex:(iC (b8 (P.r k) m) m).index.toNat=m.index.toNat+m.aE.length:=by show (m.index+(m.aE.length:Int)).toNat=_;omega
   rcases cP with r0|r1|r2
   .rw [wE0 r0,wA0 r0];omega
   .rw [wE1 r1,wA1 r1];omega
   .by_cases rt:m.term=(P.r i).term
    .rw [aIY r2 (et.trans rt) rfl,ex];by_cases hx:m.index.toNat<=(P.r i).cE k
     .rw [WK r2 rt hx];omega
     .rw [a4T r2 rt hx];omega
    .rw [aAJ r2 (by rw [et];exact rt)];exact a7P _ _ _) else .inr hkj)
  have e0:lS R=0:=if_neg (by omega);omega
 | back k3 h1 h2 h3 =>
  have e0:lS (P.r j)=0:=if_neg (by omega);have e1:lS (mQ (P.r j) m)=0:=e0;have hn:=(hwf.ok.next h1 m.src.toNat);have es:vS (entriesOf (mQ (P.r j) m) m.src.toNat)=j:=by
   rw [aB9 rfl];show (((P.r j).id:Nat):Int).toNat=j;rw [J6,hid]
  rw [one,e0,e1];unfold wP;rw [es,hpj,aMi rfl,aI2 (by omega),htj,aQJ k3];have ek:(entriesOf (mQ (P.r j) m) m.src.toNat).to.toNat=m.src.toNat:=by show ((m.src.toNat:Nat):Int).toNat=_;omega
  have ex:(entriesOf (mQ (P.r j) m) m.src.toNat).index.toNat=max ((P.r j).cE m.src.toNat+1) (min ((P.r j).next m.src.toNat - 1) (m.index.toNat+1)) - 1:=by
   show (((put (P.r j).next m.src.toNat _ m.src.toNat - 1:Nat)):Int).toNat=_;rw [aS,J6]
  rw [ek,aIZ h1 h2 h3];have er:(mQ (P.r j) m).role=2:=h1;have el:(mQ (P.r j) m).log=(P.r j).log:=rfl;have em:(mQ (P.r j) m).cE=(P.r j).cE:=rfl;by_cases hx:(entriesOf (mQ (P.r j) m) m.src.toNat).index.toNat<=(mQ (P.r j) m).cE m.src.toNat
  .rw [WK er rfl hx,el,em];rw [em] at hx;omega
  .rw [a4T er rfl hx,el,em,ex];rw [em,ex] at hx;omega
 | fwd s k3 h1 h2 h3 h4 h5 =>
  obtain ⟨a1,a2,a3,a4,a5,a6,a7⟩:=aQs;have e0:lS (P.r j)=0:=if_neg (by omega);have e1:lS (aQ (dQ (P.r j) m))=0:=if_neg (by rw [a1];show ¬ (P.r j).role=1;omega);rw [e0,e1];rcases h5 with ⟨h6,rfl⟩|⟨h6,rfl⟩
  rotate_left 1
  .show 0+0<_;omega
  have eid:(aQ (dQ (P.r j) m)).id=j:=by rw [aIV];exact hid
  have es:vS (entriesOf (aQ (dQ (P.r j) m)) m.src.toNat)=j:=by
   rw [aB9 rfl];show (((aQ (dQ (P.r j) m)).id:Nat):Int).toNat=j;rw [J6,eid]
  rw [one];unfold wP;rw [es,hpj,aMi rfl,aI2 (by omega),htj,aQJ k3];have ek:(entriesOf (aQ (dQ (P.r j) m)) m.src.toNat).to.toNat=m.src.toNat:=by show ((m.src.toNat:Nat):Int).toNat=_;omega
  have aI4:(aQ (dQ (P.r j) m)).cE m.src.toNat=max ((P.r j).cE m.src.toNat) m.index.toNat:=by rw [a4S];show put _ _ _ _=_;rw [aS]
  have enx:(aQ (dQ (P.r j) m)).next m.src.toNat=max ((P.r j).cE m.src.toNat) m.index.toNat+1:=by rw [a7N];show put _ _ _ _=_;rw [aS]
  have ex:(entriesOf (aQ (dQ (P.r j) m)) m.src.toNat).index.toNat=max ((P.r j).cE m.src.toNat) m.index.toNat:=by
   show ((((aQ (dQ (P.r j) m)).next m.src.toNat - 1:Nat)):Int).toNat=_;rw [enx,J6];omega
  have erl:(entriesOf (aQ (dQ (P.r j) m)) m.src.toNat).aE.length=min 8 ((P.r j).log.length - max ((P.r j).cE m.src.toNat) m.index.toNat):=by
   show (((aQ (dQ (P.r j) m)).log.drop ((aQ (dQ (P.r j) m)).next m.src.toNat - 1)).take 8).length=_;rw [a2,enx,List.length_take,List.length_drop];show min 8 ((P.r j).log.length - (max ((P.r j).cE m.src.toNat) m.index.toNat+1 - 1))=_;omega
  rw [ek,aIY h1 h2 h3];have er:(aQ (dQ (P.r j) m)).role=2:=by rw [a1];exact h1
  have el:(aQ (dQ (P.r j) m)).log=(P.r j).log:=a2;have hx:(entriesOf (aQ (dQ (P.r j) m)) m.src.toNat).index.toNat<=(aQ (dQ (P.r j) m)).cE m.src.toNat:=by rw [ex,aI4];exact Nat.le_refl _
  rw [WK er rfl hx,el,aI4,ex,erl];omega
theorem aI5(hD:Dr P)(he:P.fl=m :: rest)(ha:Arr P m rest j P'):psi P'<psi P:=by
 have h1:=aI3 hD he ha;obtain ⟨hj,hto,hr,hfl,hid,hwf,hout⟩:=ha;have aQK:∀ x,wP P'.r x<=wP P.r x:=λx=>by
  unfold wP;by_cases e:vS x=j
  .rw [e,hr,aS];rcases hout with ⟨hk,_⟩|⟨e1,_,_⟩
   .exact hk.others x
   .rw [e1];exact Nat.le_refl _
  .rw [hr,bG _ _ e];exact Nat.le_refl _
 have h2:=aIB (l:=rest) (f:=wP P'.r) (g:=wP P.r) λx _=>aQK x;have h3:(lS (P'.r 0)+lS (P'.r 1)+lS (P'.r 2))+lS (P.r j)=(lS (P.r 0)+lS (P.r 1)+lS (P.r 2))+lS (aT (P.r j) m).1:=by
  rw [hr]
  match j,hj with
  | 0,_=>show (lS (aT (P.r 0) m).1+lS (P.r 1)+lS (P.r 2))+lS (P.r 0)=_;omega
  | 1,_=>show (lS (P.r 0)+lS (aT (P.r 1) m).1+lS (P.r 2))+lS (P.r 1)=_;omega
  | 2,_=>show (lS (P.r 0)+lS (P.r 1)+lS (aT (P.r 2) m).1)+lS (P.r 2)=_;omega
 unfold psi;rw [hfl,he,aB3];show _<(wP P.r m+CS (wP P.r) rest)+_;omega
theorem a0y:∀ (n k:Nat) {P:vB},Dr P->psi P<=n->n<=k->(mK k P).1.fl=[]
 | n,k,P,h,hn,hk=>by
  cases he:P.fl with
  | nil=>rw [CV he];exact he
  | cons m rest =>
   obtain ⟨h1,j,ha⟩:=h.arr he;have hlt:=aI5 h he ha;cases n with
   | zero=>omega
   | succ n =>
    cases k with
    | zero=>omega
    | succ k =>
     rw [jQ he];exact a0y n k h1 (by omega) (by omega)
theorem aQL{N}(h:∀ i,i<3->(P.r i).log.length<=N)(hm:∀ m∈P.fl,(0<=m.src/\m.src<=2)/\(0<=m.to/\m.to<=2)):psi P<=P.fl.length*(4*N+10)+rU P*(8*N+20):=by
 have key:∀ l:List bA,(∀ m∈l,(0<=m.src/\m.src<=2)/\(0<=m.to/\m.to<=2))->CS (wP P.r) l<=l.length*(4*N+10):=by
  intro l
  induction l with
  | nil=>intro _;simp [CS]
  | cons m l ih =>
   intro hl;have h1:=ih λx hx=>hl x (by simp [hx]);have h2:=aNG (P.r (vS m)) m;have h3:(P.r (vS m)).log.length<=N:=h _ (by
    have:=hl m (by simp);unfold vS;split<;>omega)
   show wP P.r m+CS (wP P.r) l<=_;unfold wP at *;rw [List.length_cons,Nat.add_mul];omega
 have h0:=key P.fl hm;have ask:∀ i,i<3->lS (P.r i)<=gK (P.r i)*(8*N+20):=λi hi=>by
  have:=h i hi;unfold lS gK;split
  .omega
  .omega
 have a0:=ask 0 (by decide);have a1:=ask 1 (by decide);have a2:=ask 2 (by decide);unfold psi rU;rw [Nat.add_mul,Nat.add_mul];omega
end
def Rel(i:Nat)(T:Int)(k:Nat)(m:bA):Prop :=
 (m.kind=2/\m.src=i/\m.term=T/\m.fY k)\/(m.kind=3/\m.src=k/\T<=m.term/\m.fY i)
def aAK(r:dH)(k:Nat):Prop:=r.cE k=r.log.length/\r.next k=r.log.length+1
structure LI(i:Nat)(T:Int)(P:vB):Prop where
 tm:(P.r i).term=T
 ro:(P.r i).role≠0
 gl:(P.r i).role=2->∀ k,k<3->k≠i->aAK (P.r i) k\/∃ m∈P.fl,Rel i T k m
theorem v8{i k T m rest send S S'}(h:S\/∃ x∈m :: rest,Rel i T k x)(hn:¬ Rel i T k m)(hs:S->S'):S'\/∃ x∈rest++send,Rel i T k x:=by
 rcases h with h|⟨x,hx,hr⟩
 .exact .inl (hs h)
 .rcases List.mem_cons.1 hx with rfl|hx
  .exact absurd hr hn
  .exact .inr ⟨x,List.mem_append_left _ hx,hr⟩
theorem WM{i k r}(hok:r.Ok)(hid:r.id=i)(hi:i<3)(hk:k<3)(hki:k≠i)(hr:r.role=2)(ht:1<=r.term):Rel i r.term k (entriesOf r k):=by
 have hn:=hok.next hr k;have hc:=hok.aD;have hl:=hok.len;have:=B6 hok ht hk (by rw [hid];omega) hn.1 hn.2.1 (c:=r.aD) (by omega);exact .inl ⟨rfl,by show ((r.id:Nat):Int)=i;rw [hid],rfl,this⟩
theorem LI.step{i T P P' m rest j}(hi:i<3)(hD:Dr P)(h:LI i T P)(he:P.fl=m :: rest)(ha:Arr P m rest j P'):(P'.r i).role=0\/LI i T P':=by
 obtain ⟨g,A,hs⟩:=hD.inv;obtain ⟨hj,hto,hr,hfl,hid,hwf,hout⟩:=ha;have hm0:m∈P.fl:=by rw [he];simp
 have hgl:=h.gl;rw [he] at hgl;by_cases hji:j=i
 .subst hji;have hpj:P'.r j=(aT (P.r j) m).1:=by rw [hr,aS]
  rcases hout with ⟨hk,hright⟩|⟨e1,e2,hnr⟩
  rotate_left 1
  .rw [e1] at hpj;rw [e2,List.append_nil] at hfl;refine .inr ⟨by rw [hpj];exact h.tm,by rw [hpj];exact h.ro,λh2 k hk hkj=>?_⟩;rw [hpj] at h2 ⊢;rw [hfl];have:=v8 (send:=[]) (hgl h2 k hk hkj) (λMI=>by
    rcases MI with ⟨_,_,_,q⟩|⟨_,_,_,q⟩
    .have:=q.to;omega
    .exact hnr q) (λx=>x)
   rwa [List.append_nil] at this
  have hwR:(aT (P.r j) m).1.Wf:=(lQ (m:=m) hwf).1;by_cases h0:(aT (P.r j) m).1.role=0
  .exact .inl (by rw [hpj];exact h0)
  obtain ⟨l1,l2,l3,l4⟩:=hk.live h0;refine .inr ⟨by rw [hpj,l1];exact h.tm,by rw [hpj];exact h0,λh2 k J0 hkj=>?_⟩;rw [hpj] at h2 ⊢;rw [hfl];have htm:=h.tm;have aMk:∀ {k:Nat},k≠j->¬ m.fY k:=fun {k} hne q=>by have:=q.to;omega
  have tb:=xE (r:=P.r j) (m:=m);generalize hR:(aT (P.r j) m).1=R at hk h0 h2 l1 l2 l3 hwR ⊢;generalize hS:(aT (P.r j) m).2.send=S at hk ⊢;have aQN:m.kind≠3->¬ Rel j T k m:=λh3 MI=>by
   rcases MI with ⟨_,_,_,q⟩|⟨q,_⟩
   .exact aMk hkj q
   .exact h3 q
  cases hk with
  | aK v y k0 =>
   have e:=(tb h0).1;rw [e] at h2 ⊢;exact v8 (hgl h2 k J0 hkj) (aQN (by omega)) (λx=>x)
  | mute vs hc =>
   have e:=tb h0;rw [e.1] at h2 hc ⊢;refine v8 (hgl h2 k J0 hkj) (λMI=>?_) (λx=>x);rcases MI with ⟨_,_,_,q⟩|⟨q3,qs,qt,q⟩
   .exact aMk hkj q
   .have h2:(P.r j).role=2:=h2;rcases hc with hc|⟨_,hc|hc|⟨hy,hc⟩⟩
    .omega
    .exact hc h2
    .have:=e.2;omega
    .obtain ⟨f,hf,e1,e2⟩:=hs.ik m hm0 q3 hy;have e3:=hs.a1 m.term f;have e4:=(hs.m.lead j hj h2).2;have e4:g.LL (P.r j).term=(P.r j).log:=e4;have e5:m.term=(P.r j).term:=by have:=e.2;omega
     rw [e5,e4] at e3;rw [e5] at e2;omega
  | lead k1 h1 h3 =>
   have:=WM (i:=j) (k:=k) hwR.ok hid hj J0 hkj h2 (hwR.one h0);have et:(gH (P.r j) m).term=T:=htm;rw [et] at this;exact .inr ⟨_,List.mem_append_right _ ((WH (r:=gH (P.r j) m) (i:=j) hid hj).2 ⟨k,J0,hkj,rfl⟩),this⟩
  | old k2 _=>exact v8 (hgl h2 k J0 hkj) (aQN (by omega)) (λx=>x)
  | deaf k2 _ _=>exact v8 (hgl h2 k J0 hkj) (aQN (by omega)) (λx=>x)
  | gap _ _ _ _=>exact absurd rfl h0
  | done _ _ _ _ _ _=>exact absurd rfl h0
  | ack r2 _ _ _ _ hz _=>exact absurd hz h0
  | back k3 h1 ht hy =>
   by_cases hks:k=m.src.toNat
   .have:=WM (i:=j) (k:=k) hwR.ok hid hj J0 hkj h2 (hwR.one h0);have et:(mQ (P.r j) m).term=T:=htm;rw [et] at this;rw [<-hks];exact .inr ⟨_,List.mem_append_right _ (List.mem_singleton.2 rfl),this⟩
   .refine v8 (hgl h1 k J0 hkj) (λMI=>?_) (λx=>?_)
    .rcases MI with ⟨_,_,_,q⟩|⟨_,qs,_,_⟩
     .exact aMk hkj q
     .omega
    .refine ⟨x.1,?_⟩;show put (P.r j).next _ _ k=_
     rw [bG _ _ hks];exact x.2
  | fwd s k3 h1 ht hy hix hsd =>
   have aI4:=a4S (dQ (P.r j) m);have enx:=a7N (dQ (P.r j) m);have el:=(pO (dQ (P.r j) m)).2.2.2;by_cases hks:k=m.src.toNat
   .rcases hsd with ⟨h6,rfl⟩|⟨h6,rfl⟩
    .have:=WM (i:=j) (k:=k) hwR.ok (by rw [l3];exact hid) hj J0 hkj h2 (hwR.one h0);rw [l1,htm] at this;rw [<-hks];exact .inr ⟨_,List.mem_append_right _ (List.mem_singleton.2 rfl),this⟩
    .left
     have aQr:=(hwf.ok.next h1 k).2.2;unfold aAK;rw [aI4,enx,el];show put (P.r j).cE _ _ k=(P.r j).log.length/\put (P.r j).next _ _ k=(P.r j).log.length+1
     rw [<-hks,aS,aS];rw [<-hks] at h6;omega
   .refine v8 (hgl h1 k J0 hkj) (λMI=>?_) (λx=>?_)
    .rcases MI with ⟨_,_,_,q⟩|⟨_,qs,_,_⟩
     .exact aMk hkj q
     .omega
    .unfold aAK at x ⊢;rw [aI4,enx,el];show put (P.r j).cE _ _ k=(P.r j).log.length/\put (P.r j).next _ _ k=(P.r j).log.length+1
     rw [bG _ _ hks,bG _ _ hks];exact x
 .have hpi:P'.r i=P.r i:=by rw [hr,bG _ _ (Ne.symm hji)]
  refine .inr ⟨by rw [hpi];exact h.tm,by rw [hpi];exact h.ro,λh2 k J0 hki=>?_⟩;rw [hpi] at h2 ⊢;rw [hfl];by_cases MI:Rel i T k m
  rotate_left 1
  .exact v8 (hgl h2 k J0 hki) MI (λx=>x)
  right
  rcases MI with ⟨k2,hsrc,htm,q⟩|⟨_,_,_,q⟩
  rotate_left 1
  .have:=q.to;omega
  have hkj:k=j:=by have:=q.to;omega
  subst hkj;rcases hout with ⟨hk,hright⟩|⟨_,_,hnr⟩
  rotate_left 1
  .exact absurd q hnr
  have htT:=h.tm;have t1:=(oC (P.r k) m).1;have t2:=(oC (P.r k) m).2.1;have t7:=xD (P.r k) m;have h1t:1<=T:=by rw [<-htm];exact q.term.1
  have hle:(P.r k).term<=m.term->(P.r k).term<=(P.r i).term:=λx=>by omega
  have hMt:=hwf.ok.iD;have hM:=q.term.2;have hix:=q.index;have hfit:=q.fits;have hge:=a0x hs hi J0 (Ne.symm (λe=>hki e.symm)) h2 hm0 k2 (by omega);generalize hS:(aT (P.r k) m).2.send=S at hk ⊢;generalize hR:(aT (P.r k) m).1=R at hk;have one:∀ a:bA,Rel i T k a->∃ x∈rest++[a],Rel i T k x:=λa x=>⟨a,List.mem_append_right _ (List.mem_singleton.2 rfl),x⟩;cases hk with
  | aK v y k0=>omega
  | mute vs hc=>omega
  | lead k1 _ _=>omega
  | back k3 _ _ _=>omega
  | fwd s k3 _ _ _ _ _=>omega
  | old _ h1 =>
   refine one _ (.inr ⟨rfl,by show (((P.r k).id:Nat):Int)=k;rw [hid],by show T<=(P.r k).term;omega,?_⟩);unfold mP;rw [hid,hsrc];exact tZ (id:=k) (to:=i) (kind:=3) J0 hi hki (by decide) (by omega) hMt (by decide) (by decide) false
  | deaf _ h1 h3 =>
   exfalso;have a1:=(hs.m.lead k J0 h1).1;have a2:=(hs.m.lead i hi h2).1;have a1:g.ld (P.r k).term=k:=a1;have a2:g.ld (P.r i).term=i:=a2;rw [show (P.r k).term=(P.r i).term by omega,a2] at a1;omega
  | gap _ h1 h3 h4 =>
   have b6I:1<=m.index:=Decidable.byContradiction λhn=>by
    have hz:m.index=0:=by omega
    have hp:=q.zero hz;unfold J7 at h4;rw [hz,hp] at h4;simp only [Bool.or_eq_true,decide_eq_true_eq] at h4;rcases h4 with h4|h4
    .omega
    .exact h4 rfl
   refine one _ (.inr ⟨rfl,by show (((b8 (P.r k) m).id:Nat):Int)=k;rw [t1,hid],by show T<=(b8 (P.r k) m).term;omega,?_⟩);unfold HT;rw [t1,hid,hsrc];exact tZ (id:=k) (to:=i) (kind:=3) J0 hi hki (by decide) (by omega) (by omega) (by omega) (by omega) false
  | done _ h1 h3 h4 h5 h6 =>
   exfalso;exact hs.aIC hi J0 h2 (hle h1) hge.2.1 h5 h6
  | ack r2 _ h1 h3 h4 h5 h6 =>
   refine one _ (.inr ⟨rfl,by show (((b8 (P.r k) m).id:Nat):Int)=k;rw [t1,hid],by show T<=(b8 (P.r k) m).term;omega,?_⟩);unfold iC;rw [t1,hid,hsrc];exact tZ (id:=k) (to:=i) (kind:=3) J0 hi hki (by decide) (by omega) (by omega) (by omega) (by omega) true
structure b10(i a b:Nat):Prop where
 lt:i<3/\a<3/\b<3
 ne:a≠i/\b≠i/\a≠b
 all:∀ k,k<3->k=i\/k=a\/k=b
section
variable {i a b:Nat}{T:Int}{P P':vB}{m:bA}{rest:List bA}{j:Nat}
theorem Arr.aWJ(ha:Arr P m rest j P'):∀ x∈(aT (P.r j) m).2.send,x.src=j/\x.term=(P'.r j).term:=λx hx=>by
 have hg:=(a0l ha.wf m).1 x hx;refine ⟨by rw [hg.src,ha.id],?_⟩;rw [ha.r,aS];rcases ha.out with ⟨hk,_⟩|⟨_,e2,_⟩
 .exact hk.sent x hx
 .rw [e2] at hx;cases hx
end
theorem aMl{i}(hi:i<3):∃ a b,b10 i a b/\aL i=[a,b]:=by
 have h:i=0\/i=1\/i=2:=by omega
 rcases h with rfl|rfl|rfl
 .exact ⟨1,2,⟨by decide,by decide,λk hk=>by omega⟩,rfl⟩
 .exact ⟨0,2,⟨by decide,by decide,λk hk=>by omega⟩,rfl⟩
 .exact ⟨0,1,⟨by decide,by decide,λk hk=>by omega⟩,rfl⟩
theorem Dr.call{P}(h:Dr P){i}(hi:i<3){x:dH × kR}(hx:x.1.Wf)(hf:Fits (P.r i) x.1 x.2)(he:∀ {g:Gh} {A:Int->Nat->Nat},eL (LS P) g A->∃ g' n,v7 (LS P) g A i x.1 x.2.send g' n)(hg:∀ a∈x.2.send,a.src=i/\(0<=a.to/\a.to<=2)/\AF i a)(h2:x.2.send.length<=2)(hc:P.fl.length+rU P+x.2.send.length+gK x.1<=298):Dr (doP P i x)/\(doP P i x).r=put P.r i x.1/\(doP P i x).fl=P.fl++x.2.send:=by
 obtain ⟨g,A,hs⟩:=h.inv;have hw:=hs.m.wf;obtain ⟨d1,d2,d3⟩:=V7 P i x;have hall:iN 0 i P.fl x.2.send=P.fl++x.2.send:=TO (λa ha=>a3b hi (hg a ha).2.2 (hg a ha).2.1) (by omega);rw [h.sp,hall] at d2;refine ⟨⟨?_,d3.trans h.sp,λa ha=>?_,?_⟩,d1,d2⟩
 .have hC:=a2T (C:=LS P) hw hi rfl (x:=x) hf (by show P.fl.length+_<=300;omega);obtain ⟨g',A',h',_⟩:=hs.goes hi hx hf (he hs);rw [hC,a4R] at h';have e:LS { P with r:=put P.r i x.1,fl:=P.fl++x.2.send }=LS (doP P i x):=aAH d1.symm d2.symm;have h':eL (LS { P with r:=put P.r i x.1,fl:=P.fl++x.2.send }) g' A':=h';rw [e] at h';exact ⟨g',A',h'⟩
 .rw [d2] at ha;rcases List.mem_append.1 ha with ha|ha
  .exact h.ends a ha
  .exact ⟨by rw [(hg a ha).1];omega,(hg a ha).2.1⟩
 .unfold rU at hc ⊢;rw [d2,d1,List.length_append];have hp:=a7O P.r hi x.1;omega
theorem Dr.tick{P}(h:Dr P){i}(hi:i<3)(hc:P.fl.length+rU P+3<=298):Dr (eE P i)/\(eE P i).r=put P.r i (cV (P.r i)).1/\(eE P i).fl=P.fl++(cV (P.r i)).2.send:=by
 obtain ⟨g,A,hs⟩:=h.inv;obtain ⟨hw,hid⟩:=hs.m.wf.rep i hi;have hw:(P.r i).Wf:=hw;have hid:(P.r i).id=i:=hid;have ht:=WA hw;have hg:=a4F hw.ok;have hn:=aMb (P.r i);rw [hid] at hg hn;have h2:=(aAd (P.r i)).send;refine h.call hi ht.1 ht.2 (λhs=>aIp hs hi) (λa ha=>⟨(hg a ha).src,(hg a ha).to,hn a ha⟩) h2 ?_;have:gK (cV (P.r i)).1<=1:=by unfold gK;split<;>omega
 omega
theorem Arr.cl{P m rest j}(hD:Dr P)(he:P.fl=m :: rest)(ha:Arr P m rest j (dV P)):LS (dV P)=wZ (LS P) 0 false:=by
 obtain ⟨g,A,hs⟩:=hD.inv;have hc:=hD.cnt;rw [he,List.length_cons] at hc;rw [V2 hs.m.wf (λk _=>rfl) (C:=LS P) he ha.hj ha.to (by omega),a4R];exact aAH ha.r ha.fl
theorem dA.a4U{N D B G P}(h:dA N B D G P){i}(hi:i<3)(hr:(P.r i).role=2)(ht:∀ k,k<3->(P.r k).term<=(P.r i).term)(hc:(P.r i).aD=(P.r i).log.length):P.eS=(P.r i).log.map bH.data:=by
 obtain ⟨g,A,hs,⟨K,t,e,hK⟩,WE⟩:=h.sure;have hci:=WE i hi;rw [hc] at hci;have hl:P.eS.length=K.length:=by rw [e,List.length_map]
 rcases hK with h0|⟨t',p,hch,hle,hn,hk⟩
 .have hz:(P.r i).log.length=0:=by omega
  rw [e,List.eq_nil_of_length_eq_zero h0,List.eq_nil_of_length_eq_zero hz]
 .obtain ⟨hv,a,b,ha,hb,hab,pa,pb⟩:=hch;have hp:1<=p:=hv.1;have h1:=hs.a2 t' a ha (by omega);have h1:t'<=(P.r a).term:=h1;have h2:=ht a ha;have xC:=(hs.m.lead i hi hr);have hsu:jP g A (P.r i).term K K.length:=.inr ⟨t',p,⟨hv,a,b,ha,hb,hab,pa,pb⟩,by omega,hn,hk⟩;have h3:=hs.a7E hsu (Int.le_refl _) (by have:g.ld (P.r i).term=i:=xC.1;rw [this];omega);have e2:g.LL (P.r i).term=(P.r i).log:=xC.2;rw [e2,List.take_length] at h3
  have hlen:(P.r i).log.length=K.length:=by omega
  rw [<-hlen,List.take_length] at h3;rw [e,h3.2]
def CM(i:Nat)(P:vB):Prop:=aU (P.r i).log (P.r i).log.length=(P.r i).term->(∃ k,k<3/\k≠i/\(P.r i).cE k=(P.r i).log.length)->(P.r i).aD=(P.r i).log.length
theorem aMm{r n}(h:∀ k,r.cE k<=n):lI r<=n:=by
 unfold lI aL;have h0:=h 0;have h1:=h 1;have h2:=h 2;split
 .show max (max 0 (r.cE 1)) (r.cE 2)<=n;omega
 split
 .show max (max 0 (r.cE 0)) (r.cE 2)<=n;omega
 .show max (max 0 (r.cE 0)) (r.cE 1)<=n;omega
structure J8(i:Nat)(T:Int)(L:List bH)(P:vB):Prop where
 li:LI i T P
 ro:(P.r i).role=2
 log:(P.r i).log=L
 tm:∀ k,k<3->(P.r k).term<=T
 ms:∀ m∈P.fl,m.term<=T
 cm:CM i P
section
variable {i:Nat}{T:Int}{L:List bH}{P P':vB}{m:bA}{rest:List bA}{j:Nat}
theorem CM.step(hi:i<3)(hw':(P'.r i).Ok)(qY:1<=(P.r i).term)(h:CM i P)(h2:(P.r i).role=2)(ht:m.term<=(P.r i).term)(ha:Arr P m rest j P'):CM i P':=by
 obtain ⟨hj,hto,hr,hfl,hid,hwf,hout⟩:=ha;by_cases hji:j=i
 rotate_left 1
 .have hpi:P'.r i=P.r i:=by rw [hr,bG _ _ (Ne.symm hji)]
  unfold CM;rw [hpi];exact h
 subst hji;have hpj:P'.r j=(aT (P.r j) m).1:=by rw [hr,aS]
 rcases hout with ⟨hk,hright⟩|⟨e1,e2,hnr⟩
 rotate_left 1
 .unfold CM;rw [hpj,e1];exact h
 have e:b8 (P.r j) m=P.r j:=x5 (by omega);unfold CM at h ⊢;rw [hpj] at hw' ⊢;generalize hR:(aT (P.r j) m).1=R at hk hw' ⊢;generalize hS:(aT (P.r j) m).2.send=S at hk;cases hk with
 | aK v y k0=>rw [e];exact h
 | mute vs hc=>rw [e];exact h
 | lead k1 h1 h3=>omega
 | old k2 _=>exact h
 | deaf k2 _ _=>exact h
 | gap _ _ h3 _=>rw [e] at h3;exact absurd h2 h3
 | done _ _ h3 _ _ _=>rw [e] at h3;exact absurd h2 h3
 | ack r2 _ _ h3 _ _ _=>rw [e] at h3;exact absurd h2 h3
 | back k3 h1 ht hy=>exact h
 | fwd s k3 h1 ht hy hix hsd =>
  obtain ⟨a1,a2,a3,a4,a5,a6,a7⟩:=vN (dQ (P.r j) m);intro hT hex;obtain ⟨k,J0,hkj,hmk⟩:=hex;rw [a2,a6] at hT;rw [a2,a4] at hmk;rw [a2];have hge:=aL0 (r:=dQ (P.r j) m) (by show (P.r j).id<3;rw [hid];exact hj) J0 (by show k≠(P.r j).id;rw [hid];exact hkj);have hle:lI (dQ (P.r j) m)<=(dQ (P.r j) m).log.length:=aMm λk=>by
   have:=(hwf.ok.next h1 k).2.2;show put (P.r j).cE _ _ k<=(P.r j).log.length;unfold put;split
   .rename_i e;rw [e] at this;omega
   .exact this
  have uK:=hw'.aD;rw [a2] at uK;have hm:lI (dQ (P.r j) m)=(dQ (P.r j) m).log.length:=by omega
  have WE:=hwf.ok.aD;have WE:(dQ (P.r j) m).aD<=(dQ (P.r j) m).log.length:=WE;unfold aQ;split
  .exact hm
  .rename_i hn;rw [hm,hT] at hn;simp at hn;omega
theorem J8.step(hi:i<3)(hD:Dr P)(h:J8 i T L P)(he:P.fl=m :: rest)(ha:Arr P m rest j P')(hD':Dr P'):J8 i T L P':=by
 have hm:=h.ms m (by rw [he];simp);have htm:=h.li.tm;have hro:(P'.r i).role=2:=by
  rw [ha.r];by_cases e:i=j
  .subst e;rw [aS];rcases ha.out with ⟨hk,_⟩|⟨e1,_,_⟩
   .exact hk.led h.ro (by omega)
   .rw [e1];exact h.ro
  .rw [bG _ _ e];exact h.ro
 have hli:LI i T P':=by
  rcases h.li.step hi hD he ha with h0|h1
  .omega
  .exact h1
 obtain ⟨g,A,hs⟩:=hD.inv;obtain ⟨g',A',hs'⟩:=hD'.inv;have hj:(P'.r j).term<=T:=by
  rw [ha.r,aS];rcases ha.out with ⟨hk,_⟩|⟨e1,_,_⟩
  .have:=hk.term.2;have:=h.tm j ha.hj;omega
  .rw [e1];exact h.tm j ha.hj
 refine ⟨hli,hro,?_,λk hk=>?_,λx hx=>?_,h.cm.step hi (hs'.m.wf.rep i hi).1.ok ((hs.m.wf.rep i hi).1.one (by show (P.r i).role≠0;rw [h.ro];decide)) h.ro (by omega) ha⟩
 .rw [ha.r];by_cases e:i=j
  .subst e;rw [aS];rcases ha.out with ⟨hk,_⟩|⟨e1,_,_⟩
   .have h0:(aT (P.r i) m).1.role≠0:=by
     rw [ha.r,aS] at hro;rw [hro];decide
    rw [(hk.live h0).2.1];exact h.log
   .rw [e1];exact h.log
  .rw [bG _ _ e];exact h.log
 .by_cases e:k=j
  .rw [e];exact hj
  .rw [ha.r,bG _ _ e];exact h.tm k hk
 .rw [ha.fl] at hx;rcases List.mem_append.1 hx with hx|hx
  .exact h.ms x (by rw [he];simp [hx])
  .rw [(ha.aWJ x hx).2];exact hj
theorem aCa{r}(hok:r.Ok)(hid:r.id=i)(hi:i<3)(hr:r.role=2)(ht:1<=r.term){fl}:∀ k,k<3->k≠i->∃ x∈fl++bL r,Rel i r.term k x:=λk hk hki =>
 ⟨_,List.mem_append_right _ ((WH hid hi).2 ⟨k,hk,hki,rfl⟩),WM hok hid hi hk hki hr ht⟩
theorem Dr.rS(hD:Dr P)(hi:i<3)(hr:(P.r i).role=2)(ht:∀ k,k<3->(P.r k).term<=(P.r i).term)(hm:∀ m∈P.fl,m.term<=(P.r i).term){data}(hd:data.size<=2000)(hl:(P.r i).log.length<4000)(hc:P.fl.length+rU P+2<=298):
  Dr (gD P i data)/\J8 i (P.r i).term ((P.r i).log++[⟨(P.r i).term,data⟩]) (gD P i data)/\(aF (P.r i) data).2.1=(((P.r i).log.length+1:Nat):Int)/\(aF (P.r i) data).2.2.1=0/\(gD P i data).fl.length=P.fl.length+2/\∀ k,k≠i->(gD P i data).r k=P.r k:=by
 obtain ⟨g,A,hs⟩:=hD.inv;obtain ⟨hw,hid⟩:=hs.m.wf.rep i hi;have hw:(P.r i).Wf:=hw;have hid:(P.r i).id=i:=hid;have hpw:=qA hw data;have hg:=a4G hw data;have hn:=aMc (P.r i) data;rw [hid] at hg hn;have ep:=rL (r:=P.r i) (data:=data) (by simpa using hr) (by omega) (by omega);have WY:gK (P.r i)=0:=if_neg (by omega);have h2:(aF (P.r i) data).2.2.2.send.length=2:=by
  rw [ep];show (bL _).length=2;unfold bL;rw [List.length_map];unfold aL;split<;>(try split)<;>rfl
 have hrl:(aF (P.r i) data).1=iU (P.r i) data:=by rw [ep]
 obtain ⟨d0,d1,d2⟩:=hD.call (x:=((aF (P.r i) data).1,(aF (P.r i) data).2.2.2)) hi hpw.1 hpw.2 (λhs=>aIq hs hi data) (λa ha=>⟨(hg a ha).src,(hg a ha).to,hn a ha⟩) (by show (aF (P.r i) data).2.2.2.send.length<=2;omega) (by
  show P.fl.length+rU P+(aF (P.r i) data).2.2.2.send.length+gK (aF (P.r i) data).1<=298;rw [h2,hrl,show gK (iU (P.r i) data)=gK (P.r i) from rfl,WY];omega)
 have d1:(gD P i data).r=put P.r i (aF (P.r i) data).1:=d1;have d2:(gD P i data).fl=P.fl++(aF (P.r i) data).2.2.2.send:=d2;have hri:(gD P i data).r i=iU (P.r i) data:=by rw [d1,aS,hrl]
 have hsd:(aF (P.r i) data).2.2.2.send=bL (iU (P.r i) data):=by rw [ep]
 have hok:(iU (P.r i) data).Ok:=by rw [<-hrl];exact hpw.1.ok
 have h1t:=hw.one (by rw [hr];decide);refine ⟨d0,⟨⟨by rw [hri];rfl,by rw [hri];show (P.r i).role≠0;omega,λ_ k hk hki=>.inr ?_⟩,by rw [hri];exact hr,by rw [hri];rfl,λk hk=>?_,λx hx=>?_,λhT hex=>?_⟩,by rw [ep],by rw [ep],by rw [d2,List.length_append,h2],λk hk=>by rw [d1,bG _ _ hk]⟩
 .rw [d2,hsd];exact aCa hok hid hi hr h1t k hk hki
 .by_cases e:k=i
  .subst e;rw [hri];exact Int.le_refl _
  .rw [d1,bG _ _ e];exact ht k hk
 .rw [d2,hsd] at hx;rcases List.mem_append.1 hx with hx|hx
  .exact hm x hx
  .obtain ⟨k,_,_,rfl⟩:=(WH (r:=iU (P.r i) data) hid hi).1 hx;exact Int.le_refl _
 .exfalso;obtain ⟨k,hk,hki,he⟩:=hex;rw [hri] at he;have:=(hw.ok.next hr k).2.2;have he:(P.r i).cE k=((P.r i).log++[_]).length:=he;rw [List.length_append,List.length_singleton] at he;omega
theorem Dr.aEt(hi:i<3)(hD:Dr P)(hro:(P.r i).role=2)(nQ:(P.r i).log=L)(htm:(P.r i).term=T)(aQO:∀ k,k<3->(P.r k).term<=T)(hms:∀ m∈P.fl,m.term<=T)(hcm:CM i P)(hc:P.fl.length+rU P+3<=298):Dr (eE P i)/\J8 i T L (eE P i)/\(eE P i).fl.length=P.fl.length+2/\(eE P i).r=P.r:=by
 obtain ⟨d0,d1,d2⟩:=hD.tick hi hc;obtain ⟨g,A,hs⟩:=hD.inv;obtain ⟨hw,hid⟩:=hs.m.wf.rep i hi;have hw:(P.r i).Wf:=hw;have hid:(P.r i).id=i:=hid;rw [j6 hro] at d1 d2;have d2:(eE P i).fl=P.fl++bL (P.r i):=d2;have d1:(eE P i).r=P.r:=by rw [d1];exact aH7 _ _
 have h1t:=hw.one (by rw [hro];decide);refine ⟨d0,⟨⟨by rw [d1];exact htm,by rw [d1,hro];decide,λ_ k hk hki=>.inr ?_⟩,by rw [d1];exact hro,by rw [d1];exact nQ,λk hk=>by rw [d1];exact aQO k hk,λx hx=>?_,by unfold CM;rw [d1];exact hcm⟩,?_,d1⟩
 .rw [d2,<-htm];exact aCa hw.ok hid hi hro h1t k hk hki
 .rw [d2] at hx;rcases List.mem_append.1 hx with hx|hx
  .exact hms x hx
  .obtain ⟨k,_,_,rfl⟩:=(WH hid hi).1 hx;show (P.r i).term<=T;omega
 .rw [d2,List.length_append]
  congr 1
  unfold bL;rw [List.length_map];unfold aL;split<;>(try split)<;>rfl
theorem Dr.V8{N}(hi:i<3)(hD:Dr P)(hro:(P.r i).role=2)(nQ:(P.r i).log=L)(htm:(P.r i).term=T)(aQO:∀ k,k<3->(P.r k).term<=T)(hms:∀ m∈P.fl,m.term<=T)(hcm:CM i P)(hT:aU L L.length=T)(hc:P.fl.length+rU P+3<=298)(hN:∀ k,k<3->(P.r k).log.length<=N){most}(hm:(P.fl.length+2)*(4*N+10)+rU P*(8*N+20)<=most.toNat):
  Dr (gA P i most).1/\J8 i T L (gA P i most).1/\(gA P i most).1.fl=[]/\((gA P i most).1.r i).aD=L.length/\(∀ k,k<3->k≠i->aAK ((gA P i most).1.r i) k)/\∀ k,k<3->L.length<=((gA P i most).1.r k).log.length/\((gA P i most).1.r k).log.take L.length=L:=by
 obtain ⟨d0,d1,d2,d3⟩:=hD.aEt hi hro nQ htm aQO hms hcm hc;have hps:=aQL (P:=eE P i) (N:=N) (by rw [d3];exact hN) d0.ends;have ea:rU (eE P i)=rU P:=by unfold rU;rw [d3]
 rw [d2,ea] at hps;have hfl:=a0y _ most.toNat d0 (Nat.le_refl _) (Nat.le_trans hps hm);obtain ⟨k1,k2⟩:=EH (Q:=J8 i T L) (λP m rest j hD q he ha hD'=>q.step hi hD he ha hD') most.toNat d0 d1;have k1:Dr (gA P i most).1:=k1;have k2:J8 i T L (gA P i most).1:=k2;have hfl:(gA P i most).1.fl=[]:=hfl;generalize (gA P i most).1=Q at k1 k2 hfl;have hst:∀ k,k<3->k≠i->aAK (Q.r i) k:=λk hk hki=>by
  rcases k2.li.gl k2.ro k hk hki with h|⟨x,hx,_⟩
  .exact h
  .rw [hfl] at hx;cases hx
 obtain ⟨a,b,hTr,_⟩:=aMl hi;obtain ⟨g,A,hs⟩:=k1.inv;refine ⟨k1,k2,hfl,?_,hst,λk hk=>?_⟩
 .have:=k2.cm (by rw [k2.log,k2.li.tm,hT]) ⟨a,hTr.lt.2.1,hTr.ne.1,(hst a hTr.lt.2.1 hTr.ne.1).1⟩;rw [this,k2.log]
 .by_cases e:k=i
  .subst e;rw [k2.log];exact ⟨Nat.le_refl _,List.take_length⟩
  .have htm:=k2.li.tm;have h1:=hs.aB5 hi hk e k2.ro (show (Q.r k).term<=(Q.r i).term by have:=k2.tm k hk;omega);have h1:(Q.r i).cE k<=(Q.r k).log.length/\(Q.r k).log.take ((Q.r i).cE k)=(Q.r i).log.take ((Q.r i).cE k):=h1;rw [(hst k hk e).1,k2.log,List.take_length] at h1;exact h1
theorem J8.settle{N}(hi:i<3)(hD:Dr P)(h:J8 i T L P)(hT:aU L L.length=T)(hc:P.fl.length+rU P+3<=298)(hN:∀ k,k<3->(P.r k).log.length<=N){most}(hm:(P.fl.length+2)*(4*N+10)+rU P*(8*N+20)<=most.toNat):
  Dr (gA P i most).1/\J8 i T L (gA P i most).1/\(gA P i most).1.fl=[]/\((gA P i most).1.r i).aD=L.length/\(∀ k,k<3->k≠i->aAK ((gA P i most).1.r i) k)/\∀ k,k<3->L.length<=((gA P i most).1.r k).log.length/\((gA P i most).1.r k).log.take L.length=L :=
 hD.V8 hi h.ro h.log h.li.tm h.tm h.ms h.cm hT hc hN hm
end
def aI6(m:a6Y):Nat:=match m.up with
 | none=>0
 | some u=>gK u.r
def aWK(G:gV):Nat:=aI6 (G.mem 0)+aI6 (G.mem 1)+aI6 (G.mem 2)
def cG(G:gV):Nat:=G.gF.aZ.length+aWK G
section
variable {G:gV}{i:Nat}
end
section
variable {N N' D:Nat}{B B':Int}{G G':gV}{C C':Cl}{g g':Gh}{A A':Int->Nat->Nat}{i:Nat}{P:vB}
theorem RU.gi(h:RU N B D G g A G'):∃ C' g' A',GI N B D G' C' g' A':=by
 obtain ⟨C',g',A',a,_⟩:=h;exact ⟨C',g',A',a⟩
theorem dA.cnt(h:dA N B D G P):P.fl.length+rU P=cG G:=by
 have hl:P.fl.length=G.gF.aZ.length:=by rw [h.gF,List.length_map]
 have e:∀ i,i<3->aI6 (G.mem i)=gK (P.r i):=λi hi=>by
  obtain ⟨u,hu,hr,_⟩:=h.upS hi;unfold aI6;rw [hu];show gK u.r=_;rw [hr]
 unfold cG aWK rU;rw [e 0 (by decide),e 1 (by decide),e 2 (by decide),hl]
theorem dA.ends(h:dA N B D G P):∀ m∈P.fl,(0<=m.src/\m.src<=2)/\(0<=m.to/\m.to<=2):=λm hm=>by
 obtain ⟨C,g,A,h,hs⟩:=h;exact (hs.ms m hm).2.2.2
theorem dA.dr(h:dA N B D G P)(hsp:P.sp=0)(hc:cG G<=298):Dr P:=⟨h.inv,hsp,h.ends,by rw [h.cnt];exact hc⟩
theorem dA.bnd(h:dA N B D G P)(hB:B<100000):∀ k,k<3->(P.r k).log.length<=N/\(P.r k).term<1099511627776:=λk hk=>by
 have:=h.cb.rep k hk;have h1:=this.len;have h2:=this.term;exact ⟨h1,by have h2:(P.r k).term<=B:=h2;omega⟩
theorem TQ(l x):aU (l++[x]) (l++[x]).length=x.term:=by
 rw [List.length_append,List.length_singleton];exact o9 (by rw [List.getElem?_append_right (Nat.le_refl _),Nat.sub_self];rfl)
end
section
variable {N N' D:Nat}{B B':Int}{G G':gV}{C C':Cl}{g g':Gh}{A A':Int->Nat->Nat}{i:Nat}
theorem GI.aAM(h:GI N B D G C g A):∀ s∈G.eS,s.size<=2000:=by
 obtain ⟨K,t,e,hK⟩:=h.j.eS;rcases hK with h0|⟨t',p,hch,_,hn,hk⟩
 .rw [e,List.eq_nil_of_length_eq_zero h0];intro s hs;cases hs
 .intro s hs;rw [e] at hs;obtain ⟨x,hx,rfl⟩:=List.mem_map.1 hs;have h2:=hk.2;rw [List.take_length] at h2;rw [h2] at hx;exact (h.j.s.N1 t').data x (List.mem_of_mem_take hx)
end
end Go.Proofs.YtnlkemjhgdbfkaaGreatDoor
end

section
namespace Go.Proofs.YtnlkemjhgdbfkaaGreatDoor
set_option maxRecDepth 100000
open Go.Vc
def CW(data:ByteArray)(n:Int)(alone:Int):aY:=λW R Φ J=>
 Zc W R Φ F.rD #[] λe2 q=>∃ c4,e2=.returned (.bool c4)/\q λR5 fW=>Zd W R5 fW λw7=>Br (decide (50<(↑data.size:Int))||decide (n<0)||decide (30<n)||decide (alone<0)||decide (2<alone)) (Zr W R5 fW J (.bool c4)) (Zc W R5 fW F.JH #[] λe13 q=>∃ DK,e13=.returned (.pointer DK)/\q λR16 aWL=>Br DK.isNone (Zr W R16 aWL J (.bool false)) (Zc W R16 aWL F.cF #[.pointer DK,aA alone,aA 1000] λe22 q=>∃ n24,e22=.returned (aA n24)/\q λR25 aGS=>AJ λ(I27:Int->List Own->PW->Nat->Prop)=>(Zs W R25 aGS (I27 0))/\∀ n33 LF I35 k36,aB I35->I27 n33 LF I35 k36->Br (decide (n33<n)) (Zc W LF I35 F.dK #[.pointer DK,aA alone,.string data] λe39 q=>∃ n41 n42,e39=.returned (Value.tuple #[aA n41,aA n42])/\q λR43 SQ=>Br (decide (n42≠0)) (Zr W R43 SQ J (.bool false)) (Zc W R43 SQ F.cF #[.pointer DK,aA alone,aA 1000] λe49 q=>∃ n51,e49=.returned (aA n51)/\q λR52 VG=>bE (n33+1)/\Zb W R52 VG k36 (I27 (n33+1)))) (Zc W LF I35 F.dZ #[.pointer DK] λe61 q=>∃ p63 k64 k65,e61=.returned (.slice p63 k64 k65)/\q λR66 aGP=>∃ (n68:Int),(∀ (w69:World),Sem.run prog (binOp BinOp.shl 3 (aA 1) (Value.int IntKind.u64 (IntKind.u64.wrap alone))) w69=Result.ok (aA n68) w69)/\Zc W R66 aGP F.rE #[.pointer DK,aA n68] λe72 q=>e72=.returned (Value.tuple #[])/\q λR74 PG=>Zc W R74 PG F.dK #[.pointer DK,aA alone,Value.string (ByteArray.mk #[OfNat.ofNat 108,OfNat.ofNat 111,OfNat.ofNat 115,OfNat.ofNat 116])] λe78 q=>∃ n80 n81,e78=.returned (Value.tuple #[aA n80,aA n81])/\q λR82 b14=>Zc W R82 b14 F.cF #[.pointer DK,aA alone,aA 1000] λe86 q=>∃ n88,e86=.returned (aA n88)/\q λR89 a9l=>bE (alone+1)/\((3:Int)=0->False)/\Zc W R89 a9l F.cF #[.pointer DK,aA ((alone+1).tmod 3),aA 1000] λe93 q=>∃ n95,e93=.returned (aA n95)/\q λR96 a8Y=>∀ w98 R99,Ctx W w98 (R96++R99) a8Y->aG F.dK #[.pointer DK,aA ((alone+1).tmod 3),Value.string (ByteArray.mk #[OfNat.ofNat 107,OfNat.ofNat 101,OfNat.ofNat 112,OfNat.ofNat 116])] w98 λb16 b17=>∃ n102 n103, b16=.returned (Value.tuple #[aA n102,aA n103])/\∃ a9f PM,aB PM/\Ctx W b17 (a9f++R99) PM/\Zc W a9f PM F.cF #[.pointer DK,aA ((alone+1).tmod 3),aA 1000] λb18 q=>∃ n110,b18=.returned (aA n110)/\q λa8K aWM=>Zc W a8K aWM F.dZ #[.pointer DK] λaPf q=>∃ aQP a3A XT,aPf=.returned (.slice aQP a3A XT)/\q λaKX aWN=>Zc W aKX aWN F.tC #[.pointer DK] λaOc q=>aOc=.returned (Value.tuple #[])/\q λaKT a6i=>Zc W aKT a6i F.cF #[.pointer DK,aA ((alone+1).tmod 3),aA 1000] λb19 q=>∃ n132,b19=.returned (aA n132)/\q λa6p a7Q=>Br (decide ((↑k64:Int)≠n)) (Zr W a6p a7Q J (.bool false)) (Br (decide (n81≠0)) (Zr W a6p a7Q J (.bool false)) (Br (decide (n103≠0)) (Zr W a6p a7Q J (.bool false)) (bE (n+1)/\Br (decide (n102≠n+1)) (Zr W a6p a7Q J (.bool false)) (∀ (aWO:Nat) a0Z a5W,Ctx W a0Z (Own.blk aWO [Value.string (ByteArray.mk #[OfNat.ofNat 107,OfNat.ofNat 101,OfNat.ofNat 112,OfNat.ofNat 116])] 9 :: a6p++a5W) a7Q->∃ aFR aFS a5P aWP,Sem.run prog (builtin Builtin.append #[40,40] 40 #[false,false] #[.slice p63 k64 k65,.slice (aO aWO 0) 1 1]) a0Z=.ok (.value (.slice aFR aFS a5P)) aWP/\∃ aWQ aI7,aB aI7/\Ctx W aWP (aWQ++a5W) aI7/\Zc W aWQ aI7 F.eU #[.slice aQP a3A XT,.slice aFR aFS a5P] λb2a q=>∃ c156,b2a=.returned (.bool c156)/\q λaWR aNH=>Br (!c156) (Zr W aWR aNH J (.bool false)) (AJ λ(aQQ:Int->List Own->PW->Nat->Prop)=>(Zs W aWR aNH (aQQ 0))/\∀ n167 aMn aI8 aWS,aB aI8->aQQ n167 aMn aI8 aWS->Br (decide (n167<3)) (Zc W aMn aI8 F.lU #[.pointer DK, aA n167] λb2b q=>∃ aWT aWU aWV,b2b=.returned (.slice aWT aWU aWV)/\q λb2c aWW=>Zc W b2c aWW F.lU #[.pointer DK,aA ((alone+1).tmod 3)] λb2d q=>∃ aFU aFV aFW,b2d=.returned (.slice aFU aFV aFW)/\q λb2e aWX=>Zc W b2e aWX F.mX #[.slice aWT aWU aWV,.slice aFU aFV aFW] λb2f q=>∃ c193,b2f=.returned (.bool c193)/\q λaWY aNI=>Br (!c193) (Zr W aWY aNI J (.bool false)) (∀ aWZ aW0,Ctx W aWZ (aWY++aW0) aNI->aG F.lU #[.pointer DK,aA n167] aWZ λb2g b2h => ∃ b2i aGn b2j,b2g=.returned (.slice b2i aGn b2j)/\∃ aQR aCb,aB aCb/\Ctx W b2h (aQR++aW0) aCb/\bE (n+1)/\Br (decide ((↑aGn:Int)≠n+1)) (Zr W aQR aCb J (.bool false)) (bE (n167+1)/\Zb W aQR aCb aWS (aQQ (n167+1))))) (Br c4 (Zc W aMn aI8 F.dZ #[.pointer DK] λb2k q=>∃ aW1 aW2 aW3,b2k=.returned (.slice aW1 aW2 aW3)/\q λaGo a14=>Zc W aGo a14 F.eU #[.slice aW1 aW2 aW3,.slice aQP a3A XT] λb2l q=>∃ c227,b2l=.returned (.bool c227)/\q λaKI aW4=>Zr W aKI aW4 J (.bool c227)) (Zr W aMn aI8 J (.bool false)))))))))))
theorem x6(data n alone):bZ F.lE #[.string data,.int .i64 n,.int .i64 alone] (CW data n alone):=cA { keep:=some [0,1,2,6,7,8,9,11,12,14,15,16,17,18,19,39,43,49,60,127,129,148],split:=[26,31,33],loops:=[(29,[(19,.one (.int .i64))],[]),(9,[(9,.one (.int .i64))],[])] } λ_ _ _ _=>by kernel_rfl
def NS:aY:=λW R Φ J=>
 Zc W R Φ F.JH #[] λe2 q=>∃ p4,e2=.returned (.pointer p4)/\q λR5 fW=>Br p4.isNone (Zr W R5 fW J (.bool false)) (Zc W R5 fW F.cF #[.pointer p4,aA 1,aA 99] λe11 q=>∃ RM,e11=.returned (aA RM)/\q λR14 ML=>Zc W R14 ML F.tD #[.pointer p4,aA 1] λe18 q=>∃ n20,e18=.returned (aA n20)/\q λSG tL=>Br (decide (n20=2)) (∀ w23 NT,Ctx W w23 (SG++NT) tL->aG F.tE #[.pointer p4,aA 0] w23 λe25 w26=>∃ n27,e25=.returned (aA n27)/\∃ R28 XX,aB XX/\Ctx W w26 (R28 ++ NT) XX/\Zc W R28 XX F.dK #[.pointer p4,aA 1,Value.string (ByteArray.mk #[OfNat.ofNat 97])] λe32 q=>∃ n34 n35,e32=.returned (Value.tuple #[aA n34,aA n35])/\q λG9 tN=>Zc W G9 tN F.cF #[.pointer p4,aA 1,aA 99] λe40 q=>∃ n42,e40=.returned (aA n42)/\q λR43 SQ=>Zc W R43 SQ F.dK #[.pointer p4,aA 0,Value.string (ByteArray.mk #[OfNat.ofNat 98])] λe47 q=>∃ n49 n50,e47=.returned (Value.tuple #[aA n49,aA n50])/\q λW0 GG=>Br (decide (RM=8)) (Br (decide (n27=1)) (Br (decide (n34=1)) (Br (decide (n35=0)) (Br (decide (n42=8)) (Br (decide (n50=24)) (Zc W W0 GG F.dZ #[.pointer p4] λe55 q=>∃ p57 k58 k59,e55=.returned (.slice p57 k58 k59)/\q λR60 aC5=>∀ (k62:Nat) (w63:World) (R64:List Own),Ctx W w63 (Own.blk k62 [Value.string (ByteArray.mk #[OfNat.ofNat 97])] 9 :: R60++R64) aC5->aG F.eU #[.slice p57 k58 k59,.slice (aO k62 0) 1 1] w63 λe65 w66=>∃ c67,e65=.returned (.bool c67)/\∃ R68 GM,aB GM/\Ctx W w66 (R68++R64) GM/\Zr W R68 GM J (.bool c67)) (Zr W W0 GG J (.bool false))) (Zr W W0 GG J (.bool false))) (Zr W W0 GG J (.bool false))) (Zr W W0 GG J (.bool false))) (Zr W W0 GG J (.bool false))) (Zr W W0 GG J (.bool false))) (Zc W SG tL F.dK #[.pointer p4,aA 1,Value.string (ByteArray.mk #[OfNat.ofNat 97])] λe86 q=>∃ n88 n89,e86=.returned (Value.tuple #[aA n88,aA n89])/\q λR90 aCx=>Zc W R90 aCx F.cF #[.pointer p4,aA 1,aA 99] λe94 q=>∃ n96,e94=.returned (aA n96)/\q λR97 OS=>Zc W R97 OS F.dK #[.pointer p4,aA 0,Value.string (ByteArray.mk #[OfNat.ofNat 98])] λb2m q=>∃ n103 n104,b2m=.returned (Value.tuple #[aA n103,aA n104])/\q λa9h UF=>Br (decide (RM=8)) (Zr W a9h UF J (.bool false)) (Zr W a9h UF J (.bool false))))
theorem EI:bZ F.rD #[] NS:=cA { keep:=some [0,1,2,3,4,5,6,8,11],split:=[5,9] } λ_ _ _ _=>by kernel_rfl
end Go.Proofs.YtnlkemjhgdbfkaaGreatDoor
end

section
namespace Go.Proofs.YtnlkemjhgdbfkaaGreatDoor
open Go.Vc
instance:Gv OpG:=Gv.via (β:=Int × Int × Int × ByteArray × List Int) (λx=>(x.kind,x.id,x.n,x.data,x.keep)) (λy=>⟨y.1,y.2.1,y.2.2.1,y.2.2.2.1,y.2.2.2.2⟩) (λ_=>rfl)
abbrev OpG.cells(x:OpG)(p:Option Addr)(c:Nat):List Value:=[.int .i64 x.kind,.int .i64 x.id,.int .i64 x.n,.string x.data,.slice p x.keep.length c]
structure OpG.Ok(x:OpG):Prop where
 kind:bE x.kind
 id:bE x.id
 n:bE x.n
section
variable {W w:World}{S R Y:List Own}{Φ:PW}
theorem aQS:sH prog 216=true:=by kernel_rfl
theorem a7R[aB Φ](p q cap cap2)(a b:List bH)(oX:∀ M w,Φ M w->Sl M w p a)(hΨ:∀ M w,Φ M w->Sl M w q b)(hlen:a.length<=1000000):
  dF Φ prog F.mX #[.slice p a.length cap,.slice q b.length cap2] (.bool (decide (a=b))):=by
 refine .there (λM w h=>(oX M w h).there) λhth=>.there (λM w h=>(hΨ M w h).there) λb2o=>?_;refine kE (yV p a.length cap q b.length cap2) λW R=>?_;refine Br.intro (λh=>λw G cx=>⟨?_,cx.left⟩) (λh=>?_)
 .rw [decide_eq_false];intro e;have:=fV h;rw [e] at this;exact this rfl
 have hl:a.length=b.length:=by have:=eV h;omega
 refine dS (λiI R' aX k=>∃ i:Nat,iI=i/\i<=a.length/\R'=R/\aX=Φ/\k=a.length - i/\a.take i=b.take i) ⟨⟨R,Φ,_,aR,λw F c=>c,0,rfl,Nat.zero_le _,rfl,rfl,rfl,rfl⟩,?_⟩;rintro iI R1 cL k _ ⟨i,rfl,hi,rfl,rfl,rfl,hs⟩;refine Br.intro (λhlt=>λw G cx=>?_) (λhge=>λw F cx=>⟨?_,cx.left⟩)
 .have hlt:i<a.length:=by simpa using hlt
  have aW5:i<b.length:=by omega
  obtain ⟨b1,o1,rfl⟩:=hth (by omega);obtain ⟨b2,o2,rfl⟩:=b2o (by omega);refine ⟨by omega,bF b1 o1 rfl ⟨a[i].term,a[i].data,by rw [Int.toNat_natCast];exact N4 (oX _ _ cx.yK) hlt,by omega,bF b2 o2 rfl ⟨b[i].term,b[i].data,by rw [Int.toNat_natCast];exact N4 (hΨ _ _ cx.yK) aW5,aQS,Br.intro (λh=>λw G cx=>⟨?_,cx.left⟩) (λh=>⟨by unfold bE;omega,R1,cL,a.length - (i+1),aR,λw F c=>c,⟨i+1,rfl,hlt,rfl,rfl,rfl,?_⟩,by omega⟩)⟩⟩⟩
  .rw [decide_eq_false];intro e;subst e;simp at h
  .have he:a[i]=b[i]:=by
    simp only [Bool.not_eq_false',Bool.and_true,Bool.and_eq_true,decide_eq_true_eq] at h;exact aBu.2 h
   rw [List.take_succ_eq_append_getElem hlt,List.take_succ_eq_append_getElem aW5,hs,he]
 .have hge:i=a.length:=Nat.le_antisymm hi (by simpa using hge);rw [decide_eq_true];rw [hge,List.take_length,hl,List.take_length] at hs;exact hs
end
section
variable {W w:World}{S:List Own}{Φ:PW}{L:KS}{G:gV}{N D:Nat}{B:Int}{C:Cl}{g:Gh}{A:Int->Nat->Nat}
theorem GI.sets(h:GI N B D G C g A)(nR:N*(D+90)<=1048576)(hD:D<=2000)[aB Φ](hJ:JI Φ)(hF:x4 Φ L G){id most}(hm:bE most)(cx:Ctx W w (eG L G++S) Φ){K}(hk:∀ L' w',L'.gb=L.gb->x4 Φ L' (bS G id most).1->Ctx W w' (eG L' (bS G id most).1++S) Φ->K (.returned (.int .i64 ((bS G id most).2:Int))) w'):
  aG F.cF #[.pointer (some ⟨L.gb,0,none⟩),.int .i64 id,.int .i64 most] w K:=by
 refine a7I hJ.off hJ.num hF h.V6 hm (λu hid hu=>h.aIO nR hid hu) (λG'=>∃ C' g' A',GI N (B+1) D G' C' g' A') (λG' ⟨C',g',A',h'⟩=>⟨h'.V6,λp hp=>h'.pkt nR hD hp⟩) (λG' ⟨C',g',A',h'⟩=>(h'.lR nR 0).gi) (h.tick nR id).gi cx λL' w hgb hg cx=>hk L' w hgb (hg Φ hF) cx
end
section
variable {r:dH}{m:bA}
theorem aI9(hm:m.fY r.id)(hk:m.kind=0)(ht:r.term<m.term)(hf:a0k r.log m=true):(aT r m).1={ QD r m with aK:=m.src }/\(aT r m).2.send=[⟨1,r.id,m.src,m.term,0,0,0,true,[]⟩]:=by
 obtain ⟨e1,e2⟩:=rR hm;rw [e1,e2,a2V hk,a4D ht];have hc:(decide (m.term=(QD r m).term)&&(decide ((QD r m).aK = -1)||decide ((QD r m).aK=m.src))&&HI (QD r m) m)=true:=by
  rw [aLZ];have e3:a0k (QD r m).log m=true:=hf;have e4:(QD r m).term=m.term:=rfl;have e5:(QD r m).aK = -1:=rfl;rw [e3,e4,e5];simp
 unfold cX;rw [if_pos hc];exact ⟨rfl,rfl⟩
theorem aJa(hm:m.fY r.id)(hk:m.kind=1)(hr:r.role=1)(ht:m.term=r.term)(hy:m.yes=true)(h2:¬ kF (fX r m).bX<2):(aT r m).1=gH r m/\(aT r m).2.send=bL (gH r m):=by
 obtain ⟨e1,e2⟩:=rR hm;rw [e1,e2,a2W hk,x5 (by omega),nG (by rw [hr,ht,hy];simp) h2];exact ⟨rfl,rfl⟩
theorem a7S(hm:m.fY r.id)(hk:m.kind=2)(ht:m.term=r.term)(hr:r.role≠2)(hg:J7 r.log m=false)(h4:¬ eM r m<m.aE.length):(aT r m).1=Z2 r m/\(aT r m).2.send=[iC r m]:=by
 obtain ⟨e1,e2⟩:=rR hm;rw [e1,e2,a0i hk,x5 (by omega),kV (by omega) hr hg h4];exact ⟨rfl,rfl⟩
theorem aMo(hm:m.fY r.id)(hk:m.kind=2)(ht:m.term=r.term)(hr:r.role≠2)(hg:J7 r.log m=false)(h4:eM r m<m.aE.length)(h5:¬ m.index.toNat+eM r m+1<=r.aD):(aT r m).1=E0 r m (eM r m)/\(aT r m).2.send=[iC r m]:=by
 obtain ⟨e1,e2⟩:=rR hm;rw [e1,e2,a0i hk,x5 (by omega),nL (by omega) hr hg h4 h5];exact ⟨rfl,rfl⟩
theorem aCc(hm:m.fY r.id)(hk:m.kind=3)(ht:m.term=r.term)(hr:r.role=2)(hy:m.yes=true)(hx:m.index<=(r.log.length:Int))(hn:r.log.length<max (r.cE m.src.toNat) m.index.toNat+1):(aT r m).1=aQ (dQ r m)/\(aT r m).2.send=[]:=by
 obtain ⟨e1,e2⟩:=rR hm;rw [e1,e2,a2X hk,x5 (by omega),jF (by rw [hr,ht,hy];simp;omega) hy,if_neg (by omega)];exact ⟨rfl,rfl⟩
end
theorem aJb{D}:∃ P,dA 0 0 D NJ P/\(∀ j,P.r j=dP j 0 (-1) [])/\P.fl=[]/\P.sp=0:=by
 obtain ⟨P,f1,f2,f3⟩:=GI.vR (D:=D) aIL (λi _=>by
  obtain ⟨u,h1,_⟩:=EG i;exact ⟨u,h1⟩) (λi _=>(EG i).choose_spec.2.2.2)
 refine ⟨P,f1,λj=>f2 j,?_,f3⟩;have:=f1.gF;have h:P.fl.map CU=[]:=this.symm;exact List.map_eq_nil_iff.1 h
def LU(a:Nat)(P:vB):Prop:=∀ k,k<3->k≠a->(P.r k).role≠1
theorem LU.step{a P P' m rest j}(h:LU a P)(ha:Arr P m rest j P'):LU a P':=λk hk hka=>by
 rw [ha.r];by_cases e:k=j
 .subst e;rw [aS];rcases ha.out with ⟨hk2,_⟩|⟨e1,_,_⟩
  .exact λh1=>h k hk hka (hk2.asks h1)
  .rw [e1];exact h k hk hka
 .rw [bG _ _ e];exact h k hk hka
theorem LU.settle{a i P}(h:LU a P)(hD:Dr P)(hi:i<3)(hc:P.fl.length+rU P+3<=298)(ht:i=a\/(P.r i).role=2)(most):LU a (gA P i most).1:=by
 obtain ⟨d0,d1,d2⟩:=hD.tick hi hc;refine (EH (Q:=LU a) (λP m rest j _ q _ ha _=>q.step ha) most.toNat d0 λk hk hka=>?_).2;rw [d1];by_cases e:k=i
 .subst e;rcases ht with rfl|ht
  .exact absurd rfl hka
  .rw [aS,j6 ht];show (P.r k).role≠1;omega
 .rw [bG _ _ e];exact h k hk hka
structure SpI(a:Nat)(L:List bH)(D:Nat)(G:gV)(P:vB):Prop where
 vR:dA L.length (L.length+1) D G P
 dr:Dr P
 ro:(P.r a).role=2
 tm:∀ k,k<3->(P.r k).term=1
 lg:∀ k,k<3->(P.r k).log=L
 rk:∀ k,k<3->k≠a->(P.r k).role=0
 st:∀ k,k<3->k≠a->aAK (P.r a) k
 cm:(P.r a).aD=L.length
 fl:P.fl=[]
theorem aJc{a P}(hD:Dr P)(ha:a<3)(hr:(P.r a).role=2)(ht:∀ k,k<3->(P.r k).term=1)(hn:LU a P):∀ k,k<3->k≠a->(P.r k).role=0:=λk hk hka=>by
 obtain ⟨g,A,hs⟩:=hD.inv;have h1:=(hs.m.wf.rep k hk).1.ok.role;have h1:(P.r k).role=0\/(P.r k).role=1\/(P.r k).role=2:=h1;rcases h1 with h|h|h
 .exact h
 .exact absurd h (hn k hk hka)
 .have a1:=(hs.m.lead k hk h).1;have a2:=(hs.m.lead a ha hr).1;have a1:g.ld (P.r k).term=k:=a1;have a2:g.ld (P.r a).term=a:=a2;rw [ht k hk] at a1;rw [ht a ha,a1] at a2;omega
theorem SpI.ask{a L D G P}(h:SpI a L D G P)(ha:a<3):rU P=0:=by
 have one:∀ k,k<3->gK (P.r k)=0:=λk hk=>by
  by_cases e:k=a
  .subst e;exact if_neg (by rw [h.ro];decide)
  .exact if_neg (by rw [h.rk k hk e];decide)
 unfold rU;rw [one 0 (by decide),one 1 (by decide),one 2 (by decide)]
theorem SpI.next{a L D G P}(h:SpI a L D G P)(ha:a<3)(hL:L.length<=32)(hDD:D<=2000){data}(hd:data.size<=D):
  (cR G a data).2=(((L.length+1:Nat):Int),0)/\∃ P',SpI a (L++[⟨1,data⟩]) D (bS (cR G a data).1 a 1000).1 P':=by
 have WY:=h.ask ha;have aQT:=h.lg a ha;have aW6:=h.tm a ha;have nR:(L.length+1)*(D+90)<=1048576:=by
  have:(L.length+1)*(D+90)<=33*2090:=Nat.mul_le_mul (by omega) (by omega);omega
 obtain ⟨q1,q2,q3,q4,q5,q6⟩:=h.dr.rS ha h.ro (λk hk=>by rw [h.tm k hk,aW6];exact Int.le_refl _) (λm hm=>by rw [h.fl] at hm;cases hm) (data:=data) (by omega) (by rw [aQT];omega) (by rw [h.fl,WY];decide);obtain ⟨f1,f2⟩:=h.vR.rS nR ha hd q4;rw [aQT,aW6] at q2;rw [aQT] at q3;have hfl:(gD P a data).fl.length=2:=by rw [q5,h.fl];rfl
 have hN2:∀ k,k<3->((gD P a data).r k).log.length<=L.length+1:=λk hk=>(f1.bnd (by omega) k hk).1;have aJd:rU (gD P a data)=0:=by
  have one:∀ k,k<3->gK ((gD P a data).r k)=0:=λk hk=>by
   by_cases e:k=a
   .subst e;exact if_neg (by rw [q2.ro];decide)
   .rw [q6 k e];exact if_neg (by rw [h.rk k hk e];decide)
  unfold rU;rw [one 0 (by decide),one 1 (by decide),one 2 (by decide)]
 obtain ⟨s1,s2,s3,s4,s5,s6⟩:=q2.settle (N:=L.length+1) (most:=1000) ha q1 (by rw [TQ]) (by rw [hfl,aJd];decide) hN2 (by
  rw [hfl,aJd];show (2+2)*(4*(L.length+1)+10)+0*_<=1000;omega)
 have g1:=(f1.settle nR ha 1000).1;have hlen:(L++[(⟨1,data⟩:bH)]).length=L.length+1:=by rw [List.length_append,List.length_singleton]
 have hlg:∀ k,k<3->((gA (gD P a data) a 1000).1.r k).log=L++[⟨1,data⟩]:=λk hk=>by
  have h1:=(g1.bnd (by omega) k hk).1;obtain ⟨h2,h3⟩:=s6 k hk;rw [<-h3,List.take_of_length_le (by omega)]
 obtain ⟨g,A,hs⟩:=s1.inv;have htm:∀ k,k<3->((gA (gD P a data) a 1000).1.r k).term=1:=λk hk=>by
  have h1:=s2.tm k hk;have h2:=(hs.m.wf.rep k hk).1.ok.log.hi ⟨1,data⟩ (by show _∈((gA (gD P a data) a 1000).1.r k).log;rw [hlg k hk];simp);have h2:(1:Int)<=((gA (gD P a data) a 1000).1.r k).term:=h2;omega
 have hna:LU a (gA (gD P a data) a 1000).1:=LU.settle (λk hk hka=>by rw [q6 k hka,h.rk k hk hka];decide) q1 ha (by rw [hfl,aJd];decide) (.inl rfl) 1000;refine ⟨by rw [f2,q3],_,?_,s1,s2.ro,htm,hlg,aJc s1 ha s2.ro htm hna,s5,s4,s3⟩;rw [hlen];have:((L.length:Int)+1+1)=(((L.length+1:Nat):Int)+1):=by omega
 rw [<-this];exact g1
structure SpN(sp:Int)(a o c:Nat):Prop where
 lt:a<3/\o<3/\c<3
 ne:a≠o/\a≠c/\o≠c
 all:∀ k,k<3->k=a\/k=o\/k=c
 oc:kY sp o c=true
 co:kY sp c o=true
 oa:kY sp o a=false
 ao:kY sp a o=false
 ac:kY sp a c=false
 oth:aL o=[a,c]\/aL o=[c,a]
 b2p:aL a=[o,c]\/aL a=[c,o]
theorem aEu{a}(ha:a<3):SpN ((2:Int) ^ a % 65536) a ((a+1) % 3) ((a+2) % 3):=by
 match a,ha with
 | 0,_=>exact ⟨by decide,by decide,λk hk=>by omega,by decide,by decide,by decide,by decide,by decide,.inl rfl,.inl rfl⟩
 | 1,_=>exact ⟨by decide,by decide,λk hk=>by omega,by decide,by decide,by decide,by decide,by decide,.inr rfl,.inr rfl⟩
 | 2,_=>exact ⟨by decide,by decide,λk hk=>by omega,by decide,by decide,by decide,by decide,by decide,.inr rfl,.inl rfl⟩
section
variable {sp:Int}{a o c:Nat}
theorem a4V{i:Nat}{x:bA}{k}(hk:x.to=(k:Nat))(h:kY sp i k=false):EN sp i x=false:=by
 unfold EN;rw [hk,h,Bool.and_false]
theorem a7T{i}{x:bA}{k}(hi:i<3)(J0:k<3)(hik:i≠k)(hk:x.to=(k:Nat))(h:kY sp i k=true):EN sp i x=true:=by
 have e1:uT (i:Int)=true:=by unfold uT;simp;omega
 have e2:uT (k:Int)=true:=by unfold uT;simp;omega
 unfold EN;rw [hk,h,e1,e2,decide_eq_true (show ((i:Nat):Int)≠(k:Nat) by omega)];rfl
theorem K5{i x}(h:EN sp i x=false)(fl):pP sp i fl x=fl:=by
 unfold pP;rw [h];rfl
theorem a0z{i x}(h:EN sp i x=true){fl}(hl:fl.length<500):pP sp i fl x=fl++[x]:=by
 unfold pP;rw [if_pos (by rw [h];simp;omega)]
theorem SpN.WN(h:SpN sp a o c){f:Nat->bA}(hf:∀ k,(f k).to=(k:Nat)){fl}(hl:fl.length<500):iN sp o fl ((aL o).map f)=fl++[f c]:=by
 have g1:=a4V (hf a) h.oa;have g2:=a7T h.lt.2.1 h.lt.2.2 h.ne.2.2 (hf c) h.oc;rcases h.oth with e|e
 .rw [e];show pP sp o (pP sp o fl (f a)) (f c)=_;rw [K5 g1,a0z g2 hl]
 .rw [e];show pP sp o (pP sp o fl (f c)) (f a)=_;rw [K5 g1,a0z g2 hl]
theorem SpN.aCd(h:SpN sp a o c){f:Nat->bA}(hf:∀ k,(f k).to=(k:Nat)){fl}:iN sp a fl ((aL a).map f)=fl:=by
 have g1:=a4V (hf o) h.ao;have g2:=a4V (hf c) h.ac;rcases h.b2p with e|e
 .rw [e];show pP sp a (pP sp a fl (f o)) (f c)=_;rw [K5 g1,K5 g2]
 .rw [e];show pP sp a (pP sp a fl (f c)) (f o)=_;rw [K5 g2,K5 g1]
theorem a0A(r k):(entriesOf r k).to=(k:Nat):=rfl
theorem vA{P:vB}{m rest j}(he:P.fl=m :: rest)(hh:kY P.sp m.src m.to=true)(hto:m.to=(j:Nat)):(dV P).r=put P.r j (aT (P.r j) m).1/\(dV P).fl=iN P.sp j rest (aT (P.r j) m).2.send/\(dV P).sp=P.sp:=by
 have hd:dV P=doP { P with fl:=rest } j (aT (P.r j) m):=by
  unfold dV;rw [he];simp only;rw [if_neg (by rw [hh];simp),hto,J6]
 rw [hd];exact V7 { P with fl:=rest } j (aT (P.r j) m)
theorem TR(i fl):iN sp i fl []=fl:=rfl
theorem a4W{i x}(h:EN sp i x=true){fl}(hl:fl.length<500):iN sp i fl [x]=fl++[x]:=a0z h hl
theorem SpN.back(h:SpN sp a o c){x:bA}(hx:x.to=(o:Nat)){fl}(hl:fl.length<500):iN sp c fl [x]=fl++[x]:=a4W (a7T h.lt.2.2 h.lt.2.1 (Ne.symm h.ne.2.2) hx h.co) hl
structure SpO(sp:Int)(a o c:Nat)(L:List bH)(ra:dH)(P:vB):Prop where
 sp:P.sp=sp
 fl:P.fl=[]
 ra:P.r a=ra
 ro:(P.r o).role=2
 lo:(P.r o).log=L
 to:(P.r o).term=2
 no:(P.r o).next c=L.length+1
 mo:(P.r o).cE c=L.length
 ma:(P.r o).cE a=0
 wo:(P.r o).Ok
 io:(P.r o).id=o
 rc:(P.r c).role=0
 lc:(P.r c).log=L
 tc:(P.r c).term=2
 wc:(P.r c).Ok
 ic:(P.r c).id=c
theorem aAN(l)(m:bA)(h1:m.prev=aU l l.length)(h2:m.index=(l.length:Nat)):a0k l m=true:=by
 unfold a0k;rw [h1,h2];simp
theorem SpN.aW7(h:SpN sp a o c){P L}(hsp:P.sp=sp)(hfl:P.fl=[])(lo:(P.r o).log=L)(lc:(P.r c).log=L)(to:(P.r o).term=1)(tc:(P.r c).term=1)(ro:(P.r o).role=0)(wo:(P.r o).Ok)(wc:(P.r c).Ok)(io:(P.r o).id=o)(ic:(P.r c).id=c)(hl2:∀ x∈L,x.term<=1){k}(hk:4<=k):SpO sp a o c L (P.r a) (mK k (eE P o)).1:=by
 obtain ⟨ha3,xM,hc3⟩:=h.lt;obtain ⟨hao,hac,KR⟩:=h.ne;have et:cV (P.r o)=(lK (P.r o),⟨true,(lK (P.r o)).term,(lK (P.r o)).aK,0,[],(aL (P.r o).id).map λi=>iP (lK (P.r o)) i⟩):=CD (by omega) (by omega);obtain ⟨d1,d2,d3⟩:=V7 P o (cV (P.r o));have d1:(eE P o).r=put P.r o (cV (P.r o)).1:=d1;have d2:(eE P o).fl=iN P.sp o P.fl (cV (P.r o)).2.send:=d2;have d3:(eE P o).sp=sp:=d3.trans hsp;rw [et] at d1 d2;have d2:(eE P o).fl=iN P.sp o P.fl ((aL (P.r o).id).map λi=>iP (lK (P.r o)) i):=d2
 rw [hsp,hfl,io,h.WN (λ_=>rfl) (by decide),List.nil_append] at d2;have w1:(lK (P.r o)).Ok:=a30 wo (by omega) (by omega);generalize hR1:lK (P.r o)=R1 at d1 d2 w1;have r1:R1.role=1:=by rw [<-hR1];rfl
 have t1:R1.term=2:=by rw [<-hR1];show (P.r o).term+1=2;omega
 have g1:R1.log=L:=by rw [<-hR1];exact lo
 have i1:R1.id=o:=by rw [<-hR1];exact io
 have v1:R1.bX o=true:=by rw [<-hR1];show decide (o=(P.r o).id)=true;rw [io];simp
 generalize eE P o=P1 at d1 d2 d3;have d1:P1.r=put P.r o R1:=d1;have hm1:(iP R1 c).fY c:=aEd w1 (by omega) hc3 (by omega);have hc1:P1.r c=P.r c:=by rw [d1,bG _ _ (Ne.symm KR)]
 obtain ⟨e1,e2,e3⟩:=vA (P:=P1) (m:=iP R1 c) (rest:=[]) (j:=c) d2 (by rw [d3];show kY sp (R1.id:Int) (c:Int)=true;rw [i1];exact h.oc) rfl;obtain ⟨x1,x2⟩:=aI9 (r:=P.r c) (m:=iP R1 c) (by rw [ic];exact hm1) rfl (by rw [tc];show (1:Int)<R1.term;omega) (aAN _ _ (by rw [lc];show aU R1.log R1.log.length=_;rw [g1]) (by rw [lc];show ((R1.log.length:Nat):Int)=_;rw [g1]));rw [hc1] at e1 e2;rw [x1] at e1;rw [x2,d3,ic] at e2
 have ey:(iP R1 c).src=o:=by show ((R1.id:Nat):Int)=o;rw [i1]
 rw [h.back (by exact ey) (by decide),List.nil_append] at e2;have e3:=e3.trans d3;generalize hC1:({ QD (P.r c) (iP R1 c) with aK:=(iP R1 c).src }:dH)=C1 at e1;have cr1:C1.role=0:=by rw [<-hC1];rfl
 have ct1:C1.term=2:=by rw [<-hC1];show R1.term=2;exact t1
 have cg1:C1.log=L:=by rw [<-hC1];exact lc
 have ci1:C1.id=c:=by rw [<-hC1];exact ic
 have cw1:C1.Ok:=by
  have:=(lQ (m:=iP R1 c) (r:=P.r c) ⟨wc,λ_=>by omega⟩).1.ok;rw [x1,hC1] at this;exact this
 have et1:(iP R1 c).term=2:=t1;rw [et1,ey] at e2;generalize hP2:dV P1=P2 at e1 e2 e3;have hm2:(⟨1,(c:Nat),(o:Nat),2,0,0,0,true,[]⟩:bA).fY o:=tZ (id:=c) (to:=o) (kind:=1) hc3 xM (Ne.symm KR) (by decide) (by decide) (by decide) (by decide) (by decide) true;have D5:P2.r o=R1:=by rw [e1,bG _ _ KR,d1,aS]
 obtain ⟨f1,f2,f3⟩:=vA (P:=P2) (m:=⟨1,(c:Nat),(o:Nat),2,0,0,0,true,[]⟩) (rest:=[]) (j:=o) e2 (by rw [e3];exact h.co) rfl;obtain ⟨y1,y2⟩:=aJa (r:=R1) (m:=⟨1,(c:Nat),(o:Nat),2,0,0,0,true,[]⟩) (by rw [i1];exact hm2) rfl r1 t1.symm rfl (aEf xM hc3 KR (by
  show put R1.bX ((c:Nat):Int).toNat true o=true;rw [J6,bG _ _ KR];exact v1) (by
  show put R1.bX ((c:Nat):Int).toNat true c=true;rw [J6,aS]))
 rw [D5] at f1 f2;rw [y1] at f1;rw [y2,e3] at f2;have f3:=f3.trans e3;have w2:(gH R1 ⟨1,(c:Nat),(o:Nat),2,0,0,0,true,[]⟩).Ok:=by
  have:=(lQ (m:=(⟨1,(c:Nat),(o:Nat),2,0,0,0,true,[]⟩:bA)) (r:=R1) ⟨w1,λ_=>by omega⟩).1.ok;rw [y1] at this;exact this
 generalize hR2:gH R1 ⟨1,(c:Nat),(o:Nat),2,0,0,0,true,[]⟩=R2 at f1 f2 w2;have r2:R2.role=2:=by rw [<-hR2];rfl
 have t2:R2.term=2:=by rw [<-hR2];exact t1
 have g2:R2.log=L:=by rw [<-hR2];exact g1
 have i2:R2.id=o:=by rw [<-hR2];exact i1
 have n2:∀ k,R2.next k=L.length+1:=λk=>by rw [<-hR2];show R1.log.length+1=_;rw [g1]
 have m2:∀ k,R2.cE k=0:=λk=>by rw [<-hR2];rfl
 have ea:bL R2=(aL o).map λk=>entriesOf R2 k:=by unfold bL;rw [i2]
 rw [ea,h.WN (a0A R2) (by decide),List.nil_append] at f2;generalize hP3:dV P2=P3 at f1 f2 f3;have hE:∃ E,E=entriesOf R2 c:=⟨_,rfl⟩;obtain ⟨E,hE⟩:=hE;rw [<-hE] at f2;have Ek:E.kind=2:=by rw [hE];rfl
 have Es:E.src=(o:Nat):=by rw [hE];show ((R2.id:Nat):Int)=o;rw [i2]
 have Eto:E.to=(c:Nat):=by rw [hE];rfl
 have Et:E.term=2:=by rw [hE];exact t2
 have Ei:E.index=(L.length:Nat):=by rw [hE];show ((R2.next c - 1:Nat):Int)=_;rw [n2];rfl
 have Ep:E.prev=aU L L.length:=by rw [hE];show aU R2.log (R2.next c - 1)=_;rw [n2,g2];rfl
 have Er:E.aE=[]:=by rw [hE];show (R2.log.drop (R2.next c - 1)).take 8=[];rw [n2,g2,Nat.add_sub_cancel,List.drop_length];rfl
 have hn2:=w2.next r2 c;have hm3:E.fY c:=by
  rw [hE];have:=B6 w2 (by omega) hc3 (by rw [i2];exact KR) hn2.1 hn2.2.1 (c:=R2.aD) (by have:=w2.aD;have:=w2.len;omega);exact this
 have aQV:P3.r c=C1:=by rw [f1,bG _ _ (Ne.symm KR),e1,aS]
 have b2s:P3.r o=R2:=by rw [f1,aS]
 obtain ⟨k1,k2,k3⟩:=vA (P:=P3) (m:=E) (rest:=[]) (j:=c) f2 (by rw [f3,Es,Eto];exact h.oc) Eto;have aQW:J7 C1.log E=false:=by
  unfold J7;rw [cg1,Ei,Ep,J6];simp
 have hK:¬ eM C1 E<E.aE.length:=by rw [Er];simp
 obtain ⟨z1,z2⟩:=a7S (r:=C1) (m:=E) (by rw [ci1];exact hm3) Ek (by omega) (by omega) aQW hK;rw [aQV] at k1 k2;rw [z1] at k1;rw [z2,f3] at k2;have k3:=k3.trans f3;have cw2:(Z2 C1 E).Ok:=by
  have:=(lQ (m:=E) (r:=C1) ⟨cw1,λ_=>by omega⟩).1.ok;rw [z1] at this;exact this
 have eA:iC C1 E=⟨3,(c:Nat),(o:Nat),2,(L.length:Nat),0,0,true,[]⟩:=by
  unfold iC;rw [ci1,Es,ct1,Ei,Er];simp
 rw [eA,h.back (by rfl) (by decide),List.nil_append] at k2;generalize hP4:dV P3=P4 at k1 k2 k3;have hlen:=w2.len;rw [g2] at hlen;have hm4:(⟨3,(c:Nat),(o:Nat),2,(L.length:Nat),0,0,true,[]⟩:bA).fY o:=tZ (id:=c) (to:=o) (kind:=3) hc3 xM (Ne.symm KR) (by decide) (by decide) (by decide) (by omega) (by omega) true;have ho4:P4.r o=R2:=by rw [k1,bG _ _ KR,b2s]
 obtain ⟨l1,l2,l3⟩:=vA (P:=P4) (m:=⟨3,(c:Nat),(o:Nat),2,(L.length:Nat),0,0,true,[]⟩) (rest:=[]) (j:=o) k2 (by rw [k3];exact h.co) rfl;obtain ⟨q1,q2⟩:=aCc (r:=R2) (m:=⟨3,(c:Nat),(o:Nat),2,(L.length:Nat),0,0,true,[]⟩) (by rw [i2];exact hm4) rfl t2.symm r2 rfl (by rw [g2];exact Int.le_refl _) (by rw [g2];show L.length<max _ ((L.length:Nat):Int).toNat+1;rw [J6];omega);rw [ho4] at l1 l2;rw [q1] at l1;rw [q2,TR] at l2
 have l3:=l3.trans k3;have w3:(aQ (dQ R2 ⟨3,(c:Nat),(o:Nat),2,(L.length:Nat),0,0,true,[]⟩)).Ok:=by
  have:=(lQ (m:=(⟨3,(c:Nat),(o:Nat),2,(L.length:Nat),0,0,true,[]⟩:bA)) (r:=R2) ⟨w2,λ_=>by omega⟩).1.ok;rw [q1] at this;exact this
 obtain ⟨a1,a2,a3,a4,a5,a6,a7⟩:=vN (dQ R2 ⟨3,(c:Nat),(o:Nat),2,(L.length:Nat),0,0,true,[]⟩);generalize hR3:aQ (dQ R2 ⟨3,(c:Nat),(o:Nat),2,(L.length:Nat),0,0,true,[]⟩)=R3 at l1 w3 a1 a2 a3 a4 a5 a6 a7;obtain ⟨k',rfl⟩:∃ k',k=k'+4:=⟨k - 4,by omega⟩;have ed:(mK (k'+4) P1).1=dV P4:=by
  rw [show k'+4=(k'+3)+1 from rfl,jQ d2,hP2,show k'+3=(k'+2)+1 from rfl,jQ e2,hP3,show k'+2=(k'+1)+1 from rfl,jQ f2,hP4,jQ k2,CV l2]
 rw [ed];have fo:(dV P4).r o=R3:=by rw [l1,aS]
 have fc:(dV P4).r c=Z2 C1 E:=by rw [l1,bG _ _ (Ne.symm KR),k1,aS]
 have fa:(dV P4).r a=P.r a:=by rw [l1,bG _ _ hao,k1,bG _ _ hac,f1,bG _ _ hao,e1,bG _ _ hac,d1,bG _ _ hao]
 have em:∀ k,R3.cE k=put R2.cE c (max (R2.cE c) L.length) k:=λk=>by
  rw [a4];show put R2.cE ((c:Nat):Int).toNat (max (R2.cE ((c:Nat):Int).toNat) ((L.length:Nat):Int).toNat) k=_;rw [J6,J6]
 refine ⟨l3,l2,fa,by rw [fo,a1];exact r2,by rw [fo,a2];exact g2,by rw [fo,a6];exact t2,?_,?_,?_,by rw [fo];exact w3,by rw [fo,a5];exact i2,by rw [fc];rfl,by rw [fc];exact cg1,by rw [fc];exact ct1,by rw [fc];exact cw2,by rw [fc];exact ci1⟩
 .rw [fo,a3];show put R2.next ((c:Nat):Int).toNat (max (R2.cE ((c:Nat):Int).toNat) ((L.length:Nat):Int).toNat+1) c=_;rw [J6,J6,aS,m2];omega
 .rw [fo,em,aS,m2];omega
 .rw [fo,em,bG _ _ hac,m2]
end
def pg0:vB:=⟨λj=>dP j 0 (-1) [],[],0,[]⟩
abbrev sA:ByteArray:=ByteArray.mk #[97]
abbrev sB:ByteArray:=ByteArray.mk #[98]
def pg1:vB × Nat:=gA pg0 1 99
def pg2:vB:=gD pg1.1 1 sA
def pg3:vB × Nat:=gA pg2 1 99
theorem a7U:pg1.2=8/\(pg1.1.r 1).role=2/\(pg1.1.r 0).term=1/\(aF (pg1.1.r 1) sA).2.1=1/\(aF (pg1.1.r 1) sA).2.2.1=0/\pg3.2=8/\(pg3.1.r 0).role≠2/\pg3.1.eS.length=1/\(pg3.1.eS.map ByteArray.size)=[1]/\(pg3.1.eS.map λs=>s.data.toList)=[[97]]:=by decide +kernel
theorem a7V{D}:dA 0 0 D NJ pg0:=by
 obtain ⟨P,f,h1,h2,h3⟩:=aJb (D:=D);have hc:=f.eS;obtain ⟨r,fl,sp,eS⟩:=P;have h2:fl=[]:=h2;have h3:sp=0:=h3;have hc:[]=eS:=hc;have h1:r=λj=>dP j 0 (-1) []:=funext h1;rw [h1,h2,h3,<-hc] at f;exact f
theorem aMr:pg3.1.eS=[sA]:=by
 have h:=a7U.2.2.2.2.2.2.2.2.2;generalize pg3.1.eS=l at h;cases l with
 | nil=>cases h
 | cons a l =>
  cases l with
  | nil =>
   simp only [List.map_cons,List.map_nil,List.cons.injEq,and_true] at h;have:a=sA:=ByteArray.ext (Array.toList_inj.1 h);rw [this]
  | cons b l=>simp at h
theorem aEv{G:gV}{i}(hi:i<3){u}(hu:(G.mem i).up=some u)(hr:u.r.role≠2)(data):cR G i data=(G,0,24):=by
 unfold cR;rw [if_neg (by omega),J6,hu];simp only;rw [wT hr,if_pos (show (24:Int)≠0 by decide)]
section
variable {W w:World}{S:List Own}{Φ:PW}{L:KS}{G:gV}{N D:Nat}{B:Int}{P:vB}
theorem dA.gi(h:dA N B D G P):∃ C g A,GI N B D G C g A:=by
 obtain ⟨C,g,A,h,_⟩:=h;exact ⟨C,g,A,h⟩
theorem aEw[aB Φ](hJ:JI Φ):dF Φ prog F.rD #[] (.bool true):=by
 obtain ⟨e1,e2,e3,e4,e5,e6,e7,_,_,_⟩:=a7U;have f0:dA 0 0 1 NJ pg0:=a7V;obtain ⟨C0,g0,A0,h0⟩:=f0.gi;obtain ⟨f1,c1⟩:=f0.settle (i:=1) (by decide) (by decide) 99;have f1:dA 0 1 1 (bS NJ 1 99).1 pg1.1:=f1;obtain ⟨C1,g1,A1,h1⟩:=f1.gi;obtain ⟨f2,c2⟩:=f1.rS (i:=1) (data:=sA) (by decide) (by decide) (by decide) e5;have f2:dA 1 1 1 (cR (bS NJ 1 99).1 1 sA).1 pg2:=f2;obtain ⟨C2,g2,A2,h2⟩:=f2.gi;obtain ⟨f3,c3⟩:=f2.settle (i:=1) (by decide) (by decide) 99
 have f3:dA 1 2 1 (bS (cR (bS NJ 1 99).1 1 sA).1 1 99).1 pg3.1:=f3;obtain ⟨C3,g3,A3,h3⟩:=f3.gi;have n1:((bS NJ 1 99).2:Int)=8:=by
  have:(bS NJ 1 99).2=pg1.2:=c1;rw [this,e1];rfl
 have n3:((bS (cR (bS NJ 1 99).1 1 sA).1 1 99).2:Int)=8:=by
  have:(bS (cR (bS NJ 1 99).1 1 sA).1 1 99).2=pg3.2:=c3;rw [this,e6];rfl
 have r1:UO (bS NJ 1 99).1 1=2:=by
  have:=(f1.role (i:=1) (by decide)).1;exact this.trans e2
 have t1:UP (bS NJ 1 99).1 0=1:=by
  have:=(f1.role (i:=0) (by decide)).2.1;exact this.trans e3
 have p1:(cR (bS NJ 1 99).1 1 sA).2=(1,0):=by
  have c2:(cR (bS NJ 1 99).1 1 sA).2=((aF (pg1.1.r 1) sA).2.1,0):=c2;rw [c2,e4]
 have p4:cR (bS (cR (bS NJ 1 99).1 1 sA).1 1 99).1 0 sB=((bS (cR (bS NJ 1 99).1 1 sA).1 1 99).1,0,24):=by
  obtain ⟨u,hu,hr,_⟩:=f3.upS (i:=0) (by decide);exact aEv (i:=0) (by decide) hu (by rw [hr];exact e7) sB
 have k3:(bS (cR (bS NJ 1 99).1 1 sA).1 1 99).1.eS=[sA]:=by rw [f3.eS,aMr]
 refine kE EI λW R=>λw Y cx=>?_;refine a7M (S:=R++Y) hJ.off hJ.num cx λL0 Ψ w hst hw hF cx=>?_
 haveI:=hst
 have hJ1:JI Ψ:=hJ.weak hw;refine ⟨_,rfl,eG L0 NJ++R,Ψ,hst,by rw [bM];exact cx,Br.intro (λh=>by cases h) (λ_=>λw Y cx=>?_)⟩;rw [bM] at cx;refine h0.sets (by decide) (by decide) hJ1 hF (by unfold bE;decide) cx λL1 w aEl hF1 cx=>⟨_,rfl,eG L1 (bS NJ 1 99).1++R,Ψ,hst,by rw [bM];exact cx,λw Y cx=>?_⟩;rw [n1,<-aEl];rw [bM] at cx;generalize bS NJ 1 99=s1 at *;refine aEn cx λw cx=>⟨_,rfl,eG L1 s1.1++R,Ψ,hst,by rw [bM];exact cx,Br.intro (λ_=>λw Y cx=>?_) (λh=>absurd r1 (eV h))⟩
 rw [bM] at cx;refine aEo cx λw cx=>⟨_,rfl,eG L1 s1.1++R,Ψ,hst,by rw [bM];exact cx,λw Y cx=>?_⟩;rw [t1];rw [bM] at cx;refine rT hJ1.off hJ1.tab hF1 h1.V6 (λu hid hu=>h1.J2 (by decide) (by decide) hid hu) (λu hne=>CT hne) cx λL2 w aQA hg cx=>⟨_,_,rfl,eG L2 (cR s1.1 1 sA).1++R,Ψ,hst,by rw [bM];exact cx,λw Y cx=>?_⟩;rw [p1,<-aQA];have hF2:=hg Ψ hF1;rw [bM] at cx;generalize cR s1.1 1 sA=s2 at *;refine h2.sets (by decide) (by decide) hJ1 hF2 (by unfold bE;decide) cx λL3 w aQX hF3 cx=>⟨_,rfl,eG L3 (bS s2.1 1 99).1++R,Ψ,hst,by rw [bM];exact cx,λw Y cx=>?_⟩
 rw [n3,<-aQX];rw [bM] at cx;generalize bS s2.1 1 99=s3 at *;refine rT hJ1.off hJ1.tab hF3 h3.V6 (λu hid hu=>h3.J2 (by decide) (by decide) hid hu) (λu hne=>CT hne) cx λL4 w aJe hg cx=>?_;rw [p4] at hg cx ⊢;have hF4:=hg Ψ hF3;refine ⟨_,_,rfl,eG L4 s3.1++R,Ψ,hst,by rw [bM];exact cx,?_⟩;refine Br.intro (λ_=>Br.intro (λ_=>Br.intro (λ_=>Br.intro (λ_=>Br.intro (λ_=>Br.intro (λ_=>λw Y cx=>?_) (λh=>absurd rfl (eV h))) (λh=>absurd rfl (eV h))) (λh=>absurd rfl (eV h))) (λh=>absurd rfl (eV h))) (λh=>absurd rfl (eV h))) (λh=>absurd rfl (eV h))
 rw [bM,<-aJe] at *;refine yI (λs hs=>by rw [k3] at hs;rw [List.mem_singleton.1 hs];decide) (by rw [k3];decide) cx λp c w hc cx=>?_;rw [k3] at hc cx ⊢;refine ⟨_,_,_,rfl,eG L4 s3.1++R,_,dD Ψ (λM w=>Sl M w p [sA]),by rw [bM];exact cx,λk w Y cx=>?_⟩;obtain ⟨x9,hs⟩:=Ctx.BZ (α:=ByteArray) (l:=[sA]) cx (tX (l:=[sA]) λx hx=>by rw [List.mem_singleton.1 hx];decide);have QA:=x9.add (Ψ:=λM w=>Sl M w (some ⟨k,0,none⟩) [sA]) hs
 have hsame:dF (λM w=>(Ψ M w/\Sl M w p [sA])/\Sl M w (some ⟨k,0,none⟩) [sA]) prog F.eU #[.slice p 1 c,.slice (some ⟨k,0,none⟩) 1 1] (.bool (decide ([sA]=[sA]))):=a4n (a:=[sA]) (b:=[sA]) (λM w h=>h.1.2) (λM w h=>h.2) (by decide);refine hsame.use QA λw cx=>⟨_,rfl,eG L4 s3.1++R,_,aR,cx,λw Y cx=>⟨?_,?_⟩⟩
 .rw [decide_eq_true rfl]
 .exact (Ctx.right (S:=eG L4 s3.1) cx.left).weak λM w h=>hw M w h.1.1
end
section
variable {W w:World}{S R Y:List Own}{Φ:PW}
end
theorem a7W(l m){n}(h:n<=l.length):aU (l++m) n=aU l n:=by
 cases n with
 | zero=>rfl
 | succ k=>rw [gR (show k<(l++m).length by rw [List.length_append];omega),gR (show k<l.length by omega),List.getElem_append_left (show k<l.length by omega)]
theorem aAO(l):agree l l=l.length:=by
 induction l with
 | nil=>rfl
 | cons a l ih=>unfold agree;rw [if_pos rfl,ih];rfl
structure SpQ(sp:Int)(a o c:Nat)(L:List bH)(ra:dH)(P:vB):Prop where
 sp:P.sp=sp
 fl:P.fl=[]
 ra:P.r a=ra
 ro:(P.r o).role=2
 lo:(P.r o).log=L
 to:(P.r o).term=2
 co:(P.r o).aD=L.length
 rc:(P.r c).role=0
 lc:(P.r c).log=L
 tc:(P.r c).term=2
section
variable {sp:Int}{a o c:Nat}
theorem aQY(h:SpN sp a o c){r}(hid:r.id=o)(h0:r.cE a=0):lI r=r.cE c:=by
 unfold lI;rw [hid];rcases h.oth with e|e
 .rw [e];show max (max 0 (r.cE a)) (r.cE c)=_;omega
 .rw [e];show max (max 0 (r.cE c)) (r.cE a)=_;omega
set_option maxHeartbeats 1000000 in
theorem SpN.keep(h:SpN sp a o c){P L ra}(s:SpO sp a o c L ra P)(hL:L.length<=100){data}(hd:data.size<=2000){k}(hk:4<=k):
  (aF (P.r o) data).2.1=((L.length+1:Nat):Int)/\(aF (P.r o) data).2.2.1=0/\SpQ sp a o c (L++[⟨2,data⟩]) ra (mK k (eE (gD P o data) o)).1:=by
 obtain ⟨ha3,xM,hc3⟩:=h.lt;obtain ⟨hao,hac,KR⟩:=h.ne;have hp:=rL (r:=P.r o) (data:=data) (by rw [s.ro];simp) (by omega) (by rw [s.lo];omega);rw [hp];refine ⟨by rw [s.lo],rfl,?_⟩;obtain ⟨d1,d2,d3⟩:=V7 P o ((aF (P.r o) data).1,(aF (P.r o) data).2.2.2);have d1:(gD P o data).r=put P.r o (aF (P.r o) data).1:=d1;have d2:(gD P o data).fl=iN P.sp o P.fl (aF (P.r o) data).2.2.2.send:=d2;have d3:(gD P o data).sp=sp:=d3.trans s.sp
 have w1:=(qA (r:=P.r o) ⟨s.wo,λ_=>by rw [s.to];decide⟩ data).1.ok;rw [hp] at d1 d2 w1;have d2:(gD P o data).fl=iN P.sp o P.fl (bL (iU (P.r o) data)):=d2;generalize hR:iU (P.r o) data=R at d1 d2 w1;have w1:R.Ok:=w1;have r1:R.role=2:=by rw [<-hR];exact s.ro
 have t1:R.term=2:=by rw [<-hR];exact s.to
 have g1:R.log=L++[⟨2,data⟩]:=by rw [<-hR];show (P.r o).log++[⟨(P.r o).term,data⟩]=_;rw [s.lo,s.to]
 have i1:R.id=o:=by rw [<-hR];exact s.io
 have n1:R.next c=L.length+1:=by rw [<-hR];exact s.no
 have m1:R.cE a=0:=by rw [<-hR];exact s.ma
 have k1:R.aD<=L.length:=by
  have:=s.wo.aD;rw [s.lo] at this;rw [<-hR];exact this
 have B8:(L++[(⟨2,data⟩:bH)]).length=L.length+1:=by rw [List.length_append,List.length_singleton]
 have ea:bL R=(aL o).map λk=>entriesOf R k:=by unfold bL;rw [i1]
 rw [ea,s.sp,s.fl,h.WN (a0A R) (by decide),List.nil_append] at d2;generalize gD P o data=P1 at d1 d2 d3;have d1:P1.r=put P.r o R:=d1;have qT:P1.r o=R:=by rw [d1,aS]
 obtain ⟨e1,e2,e3⟩:=V7 P1 o (cV (P1.r o));have e1:(eE P1 o).r=put P1.r o (cV (P1.r o)).1:=e1;have e2:(eE P1 o).fl=iN P1.sp o P1.fl (cV (P1.r o)).2.send:=e2;have e3:(eE P1 o).sp=sp:=e3.trans d3;rw [qT,j6 r1] at e1 e2;have e1:(eE P1 o).r=put P1.r o R:=e1;have e2:(eE P1 o).fl=iN P1.sp o P1.fl (bL R):=e2;rw [ea,d3,d2,h.WN (fl:=[entriesOf R c]) (a0A R) (show (1:Nat)<500 by decide)] at e2;generalize eE P1 o=P2 at e1 e2 e3
 obtain ⟨E,hE⟩:∃ E,E=entriesOf R c:=⟨_,rfl⟩;rw [<-hE] at e2;have e2:P2.fl=[E,E]:=e2;have Ek:E.kind=2:=by rw [hE];rfl
 have Es:E.src=(o:Nat):=by rw [hE];show ((R.id:Nat):Int)=o;rw [i1]
 have Eto:E.to=(c:Nat):=by rw [hE];rfl
 have Et:E.term=2:=by rw [hE];exact t1
 have Ei:E.index=(L.length:Nat):=by rw [hE];show ((R.next c - 1:Nat):Int)=_;rw [n1];rfl
 have Ep:E.prev=aU L L.length:=by rw [hE];show aU R.log (R.next c - 1)=_;rw [n1,g1,Nat.add_sub_cancel,a7W _ _ (Nat.le_refl _)]
 have Er:E.aE=[⟨2,data⟩]:=by rw [hE];show (R.log.drop (R.next c - 1)).take 8=_;rw [n1,g1,Nat.add_sub_cancel,List.drop_left];rfl
 have hn1:=w1.next r1 c;have hmE:E.fY c:=by
  rw [hE];have:=B6 w1 (by omega) hc3 (by rw [i1];exact KR) hn1.1 hn1.2.1 (c:=R.aD) (by omega);exact this
 obtain ⟨C,hC⟩:∃ C,C=P.r c:=⟨_,rfl⟩;have JR:P2.r c=C:=by rw [e1,bG _ _ (Ne.symm KR),d1,bG _ _ (Ne.symm KR),hC]
 have D5:P2.r o=R:=by rw [e1,aS]
 have ha2:P2.r a=ra:=by rw [e1,bG _ _ hao,d1,bG _ _ hao];exact s.ra
 have cg:C.log=L:=by rw [hC];exact s.lc
 have ct:C.term=2:=by rw [hC];exact s.tc
 have cr:C.role=0:=by rw [hC];exact s.rc
 have ci:C.id=c:=by rw [hC];exact s.ic
 have cw:C.Ok:=by rw [hC];exact s.wc
 have ck:C.aD<=L.length:=by have:=cw.aD;rw [cg] at this;exact this
 obtain ⟨f1,f2,f3⟩:=vA (P:=P2) (m:=E) (rest:=[E]) (j:=c) e2 (by rw [e3,Es,Eto];exact h.oc) Eto;have aQW:J7 C.log E=false:=by
  unfold J7;rw [cg,Ei,Ep,J6];simp
 have hK:eM C E=0:=by
  unfold eM;rw [cg,Ei,J6,List.drop_length];unfold agree;rfl
 obtain ⟨x1,x2⟩:=aMo (r:=C) (m:=E) (by rw [ci];exact hmE) Ek (by omega) (by omega) aQW (by rw [hK,Er];exact Nat.zero_lt_one) (by rw [hK,Ei,J6];omega);rw [JR] at f1 f2;rw [x1] at f1;have w2:=(lQ (m:=E) (r:=C) ⟨cw,λ_=>by omega⟩).1.ok;rw [x1] at w2;rw [x2,e3] at f2;have f3:=f3.trans e3;obtain ⟨A,hA⟩:∃ A:bA,A=⟨3,(c:Nat),(o:Nat),2,((L.length+1:Nat):Int),0,0,true,[]⟩:=⟨_,rfl⟩;have eA:iC C E=A:=by
  unfold iC;rw [hA,ci,Es,ct,Ei,Er];simp
 rw [eA,h.back (fl:=[E]) (by rw [hA]) (show (1:Nat)<500 by decide)] at f2;have f2:(dV P2).fl=[E,A]:=f2;generalize hC1:E0 C E (eM C E)=C1 at f1 w2;have cg1:C1.log=L++[⟨2,data⟩]:=by rw [<-hC1,hK];show C.log.take (E.index.toNat+0)++E.aE.drop 0=_;rw [cg,Ei,J6,Nat.add_zero,List.take_length,Er];rfl
 have cr1:C1.role=0:=by rw [<-hC1];rfl
 have ct1:C1.term=2:=by rw [<-hC1];exact ct
 have ci1:C1.id=c:=by rw [<-hC1];exact ci
 generalize hP3:dV P2=P3 at f1 f2 f3;have aQV:P3.r c=C1:=by rw [f1,aS]
 obtain ⟨k1',k2,k3⟩:=vA (P:=P3) (m:=E) (rest:=[A]) (j:=c) f2 (by rw [f3,Es,Eto];exact h.oc) Eto;have aXb:J7 C1.log E=false:=by
  unfold J7;rw [cg1,Ei,Ep,J6,a7W _ _ (Nat.le_refl _),B8];simp;omega
 have hK2:¬ eM C1 E<E.aE.length:=by
  unfold eM;rw [cg1,Ei,J6,List.drop_left,Er,aAO];exact Nat.lt_irrefl _
 obtain ⟨y1,y2⟩:=a7S (r:=C1) (m:=E) (by rw [ci1];exact hmE) Ek (by omega) (by omega) aXb hK2;rw [aQV] at k1' k2;rw [y1] at k1';rw [y2,f3] at k2;have k3:=k3.trans f3;have eA2:iC C1 E=A:=by
  unfold iC;rw [hA,ci1,Es,ct1,Ei,Er];simp
 rw [eA2,h.back (fl:=[A]) (by rw [hA]) (show (1:Nat)<500 by decide)] at k2;have k2:(dV P3).fl=[A,A]:=k2;generalize hP4:dV P3=P4 at k1' k2 k3;have hmA:A.fY o:=by rw [hA];exact tZ (id:=c) (to:=o) (kind:=3) hc3 xM (Ne.symm KR) (by decide) (by decide) (by decide) (by omega) (by omega) true
 have Ak:A.kind=3:=by rw [hA]
 have At:A.term=2:=by rw [hA]
 have Ay:A.yes=true:=by rw [hA]
 have Ai:A.index=((L.length+1:Nat):Int):=by rw [hA]
 have As:A.src=(c:Nat):=by rw [hA]
 have Ato:A.to=(o:Nat):=by rw [hA]
 have ho4:P4.r o=R:=by rw [k1',bG _ _ KR,f1,bG _ _ KR,D5]
 obtain ⟨l1,l2,l3⟩:=vA (P:=P4) (m:=A) (rest:=[A]) (j:=o) k2 (by rw [k3,As,Ato];exact h.co) Ato;have step:∀ (r:dH),r.Ok->r.id=o->r.role=2->r.term=2->r.log=L++[⟨2,data⟩]->r.cE a=0->(aT r A).2.send=[]/\(aT r A).1.Ok/\(aT r A).1.id=o/\(aT r A).1.role=2/\(aT r A).1.term=2/\(aT r A).1.log=L++[⟨2,data⟩]/\(aT r A).1.cE a=0/\(aT r A).1.aD=L.length+1:=λr w i ro t g ma=>by
  obtain ⟨q1,q2⟩:=aCc (r:=r) (m:=A) (by rw [i];exact hmA) Ak (by omega) ro Ay (by rw [g,B8,Ai];exact Int.le_refl _) (by rw [g,B8,Ai,J6];omega);have w3:=(lQ (m:=A) (r:=r) ⟨w,λ_=>by omega⟩).1.ok;obtain ⟨a1,a2,a3,a4,a5,a6,a7⟩:=vN (dQ r A);rw [q1] at w3 ⊢;have hm0:(dQ r A).cE a=0:=by
   show put r.cE A.src.toNat _ a=0;rw [As,J6,bG _ _ hac,ma]
  have hmc:L.length+1<=(dQ r A).cE c:=by
   show _<=put r.cE A.src.toNat (max (r.cE A.src.toNat) A.index.toNat) c;rw [As,J6,aS,Ai,J6];exact Nat.le_max_right _ _
  have aMs:=(w3.next (by rw [a1];exact ro) c).2.2;rw [a4,a2] at aMs;have aMs:(dQ r A).cE c<=r.log.length:=aMs;rw [g,B8] at aMs;have a6X:=aQY h (r:=dQ r A) i hm0;have aMt:=w.aD;rw [g,B8] at aMt;have hcm:(dQ r A).aD=r.aD:=rfl;have ht:aU (dQ r A).log (L.length+1)=(dQ r A).term:=by
   show aU r.log (L.length+1)=r.term;rw [g,t,<-B8,TQ]
  refine ⟨q2,w3,a5.trans i,a1.trans ro,a6.trans t,a2.trans g,by rw [a4];exact hm0,?_⟩;unfold aQ;have e5:lI (dQ r A)=L.length+1:=by omega
  rw [e5,ht];by_cases hlt:r.aD<L.length+1
  .rw [if_pos (by rw [hcm,decide_eq_true hlt];simp)]
  .rw [if_neg (by rw [hcm,decide_eq_false hlt];simp),hcm];omega
 have s1:=step R w1 i1 r1 t1 g1 m1;rw [ho4] at l1 l2;rw [s1.1,TR] at l2;have l3:=l3.trans k3;obtain ⟨_,sw,si,sr,st,sg,sm,_⟩:=s1;generalize (aT R A).1=R3 at *;generalize hP5:dV P4=P5 at l1 l2 l3;have ho5:P5.r o=R3:=by rw [l1,aS]
 obtain ⟨n1',n2,n3⟩:=vA (P:=P5) (m:=A) (rest:=[]) (j:=o) l2 (by rw [l3,As,Ato];exact h.co) Ato;have s2:=step R3 sw si sr st sg sm;rw [ho5] at n1' n2;rw [s2.1,TR] at n2;have n3:=n3.trans l3;obtain ⟨_,uw,ui,ur,ut,ug,um,uc⟩:=s2;generalize (aT R3 A).1=R4 at *;obtain ⟨k',rfl⟩:∃ k',k=k'+4:=⟨k - 4,by omega⟩;have ed:(mK (k'+4) P2).1=dV P5:=by
  rw [show k'+4=(k'+3)+1 from rfl,jQ e2,hP3,show k'+3=(k'+2)+1 from rfl,jQ f2,hP4,show k'+2=(k'+1)+1 from rfl,jQ k2,hP5,jQ l2,CV n2]
 rw [ed];have fo:(dV P5).r o=R4:=by rw [n1',aS]
 have fc:(dV P5).r c=Z2 C1 E:=by rw [n1',bG _ _ (Ne.symm KR),l1,bG _ _ (Ne.symm KR),k1',aS]
 have fa:(dV P5).r a=ra:=by rw [n1',bG _ _ hao,l1,bG _ _ hao,k1',bG _ _ hac,f1,bG _ _ hac,ha2]
 exact ⟨n3,n2,fa,by rw [fo];exact ur,by rw [fo];exact ug,by rw [fo];exact ut,by rw [fo,uc,B8],by rw [fc];rfl,by rw [fc];exact cg1,by rw [fc];exact ct1⟩
end
structure aQZ(D:Nat)(G:gV)(a o:Nat)(L:List bH)(lost kept:ByteArray)(G2 G3 G4 G5 G6 G7 G8:gV):Prop where
 e2:(cR (E3 G ((2:Int) ^ a)) a lost).2=(((L.length+1:Nat):Int),0)
 g2:G2=(cR (E3 G ((2:Int) ^ a)) a lost).1
 g3:G3=(bS G2 a 1000).1
 g4:G4=(bS G3 o 1000).1
 e5:(cR G4 o kept).2=(((L.length+1:Nat):Int),0)
 g5:G5=(cR G4 o kept).1
 g6:G6=(bS G5 o 1000).1
 c6:G6.eS=(L++[(⟨2,kept⟩:bH)]).map bH.data
 g7:G7=ZG G6
 g8:G8=(bS G7 o 1000).1
 c8:G8.eS=(L++[(⟨2,kept⟩:bH)]).map bH.data
 l8:∀ k:Nat,k<3->a4f G8 k=L++[⟨2,kept⟩]
section
variable {N D:Nat}{B:Int}{G:gV}{P:vB}
theorem CB.at{P n}(h:CB N B (LS P))(hl:∀ k,k<3->(P.r k).log.length<=n)(hf:P.fl=[]):CB n B (LS P) :=
 ⟨λj hj=>⟨(h.rep j hj).nx,hl j hj,(h.rep j hj).term⟩,λm hm=>by
  have:m∈P.fl:=hm;rw [hf] at this;cases this⟩
theorem CB.aMu{n}(hD:Dr P)(h:CB n B (LS P)){i}(hi:i<3)(hc:P.fl.length+rU P+3<=298)(most):CB n (B+1) (LS (gA P i most).1):=by
 obtain ⟨d0,d1,d2⟩:=hD.tick hi hc;obtain ⟨g,A,hs⟩:=hD.inv;have hw:(P.r i).Wf:=(hs.m.wf.rep i hi).1;obtain ⟨t1,t2⟩:=WJ hw (h.rep i hi);refine (EH (Q:=λP=>CB n (B+1) (LS P)) (λP m rest j hD q he ha _=>?_) most.toNat d0 ⟨λj hj=>?_,λm hm=>?_⟩).2
 .rw [ha.cl hD he];obtain ⟨g,A,hs⟩:=hD.inv;exact q.aAx hs.m.wf 0 false
 .show RB n (B+1) ((eE P i).r j);rw [d1];by_cases e:j=i
  .subst e;rw [aS];exact t1
  .rw [bG _ _ e];exact (h.rep j hj).more (Nat.le_refl _) (by omega)
 .have hm:m∈(eE P i).fl:=hm;rw [d2] at hm;rcases List.mem_append.1 hm with hm|hm
  .exact (h.msg m hm).more (Nat.le_refl _) (by omega)
  .exact t2 m hm
set_option maxHeartbeats 1000000 in
theorem aEx{a L}(h:SpI a L D G P)(ha:a<3)(hL:L.length<=30)(hD:D<=100){lost kept}(aXc:lost.size<=D)(aXd:kept.size<=D):
  ∃ G2 G3 G4 G5 G6 G7 G8,aQZ D G a ((a+1) % 3) L lost kept G2 G3 G4 G5 G6 G7 G8:=by
 have hN:=aEu ha;generalize (a+1) % 3=o at *;generalize (a+2) % 3=c at *;obtain ⟨ha3,xM,hc3⟩:=hN.lt;obtain ⟨hao,hac,KR⟩:=hN.ne;have nR:∀ n,n<=40->n*(D+90)<=1048576:=λn hn=>by
  have:=Nat.mul_le_mul hn (show D+90<=190 by omega);omega
 have f1:=h.vR.aQG ((2:Int) ^ a);obtain ⟨q1,q2,q3,q4,q5,q6⟩:=h.dr.rS ha h.ro (λk hk=>by rw [h.tm k hk,h.tm a ha];exact Int.le_refl _) (λm hm=>by rw [h.fl] at hm;cases hm) (data:=lost) (by omega) (by rw [h.lg a ha];omega) (by rw [h.fl,h.ask ha];decide);obtain ⟨f2,e2⟩:=f1.rS (i:=a) (nR _ (by omega)) ha aXc q4;obtain ⟨d1,d2,d3⟩:=V7 { P with sp:=(2:Int) ^ a % 65536 } a ((aF (P.r a) lost).1,(aF (P.r a) lost).2.2.2)
 have hp:=rL (r:=P.r a) (data:=lost) (by rw [h.ro];simp) (by omega) (by rw [h.lg a ha];omega);have hf2:(gD { P with sp:=(2:Int) ^ a % 65536 } a lost)=doP { P with sp:=(2:Int) ^ a % 65536 } a ((aF (P.r a) lost).1,(aF (P.r a) lost).2.2.2):=rfl;rw [hf2] at f2;generalize doP { P with sp:=(2:Int) ^ a % 65536 } a ((aF (P.r a) lost).1,(aF (P.r a) lost).2.2.2)=P2 at f2 d1 d2 d3;rw [hp] at d1 d2;have dd1:P2.r=put P.r a (iU (P.r a) lost):=d1
 have aJf:(iU (P.r a) lost).role=2:=h.ro;have dd2:P2.fl=iN ((2:Int) ^ a % 65536) a P.fl (bL (iU (P.r a) lost)):=d2;have hid:(iU (P.r a) lost).id=a:=by
  obtain ⟨g,A,hs⟩:=h.dr.inv;exact (hs.m.wf.rep a ha).2
 have ea:bL (iU (P.r a) lost)=(aL a).map λk=>entriesOf (iU (P.r a) lost) k:=by unfold bL;rw [hid]
 rw [ea,hN.aCd (a0A _),h.fl] at dd2;have dd3:P2.sp=(2:Int) ^ a % 65536:=d3;clear d1 d2 d3;generalize hRA:iU (P.r a) lost=RA at *;have lRA:RA.log=L++[⟨(P.r a).term,lost⟩]:=by rw [<-hRA];show (P.r a).log++_=_;rw [h.lg a ha]
 have tRA:RA.term=1:=by rw [<-hRA];exact h.tm a ha
 have f3:=(f2.settle (i:=a) (nR _ (by omega)) ha 1000).1;have ha2:P2.r a=RA:=by rw [dd1,aS]
 obtain ⟨e1',e2',e3'⟩:=V7 P2 a (cV (P2.r a));rw [ha2,j6 aJf] at e1' e2' e3';have e2':(eE P2 a).fl=[]:=by
  unfold eE;rw [ha2,j6 aJf,e2'];show iN P2.sp a P2.fl (bL RA)=[];rw [ea,dd3,hN.aCd (a0A _),dd2]
 have hs3:(gA P2 a 1000).1=eE P2 a:=by unfold gA;rw [CV e2']
 have e1':(eE P2 a).r=P2.r:=by
  unfold eE;rw [ha2,j6 aJf,e1'];show put P2.r a RA=P2.r;rw [dd1]
  funext j
  by_cases e:j=a
  .subst e;rw [aS,aS]
  .rw [bG _ _ e]
 have e3':(eE P2 a).sp=(2:Int) ^ a % 65536:=by
  unfold eE;rw [ha2,j6 aJf];exact e3'.trans dd3
 rw [hs3] at f3;generalize eE P2 a=P3 at *;have r3:∀ j,j≠a->P3.r j=P.r j:=λj hj=>by rw [e1',dd1,bG _ _ hj]
 have ra3:P3.r a=RA:=by rw [e1',ha2]
 obtain ⟨g,A,hs⟩:=h.dr.inv;have wo:=(hs.m.wf.rep o xM);have wc:=(hs.m.wf.rep c hc3);have s4:=hN.aW7 (P:=P3) (L:=L) e3' e2' (by rw [r3 o (Ne.symm hao)];exact h.lg o xM) (by rw [r3 c (Ne.symm hac)];exact h.lg c hc3) (by rw [r3 o (Ne.symm hao)];exact h.tm o xM) (by rw [r3 c (Ne.symm hac)];exact h.tm c hc3) (by rw [r3 o (Ne.symm hao)];exact h.rk o xM (Ne.symm hao)) (by rw [r3 o (Ne.symm hao)];exact wo.1.ok) (by rw [r3 c (Ne.symm hac)];exact wc.1.ok) (by rw [r3 o (Ne.symm hao)];exact wo.2) (by rw [r3 c (Ne.symm hac)];exact wc.2) (λx hx=>by
  have h1:=(hs.m.wf.rep a ha).1.ok.log.hi x (by show x∈(P.r a).log;rw [h.lg a ha];exact hx);have h1:x.term<=(P.r a).term:=h1;rw [h.tm a ha] at h1;exact h1) (k:=1000) (by decide)
 have f4:=(f3.settle (i:=o) (nR _ (by omega)) xM 1000).1;rw [ra3] at s4;have s4:SpO ((2:Int) ^ a % 65536) a o c L RA (gA P3 o 1000).1:=s4;generalize (gA P3 o 1000).1=P4 at *;obtain ⟨p1,p2,s6⟩:=hN.keep s4 (by omega) (data:=kept) (by omega) (k:=1000) (by decide);obtain ⟨f5,e5⟩:=f4.rS (i:=o) (nR _ (by omega)) xM aXd p2;have f6:=(f5.settle (i:=o) (nR _ (by omega)) xM 1000).1;have s6:SpQ ((2:Int) ^ a % 65536) a o c (L++[⟨2,kept⟩]) RA (gA (gD P4 o kept) o 1000).1:=s6
 generalize (gA (gD P4 o kept) o 1000).1=P6 at *;have B8:(L++[(⟨2,kept⟩:bH)]).length=L.length+1:=by rw [List.length_append,List.length_singleton]
 have t6:∀ k,k<3->(P6.r k).term<=2:=λk hk=>by
  rcases hN.all k hk with rfl|rfl|rfl
  .rw [s6.ra,tRA];decide
  .rw [s6.to];exact Int.le_refl _
  .rw [s6.tc];exact Int.le_refl _
 have l6:∀ k,k<3->(P6.r k).log.length<=L.length+1:=λk hk=>by
  rcases hN.all k hk with rfl|rfl|rfl
  .rw [s6.ra,lRA,List.length_append];exact Nat.le_refl _
  .rw [s6.lo,B8];exact Nat.le_refl _
  .rw [s6.lc,B8];exact Nat.le_refl _
 have c6:=f6.a4U xM s6.ro (λk hk=>by rw [s6.to];exact t6 k hk) (by rw [s6.co,s6.lo]);have f7:=f6.aQy;generalize hP7:({ P6 with sp:=0 }:vB)=P7 at f7;have r7:P7.r=P6.r:=by rw [<-hP7]
 have fl7:P7.fl=[]:=by rw [<-hP7];exact s6.fl
 have sp7:P7.sp=0:=by rw [<-hP7]
 have aMv:rU P7=0:=by
  have one:∀ k,k<3->gK (P7.r k)=0:=λk hk=>by
   rw [r7];rcases hN.all k hk with rfl|rfl|rfl
   .rw [s6.ra];exact if_neg (by rw [aJf];decide)
   .exact if_neg (by rw [s6.ro];decide)
   .exact if_neg (by rw [s6.rc];decide)
  unfold rU;rw [one 0 (by decide),one 1 (by decide),one 2 (by decide)]
 have aIX:=f7.cnt;rw [fl7,aMv] at aIX;have D7:=f7.dr sp7 (by rw [<-aIX];decide);have cb7:CB (L.length+1) _ (LS P7):=f7.cb.at (by rw [r7];exact l6) fl7;have cb8:=CB.aMu D7 cb7 xM (by rw [fl7,aMv];decide) 1000;obtain ⟨k1,k2,k3,k4,_,k6⟩:=D7.V8 (N:=L.length+1) (L:=L++[⟨2,kept⟩]) (T:=2) (most:=1000) xM (by rw [r7];exact s6.ro) (by rw [r7];exact s6.lo) (by rw [r7];exact s6.to) (by rw [r7];exact t6) (λm hm=>by rw [fl7] at hm;cases hm) (λ_ _=>by rw [r7,s6.co,s6.lo]) (by rw [TQ]) (by rw [fl7,aMv];decide) (by rw [r7];exact l6) (by
  rw [fl7,aMv];show (0+2)*(4*(L.length+1)+10)+0*_<=1000;omega)
 have f8:=(f7.settle (i:=o) (nR _ (by omega)) xM 1000).1;generalize (gA P7 o 1000).1=P8 at *;have c8:=f8.a4U xM k2.ro (λk hk=>by have:=k2.tm k hk;rw [k2.li.tm];exact this) (by rw [k4,k2.log]);refine ⟨_,_,_,_,_,_,_,⟨by rw [e2,q3,h.lg a ha],rfl,rfl,rfl,by rw [e5,p1],rfl,rfl,?_,rfl,rfl,?_,λk hk=>?_⟩⟩
 .rw [f6.eS,c6,s6.lo]
 .rw [f8.eS,c8,k2.log]
 .rw [(f8.role hk).2.2.1];obtain ⟨x1,x2⟩:=k6 k hk;have x3:=(cb8.rep k hk).len;have x3:(P8.r k).log.length<=L.length+1:=x3;rw [<-x2,List.take_of_length_le (by omega)]
end
def spP(a:Nat):vB:=(gA pg0 a 1000).1
theorem aJg:∀ a,a<3->((spP a).r a).role=2/\(∀ k,k<3->((spP a).r k).term=1)/\(∀ k,k<3->((spP a).r k).log.length=0)/\(∀ k,k<3->k≠a->((spP a).r k).role=0)/\(∀ k,k<3->k≠a->((spP a).r a).cE k=0/\((spP a).r a).next k=1)/\((spP a).r a).aD=0/\(spP a).fl.length=0/\(spP a).sp=0:=by decide +kernel
theorem aEy{D:Nat}{a:Nat}(ha:a<3)(hD2:0*(D+90)<=1048576):∃ P,SpI a [] D (bS NJ a 1000).1 P:=by
 obtain ⟨h1,h2,h3,h4,h5,h6,h7,h8⟩:=aJg a ha;have f:dA 0 (0+1) D (bS NJ a 1000).1 (spP a):=(a7V.settle hD2 ha 1000).1;have hl:∀ k,k<3->((spP a).r k).log=[]:=λk hk=>List.eq_nil_of_length_eq_zero (h3 k hk);have hf:(spP a).fl=[]:=List.eq_nil_of_length_eq_zero h7;have WY:rU (spP a)=0:=by
  have one:∀ k,k<3->gK ((spP a).r k)=0:=λk hk=>by
   by_cases e:k=a
   .subst e;exact if_neg (by rw [h1];decide)
   .exact if_neg (by rw [h4 k hk e];decide)
  unfold rU;rw [one 0 (by decide),one 1 (by decide),one 2 (by decide)]
 have hc:=f.cnt;rw [hf,WY] at hc;refine ⟨spP a,f,f.dr h8 (by rw [<-hc];decide),h1,h2,hl,h4,λk hk hka=>⟨by rw [hl a ha];exact (h5 k hk hka).1,by rw [hl a ha];exact (h5 k hk hka).2⟩,h6,hf⟩
section
variable {W w:World}{S R Y:List Own}{Φ:PW}{L:KS}{G:gV}
theorem VX[aB Φ](hsz:∀ s∈G.eS,s.size<=maxLen)(hlen:G.eS.length<100000000)(cx:Ctx W w (eG L G++S) Φ){K}(hk:∀ p c w',Ctx W w' (eG L G++(.buf p G.eS.length c (cW G.eS) 9 1 :: S)) Φ->K (.returned (.slice p G.eS.length c)) w'):
  aG F.dZ #[.pointer (some ⟨L.gb,0,none⟩)] w K:=by
 refine iO (nF L.gb 0 (J:=K∘.returned) cx λw Y cx=>⟨L.cp,G.eS.length,L.cc,cx.get 0 rfl (by rfl),λw Y cx=>?_⟩);have jE:Ctx W w (S++Y) (Go.Vc.iT W (eG L G) Φ):=Ctx.aside (cx.re (bM _ _ _));refine a0u jE (λM w h=>aIR h (n:=G.eS.length) (c:=L.cc) (by unfold eG;simp) hsz) hlen λq cap w cx=>?_;have x9:Ctx W w (.buf q G.eS.length cap (cW G.eS) 9 1 :: (eG L G++(S++Y))) Φ:=cx.zU.perm List.perm_middle;have QA:Ctx W w ((eG L G++(.buf q G.eS.length cap (cW G.eS) 9 1 :: S))++Y) Φ:=by
  refine x9.perm ?_;rw [bM];exact List.perm_middle.symm
 exact ⟨q,_,cap,rfl,eG L G++(.buf q G.eS.length cap (cW G.eS) 9 1 :: S),Φ,aR,QA,λw Y cx=>hk q cap w cx.left⟩
theorem aMw{a:Nat}(ha:a<3)(w):Sem.run prog (binOp BinOp.shl 3 (Value.int IntKind.i64 1) (Value.int IntKind.u64 (IntKind.u64.wrap (a:Int)))) w=Result.ok (Value.int IntKind.i64 ((2:Int) ^ a)) w:=by
 match a,ha with
 | 0,_=>rfl
 | 1,_=>rfl
 | 2,_=>rfl
theorem aXg(a:Nat):(((a:Int)+1).tmod 3)=(((a+1) % 3:Nat):Int):=by
 rw [Int.tmod_eq_emod_of_nonneg (by omega)];omega
abbrev aNK:ByteArray:=ByteArray.mk #[OfNat.ofNat 108,OfNat.ofNat 111,OfNat.ofNat 115,OfNat.ofNat 116]
abbrev a0B:ByteArray:=ByteArray.mk #[OfNat.ofNat 107,OfNat.ofNat 101,OfNat.ofNat 112,OfNat.ofNat 116]
set_option maxHeartbeats 4000000 in
theorem aEz[aB Φ](hJ:JI Φ)(data n alone)(aXh:bE n):
  dF Φ prog F.lE #[.string data,.int .i64 n,.int .i64 alone] (.bool true):=by
 refine kE (x6 data n alone) λW R=>λw Y cx=>(aEw hJ).use cx λw cx=>⟨true,rfl,R,Φ,aR,cx,λw Y cx=>Br.intro (λh=>λw Y cx=>⟨rfl,cx.left⟩) (λhin=>λw Y cx=>?_)⟩;simp only [Bool.or_eq_false_iff,decide_eq_false_iff_not] at hin;obtain ⟨⟨⟨⟨hd,hn0⟩,b68⟩,ha0⟩,ha2⟩:=hin;obtain ⟨a,rfl⟩:∃ a:Nat,alone=a:=⟨alone.toNat,by omega⟩;obtain ⟨m,rfl⟩:∃ m:Nat,n=m:=⟨n.toNat,by omega⟩;have ha:a<3:=by omega
 have b69:m<=30:=by omega
 have hd:data.size<=50:=by omega
 refine a7M (S:=R++Y) hJ.off hJ.num cx λL0 Ψ w hst hw0 hF0 cx=>?_
 haveI:=hst
 refine ⟨_,rfl,eG L0 NJ++R,Ψ,hst,by rw [bM];exact cx,Br.intro (λh=>by cases h) (λ_=>λw Y cx=>?_)⟩;have hJ0:JI Ψ:=hJ.weak hw0;have hi0:GI 0 0 50 NJ cl0 gh0 _:=aIL;rw [bM] at cx;refine hi0.sets (by decide) (by decide) hJ0 hF0 (by unfold bE;decide) cx λL1 w aEl hF1 cx=>⟨_,rfl,eG L1 (bS NJ a 1000).1++R,Ψ,hst,by rw [bM];exact cx,?_⟩;clear cx;obtain ⟨P0,aXi⟩:=aEy (D:=50) ha (by decide);refine dS (λjI R' aX κ=>∃ (j:Nat) (L2:KS) (G:gV) (P:vB) (l:List bH),jI=j/\j<=m/\κ=m - j/\l.length=j/\R'=eG L2 G++R/\aX=Ψ/\L2.gb=L0.gb/\x4 Ψ L2 G/\SpI a l 50 G P)
  ⟨⟨_,Ψ,_,hst,λw Y cx=>cx,0,L1,_,P0,[],rfl,Nat.zero_le _,rfl,rfl,rfl,rfl,aEl,hF1,aXi⟩,?_⟩
 clear hF1 aEl aXi hi0 hF0;rintro jI R1 cL κ _ ⟨j,L2,G,P,l,rfl,hjm,rfl,hl,rfl,rfl,hgb,hF,hS⟩;obtain ⟨C,g,A,hGI⟩:=hS.vR.gi;have nR:∀ n,n<=60->n*(50+90)<=1048576:=λn hn=>by omega
 rw [<-hgb];clear hgb;refine Br.intro (λhlt=>λw Y cx=>?_) (λhge=>λw Y cx=>?_)
 .have hlt:j<m:=by have:=fV hlt;omega
  rw [bM] at cx;obtain ⟨e1,P',hS'⟩:=hS.next ha (by omega) (by decide) (data:=data) (by omega);obtain ⟨C2,g2,A2,aJh⟩:=(hGI.rS (nR _ (by omega)) (a:Int) (data:=data) (by omega)).gi;refine rT hJ0.off hJ0.tab hF hGI.V6 (λu hid hu=>hGI.J2 (nR _ (by omega)) (by omega) hid hu) (λu hne=>CT hne) cx λL4 w aJe hg cx=>?_;rw [e1];have hF4:=hg cL hF;generalize (cR G (a:Int) data).1=G5 at *;refine ⟨_,_,rfl,eG L4 G5++R,cL,hst,by rw [bM];exact cx,Br.intro (λh=>absurd rfl (fV h)) (λ_=>λw Y cx=>?_)⟩
  rw [<-aJe];rw [bM] at cx;refine aJh.sets (nR _ (by omega)) (by decide) hJ0 hF4 (by unfold bE;decide) cx λL5 w aQ0 hF5 cx=>?_;exact ⟨_,rfl,eG L5 (bS G5 a 1000).1++R,cL,hst,by rw [bM];exact cx,by unfold bE;omega,_,cL,_,hst,λw Y cx=>cx,⟨j+1,L5,_,P',l++[⟨1,data⟩],by omega,hlt,rfl,by rw [List.length_append,hl];rfl,rfl,rfl,by rw [aQ0],hF5,hS'⟩,by omega⟩
 have hjm:j=m:=by have:=eV hge;omega
 subst hjm;obtain ⟨G2,G3,G4,G5,G6,G7,G8,hR⟩:=aEx hS ha (by omega) (by decide) (lost:=aNK) (kept:=a0B) (by decide) (by decide);have aMt:G.eS=l.map bH.data:=by
  have:=hS.vR.a4U ha hS.ro (λk hk=>by rw [hS.tm k hk,hS.tm a ha];exact Int.le_refl _) (by rw [hS.cm,hS.lg a ha]);rw [hS.vR.eS,this,hS.lg a ha]
 have uK:G.eS.length=j:=by rw [aMt,List.length_map,hl]
 have hcz:=hGI.aAM;clear hge hS P;obtain ⟨r1,r2,r3,r4,r5,r6,r7,r8,r9,r10,r11,r12⟩:=hR;obtain ⟨C1,g1,A1,aQ1⟩:=(hGI.split ((2:Int) ^ a)).gi;obtain ⟨C2,g2,A2,aJh⟩:=(aQ1.rS (nR _ (by omega)) (a:Int) (data:=aNK) (by decide)).gi;rw [<-r2] at aJh;obtain ⟨C3,g3,A3,aQ2⟩:=(aJh.settle (nR _ (by omega)) (a:Int) 1000).gi;rw [<-r3] at aQ2;obtain ⟨o,ho⟩:∃ o,(a+1) % 3=o:=⟨_,rfl⟩;have xM:o<3:=by omega
 rw [ho] at r4 r5 r6 r7 r10;obtain ⟨C4,g4,A4,aMx⟩:=(aQ2.settle (nR _ (by omega)) (o:Int) 1000).gi;rw [<-r4] at aMx;obtain ⟨C5,g5,A5,aQ3⟩:=(aMx.rS (nR _ (by omega)) (o:Int) (data:=a0B) (by decide)).gi;rw [<-r6] at aQ3;obtain ⟨C6,g6,A6,aQ4⟩:=(aQ3.settle (nR _ (by omega)) (o:Int) 1000).gi;rw [<-r7] at aQ4;obtain ⟨C7,g7,A7,aQ5⟩:=aQ4.aQy.gi;rw [<-r9] at aQ5;obtain ⟨C8,g8,A8,aQ6⟩:=(aQ5.settle (nR _ (by omega)) (o:Int) 1000).gi
 rw [<-r10] at aQ6;rw [aXg,ho];rw [bM] at cx;refine VX (λs hs=>Nat.le_trans (hcz s hs) (by unfold maxLen;omega)) (by omega) cx λp0 c0 w cx=>?_;obtain ⟨R',hR'⟩:∃ R',R'=Own.buf p0 G.eS.length c0 (cW G.eS) 9 1 :: R:=⟨_,rfl⟩;have cx:Ctx W w (eG L2 G++(R'++Y)) cL:=by rw [hR'];exact cx
 refine ⟨p0,_,c0,rfl,eG L2 G++R',cL,hst,by rw [bM];exact cx,(2:Int) ^ a,λw=>aMw ha w,λw Y cx=>?_⟩;rw [bM] at cx;refine aAC cx λw hh cx=>⟨rfl,eG L2 (E3 G ((2:Int) ^ a))++R',cL,hst,by rw [bM];exact cx,λw Y cx=>?_⟩;have hF1:=hh cL hF;clear hh hF;rw [bM] at cx;refine rT hJ0.off hJ0.tab hF1 aQ1.V6 (λu hid hu=>aQ1.J2 (nR _ (by omega)) (by decide) hid hu) (λu hne=>CT hne) cx λL3 w aQX hg cx=>?_;rw [r1];have hF2:=hg cL hF1
 rw [<-r2] at hF2 cx;refine ⟨_,_,rfl,eG L3 G2++R',cL,hst,by rw [bM];exact cx,λw Y cx=>?_⟩;rw [<-aQX];clear hg hF1;rw [bM] at cx;refine aJh.sets (nR _ (by omega)) (by decide) hJ0 hF2 (by unfold bE;decide) cx λL4 w aJe hF3 cx=>?_;rw [<-r3] at hF3 cx;refine ⟨_,rfl,eG L4 G3++R',cL,hst,by rw [bM];exact cx,by unfold bE;omega,λh=>by omega,λw Y cx=>?_⟩;rw [<-aJe];rw [bM] at cx;refine aQ2.sets (nR _ (by omega)) (by decide) hJ0 hF3 (by unfold bE;decide) cx λL5 w aQ0 hF4 cx=>?_
 rw [<-r4] at hF4 cx;refine ⟨_,rfl,eG L5 G4++R',cL,hst,by rw [bM];exact cx,λw Y cx=>?_⟩;rw [<-aQ0];rw [bM] at cx;refine rT hJ0.off hJ0.tab hF4 aMx.V6 (λu hid hu=>aMx.J2 (nR _ (by omega)) (by decide) hid hu) (λu hne=>CT hne) cx λL6 w b2x hg cx=>?_;rw [r5];have hF5:=hg cL hF4;rw [<-r6] at hF5 cx;refine ⟨_,_,rfl,eG L6 G5++R',cL,hst,by rw [bM];exact cx,λw Y cx=>?_⟩;rw [<-b2x];clear hg;rw [bM] at cx;refine aQ3.sets (nR _ (by omega)) (by decide) hJ0 hF5 (by unfold bE;decide) cx λL7 w b2y hF6 cx=>?_
 rw [<-r7] at hF6 cx;refine ⟨_,rfl,eG L7 G6++R',cL,hst,by rw [bM];exact cx,λw Y cx=>?_⟩;rw [<-b2y];rw [bM] at cx;have b2z:=aQ4.aAM;have b2A:G6.eS.length=j+1:=by rw [r8,List.length_map,List.length_append,hl];rfl
 refine yI (λs hs=>Nat.le_trans (b2z s hs) (by unfold maxLen;omega)) (by omega) cx λp2 c2 w _ cx=>?_;obtain ⟨a1y,aJi⟩:∃ a1y,G6.eS=a1y:=⟨_,rfl⟩;rw [aJi] at cx ⊢ b2A;obtain ⟨MH,aJj⟩:∃ MH:PW,MH=λM w=>cL M w/\Sl M w p2 a1y:=⟨_,rfl⟩;have VC:aB MH:=by rw [aJj];exact dD cL (λM w=>Sl M w p2 a1y)
 have hw3:∀ M w,MH M w->cL M w:=by rw [aJj];exact λM w h=>h.1
 have aXk:∀ M w,MH M w->Sl M w p2 a1y:=by rw [aJj];exact λM w h=>h.2
 rw [<-aJj] at cx;clear aJj
 haveI:=VC
 have hJ3:JI MH:=hJ0.weak hw3;refine ⟨p2,_,c2,rfl,eG L7 G6++R',MH,VC,by rw [bM];exact cx,λw Y cx=>?_⟩;rw [bM] at cx;refine aEk cx λw hh cx=>?_;have hF7:=hh MH (hF6.weak hw3);rw [<-r9] at hF7 cx;refine ⟨rfl,eG L7 G7++R',MH,VC,by rw [bM];exact cx,λw Y cx=>?_⟩;clear hh;rw [bM] at cx;refine aQ5.sets (nR _ (by omega)) (by decide) hJ3 hF7 (by unfold bE;decide) cx λL8 w b2B hF8 cx=>?_;rw [<-r10] at hF8 cx
 refine ⟨_,rfl,eG L8 G8++R',MH,VC,by rw [bM];exact cx,Br.intro (λh=>absurd (fV h) (by omega)) (λ_=>Br.intro (λh=>absurd rfl (fV h)) (λ_=>Br.intro (λh=>absurd rfl (fV h)) (λ_=>⟨by unfold bE;omega,Br.intro (λh=>absurd (fV h) (by omega)) (λ_=>λk w Y cx=>?_)⟩)))⟩;rw [<-b2B];subst hR';have jE:Ctx W w (.blk k [.string a0B] 9 :: .buf p0 G.eS.length c0 (cW G.eS) 9 1 :: (eG L8 G8++(R++Y))) MH:=by
  refine cx.perm (.cons _ ?_);show ((eG L8 G8++(Own.buf p0 G.eS.length c0 (cW G.eS) 9 1 :: R))++Y).Perm _;rw [bM];exact List.perm_middle
 clear cx;obtain ⟨p',c',w',h1,_,x9⟩:=jE.YQ (P:=prog) (ts:=40) (ty:=40) (kb:=#[false,false]) (bytes:=16) (by kernel_rfl) (by decide) rfl rfl (by omega) (by omega);obtain ⟨a4X,aCe⟩:∃ a4X,a4X=G.eS++[a0B]:=⟨_,rfl⟩;have hl1:a4X.length=G.eS.length+1:=by rw [aCe,List.length_append];rfl
 have hz1:∀ s∈a4X,s.size<=maxLen:=λs hs=>by
  rw [aCe] at hs;rcases List.mem_append.1 hs with hs|hs
  .exact Nat.le_trans (hcz s hs) (by unfold maxLen;omega)
  .rw [List.mem_singleton.1 hs];exact Nat.le_trans (show a0B.size<=4 by decide) (by unfold maxLen;omega)
 have hc1:cW G.eS++[Value.string a0B]=cW a4X:=by rw [aCe];simp
 rw [hc1,<-hl1] at x9;rw [<-hl1] at h1;obtain ⟨QA,hs1,_⟩:=Ctx.freeze (α:=ByteArray) x9 (tX hz1);obtain ⟨W4,aJk⟩:∃ W4:PW,W4=λM w=>MH M w/\Sl M w p' a4X:=⟨_,rfl⟩;have aMy:aB W4:=by rw [aJk];exact dD MH (λM w=>Sl M w p' a4X)
 have hw4:∀ M w,W4 M w->MH M w:=by rw [aJk];exact λM w h=>h.1
 have b2C:∀ M w,W4 M w->Sl M w p' a4X:=by rw [aJk];exact λM w h=>h.2
 have cx4:Ctx W w' (eG L8 G8++(R++Y)) W4:=by rw [aJk];exact QA.add hs1
 clear aJk QA hs1 x9 jE
 haveI:=aMy
 have hJ4:JI W4:=hJ3.weak hw4;have e12:a1y=a4X:=by
  rw [<-aJi,r8,aCe,aMt,List.map_append];rfl
 refine ⟨p',_,c',w',h1,eG L8 G8++R,W4,aMy,by rw [bM];exact cx4,λw Y cx=>?_⟩;clear h1 cx4;refine (a4n (Φ:=W4) (λM w h=>aXk M w (hw4 M w h)) b2C (by omega)).use cx λw cx=>⟨_,rfl,eG L8 G8++R,W4,aMy,cx,?_⟩;rw [decide_eq_true e12];refine Br.intro (λh=>by cases h) (λ_=>?_);clear cx;have hok:=aQ6.V6;obtain ⟨lg,hlg⟩:∃ lg,lg=l++[(⟨2,a0B⟩:bH)]:=⟨_,rfl⟩;rw [<-hlg] at r12 r11;have b7b:lg.length=j+1:=by rw [hlg,List.length_append,hl];rfl
 refine dS (λkI R' aX κ=>∃ k:Nat,kI=k/\k<=3/\κ=3 - k/\R'=eG L8 G8++R/\(∀ M w,aX M w->W4 M w)) ⟨⟨_,W4,_,aMy,λw Y cx=>cx,0,rfl,Nat.zero_le _,rfl,rfl,λ_ _ h=>h⟩,?_⟩;rintro kI R1 Φ5 κ aXl ⟨k,rfl,J0,rfl,rfl,hw5⟩
 haveI:=aXl
 refine Br.intro (λhlt=>λw Y cx=>?_) (λhge=>Br.intro (λ_=>λw Y cx=>?_) (λh=>by cases h))
 .have hlt:k<3:=by have:=fV hlt;omega
  rw [bM] at cx;refine a0r hok cx λp8 c8 w cx=>?_;rw [r12 k hlt] at cx ⊢;have b2E:aB (λM w=>Φ5 M w/\Sl M w p8 lg):=dD Φ5 (λM w=>Sl M w p8 lg);refine ⟨p8,_,c8,rfl,eG L8 G8++R,_,b2E,by rw [bM];exact cx,λw Y cx=>?_⟩;rw [bM] at cx;refine a0r (Φ:=λM w=>Φ5 M w/\Sl M w p8 lg) hok cx λp9 c9 w cx=>?_;rw [r12 o xM] at cx ⊢;have aXm:aB (λM w=>(Φ5 M w/\Sl M w p8 lg)/\Sl M w p9 lg):=dD (λM w=>Φ5 M w/\Sl M w p8 lg) (λM w=>Sl M w p9 lg)
  refine ⟨p9,_,c9,rfl,eG L8 G8++R,_,aXm,by rw [bM];exact cx,λw Y cx=>?_⟩;refine (a7R (Φ:=λM w=>(Φ5 M w/\Sl M w p8 lg)/\Sl M w p9 lg) p8 p9 c8 c9 lg lg (λM w h=>h.1.2) (λM w h=>h.2) (by omega)).use cx λw cx=>⟨_,rfl,eG L8 G8++R,_,aXm,cx,?_⟩;rw [decide_eq_true rfl];refine Br.intro (λh=>by cases h) (λ_=>λw Y cx=>?_);rw [bM] at cx;refine a0r (Φ:=λM w=>(Φ5 M w/\Sl M w p8 lg)/\Sl M w p9 lg) hok cx λpa ca w cx=>?_
  rw [r12 k hlt] at cx ⊢;have b2F:aB (λM w=>((Φ5 M w/\Sl M w p8 lg)/\Sl M w p9 lg)/\Sl M w pa lg):=dD (λM w=>(Φ5 M w/\Sl M w p8 lg)/\Sl M w p9 lg) (λM w=>Sl M w pa lg);exact ⟨pa,_,ca,rfl,eG L8 G8++R,_,b2F,by rw [bM];exact cx,by unfold bE;omega,Br.intro (λh=>absurd (fV h) (by omega)) (λ_=>⟨by unfold bE;omega,_,_,_,aXl,λw Y cx=>cx.weak λM w h=>h.1.1.1,⟨k+1,by omega,hlt,rfl,rfl,hw5⟩,by omega⟩)⟩
 .have b2G:=aQ6.aAM;have e8:G8.eS=a1y:=by rw [r11,hlg,<-r8,aJi]
  rw [bM] at cx;refine yI (λs hs=>Nat.le_trans (b2G s hs) (by unfold maxLen;omega)) (by rw [e8];omega) cx λpb cb w _ cx=>?_;rw [e8] at cx ⊢;have aXn:aB (λM w=>Φ5 M w/\Sl M w pb a1y):=dD Φ5 (λM w=>Sl M w pb a1y);refine ⟨pb,_,cb,rfl,eG L8 G8++R,_,aXn,by rw [bM];exact cx,λw Y cx=>?_⟩;refine (a4n (Φ:=λM w=>Φ5 M w/\Sl M w pb a1y) (λM w h=>h.2) (λM w h=>aXk M w (hw4 M w (hw5 M w h.1))) (by omega)).use cx λw cx=>⟨_,rfl,eG L8 G8++R,_,aXn,cx,λw Y cx=>⟨?_,(Ctx.right (S:=eG L8 G8) cx.left).weak λM w h=>hw0 M w (hw3 M w (hw4 M w (hw5 M w h.1)))⟩⟩
  rw [decide_eq_true rfl]
theorem aJl[aB Φ](hJ:JI Φ)(data n alone)(aXh:bE n):dF Φ prog F.lE #[.string data,.int .i64 n,.int .i64 alone] (.bool true):=aEz hJ data n alone aXh
end
end Go.Proofs.YtnlkemjhgdbfkaaGreatDoor
end

section
namespace Go.Proofs.YtnlkemjhgdbfkaaGreatDoor
open Go.Vc Go.RowKit
theorem aQ7(u)(h:prog.typeName? 3 u=some "*errors.errorString"):u=476 :=
 typeName_ptr_named (nm := "errors.errorString") (by rw [show "*" ++ "errors.errorString" = "*errors.errorString" by decide];kernel_rfl) (by kernel_rfl) (by decide) u (by rw [show "*" ++ "errors.errorString" = "*errors.errorString" by decide];exact h)
theorem aJm{n text r W g}(h:laidMet prog ((n,.iface "*errors.errorString" (.ptr (.agg [.lit (.string text)]))) :: r) W)(hg:prog.globalNamed n=some g)(ht:(prog.globals[g]?).map (·.type)=some 209):UJ g [] W:=by
 obtain ⟨a,s,hv,_⟩:=laid_sentinel h hg ht underlying209 aQ7 underlying476 underlying478 rfl rfl underlying9 (by kernel_rfl) (by kernel_rfl);exact ⟨by simp,_,by have h0:=World.var?_cell hg hv 0;simpa using h0,.inr ⟨_,_,rfl⟩⟩
abbrev aCf:PW:=λM w=>wU M w/\uW M w
theorem aQ8{W}(h:laidMetH prog Rows.groupAgreesRow.laid W):aCf [] W:=by
 rw [MakeChecks.laidMetH_plain prog Rows.groupAgreesRow.laid W (by kernel_rfl)] at h;have h2:=h.tail.tail;exact ⟨⟨Tab.start (Lib.tabIs_of_head (k:=.u64) (zs:=Lib.pow10Tab) (g:=1) (t:=464) (e:=383) (n:=20) (by kernel_rfl) (by kernel_rfl) (by kernel_rfl) (by kernel_rfl) (by kernel_rfl) (by kernel_rfl) h2),
  aJm h2.tail.tail.tail (by kernel_rfl) (by kernel_rfl),aJm h2.tail.tail (by kernel_rfl) (by kernel_rfl)⟩,
  Tab.start (Lib.tabIs_of_head (k:=.i64) (zs:=[0,64,131072]) (g:=0) (t:=276) (e:=3) (n:=3) (by kernel_rfl) (by kernel_rfl) (by kernel_rfl) (by kernel_rfl) (by kernel_rfl) (by kernel_rfl) h2.tail)⟩
end Go.Proofs.YtnlkemjhgdbfkaaGreatDoor
end

section
namespace Go.Proofs.YtnlkemjhgdbfkaaGreatDoor
open Go.ChangeShapes Go.WideShapes Go.ChangeAt Go.RowKit Go.Vc
theorem aQ9:ownKnob prog.godebug=none:=by kernel_rfl
theorem aCg:laidOutB prog=true:=by kernel_rfl
theorem aRa{x}(h:(Lit.int .i64 x).wf=true):bE x:=by
 simp [Lit.wf,IntKind.min,IntKind.max,IntKind.signed,IntKind.bits] at h;exact h
theorem aEA{H}{enc:TypeId × Value->H}{P w base spare held t0 t1 t2 args ds ps}(h:DataW.TrodAll enc P w base spare held [t0,t1,t2] args.toList ds ps):
  ∃ v0 v1 v2 d0 d1 d2 p0 p1 p2,args=#[v0,v1,v2]/\ds=[d0,d1,d2]/\ps=p0++p1++p2/\DataW.Trod enc P w base spare held t0 v0 d0 p0/\DataW.Trod enc P w base spare held t1 v1 d1 p1/\DataW.Trod enc P w base spare held t2 v2 d2 p2:=by
 obtain ⟨v0,vs0,d0,ds0,p0,q0,hargs,rfl,rfl,h0,h⟩:=trodAll_cons h;obtain ⟨v1,vs1,d1,ds1,p1,q1,rfl,rfl,rfl,h1,h⟩:=trodAll_cons h;obtain ⟨v2,vs2,d2,ds2,p2,q2,rfl,rfl,rfl,h2,h⟩:=trodAll_cons h;obtain ⟨rfl,rfl,rfl⟩:=trodAll_nil h;exact ⟨v0,v1,v2,d0,d1,d2,p0,p1,p2,by cases args;simp_all,rfl,by simp,h0,h1,h2⟩
theorem aJn(os args):laidMetH prog Rows.groupSplitRow.laid ((World.doorLaid prog 400 os).forCall (λ_ _=>0) ⟨#[],args,[]⟩).memory :=
 laidMetH_of_parts3 (fuel:=8) (laidMet_of_run' 8 (by kernel_rfl) (by kernel_rfl)) (by kernel_rfl) (by kernel_rfl)
set_option maxRecDepth 100000 in
theorem aAQ(os)(started:os.Started)(H)(enc:TypeId × Value->H):
  ReturnsInHanded {} Tryz.checked os 6 .any (λw args=>(Rows.groupSplitSpec.pre enc prog Tryz.f6 Rows.groupSplitRow.domain false w args/\laidMetH prog Rows.groupSplitRow.laid w)/\sizedMet enc prog Tryz.f6 (OpenSpec.ofChange Rows.groupSplitSpec) false w args) (Rows.groupSplitSpec.post enc prog Tryz.f6 false true false false):=by
 refine a6s (C:=Tryz.checked) (tb:=4) aQ9 started (by kernel_rfl) func6 aCg rfl ?_ rfl underlying4 (by kernel_rfl)
  (ChangeSpec.witness_shaped (enc:=enc) (C:=Tryz.checked) (os:=os) (X:=λw _=>laidMetH prog Rows.groupSplitRow.laid w) false (World.doorLaid prog 400 os) #[.string .empty,.int .i64 0,.int .i64 0] 8 rfl (World.shaped_of_RefB (by kernel_rfl) (by kernel_rfl)) (by kernel_rfl) (by kernel_rfl) (by kernel_rfl) (aJn os _)) ?_
 .intro ds hd
  match ds,hd with
  | [_,_,_],_=>exact ⟨rfl,rfl,rfl⟩
 .intro W base args ds p aXo hA0 _ hL;have hval:∀ (j:Nat) t v,Tryz.f6.params[j]? = some t->args[j]? = some v->Value.okWide prog W .any base t v:=aXo;have hA:DataW.TrodAll enc prog W 0 (λ_=>true) true Tryz.f6.params.toList args.toList ds p:=hA0;rw [Tryz.params6] at hA hval;obtain ⟨v0,v1,v2,d0,d1,d2,p0,p1,p2,rfl,rfl,rfl,h0,h1,h2⟩:=aEA hA;obtain ⟨data,rfl,rfl,rfl,b43⟩:=Go.ChangeMaps.open_string underlying9 (hval 0 9 v0 rfl rfl) h0
  obtain ⟨n,rfl,rfl,rfl,nw⟩:=open_int underlying3 (hval 1 3 v1 rfl rfl) h1;obtain ⟨alone,rfl,rfl,rfl,b2H⟩:=open_int underlying3 (hval 2 3 v2 rfl rfl) h2;have st0:aB (λM w=>aCf M w):=aR;have fin:dF (λM w=>aCf M w) prog 6 _ (.bool true):=aJl (Φ:=(λM w=>aCf M w)) ⟨λ_ _ h=>h.1,λ_ _ h=>h.2⟩ data n alone (aRa nw);exact fin.law (aQ8 hL)
theorem jf0:(Rows.groupSplitRow.wf (OpenSpec.ofChange Rows.groupSplitSpec))=true:=by kernel_rfl
theorem jf2:(mapsRowed prog)=true:=by kernel_rfl
theorem jf3:(Tryz.f6.params.all (prog.readableRec ·))=true:=by kernel_rfl
theorem jf4:(namedTie prog Rows.groupSplitRow.named Rows.groupSplitSpec.vars)=true:=by kernel_rfl
theorem jf5:((Rows.groupSplitRow.stops == []))=true:=by kernel_rfl
theorem jf6:((prog.stops == []))=true:=by kernel_rfl
theorem jf7:((Rows.groupSplitRow.knobs == []))=true:=by kernel_rfl
theorem jf8:((prog.stopKnobs == []))=true:=by kernel_rfl
theorem jf9:((Rows.groupSplitRow.inPlace == prog.inPlace 6))=true:=by kernel_rfl
theorem b2I:((Rows.groupSplitRow.unfollowed == prog.unfollowed 6))=true:=by kernel_rfl
theorem b2J:((Rows.groupSplitRow.recurses == prog.recurses 6))=true:=by kernel_rfl
theorem b2K:((Rows.groupSplitRow.named == prog.varsNamed 6))=true:=by kernel_rfl
theorem b2L:((Rows.groupSplitRow.maps == (Tryz.f6.params.toList++Rows.groupSplitSpec.plain.varTypes prog).any (prog.mapsRec ·)))=true:=by kernel_rfl
theorem b2M:((Rows.groupSplitRow.ifaces == (Tryz.f6.params.toList++Rows.groupSplitSpec.plain.varTypes prog).any (prog.ifacesRec ·)))=true:=by kernel_rfl
theorem b2N:((Rows.groupSplitRow.mapsOut == prog.mapsAmong Tryz.f6.resultTypes.toList))=true:=by kernel_rfl
theorem b2O:((Rows.groupSplitRow.loops == (Tryz.f6.params.toList++Rows.groupSplitSpec.plain.varTypes prog).any (prog.loopsFrom ·)))=true:=by kernel_rfl
theorem b2P:((Rows.groupSplitRow.wideKeys == (Tryz.f6.params.toList++Rows.groupSplitSpec.plain.varTypes prog++Tryz.f6.resultTypes.toList).any (prog.wideKeysFrom ·)))=true:=by kernel_rfl
theorem b2Q:(Rows.groupSplitSpec.vars.all (prog.varReadable ·))=true:=by kernel_rfl
theorem b2R:(Tryz.f6.resultTypes.all (λt=>prog.readableRec t&&decide (t<prog.types.size)))=true:=by kernel_rfl
theorem b2S:((Rows.groupSplitRow.ifacesOut == Tryz.f6.resultTypes.toList.any (prog.ifacesRec ·)))=true:=by kernel_rfl
theorem b2T:((Rows.groupSplitRow.loopsOut == Tryz.f6.resultTypes.toList.any (prog.loopsFrom ·)))=true:=by kernel_rfl
theorem b2U:((Rows.groupSplitRow.plainKeys == prog.plainKeys))=true:=by kernel_rfl
theorem b2V:(Rows.groupSplitRow.shortTexts.isNone)=true:=by kernel_rfl
theorem b2W:(prog.stopsHeard)=true:=by kernel_rfl
theorem b2X:(prog.mayEnter)=true:=by kernel_rfl
theorem b2Y:((Rows.groupSplitRow.lifted == prog.liftsFinal))=true:=by kernel_rfl
theorem b2Z:((prog.make == some Rows.groupSplitRow.make))=true:=by kernel_rfl
theorem b20:((Rows.groupSplitRow.pinned == Rows.groupSplitRow.pinnedBy))=true:=by kernel_rfl
theorem b21:((Rows.groupSplitRow.veiled == (Tryz.f6.params.toList++Rows.groupSplitSpec.plain.varTypes prog++Tryz.f6.resultTypes.toList).any (prog.veiledRec ·)))=true:=by kernel_rfl
theorem b22:(Rows.groupSplitRow.veiledFits prog Tryz.f6.params.toList (Tryz.f6.params.toList++Rows.groupSplitSpec.plain.varTypes prog++Tryz.f6.resultTypes.toList))=true:=by kernel_rfl
theorem fE{a b}(h:a=true)(k:b=true):(a&&b)=true:=by rw [h,k];rfl
theorem aRb:joinedFacts prog 6 Tryz.f6 Rows.groupSplitSpec Rows.groupSplitRow=true:=by
 unfold joinedFacts;exact (fE (fE (fE (fE (fE (fE (fE (fE (fE (fE (fE (fE (fE (fE (fE (fE (fE (fE (fE (fE (fE (fE (fE (fE (fE (fE (fE (fE (fE (fE (fE jf0 aCg) jf2) jf3) jf4) jf5) jf6) jf7) jf8) jf9) b2I) b2J) b2K) b2L) b2M) b2N) b2O) b2P) b2Q) b2R) b2S) b2T) b2U) b2V) b2W) b2X) b2Y) b2Z) (by kernel_rfl)) b20) b21) b22)
theorem aCh:prog.funcNamed Rows.groupSplitRow.func=some 6:=by kernel_rfl
theorem aMz:prog.mainIs=some (Rows.groupSplitCard.stood.harness.1,Rows.groupSplitCard.stood.harness.2.toList):=by kernel_rfl
theorem aJo:Rows.groupSplitCard.stood.looks=prog.looks []:=by kernel_rfl
theorem aMA:false=Rows.groupSplitRow.goesBy prog:=by kernel_rfl
theorem aEB:Rows.GroupSplitSaid :=
 OpenClaim.holds_of_wide 6 Tryz.f6 rfl rfl rfl rfl rfl rfl rfl ⟨rfl,rfl,rfl,rfl,rfl⟩ rfl rfl rfl rfl rfl aCh func6 aRb
  (fV (by kernel_rfl)) (by unfold Func.isWrapper;first|(rw [if_pos (by decide +kernel)];kernel_rfl)|(rw [if_neg (by decide +kernel)];exact ⟨rfl,rfl⟩))
  (λos started H enc _=>aAQ os started H enc)
theorem split_holds:Rows.GroupSplitCardSaid :=
 Claim7.holds_tied_plain_at .later [] [.data,.data,.data,.data,.sentinel,.sentinel] true Rows.groupSplitCard.stood.harness true
  aEB (λ_ h=>by cases h) (by kernel_rfl) (λ_ h=>by cases h) groupSplit_row_tie rfl ⟨rfl,rfl⟩ aMz rfl
  (λf fn hf hfn=>by
   obtain rfl:f=6:=Option.some.inj (aCh.symm.trans hf) |>.symm;obtain rfl:fn=Tryz.f6:=(Option.some.inj (func6.symm.trans hfn)).symm;exact ⟨aJo,λj t ht=>by
    rw [Tryz.params6] at ht;have hm:=Array.mem_of_getElem? ht;have hall:((Tryz.f6.params.toList).all λu => !prog.wantsStandIn u)=true:=by kernel_rfl
    rw [Tryz.params6] at hall;exact (show prog.wantsStandIn t=false by simpa using List.all_eq_true.1 hall t (by simpa using hm))⟩)
  aMA
end Go.Proofs.YtnlkemjhgdbfkaaGreatDoor
end

