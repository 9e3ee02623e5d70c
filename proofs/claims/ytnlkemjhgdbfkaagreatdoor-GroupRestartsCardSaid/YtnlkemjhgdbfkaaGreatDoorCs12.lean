/-
 A member that starts again from what a failed store may have left: the cluster stays safe;in plain Lean.
-/
import Derived.Test.YtnlkemjhgdbfkaaGreatDoorCs11
import Derived.Test.YtnlkemjhgdbfkaaGreatDoorCs10
import Derived.Shelf.SlMaps.Clone
import Derived.Test.YtnlkemjhgdbfkaaGreatDoorRows
open Go.Proofs.Tryz
set_option linter.unusedVariables false
set_option linter.unusedSimpArgs false
section
namespace Go.Proofs.YtnlkemjhgdbfkaaGreatDoor
open Go.Vc
theorem aM1{r x}:(C8 r x).2.src=x.2.src:=by unfold C8;split<;>rfl
theorem aJF(r m):(dI r m).2.src=0:=by unfold dI;split<;>rfl
theorem aFk(r m):(dG r m).2.src=0:=by
 unfold dG;split
 .rfl
 .simp only;split<;>rfl
theorem SS(r m):(aV r m).2.src=0:=by
 unfold aV;split
 .rfl
 .simp only;split
  .rfl
  .split<;>rfl
def P1(r:dY)(m:bQ):dY:=if r.term<m.term then upR r m else r
structure aOt(r:dY)(m:bQ):Prop where
 right:m.sO r.id
 kind:m.kind=2
 term:m.term=(P1 r m).term
 t:(cX r m).1.term=(P1 r m).term
 v:(cX r m).1.aO=(P1 r m).aO
 ix:m.index.toNat<=r.log.length
 prev:bE r.log m.index.toNat=m.prev
 agr:agree (r.log.drop m.index.toNat) m.aF<m.aF.length
 src:(cX r m).2.src=((m.index.toNat+agree (r.log.drop m.index.toNat) m.aF+1:Nat):Int)
theorem aJG{r m}(h:0<(cX r m).2.src):aOt r m:=by
 cases hy:iV r.id m with
 | false=>rw [vF hy] at h;cases h
 | true =>
  have hm:=lK.1 hy;have qT:(P1 r m).log=r.log:=by unfold P1;split<;>rfl
  have hmt:m.term<=(P1 r m).term:=by
   unfold P1;split
   .exact Int.le_refl _
   .omega
  have e0:cX r m=C8 r (dQ (P1 r m) m):=pX hy;have e1:(cX r m).2.src=(dQ (P1 r m) m).2.src:=by rw [e0,aM1]
  have e2:(cX r m).1=(dQ (P1 r m) m).1:=by rw [e0,B4]
  rw [e1] at h;have hk:m.kind=2:=Decidable.byContradiction λhk=>by
   unfold dQ at h;split at h
   .rw [aJF] at h;cases h
   split at h
   .rw [aFk] at h;cases h
   .first
     | (rw [if_neg hk,SS] at h;cases h)
     | (rw [SS] at h;cases h)
  have e3:dQ (P1 r m) m=bA (P1 r m) m:=by unfold dQ;rw [if_neg (by rw [hk];decide),if_neg (by rw [hk];decide),if_pos hk]
  rw [e3] at h e1 e2;have hmu:=WM (P1 r m) m;have ht:(cX r m).1.term=(P1 r m).term:=by rw [e2];exact hmu.term
  have hv:(cX r m).1.aO=(P1 r m).aO:=by rw [e2];exact hmu.aO
  unfold bA at h e1;split at h
  .cases h
  rename_i h1;rw [if_neg h1] at e1;split at h
  .cases h
  rename_i h2;rw [if_neg h2] at e1;simp only at h e1;split at h
  .cases h
  rename_i h3;rw [if_neg h3] at e1;simp only [Bool.or_eq_true,decide_eq_true_eq,not_or] at h3;obtain ⟨h4,h5⟩:=h3;have h5:=Decidable.of_not_not h5;split at h
  rotate_left 1
  .cases h
  rename_i h6;rw [if_pos h6] at e1;split at h
  .cases h
  rename_i h7;rw [if_neg h7] at e1;simp only at e1;rw [qT] at h4 h5 h6 e1;exact ⟨hm,hk,by omega,ht,hv,by omega,h5,h6,e1⟩
theorem aDf{C i m}(hid:(C.nd i).rep.id=i):a1b C i (P1 (C.nd i).rep m):=by
 unfold P1;split
 .rename_i hlt;exact ⟨by show _<=m.term;omega,.inr rfl,rfl,λhr=>absurd rfl hr,rfl,hid⟩
 .exact ⟨Int.le_refl _,.inl ⟨rfl,rfl⟩,rfl,λ_=>rfl,rfl,hid⟩
theorem a8B{C g i r}(up:(C.nd i).rep.term<=r.term)(hv:(r.term=(C.nd i).rep.term/\r.aO=(C.nd i).rep.aO)\/((C.nd i).rep.term<r.term/\r.aO = -1))(h0:r.role=0)(qT:rR g.LL r.log):AD C g i r [] (g.aO i r) :=
 ⟨rfl,up,λe hne=>by
  rcases hv with ⟨_,b⟩|⟨a,_⟩
  .exact b
  .omega,λm hm=>(by cases hm),λt=>.inl rfl,Ext.refl _,λt=>.inl rfl,λhr=>by omega,λhr=>by omega,qT,λm hm=>(by cases hm)⟩
theorem aXc{C g A}(h:lV C g A){i}(hi:i<3){t v}(up:(C.nd i).rep.term<=t)(hv:(t=(C.nd i).rep.term/\v=(C.nd i).rep.aO)\/((C.nd i).rep.term<t/\v = -1)):
  z8 C g A i (dU i t v (C.nd i).rep.log) [] (g.aO i (dU i t v (C.nd i).rep.log)) (A t i) :=
 oQ h hi (a8B up hv rfl (h.m.log i hi)) rfl rfl rfl (λhr=>absurd (show (0:Int)=1 from hr) (by decide)) (λhr=>absurd (show (0:Int)=2 from hr) (by decide)) (hv.imp id λh=>h.2)
  (λhr=>absurd (show (0:Int)=2 from hr) (by decide)) (λm hm=>by cases hm) (λm hm=>by cases hm) (λm hm=>by cases hm) (.inl rfl)
theorem aXd{C g A}(h:lV C g A){i}(hi:i<3){m}(hmem:m∈C.sent)(hs:aOt (C.nd i).rep m):
  z8 C g A i (dU i (P1 (C.nd i).rep m).term (P1 (C.nd i).rep m).aO ((C.nd i).rep.log.take (m.index.toNat+agree ((C.nd i).rep.log.drop m.index.toNat) m.aF))) [] (g.aO i (dU i (P1 (C.nd i).rep m).term (P1 (C.nd i).rep m).aO ((C.nd i).rep.log.take (m.index.toNat+agree ((C.nd i).rep.log.drop m.index.toNat) m.aF)))) (A (P1 (C.nd i).rep m).term i):=by
 obtain ⟨hw,hid⟩:=h.m.wf.rep i hi;have u:=aDf (C:=C) (i:=i) (m:=m) hid;obtain ⟨r1,J2⟩:∃ r1,P1 (C.nd i).rep m=r1:=⟨_,rfl⟩;have hmt:=hs.term;rw [J2] at u hmt ⊢;obtain ⟨old,hold⟩:∃ l,(C.nd i).rep.log=l:=⟨_,rfl⟩;obtain ⟨k,hk⟩:∃ k,m.index.toNat+agree ((C.nd i).rep.log.drop m.index.toNat) m.aF=k:=⟨_,rfl⟩;have hag:=hs.agr;have hix:=hs.ix;have hpv:=hs.prev;rw [hk];rw [hold] at hag hix hpv hk ⊢;obtain ⟨a1,a2,a3,a4⟩:=h.m.app m hmem hs.kind
 rw [hmt] at a2 a3 a4;have hpl:rR g.LL old:=by rw [<-hold];exact h.m.log i hi
 have hpM:=h.m.ll r1.term;have hv:(r1.term=(C.nd i).rep.term/\r1.aO=(C.nd i).rep.aO)\/((C.nd i).rep.term<r1.term/\r1.aO = -1):=by
  rw [<-J2];unfold P1;split
  .exact .inr ⟨by assumption,rfl⟩
  .exact .inl ⟨rfl,rfl⟩
 obtain ⟨r,hr⟩:∃ r,dU i r1.term r1.aO (old.take k)=r:=⟨_,rfl⟩;have e1:r.term=r1.term:=by rw [<-hr];rfl
 have e2:r.aO=r1.aO:=by rw [<-hr];rfl
 have e3:r.role=0:=by rw [<-hr];rfl
 have e4:r.log=old.take k:=by rw [<-hr];rfl
 have e5:r.aE=0:=by rw [<-hr];rfl
 rw [hr];have fm:AD C g i r [] (g.aO i r):=a8B (by rw [e1];exact u.up) (by rw [e1,e2];exact hv) e3 (by rw [e4];exact a3Y hpl k);rw [<-e1];have JG:∀ c:Nat,r.aO=c->g.V r.term i=c:=λc hc=>by
  rw [e2] at hc;rw [e1];rcases hv with ⟨a,b⟩|⟨_,b⟩
  .rw [a,h.m.now i hi,<-b];exact hc
  .omega
 have hka:k<=old.length:=by
  rw [<-hk];rcases Nat.eq_zero_or_pos (agree (old.drop m.index.toNat) m.aF) with e|e
  .omega
  .obtain ⟨q,_⟩:=wC (old.drop m.index.toNat) m.aF (agree (old.drop m.index.toNat) m.aF - 1) (by omega);rw [List.length_drop] at q;omega
 have p2:∀ p,p<=old.length->p<=(g.LL r1.term).length->old.take p=(g.LL r1.term).take p->p<=k:=λp hp1 hp2 hp3=>Decidable.byContradiction λhn=>by
  have hq:k<old.length:=by omega
  rw [<-hk] at hq hn;obtain ⟨x,hx⟩:∃ x,old[m.index.toNat+agree (old.drop m.index.toNat) m.aF]? = some x:=⟨_,List.getElem?_eq_getElem hq⟩;obtain ⟨y,hy⟩:∃ y,m.aF[agree (old.drop m.index.toNat) m.aF]? = some y:=⟨_,List.getElem?_eq_getElem hag⟩;have hne:=V7 _ _ hag x y (by rw [List.getElem?_drop];exact hx) hy;have hy2:(g.LL r1.term)[m.index.toNat+agree (old.drop m.index.toNat) m.aF]? = some y:=by
   have h9:((List.drop m.index.toNat (g.LL r1.term)).take m.aF.length)[agree (old.drop m.index.toNat) m.aF]? = some y:=by rw [<-a3];exact hy
   rw [List.getElem?_take_of_lt hag,List.getElem?_drop] at h9;exact h9
  have:=congrArg (λl=>l[m.index.toNat+agree (old.drop m.index.toNat) m.aF]?) hp3;simp only [List.getElem?_take_of_lt (show m.index.toNat+agree (old.drop m.index.toNat) m.aF<p by omega)] at this;rw [hx,hy2] at this;cases this;exact hne rfl
 have T8:=u.up;have keep:∀ {t p},gT g t p old->p<=(g.LL r1.term).length->old.take p=(g.LL r1.term).take p->gT g t p r.log:=λq hpl e=>by
  have z:=p2 _ q.1 hpl e;rw [e4];exact ⟨by rw [List.length_take];omega,by rw [List.take_take,Nat.min_eq_left z];exact q.2⟩
 refine ⟨fm,KV rfl,h.W8,Nat.le_refl _,h.a1 _ _,λh0=>by omega,λt p hp1 hp=>?_,λw hu eG=>absurd hu eG,λt p _ hv hlt=>?_,λv hv hk0=>(by cases hv),λh0=>by omega,λh0=>by omega,λh0=>by omega,
  λc _ _ _ _ hv hV=>absurd (JG c hv) hV,λc _ _ hv=>.inl (JG c hv),λh0=>by omega,λv hv _ _=>(by cases hv),λv hv hk0=>(by cases hv),by rw [e5];exact .inl rfl⟩
 .rw [F6] at hp;have hia:=h.ia t i p hi hp1 hp;rw [hold] at hia;rcases hia with q|⟨w,q1,q2,q3,q4⟩
  .have hta:=h.a2 t i hi (by omega);have hpA:=h.a1 t i;by_cases hM:gT g t p (g.LL r1.term)
   .exact .inl (keep q hM.1 (q.2.trans hM.2.symm))
   .by_cases ht:t=r1.term
    .subst ht;exact absurd ⟨by omega,rfl⟩ hM
    .have hl:g.ld r1.term ≠ -1:=λhl=>by
      have h0:=h.m.none _ hl;rw [h0] at a2;simp at a2;rw [a2.2] at hag;simp at hag
     exact .inr ⟨r1.term,by omega,by omega,hl,hM⟩
  .exact .inr ⟨w,q1,by omega,q3,q4⟩
 .have:=hv.2.1;have e:(g.aO i r).LL=g.LL:=rfl;rw [e] at this;omega
def Hap(C:Cl)(i:Nat)(x:dY × mK):Prop:=x=eA (C.nd i).rep\/(∃ m∈C.sent,x=cX (C.nd i).rep m)\/∃ data,x=((aL (C.nd i).rep data).1,(aL (C.nd i).rep data).2.2.2)
def a5G(C:Cl)(i:Nat)(t v:Int)(l:List bT):Prop :=
 ((t=(C.nd i).rep.term/\v=(C.nd i).rep.aO)/\l=(C.nd i).rep.log) \/
  ∃ x,Hap C i x/\(t=x.1.term/\v=x.1.aO)/\(l=(C.nd i).rep.log\/(0<x.2.src/\l=(C.nd i).rep.log.take (min (x.2.src - 1) ((C.nd i).rep.log.length:Int)).toNat)\/l=x.1.log)
theorem Hap.fits{C}(hw:C.Wf){i}(hi:i<3){x}(h:Hap C i x):x.1.Wf/\Fits (C.nd i).rep x.1 x.2:=by
 have hr:=(hw.rep i hi).1;rcases h with rfl|⟨m,_,rfl⟩|⟨data,rfl⟩
 .exact a5x hr
 .exact Y6 hr
 .exact z7 hr data
theorem Hap.aRo{C g A}(h:lV C g A){i}(hi:i<3){x}(hx:Hap C i x):∃ g' n,z8 C g A i x.1 x.2.send g' n:=by
 rcases hx with rfl|⟨m,hm,rfl⟩|⟨data,rfl⟩
 .exact aRi h hi
 .exact aRn h hi hm
 .exact aRj h hi data
def WR(C:Cl)(i:Nat)(r:dY)(s:List bQ):Cl:=⟨put C.nd i (aC8 (C.nd i) r),s⟩
theorem aRp{C g g' A}(h:lV C g A){i n}(hi:i<3){r send s}(f:z8 C g A i r send g' n)(hw:r.Wf)(hid:r.id=i)(hs:∀ m∈s,m∈C.sent\/m∈send):lV (WR C i r s) g' (F5 A i r.term n):=by
 have hh:=aMS h.m.wf hi hw hid;exact h.node hi f ⟨hh.rep,hh.XO,hh.stop,Nat.zero_le _⟩ (by show (put C.nd i _ i).rep=r;rw [cI];rfl) (λj hj=>fR _ _ hj) hs
theorem KW(C i r s):((WR C i r s).nd i).rep=r:=by
 show (put C.nd i _ i).rep=r;rw [cI];rfl
theorem F8(C){i j}(r s)(h:j≠i):(WR C i r s).nd j=C.nd j:=fR _ _ h
theorem Aft.trans'{g g1 g2 A A1 A2}(h:Aft g A g1 A1)(h2:Aft g1 A1 g2 A2):Aft g A g2 A2:=by
 obtain ⟨a1,a2,a3⟩:=h;obtain ⟨b1,b2,b3⟩:=h2;refine ⟨λt=>?_,λt ht=>?_,λt j=>Nat.le_trans (a3 t j) (b3 t j)⟩
 .obtain ⟨s,hs⟩:=a1 t;obtain ⟨s2,hs2⟩:=b1 t;exact ⟨s++s2,by rw [hs2,hs,aX]⟩
 .have:=a2 t ht;rw [b2 t (by rw [this];exact ht),this]
structure a1c(C:Cl)(g:Gh)(A:Int->Nat->Nat)(i:Nat)(r:dY)(C':Cl)(g':Gh)(A':Int->Nat->Nat):Prop where
 s:lV C' g' A'
 aft:Aft g A g' A'
 rep:(C'.nd i).rep=r
 ne:∀ j,j≠i->C'.nd j=C.nd j
 sent:C'.sent=C.sent
theorem a1d{C g A}(h:lV C g A){i}(hi:i<3):a1c C g A i (dU i (C.nd i).rep.term (C.nd i).rep.aO (C.nd i).rep.log) (EY C i) g A:=by
 obtain ⟨h1,h2,h3⟩:=h.m.wf.XO i hi;refine ⟨h.start hi,Aft.refl _ _,?_,λj hj=>fR _ _ hj,rfl⟩;show (put C.nd i _ i).rep=_;rw [cI];show dU i (C.nd i).FK (C.nd i).WJ (C.nd i).a01=_;rw [h1,h2,h3]
theorem a8C{C g g' A}(h:lV C g A){i n}(hi:i<3){t v l}(f:z8 C g A i (dU i t v l) [] g' n)(hw:(dU i t v l).Wf):∃ C' g' A',a1c C g A i (dU i t v l) C' g' A' :=
 ⟨_,_,_,aRp h hi f hw rfl (s:=C.sent) λm hm=>.inl hm,f.aft,KW _ _ _ _,λj hj=>F8 _ _ _ hj,rfl⟩
theorem aFl{C g A}(h:lV C g A){i}(hi:i<3){x}(hx:Hap C i x):∃ C' g' A',a1c C g A i (dU i x.1.term x.1.aO x.1.log) C' g' A':=by
 obtain ⟨g',n,f⟩:=hx.aRo h hi;obtain ⟨hw,hf⟩:=hx.fits h.m.wf hi;have hid:x.1.id=i:=by rw [hf.id];exact (h.m.wf.rep i hi).2
 have h1:=aRp h hi f hw hid (s:=C.sent) λm hm=>.inl hm;have b:=a1d h1 hi;rw [KW] at b;exact ⟨_,_,_,b.s,f.aft.trans' b.aft,b.rep,λj hj=>by rw [b.ne j hj,F8 _ _ _ hj],b.sent⟩
theorem KX{C g A}(h:lV C g A){i}(hi:i<3){t v l}(hp:a5G C i t v l):∃ C' g' A',a1c C g A i (dU i t v l) C' g' A':=by
 have old:∃ C' g' A',a1c C g A i (dU i (C.nd i).rep.term (C.nd i).rep.aO (C.nd i).rep.log) C' g' A':=⟨_,_,_,a1d h hi⟩;rcases hp with ⟨⟨rfl,rfl⟩,rfl⟩|⟨x,hx,⟨rfl,rfl⟩,hl⟩
 .exact old
 have full:=aFl h hi hx;obtain ⟨hw,hf⟩:=hx.fits h.m.wf hi;obtain ⟨hwr,hid⟩:=h.m.wf.rep i hi;by_cases hs:0<x.2.src
 rotate_left 1
 .have e:=hf.same hs;rw [e] at full;rcases hl with rfl|⟨a,_⟩|rfl
  .exact full
  .exact absurd a hs
  .rw [e];exact full
 rcases hx with rfl|⟨m,hm,rfl⟩|⟨data,rfl⟩
 .exfalso
  revert hs
  unfold eA;split
  .exact λh=>absurd h (Int.lt_irrefl 0)
  split
  .exact λh=>absurd h (Int.lt_irrefl 0)
  .exact λh=>absurd h (Int.lt_irrefl 0)
 .have hS:=aJG hs;have hv:((P1 (C.nd i).rep m).term=(C.nd i).rep.term/\(P1 (C.nd i).rep m).aO=(C.nd i).rep.aO)\/((C.nd i).rep.term<(P1 (C.nd i).rep m).term/\(P1 (C.nd i).rep m).aO = -1):=by
   unfold P1;split
   .exact .inr ⟨by assumption,rfl⟩
   .exact .inl ⟨rfl,rfl⟩
  have T8:=(aDf (C:=C) (i:=i) (m:=m) hid).up;have hxo:=hw.ok;have e1:=hS.t;have e2:=hS.v;have wf:∀ k,(dU i (P1 (C.nd i).rep m).term (P1 (C.nd i).rep m).aO ((C.nd i).rep.log.take k)).Wf:=λk =>
   aBf (by omega) (by rw [<-e1];exact hxo.mT) (by rw [<-e1];exact hxo.jD) (by rw [<-e2];exact hxo.yQ) (by rw [<-e2];exact hxo.yR) (V0 (WK hwr.ok.log k) T8) (by rw [List.length_take];have:=hwr.ok.len;omega)
  rw [e1,e2] at full ⊢;rcases hl with rfl|⟨_,rfl⟩|rfl
  .have w:=wf (C.nd i).rep.log.length;rw [List.take_length] at w;exact a8C h hi (aXc h hi T8 hv) w
  .have e3:=hS.src;have e4:(min ((cX (C.nd i).rep m).2.src - 1) ((C.nd i).rep.log.length:Int)).toNat=min (m.index.toNat+agree ((C.nd i).rep.log.drop m.index.toNat) m.aF) (C.nd i).rep.log.length:=by rw [e3];omega
   rw [e4];have e5:(C.nd i).rep.log.take (min (m.index.toNat+agree ((C.nd i).rep.log.drop m.index.toNat) m.aF) (C.nd i).rep.log.length)=(C.nd i).rep.log.take (m.index.toNat+agree ((C.nd i).rep.log.drop m.index.toNat) m.aF):=by
    rcases Nat.le_total (m.index.toNat+agree ((C.nd i).rep.log.drop m.index.toNat) m.aF) (C.nd i).rep.log.length with a|a
    .rw [Nat.min_eq_left a]
    .rw [Nat.min_eq_right a,List.take_length,List.take_of_length_le a]
   rw [e5];exact a8C h hi (aXd h hi hm hS) (wf _)
  .exact full
 .have h0:0<(aL (C.nd i).rep data).2.2.2.src:=hs;have e:(aL (C.nd i).rep data).1.term=(C.nd i).rep.term/\(aL (C.nd i).rep data).1.aO=(C.nd i).rep.aO/\(aL (C.nd i).rep data).2.2.2.src=(((C.nd i).rep.log.length+1:Nat):Int):=by
   revert h0
   unfold aL;split
   .exact λh=>absurd h (Int.lt_irrefl 0)
   split
   .exact λh=>absurd h (Int.lt_irrefl 0)
   split
   .exact λh=>absurd h (Int.lt_irrefl 0)
   .exact λ_=>⟨rfl,rfl,rfl⟩
  rcases hl with rfl|⟨_,rfl⟩|rfl
  .show ∃ C' g' A',a1c C g A i (dU i (aL (C.nd i).rep data).1.term (aL (C.nd i).rep data).1.aO _) C' g' A';rw [e.1,e.2.1];exact old
  .show ∃ C' g' A',a1c C g A i (dU i (aL (C.nd i).rep data).1.term (aL (C.nd i).rep data).1.aO ((C.nd i).rep.log.take (min ((aL (C.nd i).rep data).2.2.2.src - 1) _).toNat)) C' g' A';rw [e.1,e.2.1,e.2.2,List.take_of_length_le (by omega)];exact old
  .exact full
theorem a5G.keep{C C' i t v l}(h:a5G C i t v l)(e:(C'.nd i).rep=(C.nd i).rep)(hs:∀ m∈C.sent,m∈C'.sent):a5G C' i t v l:=by
 unfold a5G Hap at *;rw [e];rcases h with h|⟨x,hx,h⟩
 .exact .inl h
 .refine .inr ⟨x,?_,h⟩;rcases hx with a|⟨m,hm,a⟩|a
  .exact .inl a
  .exact .inr (.inl ⟨m,hs m hm,a⟩)
  .exact .inr (.inr a)
theorem a5G.of{C i x}(hx:Hap C i x){t v l}(h:aOo (C.nd i).rep x.1 x.2 t v l):a5G C i t v l :=
 h.imp id λh=>⟨x,hx,h⟩
def aOu:Nat->Cl->Cl
 | 0,C=>C
 | n+1,C=>if C.sent.length=0 then C else aOu n (aMT C 0 false)
def cC(r:dY)(m:bQ):dY:=if r.term<m.term then upR r m else r
theorem a1e{r m}(hm:m.sO r.id):(cX r m).1=(dQ (cC r m) m).1/\(cX r m).2.send=(dQ (cC r m) m).2.send:=by
 rw [pX (lK.2 hm)];exact ⟨B4,a02⟩
theorem KY(r m):(cC r m).id=r.id/\(cC r m).log=r.log/\(cC r m).aE=r.aE/\(cC r m).next=r.next/\(cC r m).gJ=r.gJ/\(cC r m).cK=r.cK:=by
 unfold cC;split<;>exact ⟨rfl,rfl,rfl,rfl,rfl,rfl⟩
theorem a34(r m):(cC r m).term=max r.term m.term:=by
 unfold cC;split
 .show m.term=_;omega
 .omega
theorem a5H{r m}(h:¬ r.term<m.term):cC r m=r:=if_neg h
theorem aDg{r m}(h:r.term<m.term):cC r m=upR r m:=if_pos h
theorem aDh{r}(h:r.Wf){m}(hm:m.sO r.id):(cC r m).Wf:=by
 unfold cC;split
 .rename_i ht;exact aC6 h hm ht
 .exact h
def aJI(i:Nat)(m:bQ):Int:=if m.src=i then m.to else m.src
abbrev apart(i:Nat)(a b:bQ):Prop:=¬ ((2<=a.kind ↔ 2<=b.kind)/\aJI i a=aJI i b)
def base(m:bQ):Nat:=if m.kind=0\/m.kind=2 then 2 else 1
def ms(r:dY)(j:Nat):Nat:=(r.log.length - r.gJ j)+(r.next j - 1 - r.gJ j)
def wt(i:Nat)(r:dY)(m:bQ):Nat:=base m+(if r.role=2/\2<=m.kind then 2*ms r (aJI i m).toNat else 0)
def aXe(f:bQ->Nat):List bQ->Nat
 | []=>0
 | m :: l=>f m+aXe f l
def mu(i:Nat)(C:Cl):Nat:=(if (C.nd i).rep.role=1 then 2*(4*(C.nd i).rep.log.length+2) else 0)+aXe (wt i (C.nd i).rep) C.sent
theorem aDi{r m}(h:m.kind=0):dQ r m=dI r m:=if_pos h
theorem aDj{r m}(h:m.kind=1):dQ r m=dG r m:=by unfold dQ;rw [if_neg (by omega),if_pos h]
theorem aDk{r m}(h:m.kind=2):dQ r m=bA r m:=by unfold dQ;rw [if_neg (by omega),if_neg (by omega),if_pos h]
theorem aDl{r m}(h:m.kind=3):dQ r m=aV r m:=by unfold dQ;rw [if_neg (by omega),if_neg (by omega),if_neg (by omega)]
theorem a8D(r m):∃ y,(dI r m).2.send=[⟨1,r.id,m.src,r.term,0,0,0,y,[]⟩]/\(y=true ↔ (m.term=r.term/\(r.aO = -1\/r.aO=m.src)/\UF r m=true)):=by
 unfold dI;split
 .rename_i h;simp only [Bool.and_eq_true,Bool.or_eq_true,decide_eq_true_eq] at h;exact ⟨true,rfl,λ_=>⟨h.1.1,h.1.2,h.2⟩,λ_=>rfl⟩
 .rename_i h;simp only [Bool.and_eq_true,Bool.or_eq_true,decide_eq_true_eq] at h;exact ⟨false,rfl,λh=>(by cases h),λhh=>absurd ⟨⟨hh.1,hh.2.1⟩,hh.2.2⟩ h⟩
structure RB(N:Nat)(B:Int)(r:dY):Prop where
 nx:r.role=2->∀ f,r.gJ f+1<=r.next f
 len:r.log.length<=N
 term:r.term<=B
def MB(N:Nat)(B:Int)(m:bQ):Prop:=m.term<=B/\(m.kind=2->m.index.toNat+m.aF.length<=N)
structure CB(N:Nat)(B:Int)(C:Cl):Prop where
 rep:∀ j,j<3->RB N B (C.nd j).rep
 msg:∀ m∈C.sent,MB N B m
theorem RB.more{N N' B B' r}(h:RB N B r)(h1:N<=N')(h2:B<=B'):RB N' B' r:=⟨h.nx,Nat.le_trans h.len h1,Int.le_trans h.term h2⟩
theorem MB.more{N N' B B' m}(h:MB N B m)(h1:N<=N')(h2:B<=B'):MB N' B' m:=⟨Int.le_trans h.1 h2,λhk=>Nat.le_trans (h.2 hk) h1⟩
theorem CB.more{N N' B B' C}(h:CB N B C)(h1:N<=N')(h2:B<=B'):CB N' B' C:=⟨λj hj=>(h.rep j hj).more h1 h2,λm hm=>(h.msg m hm).more h1 h2⟩
theorem aBv{N B r}(ht:r.term<=B)(hl:r.log.length<=N){k}(hn:r.next k<=r.log.length+1):MB N B (entriesOf r k):=by
 refine ⟨ht,λ_=>?_⟩;show (((r.next k - 1:Nat)):Int).toNat+((r.log.drop (r.next k - 1)).take 8).length<=N;rw [Int.toNat_natCast,List.length_take,List.length_drop];omega
theorem aBw{N B r}(ht:r.term<=B)(hl:r.log.length<=N)(hn:∀ k,r.next k<=r.log.length+1):∀ a∈cU r,MB N B a:=λa ha=>by
 unfold cU at ha;obtain ⟨k,_,rfl⟩:=List.mem_map.1 ha;exact aBv ht hl (hn k)
theorem KZ{N B m}(h:m.term<=B)(hk:m.kind≠2):MB N B m:=⟨h,λhh=>absurd hh hk⟩
theorem aM2{N B r m}(h:RB N B r)(hm:m.term<=B):RB N B (cC r m):=by
 unfold cC;split
 .exact ⟨λhr=>(by cases (show (0:Int)=2 from hr)),h.len,hm⟩
 .exact h
theorem a5I{N B r m}(hw:r.Wf)(h:RB N B r)(hm:MB N B m):RB N B (cX r m).1/\∀ a∈(cX r m).2.send,MB N B a:=by
 cases hy:iV r.id m with
 | false =>
  rw [vF hy];exact ⟨h,λa ha=>by cases ha⟩
 | true =>
  have hr:=lK.1 hy;obtain ⟨e1,e2⟩:=a1e hr;rw [e1,e2];have h1:=aM2 (m:=m) h hm.1;have hw1:=aDh hw hr;have J2:m.sO (cC r m).id:=by rw [(KY r m).1];exact hr
  have hle:m.term<=(cC r m).term:=by rw [a34];omega
  generalize cC r m=r1 at h1 hw1 J2 hle;have hk:=hr.kind;have a1f:m.kind=0\/m.kind=1\/m.kind=2\/m.kind=3:=by omega
  rcases a1f with hk|hk|hk|hk
  .rw [aDi hk];obtain ⟨y,ey,_⟩:=a8D r1 m;rw [ey];refine ⟨?_,λa ha=>?_⟩
   .unfold dI;split<;>exact ⟨h1.nx,h1.len,h1.term⟩
   .rw [List.mem_singleton.1 ha];exact KZ h1.term (show (1:Int)≠2 by decide)
  .rw [aDj hk];by_cases hc:(decide (r1.role≠1)||decide (m.term≠r1.term) || !m.yes)=true
   .rw [D9 hc];exact ⟨h1,λa ha=>by cases ha⟩
   have hc:(decide (r1.role≠1)||decide (m.term≠r1.term) || !m.yes)=false:=by simpa using hc
   by_cases h2:pG (gU r1 m).cK<2
   .rw [xV hc h2];exact ⟨⟨h1.nx,h1.len,h1.term⟩,λa ha=>by cases ha⟩
   .rw [uH hc h2];exact ⟨⟨λ_ f=>by show 0+1<=r1.log.length+1;omega,h1.len,h1.term⟩,aBw h1.term h1.len λk=>Nat.le_refl _⟩
  .rw [aDk hk];have aXf:=hm.2 hk;by_cases h2:m.term<r1.term
   .rw [uI h2];exact ⟨h1,λa ha=>by rw [List.mem_singleton.1 ha];exact KZ h1.term (by show (3:Int)≠2;decide)⟩
   by_cases h3:r1.role=2
   .rw [rA h2 h3];exact ⟨h1,λa ha=>by cases ha⟩
   by_cases h4:(decide ((r1.log.length:Int)<m.index)||decide (bE r1.log m.index.toNat≠m.prev))=true
   .rw [uJ h2 h3 h4];exact ⟨⟨λhr=>(by cases (show (0:Int)=2 from hr)),h1.len,h1.term⟩,λa ha=>by rw [List.mem_singleton.1 ha];exact KZ h1.term (by show (3:Int)≠2;decide)⟩
   have h4:(decide ((r1.log.length:Int)<m.index)||decide (bE r1.log m.index.toNat≠m.prev))=false:=by simpa using h4
   have aIn:m.index.toNat<=r1.log.length:=by
    simp only [Bool.or_eq_false_iff,decide_eq_false_iff_not] at h4;omega
   by_cases h5:gF r1 m<m.aF.length
   .by_cases h6:m.index.toNat+gF r1 m+1<=r1.aE
    .rw [rD h2 h3 h4 h5 h6];exact ⟨⟨λhr=>(by cases (show (0:Int)=2 from hr)),h1.len,h1.term⟩,λa ha=>by cases ha⟩
    .rw [uK h2 h3 h4 h5 h6];exact ⟨⟨λhr=>(by cases (show (0:Int)=2 from hr)),by show (r1.log.take (m.index.toNat+gF r1 m)++m.aF.drop (gF r1 m)).length<=N;rw [Q5 aIn];exact aXf,h1.term⟩,λa ha=>by rw [List.mem_singleton.1 ha];exact KZ h1.term (by show (3:Int)≠2;decide)⟩
   .rw [rC h2 h3 h4 h5];exact ⟨⟨λhr=>(by cases (show (0:Int)=2 from hr)),h1.len,h1.term⟩,λa ha=>by rw [List.mem_singleton.1 ha];exact KZ h1.term (by show (3:Int)≠2;decide)⟩
  .rw [aDl hk];by_cases hc:(decide (r1.role≠2)||decide (m.term≠r1.term)||m.yes&&decide ((r1.log.length:Int)<m.index))=true
   .rw [r8 hc];exact ⟨h1,λa ha=>by cases ha⟩
   have hc:(decide (r1.role≠2)||decide (m.term≠r1.term)||m.yes&&decide ((r1.log.length:Int)<m.index))=false:=by simpa using hc
   have MO:=hc;simp only [Bool.or_eq_false_iff,decide_eq_false_iff_not] at MO;have cY:r1.role=2:=Decidable.not_not.1 MO.1.1;have hwa:=(B3 hw1 (m:=m) hr.index.1).1;cases hyes:m.yes with
   | false =>
    rw [mX hc hyes] at hwa ⊢;refine ⟨⟨λ_ f=>?_,h1.len,h1.term⟩,λa ha=>?_⟩
    .show r1.gJ f+1<=put r1.next _ _ f;have:=h1.nx cY f;unfold put;split
     .rename_i hf;rw [hf];exact Nat.le_max_left _ _
     .exact this
    .rw [List.mem_singleton.1 ha];exact aBv (r:=AZ r1 m) h1.term h1.len (hwa.ok.next cY m.src.toNat).2.1
   | true =>
    obtain ⟨a1,a2,a3,a4,a5,a6,a7⟩:=a5e (pW r1 m);have hrb:RB N B (b9 (pW r1 m)):=by
     refine ⟨λ_ f=>?_,by rw [a2];exact h1.len,by rw [a6];exact h1.term⟩;rw [a3,a4];show put r1.gJ _ _ f+1<=put r1.next _ _ f;have:=h1.nx cY f;unfold put;split
     .exact Nat.le_refl _
     .exact this
    rw [oM hc hyes] at hwa ⊢;split
    .rename_i hmo;rw [if_pos hmo] at hwa;refine ⟨hrb,λa ha=>?_⟩;rw [List.mem_singleton.1 ha];exact aBv hrb.term hrb.len (hwa.ok.next (by rw [a1];exact cY) _).2.1
    .exact ⟨hrb,λa ha=>by cases ha⟩
theorem a5J{N B r}(hw:r.Wf)(h:RB N B r):RB N (B+1) (eA r).1/\∀ a∈(eA r).2.send,MB N (B+1) a:=by
 by_cases h1:r.role=2
 .rw [KL h1];exact ⟨h.more (Nat.le_refl _) (by omega),λa ha=>(aBw h.term h.len (λk=>(hw.ok.next h1 k).2.1) a ha).more (Nat.le_refl _) (by omega)⟩
 by_cases h2:r.term=1099511627776
 .rw [RV h1 h2];exact ⟨h.more (Nat.le_refl _) (by omega),λa ha=>by cases ha⟩
 rw [RW h1 h2];have ht:=h.term;refine ⟨⟨λhr=>(by cases (show (1:Int)=2 from hr)),h.len,by show r.term+1<=_;omega⟩,λa ha=>?_⟩;obtain ⟨k,_,rfl⟩:=List.mem_map.1 ha;exact KZ (by show r.term+1<=_;omega) (by show (0:Int)≠2;decide)
theorem a5K{N B r}(hw:r.Wf)(h:RB N B r)(data):RB (N+1) B (aL r data).1/\∀ a∈(aL r data).2.2.2.send,MB (N+1) B a:=by
 have hm:=h.more (Nat.le_succ N) (Int.le_refl B);by_cases h1:r.role≠2
 .rw [xN h1];exact ⟨hm,λa ha=>by cases ha⟩
 by_cases h2:2000<(data.size:Int)
 .rw [vW h1 h2];exact ⟨hm,λa ha=>by cases ha⟩
 by_cases h3:r.log.length=4000
 .rw [r9 h1 h2 h3];exact ⟨hm,λa ha=>by cases ha⟩
 rw [B0 h1 h2 h3];have hl:(tM r data).log.length=r.log.length+1:=by show (r.log++[_]).length=_;simp
 have hle:=h.len;have hrb:RB (N+1) B (tM r data):=⟨h.nx,by rw [hl];omega,h.term⟩;refine ⟨hrb,λa ha=>aBw hrb.term hrb.len (λk=>?_) a ha⟩;have:=(hw.ok.next (Decidable.not_not.1 h1) k).2.1;rw [hl];show r.next k<=_;omega
theorem aJJ{N B i t v l}(h1:l.length<=N)(h2:t<=B):RB N B (dU i t v l):=⟨λhr=>(by cases (show (0:Int)=2 from hr)),h1,h2⟩
theorem cb0:CB 0 0 cl0:=⟨λj hj=>aJJ (Nat.le_refl _) (Int.le_refl _),λm hm=>by cases hm⟩
def aRq(i:Nat)(C:Cl):Cl:=aOu 2000 (aWW C i)
attribute [local irreducible] aRq
end Go.Proofs.YtnlkemjhgdbfkaaGreatDoor
end

section
namespace Go.Proofs.YtnlkemjhgdbfkaaGreatDoor
open Go.Vc
structure XP(i:Nat)(l:List bT)(a:bQ):Prop where
 ok:a.Ok
 src:a.src=i
 to:0<=a.to/\a.to<=2
 len:a.aF.length<=8
 aF:∀ y∈a.aF,y∈l
theorem aJK{i:Nat}{l}{a:bQ}(h:a.Ok)(h1:a.src=i)(h2:0<=a.to/\a.to<=2)(h3:a.aF=[]):XP i l a:=⟨h,h1,h2,by rw [h3];exact Nat.zero_le _,by rw [h3];intro y hy;cases hy⟩
theorem aJL{r}(h:r.Ok){k}(hf:Fit r k):XP r.id r.log (entriesOf r k):=by
 have:=hf.to;refine ⟨EO h hf,rfl,⟨by show 0<=(k:Int);omega,by show (k:Int)<=2;omega⟩,?_,λy hy=>?_⟩
 .show ((r.log.drop _).take 8).length<=8;rw [List.length_take];omega
 .exact List.mem_of_mem_drop (List.mem_of_mem_take hy)
theorem aJM{r}(h:r.Ok)(h2:r.role=2):∀ a∈cU r,XP r.id r.log a:=λa ha=>by
 unfold cU at ha;obtain ⟨k,hk,rfl⟩:=List.mem_map.1 ha;exact aJL h (h.fit h2 ((D8 k hk).1))
theorem aBx{r}(h:r.Ok):∀ a∈(eA r).2.send,XP r.id (eA r).1.log a:=by
 by_cases h1:r.role=2
 .rw [KL h1];exact aJM h h1
 by_cases h2:r.term=1099511627776
 .rw [RV h1 h2];intro a ha;cases ha
 rw [RW h1 h2];intro a ha;obtain ⟨k,hk,rfl⟩:=List.mem_map.1 ha;have hk:=(D8 k hk).1;exact aJK (a7B (aAA h h1 h2) k hk) rfl ⟨by show 0<=(k:Int);omega,by show (k:Int)<=2;omega⟩ rfl
theorem aBy{r}(hw:r.Wf)(data):∀ a∈(aL r data).2.2.2.send,XP r.id (aL r data).1.log a:=by
 have hp:=(z7 hw data).1;by_cases h1:r.role≠2
 .rw [xN h1];intro a ha;cases ha
 by_cases h2:2000<(data.size:Int)
 .rw [vW h1 h2];intro a ha;cases ha
 by_cases h3:r.log.length=4000
 .rw [r9 h1 h2 h3];intro a ha;cases ha
 rw [B0 h1 h2 h3] at hp ⊢;exact aJM hp.ok (Decidable.not_not.1 h1)
theorem aBz{r}(hw:r.Wf)(m):(∀ a∈(cX r m).2.send,XP r.id (cX r m).1.log a)/\∀ y∈(cX r m).1.log,y∈r.log\/y∈m.aF:=by
 cases hy:iV r.id m with
 | false =>
  rw [vF hy];exact ⟨λa ha=>(by cases ha),λy hy=>.inl hy⟩
 | true =>
  have hr:=lK.1 hy;obtain ⟨e1,e2⟩:=a1e hr;rw [e1,e2];have hw1:=aDh hw hr;have hid:=(KY r m).1;have hlg:=(KY r m).2.1;have J2:m.sO (cC r m).id:=by rw [hid];exact hr
  rw [<-hid,<-hlg];generalize cC r m=r1 at hw1 J2;have hk:=hr.kind;have hsrc:0<=m.src/\m.src<=2:=J2.src.2;have ho:=hw1.ok;have bare:∀ {l:List bT} {kind index:Int} {yes:Bool},0<=kind/\kind<=3 -> -1<=index/\index<=8000->XP r1.id l ⟨kind,r1.id,m.src,r1.term,index,0,0,yes,[]⟩:=λh1 h2=>aJK (EP ho h1 (by omega) h2 (by decide)) rfl hsrc rfl;have a1f:m.kind=0\/m.kind=1\/m.kind=2\/m.kind=3:=by omega
  rcases a1f with hk|hk|hk|hk
  .rw [aDi hk];obtain ⟨y,ey,_⟩:=a8D r1 m;rw [ey];refine ⟨λa ha=>?_,λz hz=>.inl ?_⟩
   .rw [List.mem_singleton.1 ha];exact bare (by decide) (by decide)
   .revert hz
    unfold dI;split<;>exact id
  .rw [aDj hk];by_cases hc:(decide (r1.role≠1)||decide (m.term≠r1.term) || !m.yes)=true
   .rw [D9 hc];exact ⟨λa ha=>(by cases ha),λy hy=>.inl hy⟩
   have hc:(decide (r1.role≠1)||decide (m.term≠r1.term) || !m.yes)=false:=by simpa using hc
   by_cases h2:pG (gU r1 m).cK<2
   .rw [xV hc h2];exact ⟨λa ha=>(by cases ha),λy hy=>.inl hy⟩
   .rw [uH hc h2];exact ⟨aJM (a5d ho m) rfl,λy hy=>.inl hy⟩
  .rw [aDk hk];by_cases h2:m.term<r1.term
   .rw [uI h2];exact ⟨λa ha=>by rw [List.mem_singleton.1 ha];exact bare (by decide) (by decide),λy hy=>.inl hy⟩
   by_cases h3:r1.role=2
   .rw [rA h2 h3];exact ⟨λa ha=>(by cases ha),λy hy=>.inl hy⟩
   by_cases h4:(decide ((r1.log.length:Int)<m.index)||decide (bE r1.log m.index.toNat≠m.prev))=true
   .rw [uJ h2 h3 h4];have:=ho.len;have:=J2.index.1;exact ⟨λa ha=>by rw [List.mem_singleton.1 ha];exact bare (by decide) (by omega),λy hy=>.inl hy⟩
   have h4:(decide ((r1.log.length:Int)<m.index)||decide (bE r1.log m.index.toNat≠m.prev))=false:=by simpa using h4
   have ack:∀ {l:List bT},XP r1.id l (pU r1 m):=by
    have h5:=J2.fits;have h6:=J2.index.1;intro l;exact bare (kind:=3) (index:=m.index+(m.aF.length:Int)) (yes:=true) (by decide) (by omega)
   by_cases h5:gF r1 m<m.aF.length
   .by_cases h6:m.index.toNat+gF r1 m+1<=r1.aE
    .rw [rD h2 h3 h4 h5 h6];exact ⟨λa ha=>(by cases ha),λy hy=>.inl hy⟩
    .rw [uK h2 h3 h4 h5 h6];refine ⟨λa ha=>by rw [List.mem_singleton.1 ha];exact ack,λy hy=>?_⟩;rcases List.mem_append.1 (show y∈r1.log.take _++m.aF.drop _ from hy) with h|h
     .exact .inl (List.mem_of_mem_take h)
     .exact .inr (List.mem_of_mem_drop h)
   .rw [rC h2 h3 h4 h5];exact ⟨λa ha=>by rw [List.mem_singleton.1 ha];exact ack,λy hy=>.inl hy⟩
  .rw [aDl hk];by_cases hc:(decide (r1.role≠2)||decide (m.term≠r1.term)||m.yes&&decide ((r1.log.length:Int)<m.index))=true
   .rw [r8 hc];exact ⟨λa ha=>(by cases ha),λy hy=>.inl hy⟩
   have hc:(decide (r1.role≠2)||decide (m.term≠r1.term)||m.yes&&decide ((r1.log.length:Int)<m.index))=false:=by simpa using hc
   have MO:=hc;simp only [Bool.or_eq_false_iff,decide_eq_false_iff_not] at MO;have cY:r1.role=2:=Decidable.not_not.1 MO.1.1;have hwa:=(B3 hw1 (m:=m) J2.index.1).1;cases hyes:m.yes with
   | false =>
    rw [mX hc hyes] at hwa ⊢;refine ⟨λa ha=>?_,λy hy=>.inl hy⟩;rw [List.mem_singleton.1 ha];exact aJL (r:=AZ r1 m) hwa.ok (hwa.ok.fit cY (by omega))
   | true =>
    obtain ⟨a1,a2,a3,a4,a5,a6,a7⟩:=a5e (pW r1 m);rw [oM hc hyes] at hwa ⊢;split
    .rename_i hmo;rw [if_pos hmo] at hwa;refine ⟨λa ha=>?_,λy hy=>.inl (by
      have hy:y∈(b9 (pW r1 m)).log:=hy;rw [a2] at hy;exact hy)⟩
     rw [List.mem_singleton.1 ha];have:=aJL (r:=b9 (pW r1 m)) hwa.ok (hwa.ok.fit (by rw [a1];exact cY) (i:=m.src.toNat) (by omega));rw [a5] at this;exact this
    .exact ⟨λa ha=>(by cases ha),λy hy=>.inl (by
      have hy:y∈(b9 (pW r1 m)).log:=hy;rw [a2] at hy;exact hy)⟩
theorem a1g(r):(eA r).1.log=r.log:=by
 unfold eA;split
 .rfl
 split
 .rfl
 .rfl
theorem a1h{r data}:∀ y∈(aL r data).1.log,y∈r.log\/y.data=data:=by
 by_cases h1:r.role≠2
 .rw [xN h1];exact λy hy=>.inl hy
 by_cases h2:2000<(data.size:Int)
 .rw [vW h1 h2];exact λy hy=>.inl hy
 by_cases h3:r.log.length=4000
 .rw [r9 h1 h2 h3];exact λy hy=>.inl hy
 rw [B0 h1 h2 h3];intro y hy;rcases List.mem_append.1 (show y∈r.log++[⟨r.term,data⟩] from hy) with h|h
 .exact .inl h
 .rw [List.mem_singleton.1 h];exact .inr rfl
theorem a5L{r:dY}(hr:r.Ok){i a}(h:XP i r.log a):UL a:=by
 refine ⟨λn hn=>?_,λx hx=>?_⟩
 .have ho:=h.ok;unfold pY at hn;simp only [List.mem_cons,List.not_mem_nil,or_false] at hn;rcases hn with rfl|rfl|rfl|rfl|rfl|rfl|rfl|rfl
  .exact ho.kind
  .exact ho.src
  .exact ho.to
  .exact ho.term
  .exact ho.index
  .exact ho.prev
  .exact ho.aE
  .split<;>(unfold aY;decide)
 .have hx:=h.aF x hx;have h1:=hr.log.lo x hx;have h2:=hr.log.hi x hx;have h3:=hr.log.data x hx;have h4:=hr.jD;exact ⟨by unfold aY;omega,by omega⟩
theorem a5M{x}(h:aY x.term)(h2:x.data.size<=1000000):(wW x).length<=x.data.size+43:=by
 unfold wW;rw [gD,sQ];have h1:=(gE h).2;have h3:=(ER (s:=x.data) (by omega)).1;omega
theorem SU{l t}(hs:lI l t)(ht:t<=1099511627776){N D}(hl:l.length<=N)(hd:∀ x∈l,x.data.size<=D)(wE:N*(D+90)<=1048576):JT l:=by
 have hr:∀ x∈l,aY x.term/\x.data.size<=1000000:=λx hx=>by
  have h1:=hs.lo x hx;have h2:=hs.hi x hx;have h3:=hs.data x hx;exact ⟨by unfold aY;omega,by omega⟩
 refine ⟨hr,?_⟩;have key:∀ k:List bT,(∀ x∈k,aY x.term/\x.data.size<=1000000)->(∀ x∈k,x.data.size<=D)->(aQ (k.map iK)).length<=k.length*(D+90):=by
  intro k
  induction k with
  | nil=>intro _ _;simp [aQ]
  | cons x k ih =>
   intro h1 h2;have h3:=ih (λy hy=>h1 y (by simp [hy])) λy hy=>h2 y (by simp [hy]);obtain ⟨h4,h5⟩:=h1 x (by simp);have h6:=h2 x (by simp);have h7:=a5M h4 (by omega);have h8:(oS (iK x)).data.toList.length<=(wW x).length+22:=by
    have hb:(iK x).size=(wW x).length:=bL _;have:=ER (s:=iK x) (by rw [hb];omega);rw [gD];omega
   rw [List.map_cons,yW,List.length_append,List.length_cons,Nat.add_mul];omega
 exact Nat.le_trans (key l hr hd) (Nat.le_trans (Nat.mul_le_mul_right _ hl) wE)
def B6(N:Nat)(B:Int)(D:Nat)(C:Cl)(i:Nat)(t v:Int)(l:List bT):Prop:=a5G C i t v l/\l.length<=N/\t<=B/\∀ x∈l,x.data.size<=D
def WS(C:Cl)(p:OQ):Prop:=∃ m∈C.sent,UL m/\m.aF.length<=8/\(0<=m.src/\m.src<=2)/\(0<=m.to/\m.to<=2)/\p=⟨m.src,m.to,bs (qQ m)⟩
structure GJ(N:Nat)(B:Int)(D:Nat)(G:gG)(C:Cl)(g:Gh)(A:Int->Nat->Nat):Prop where
 s:lV C g A
 b:CB N B C
 data:∀ j,j<3->∀ x∈(C.nd j).rep.log,x.data.size<=D
 mdata:∀ m∈C.sent,∀ x∈m.aF,x.data.size<=D
 up:∀ i,i<3->∀ u,(G.mem i).up=some u->u.r=(C.nd i).rep/\MU (G.mem i).d u
 dn:∀ i,i<3->(G.mem i).up=none->WL (G.mem i).d (B6 N B D C i)
 dL:∀ p∈G.dL.aH,WS C p
 V2:G.dL.aH.length<=500
 fE:∃ (K:List bT) (t:Int),G.fE=K.map bT.data/\lU g A t K K.length
def SW(G:gG):Prop:=∀ i,i<3->∀ u,(G.mem i).up=some u->u.r.aE<=G.fE.length
structure GI(N:Nat)(B:Int)(D:Nat)(G:gG)(C:Cl)(g:Gh)(A:Int->Nat->Nat):Prop where
 j:GJ N B D G C g A
 a35:SW G
def AE(N:Nat)(B:Int)(D:Nat)(G:gG)(g:Gh)(A:Int->Nat->Nat)(G':gG):Prop:=∃ C' g' A',GI N B D G' C' g' A'/\Aft g A g' A'/\∃ s,G'.fE=G.fE++s
section
variable {N N' D:Nat}{B B':Int}{G G':gG}{C C':Cl}{g g':Gh}{A A':Int->Nat->Nat}{i:Nat}
theorem B6.more{t v l}(h:B6 N B D C i t v l)(h1:N<=N')(h2:B<=B'):B6 N' B' D C i t v l:=⟨h.1,Nat.le_trans h.2.1 h1,Int.le_trans h.2.2.1 h2,h.2.2.2⟩
theorem B6.keep{t v l}(h:B6 N B D C i t v l)(e:(C'.nd i).rep=(C.nd i).rep)(hs:∀ m∈C.sent,m∈C'.sent):B6 N B D C' i t v l:=⟨h.1.keep e hs,h.2⟩
theorem WS.keep{p}(h:WS C p)(hs:∀ m∈C.sent,m∈C'.sent):WS C' p:=by
 obtain ⟨m,h1,h2⟩:=h;exact ⟨m,hs m h1,h2⟩
theorem GJ.more(h:GJ N B D G C g A)(h1:N<=N')(h2:B<=B'):GJ N' B' D G C g A :=
 ⟨h.s,h.b.more h1 h2,h.data,h.mdata,h.up,λi hi hn=>(h.dn i hi hn).mono λt v l a=>a.more h1 h2,h.dL,h.V2,h.fE⟩
theorem GI.more(h:GI N B D G C g A)(h1:N<=N')(h2:B<=B'):GI N' B' D G C g A:=⟨h.j.more h1 h2,h.a35⟩
theorem AE.more(h:AE N B D G g A G')(h1:N<=N')(h2:B<=B'):AE N' B' D G g A G':=by
 obtain ⟨C',g',A',a,b⟩:=h;exact ⟨C',g',A',a.more h1 h2,b⟩
theorem AE.refl(h:GI N B D G C g A):AE N B D G g A G:=⟨C,g,A,h,Aft.refl _ _,[],by simp⟩
theorem AE.then(h:AE N B D G g A G'){G''}(h2:∀ C' g' A',GI N B D G' C' g' A'->AE N' B' D G' g' A' G''):AE N' B' D G g A G'':=by
 obtain ⟨C1,g1,A1,a,b,s,e⟩:=h;obtain ⟨C2,g2,A2,a2,b2,s2,e2⟩:=h2 _ _ _ a;exact ⟨C2,g2,A2,a2,b.trans' b2,s++s2,by rw [e2,e,aX]⟩
theorem a8E(h:Aft g A g' A'){t l n}(hs:lU g A t l n):lU g' A' t l n:=hs.aBq h.ext h.a (Int.le_refl _)
theorem jQ(G i):(gL G i).mem=G.mem/\(gL G i).dL=G.dL:=by
 unfold gL;split
 .exact ⟨rfl,rfl⟩
 .split<;>exact ⟨rfl,rfl⟩
theorem a5N(h:GJ N B D G C g A)(hi:i<3):GJ N B D (gL G i) C g A/\(∃ s,(gL G i).fE=G.fE++s)/\∀ u,(G.mem i).up=some u->u.r.aE<=(gL G i).fE.length:=by
 unfold gL;split
 .rename_i hn;exact ⟨h,⟨[],by simp⟩,λu hu=>by rw [hu] at hn;cases hn⟩
 .rename_i u hu;obtain ⟨hr,hU⟩:=h.up i hi u hu;split
  .rename_i hlt;have hco:=h.s.co i hi;have hok:=(h.s.m.wf.rep i hi).1.ok;rw [<-hr] at hco hok;have tC:=hok.aE;have hl:((u.r.log.take u.r.aE).map bT.data).length=u.r.aE:=by rw [List.length_map,List.length_take];omega
   obtain ⟨K,t,e,hs⟩:=h.fE;have hK:K.length<=u.r.aE:=by rw [e,List.length_map] at hlt;omega
   have hcut:lU g A u.r.term (u.r.log.take u.r.aE) u.r.aE:=lU.cut hco (Int.le_refl _);have hcmp:=h.s.aJE hs hcut hK;rw [List.take_length] at hcmp;refine ⟨⟨h.s,h.b,h.data,h.mdata,h.up,h.dn,h.dL,h.V2,u.r.log.take u.r.aE,u.r.term,rfl,by rw [List.length_take,Nat.min_eq_left tC];exact hcut⟩,⟨((u.r.log.take u.r.aE).drop K.length).map bT.data,?_⟩,λv hv=>?_⟩
   .show (u.r.log.take u.r.aE).map bT.data=G.fE++_;rw [e]
    conv=>lhs;rw [<-List.take_append_drop K.length (u.r.log.take u.r.aE),List.map_append]
    rw [<-hcmp]
   .rw [hu] at hv;cases hv;show u.r.aE<=((u.r.log.take u.r.aE).map bT.data).length;omega
  .rename_i hlt;exact ⟨h,⟨[],by simp⟩,λv hv=>by rw [hu] at hv;cases hv;omega⟩
theorem aDm(h:GJ N B D G C g A):GI N B D (eM G) C g A/\∃ s,(eM G).fE=G.fE++s:=by
 unfold eM;obtain ⟨h0,⟨s0,e0⟩,n0⟩:=a5N (i:=0) h (by decide);obtain ⟨h1,⟨s1,e1⟩,n1⟩:=a5N (i:=1) h0 (by decide);obtain ⟨h2,⟨s2,e2⟩,n2⟩:=a5N (i:=2) h1 (by decide);have m0:=(jQ G 0).1;have m1:=(jQ (gL G 0) 1).1;have m2:=(jQ (gL (gL G 0) 1) 2).1;have l1:=congrArg List.length e1;have l2:=congrArg List.length e2;rw [List.length_append] at l1 l2;refine ⟨⟨h2,λi hi u hu=>?_⟩,s0++s1++s2,by rw [e2,e1,e0];simp⟩
 rw [m2,m1,m0] at hu
 match i,hi with
 | 0,_=>have:=n0 u hu;omega
 | 1,_=>have:=n1 u (by rw [m0];exact hu);omega
 | 2,_=>exact n2 u (by rw [m1,m0];exact hu)
theorem AE.note(h:GJ N B D G' C' g' A')(ha:Aft g A g' A')(hc:G'.fE=G.fE):AE N B D G g A (eM G'):=by
 obtain ⟨a,s,e⟩:=aDm h;exact ⟨C',g',A',a,ha,s,by rw [e,hc]⟩
theorem GJ.aM3(h:GJ N B D G C g A)(hi:i<3){m}(T8:∀ u,m.up=some u->u.r=(C.nd i).rep/\MU m.d u)(hdn:m.up=none->WL m.d (B6 N B D C i)):GJ N B D (bZ G i m) C g A:=by
 refine ⟨h.s,h.b,h.data,h.mdata,λj hj u hu=>?_,λj hj hn=>?_,h.dL,h.V2,h.fE⟩
 .by_cases e:j=i
  .subst e;have e2:(bZ G j m).mem j=m:=cI _ _ _;rw [e2] at hu ⊢;exact T8 u hu
  .have e2:(bZ G i m).mem j=G.mem j:=fR _ _ e;rw [e2] at hu ⊢;exact h.up j hj u hu
 .by_cases e:j=i
  .subst e;have e2:(bZ G j m).mem j=m:=cI _ _ _;rw [e2] at hn ⊢;exact hdn hn
  .have e2:(bZ G i m).mem j=G.mem j:=fR _ _ e;rw [e2] at hn ⊢;exact h.dn j hj hn
theorem GJ.any(h:GJ N B D G C g A)(hi:i<3):WL (G.mem i).d (B6 N B D C i):=by
 cases hu:(G.mem i).up with
 | none=>exact h.dn i hi hu
 | some u =>
  obtain ⟨hr,hU⟩:=h.up i hi u hu;have hb:=h.b.rep i hi;refine hU.dn ⟨.inl ⟨⟨?_,?_⟩,?_⟩,?_,?_,?_⟩
  .rw [hr]
  .rw [hr]
  .rw [hr]
  .rw [hr];exact hb.len
  .rw [hr];exact hb.term
  .rw [hr];exact h.data i hi
theorem GJ.w(h:GJ N B D G C g A)(hi:i<3):FH (G.mem i).d:=(h.any hi).1
theorem GJ.lose(h:GJ N B D G C g A)(hi:i<3){d}(hq:d.queue=(G.mem i).d.queue)(hf:d.files=(G.mem i).d.files):GJ N B D (bZ G i { G.mem i with d:=d }) C g A :=
 h.aM3 hi (λu hu=>⟨(h.up i hi u hu).1,(h.up i hi u hu).2.frame hq hf⟩) λhn=>(h.dn i hi hn).frame hq hf
theorem GJ.a0H(h:GJ N B D G C g A)(hi:i<3)(keep):GJ N B D (bZ G i ⟨bV (G.mem i).d keep,none⟩) C g A :=
 h.aM3 hi (λu hu=>by cases hu) λ_=>(h.any hi).ev (SA (h.w hi) keep) λF=>DE (h.w hi) keep F
theorem GJ.set(h:GJ N B D G C g A)(hN:N<=N')(hB:B<=B')(hi:i<3){r send n}(f:z8 C g A i r send g' n)(hw:r.Wf)(hid:r.id=i)(hrb:RB N' B' r)(hmb:∀ a∈send,MB N' B' a)(hd:∀ x∈r.log,x.data.size<=D)(hmd:∀ a∈send,∀ x∈a.aF,x.data.size<=D){m}(T8:∀ u,m.up=some u->u.r=r/\MU m.d u)(hun:m.up≠none):
  GJ N' B' D (bZ G i m) (WR C i r (C.sent++send)) g' (F5 A i r.term n):=by
 have hs:∀ a∈C.sent,a∈(WR C i r (C.sent++send)).sent:=λa ha=>List.mem_append_left _ ha;have b2E:=f.aft;refine ⟨aRp h.s hi f hw hid λa ha=>List.mem_append.1 ha,⟨λj hj=>?_,λa ha=>?_⟩,λj hj=>?_,λa ha=>?_,λj hj u hu=>?_,λj hj hn=>?_,λp hp=>(h.dL p hp).keep hs,h.V2,?_⟩
 .by_cases e:j=i
  .subst e;rw [KW];exact hrb
  .rw [F8 _ _ _ e];exact (h.b.rep j hj).more hN hB
 .rcases List.mem_append.1 ha with ha|ha
  .exact (h.b.msg a ha).more hN hB
  .exact hmb a ha
 .by_cases e:j=i
  .subst e;rw [KW];exact hd
  .rw [F8 _ _ _ e];exact h.data j hj
 .rcases List.mem_append.1 ha with ha|ha
  .exact h.mdata a ha
  .exact hmd a ha
 .by_cases e:j=i
  .subst e;have e2:(bZ G j m).mem j=m:=cI _ _ _;rw [e2] at hu ⊢;rw [KW];exact T8 u hu
  .have e2:(bZ G i m).mem j=G.mem j:=fR _ _ e;rw [e2] at hu ⊢;rw [F8 _ _ _ e];exact h.up j hj u hu
 .by_cases e:j=i
  .subst e;have e2:(bZ G j m).mem j=m:=cI _ _ _;rw [e2] at hn;exact absurd hn hun
  .have e2:(bZ G i m).mem j=G.mem j:=fR _ _ e;rw [e2] at hn ⊢;exact (h.dn j hj hn).mono λt v l a=>(a.more hN hB).keep (by rw [F8 _ _ _ e]) hs
 .obtain ⟨K,t,e,hsu⟩:=h.fE;exact ⟨K,t,e,a8E b2E hsu⟩
theorem a1i(id:Nat):∀ (l:List bQ) (n:JM),(∀ p∈n.aH,WS C p)->n.aH.length<=500->(∀ a∈l,a∈C.sent/\UL a/\a.aF.length<=8/\a.src=id/\0<=a.to/\a.to<=2)->id<3->(∀ p∈(jK id n l).aH,WS C p)/\(jK id n l).aH.length<=500
 | [],n,h1,h2,_,_=>⟨h1,h2⟩
 | a :: l,n,h1,h2,h3,hid=>by
  obtain ⟨b1,b2,b3,b4,b5⟩:=h3 a (by simp);have hn:(∀ p∈(rJ n id a.to (bs (qQ a))).1.aH,WS C p)/\(rJ n id a.to (bs (qQ a))).1.aH.length<=500:=by
   unfold rJ;split
   .exact ⟨h1,h2⟩
   split
   .exact ⟨h1,h2⟩
   split
   .exact ⟨h1,h2⟩
   .refine ⟨λp hp=>?_,?_⟩
    .rcases List.mem_append.1 (show p∈n.aH++[_] from hp) with hp|hp
     .exact h1 p hp
     .rw [List.mem_singleton.1 hp];exact ⟨a,b1,b2,b3,by omega,b5,by rw [b4]⟩
    .show (n.aH++[_]).length<=500;rw [List.length_append,List.length_singleton];omega
  exact a1i id l _ hn.1 hn.2 (λb hb=>h3 b (by simp [hb])) hid
theorem GI.do(h:GI N B D G C g A)(hN:N<=N')(hB:B<=B')(wE:N'*(D+90)<=1048576)(hi:i<3){u}(hu:(G.mem i).up=some u){x}(hx:Hap C i x)(hrb:RB N' B' x.1)(hmb:∀ a∈x.2.send,MB N' B' a)(hd:∀ y∈x.1.log,y.data.size<=D)(hg:∀ a∈x.2.send,XP i x.1.log a):AE N' B' D G g A (doG G i u x).1:=by
 obtain ⟨hr,hU⟩:=h.j.up i hi u hu;obtain ⟨hw,hf⟩:=hx.fits h.j.s.m.wf hi;have hid:x.1.id=i:=by rw [hf.id];exact (h.j.s.m.wf.rep i hi).2
 have hok:=hw.ok;have hst:=a05 (d:=(G.mem i).d) (u:=u) (r:=(C.nd i).rep) (r':=x.1) (o:=x.2) (by rw [<-hr];exact hU) hf ⟨by have:=hok.mT;have:=hok.jD;unfold aY;omega,by have:=hok.yQ;have:=hok.yR;unfold aY;omega⟩ (SU hok.log hok.jD hrb.len hd wE);unfold doG;simp only;obtain ⟨⟨d1,u1,e1⟩,hs⟩:∃ y,bW (G.mem i).d { u with r:=x.1 } x.2=y:=⟨_,rfl⟩;rw [hs] at hst ⊢;simp only;by_cases he:e1=0
 .rw [if_pos he];rcases hst.or with ⟨_,g1,g2⟩|⟨e,_⟩
  .obtain ⟨g',n,f⟩:=hx.aRo h.j.s hi;have hj:=h.j.set hN hB hi f hw hid hrb hmb hd (λa ha y hy=>hd y ((hg a ha).aF y hy)) (m:=⟨d1,some u1⟩) (λv hv=>by cases hv;exact ⟨g2,g1⟩) (by simp);have hsn:=a1i (C:=WR C i x.1 (C.sent++x.2.send)) i x.2.send G.dL hj.dL hj.V2 (λa ha=>by
    have hga:=hg a ha;exact ⟨List.mem_append_right _ ha,a5L hok hga,hga.len,hga.src,hga.to⟩) hi
   exact AE.note (G':={ bZ G i ⟨d1,some u1⟩ with dL:=jK i (bZ G i ⟨d1,some u1⟩).dL x.2.send }) ⟨hj.s,hj.b,hj.data,hj.mdata,hj.up,hj.dn,hsn.1,hsn.2,hj.fE⟩ f.aft rfl
  .have e:e1=9\/e1=10:=e;omega
 .rw [if_neg he];rcases hst.or with ⟨e,_⟩|⟨_,hdn⟩
  .exact absurd e he
  .have hm:=h.j.more hN hB;refine AE.note (hm.aM3 hi (m:=⟨d1,none⟩) (λv hv=>by cases hv) λ_=>hdn.mono λt v l hp=>?_) (Aft.refl _ _) rfl;refine ⟨a5G.of hx hp,?_⟩;have ho:=hm.b.rep i hi;have hod:=h.j.data i hi;have T8:=hf.term;have hxt:=hrb.term;rcases hp with ⟨⟨a,_⟩,c⟩|⟨⟨a,_⟩,c⟩
   .rw [a,c];exact ⟨ho.len,ho.term,hod⟩
   .rw [a];rcases c with rfl|⟨_,rfl⟩|rfl
    .exact ⟨ho.len,hxt,hod⟩
    .exact ⟨by rw [List.length_take];have:=ho.len;omega,hxt,λy hy=>hod y (List.mem_of_mem_take hy)⟩
    .exact ⟨hrb.len,hxt,hd⟩
theorem qD{id:Int}(h:¬ (id<0\/3<=id)):id.toNat<3:=by omega
theorem GI.tick(h:GI N B D G C g A)(wE:N*(D+90)<=1048576)(id):AE N (B+1) D G g A (x4 G id).1:=by
 have hr:=(AE.refl h).more (Nat.le_refl N) (show B<=B+1 by omega);unfold x4 vY;split
 .exact hr
 rename_i hid;have hi:=qD hid;split
 .exact hr
 rename_i u hu;obtain ⟨e,hU⟩:=h.j.up _ hi u hu;have hw:=(h.j.s.m.wf.rep _ hi).1;have hb:=a5J hw (h.j.b.rep _ hi);rw [e];refine h.do (Nat.le_refl _) (by omega) wE hi hu (.inl rfl) hb.1 hb.2 (by rw [a1g];exact h.j.data _ hi) ?_;have:=aBx hw.ok;rw [(h.j.s.m.wf.rep _ hi).2] at this;exact this
theorem GI.SX(h:GI N B D G C g A)(wE:(N+1)*(D+90)<=1048576)(id){data}(aJN:data.size<=D):AE (N+1) B D G g A (dF G id data).1:=by
 have hr:=(AE.refl h).more (Nat.le_succ N) (Int.le_refl B);unfold dF;split
 .exact hr
 rename_i hid;have hi:=qD hid;split
 .exact hr
 rename_i u hu;simp only;split
 .exact hr
 obtain ⟨e,hU⟩:=h.j.up _ hi u hu;have hw:=(h.j.s.m.wf.rep _ hi).1;have hb:=a5K hw (h.j.b.rep _ hi) data;have key:AE (N+1) B D G g A (doG G id.toNat u ((aL u.r data).1,(aL u.r data).2.2.2)).1:=by
  rw [e];refine h.do (Nat.le_succ _) (Int.le_refl _) wE hi hu (.inr (.inr ⟨data,rfl⟩)) hb.1 hb.2 (λy hy=>?_) ?_
  .rcases a1h y hy with a|a
   .exact h.j.data _ hi y a
   .rw [a];exact aJN
  .have:=aBy hw data;rw [(h.j.s.m.wf.rep _ hi).2] at this;exact this
 split<;>exact key
theorem GI.b2H(h:GI N B D G C g A)(wE:N*(D+90)<=1048576){m}(hm:m∈C.sent)(id):AE N B D G g A (vY G id λr=>cX r m).1:=by
 unfold vY;split
 .exact .refl h
 rename_i hid;have hi:=qD hid;split
 .exact .refl h
 rename_i u hu;obtain ⟨e,hU⟩:=h.j.up _ hi u hu;have hw:=(h.j.s.m.wf.rep _ hi).1;have hb:=a5I hw (h.j.b.rep _ hi) (h.j.b.msg m hm);have hg:=aBz hw m;rw [e];refine h.do (Nat.le_refl _) (Int.le_refl _) wE hi hu (.inr (.inl ⟨m,hm,rfl⟩)) hb.1 hb.2 (λy hy=>?_) ?_
 .rcases hg.2 y hy with a|a
  .exact h.j.data _ hi y a
  .exact h.j.mdata m hm y a
 .have:=hg.1;rw [(h.j.s.m.wf.rep _ hi).2] at this;exact this
theorem GI.aM4(h:GI N B D G C g A){n}(hn:∀ p∈n.aH,p∈G.dL.aH)(hl:n.aH.length<=500):GI N B D { G with dL:=n } C g A :=
 ⟨⟨h.j.s,h.j.b,h.j.data,h.j.mdata,h.j.up,h.j.dn,λp hp=>h.j.dL p (hn p hp),hl,h.j.fE⟩,h.a35⟩
theorem JY(n i):(∀ p∈(takeN n i).aH,p∈n.aH)/\(takeN n i).aH.length<=n.aH.length :=
 ⟨λp hp=>List.mem_of_mem_eraseIdx hp,List.length_eraseIdx_le _ _⟩
theorem GI.nxt(h:GI N B D G' C g A)(hc:G'.fE=G.fE):AE N B D G g A G':=⟨C,g,A,h,Aft.refl _ _,[],by rw [hc];simp⟩
theorem GI.takeN(h:GI N B D G C g A)(i):GI N B D { G with dL:=takeN G.dL i } C g A:=h.aM4 (JY _ _).1 (Nat.le_trans (JY _ _).2 h.j.V2)
theorem GI.vH(h:GI N B D G C g A)(wE:N*(D+90)<=1048576)(k):AE N B D G g A (eT G k).1:=by
 unfold eT;split
 .exact .refl h
 split
 .exact .refl h
 rename_i p hp;obtain ⟨m,hm,hmw,hlen,hsrc,hto,rfl⟩:=h.j.dL p (List.mem_of_getElem? hp);have ht:=h.takeN k.toNat;simp only;split
 .exact GI.nxt (G:=G) ht rfl
 .have e:(yU (bs (qQ m)).data.toList).getD S3=m:=by
   rw [qI,a0E hmw (by omega)];rfl
  rw [e];exact ht.b2H wE hm m.to
theorem GI.drop(h:GI N B D G C g A)(k):AE N B D G g A (x5 G k).1:=by
 unfold x5;split
 .exact .refl h
 .exact GI.nxt (G:=G) (h.takeN _) rfl
theorem GI.double(h:GI N B D G C g A)(k):AE N B D G g A (kW G k).1:=by
 unfold kW;split
 .exact .refl h
 split
 .exact .refl h
 split
 .exact .refl h
 .rename_i p hp _;refine GI.nxt (G:=G) (h.aM4 (λq hq=>?_) ?_) rfl
  .rcases List.mem_append.1 hq with hq|hq
   .exact hq
   .rw [List.mem_singleton.1 hq];exact List.mem_of_getElem? hp
  .show (G.dL.aH++[p]).length<=500;rw [List.length_append,List.length_singleton];omega
theorem GI.split(h:GI N B D G C g A)(m):AE N B D G g A (UP G m):=GI.nxt (G:=G) (h.aM4 (λ_ hp=>hp) h.j.V2) rfl
theorem GI.b2I(h:GI N B D G C g A):AE N B D G g A (a3D G):=GI.nxt (G:=G) (h.aM4 (λ_ hp=>hp) h.j.V2) rfl
theorem GI.a0H(h:GI N B D G C g A)(id keep):AE N B D G g A (mM G id keep).1:=by
 unfold mM;split
 .exact .refl h
 .rename_i hid;exact AE.note (h.j.a0H (qD hid) keep) (Aft.refl _ _) rfl
theorem GI.lose(h:GI N B D G C g A)(id n):AE N B D G g A (gV G id n).1:=by
 unfold gV;split
 .exact .refl h
 .rename_i hid;exact AE.note (h.j.lose (qD hid) rfl rfl) (Aft.refl _ _) rfl
theorem GI.arm(h:GI N B D G C g A)(id n keep):AE N B D G g A (M5 G id n keep).1:=by
 unfold M5;split
 .exact .refl h
 .rename_i hid;exact AE.note (h.j.lose (qD hid) rfl rfl) (Aft.refl _ _) rfl
theorem GJ.aRr(h:GJ N B D G C g A)(hi:i<3){d}(hd:WL d (B6 N B D C i)):∃ C' g' A',GJ N B D (bZ G i ⟨(bD i d).1,(bD i d).2.1⟩) C' g' A'/\Aft g A g' A':=by
 have ho:=KT (id:=i) hd;obtain ⟨⟨d1,uo,e1⟩,hx⟩:∃ x,bD i d=x:=⟨_,rfl⟩;rw [hx] at ho ⊢;rcases ho.or with ⟨u,a1,a2,a3,a4,a5,a6,a7,a8⟩|⟨a1,a2,a3⟩
 .have a1:uo=some u:=a1;subst a1;obtain ⟨C',g',A',bk⟩:=KX h.s hi a5;rw [<-a4] at bk;refine ⟨C',g',A',⟨bk.s,⟨λj hj=>?_,λm hm=>h.b.msg m (by rw [<-bk.sent];exact hm)⟩,λj hj=>?_,λm hm=>h.mdata m (by rw [<-bk.sent];exact hm),λj hj v hv=>?_,λj hj hn=>?_,λp hp=>(h.dL p hp).keep λm hm=>by rw [bk.sent];exact hm,h.V2,?_⟩,bk.aft⟩
  .by_cases e:j=i
   .subst e;rw [bk.rep,a4];exact aJJ a6 a7
   .rw [bk.ne j e];exact h.b.rep j hj
  .by_cases e:j=i
   .subst e;rw [bk.rep];exact a8
   .rw [bk.ne j e];exact h.data j hj
  .by_cases e:j=i
   .subst e;have e2:(bZ G j ⟨d1,some u⟩).mem j=⟨d1,some u⟩:=cI _ _ _;rw [e2] at hv ⊢;cases hv;exact ⟨bk.rep.symm,a3⟩
   .have e2:(bZ G i ⟨d1,some u⟩).mem j=G.mem j:=fR _ _ e;rw [e2] at hv ⊢;rw [bk.ne j e];exact h.up j hj v hv
  .by_cases e:j=i
   .subst e;have e2:(bZ G j ⟨d1,some u⟩).mem j=⟨d1,some u⟩:=cI _ _ _;rw [e2] at hn;cases hn
   .have e2:(bZ G i ⟨d1,some u⟩).mem j=G.mem j:=fR _ _ e;rw [e2] at hn ⊢;exact (h.dn j hj hn).mono λt v l a=>a.keep (by rw [bk.ne j e]) λm hm=>by rw [bk.sent];exact hm
  .obtain ⟨K,t,e,hsu⟩:=h.fE;exact ⟨K,t,e,a8E bk.aft hsu⟩
 .have a1:uo=none:=a1;subst a1;exact ⟨C,g,A,h.aM3 hi (λv hv=>by cases hv) λ_=>a3,Aft.refl _ _⟩
theorem GI.start(h:GI N B D G C g A)(id):AE N B D G g A (kP G id).1:=by
 unfold kP;split
 .exact .refl h
 rename_i hid;have hi:=qD hid;split
 .exact AE.note h.j (Aft.refl _ _) rfl
 rename_i hn;have hd:WL (bY (G.mem id.toNat).d) (B6 N B D C id.toNat):=(h.j.dn _ hi hn).frame rfl rfl;obtain ⟨C',g',A',a,b⟩:=h.j.aRr hi hd;exact AE.note a b rfl
theorem a36(wE:N*(D+90)<=1048576):∀ (k:Nat) {G:gG} {C:Cl} {g:Gh} {A:Int->Nat->Nat},GI N B D G C g A->AE N B D G g A (qU k G).1
 | 0,_,_,_,_,h=>.refl h
 | k+1,G,_,_,_,h=>by
  unfold qU;split
  .exact .refl h
  .exact (h.vH wE 0).then λC' g' A' h'=>a36 wE k h'
theorem GI.settle(h:GI N B D G C g A)(wE:N*(D+90)<=1048576)(id most):AE N (B+1) D G g A (cJ G id most).1:=by
 unfold cJ;exact (h.tick wE id).then λC' g' A' h'=>a36 wE _ h'
theorem B7(i):∃ u,(xQ i).up=some u/\MU (xQ i).d u/\u.r=dU i 0 (-1) []/\KO (xQ i).d:=by
 have ho:=KT (id:=i) aJn;have hf:=ho.A9 aMq;rcases ho.or with ⟨u,a1,a2,a3,a4,a5,a6,a7⟩|⟨a1,a2,a3⟩
 .refine ⟨u,a1,a3,?_,hf.1⟩;rw [a4,a5,a6,a7]
 .have:=hf.2;omega
theorem aJO:GI 0 0 D MS cl0 gh0 λ_ _=>0:=by
 refine ⟨⟨aXb,cb0,λj hj x hx=>(by cases hx),λm hm=>(by cases hm),λi hi u hu=>?_,λi hi hn=>?_,λp hp=>(by cases hp),Nat.zero_le _,[],0,rfl,.inl rfl⟩,λi hi u hu=>?_⟩
 .obtain ⟨v,h1,h2,h3,_⟩:=B7 i;have hu:(xQ i).up=some u:=hu;rw [h1] at hu;cases hu;exact ⟨h3,h2⟩
 .obtain ⟨v,h1,_⟩:=B7 i;have hn:(xQ i).up=none:=hn;rw [h1] at hn;cases hn
 .obtain ⟨v,h1,h2,h3,_⟩:=B7 i;have hu:(xQ i).up=some u:=hu;rw [h1] at hu;cases hu;rw [h3];exact Nat.zero_le _
theorem a1j(h:GJ N B D G C g A){t p}(hc:F4 g A t p)(hi:i<3)(hp:p<=A t i)(hp1:1<=p):gT g t p (nL (G.mem i).d):=by
 have at_:∀ {C:Cl} {g:Gh} {A:Int->Nat->Nat},lV C g A->F4 g A t p->p<=A t i->gT g t p (C.nd i).rep.log:=λhs hc hp=>by
  rcases hs.ia t i p hi hp1 hp with q|⟨u,q1,q2,q3,q4⟩
  .exact q
  .exact absurd (hs.V9 hc q1 q3) q4
 cases hu:(G.mem i).up with
 | some u =>
  obtain ⟨e,hU⟩:=h.up i hi u hu;rw [EZ hU,e];exact at_ h.s hc hp
 | none =>
  obtain ⟨t',v,hpd⟩:=OZ (h.dn i hi hu);obtain ⟨C',g',A',bk⟩:=KX h.s hi hpd.1;have:=at_ bk.s (hc.ext bk.aft.ext bk.aft.a) (Nat.le_trans hp (bk.aft.a t i));rw [bk.rep] at this;exact (gT.ext bk.aft.ext hc.1.2.1).1 this
theorem aBA(h:GJ N B D G C g A):∃ a b,a<3/\b<3/\a≠b/\∀ i,(i=a\/i=b)->G.fE.length<=(nL (G.mem i).d).length/\((nL (G.mem i).d).take G.fE.length).map bT.data=G.fE:=by
 obtain ⟨K,s,e,hs⟩:=h.fE;rcases hs with h0|⟨t,p,hc,_,hn,hk⟩
 .refine ⟨0,1,by decide,by decide,by decide,λi _=>?_⟩;have:K=[]:=List.eq_nil_of_length_eq_zero h0;subst this;rw [e];exact ⟨Nat.zero_le _,rfl⟩
 .obtain ⟨hv,a,b,ha,hb,hab,pa,pb⟩:=hc;refine ⟨a,b,ha,hb,hab,λi hi=>?_⟩;have hst:gT g t p (nL (G.mem i).d):=by
   rcases hi with rfl|rfl
   .exact a1j h ⟨hv,i,b,ha,hb,hab,pa,pb⟩ ha pa hv.1
   .exact a1j h ⟨hv,a,i,ha,hb,hab,pa,pb⟩ hb pb hv.1
  have hst:=hst.less hn;have e1:(nL (G.mem i).d).take K.length=K:=by rw [hst.2,<-hk.2,List.take_length]
  have el:G.fE.length=K.length:=by rw [e,List.length_map]
  rw [el,e1];exact ⟨hst.1,e.symm⟩
end
section
variable {W w:World}{S:List Own}{Φ:PW}{L:GX}{G:gG}{i:Nat}
theorem SY[aB Φ]{id}(cx:Ctx W w (cR L G++S) Φ){K}(hk:∀ w',Ctx W w' (cR L G++S) Φ->K (.returned (.int .i64 (upG G id))) w'):
  aD F.j6 #[.pointer (some ⟨L.gb,0,none⟩),.int .i64 id] w K:=by
 unfold upG at hk;refine gC (LX L.gb 0 id (J:=K∘.returned) cx λw F cx=>Br.intro (λh=>λw F cx=>?_) (λh=>?_))
 .rw [if_pos (by simpa using h)] at hk;exact hk w cx.left
 .have h:¬ (id<0\/3<=id):=by simpa using h
  rw [if_neg h] at hk;refine ⟨by omega,λw F cx=>⟨_,cx.get 0 rfl (by rw [Nat.zero_add];exact (B5 L G (i:=id.toNat) (k:=3) (by omega) (by decide)).trans rfl),?_⟩⟩;cases hu:(G.mem id.toNat).up with
  | none =>
   rw [hu] at hk;exact Br.intro (λ_=>λw F cx=>hk w cx.left) (λh=>by cases h)
  | some u =>
   rw [hu] at hk;exact Br.intro (λh=>by cases h) (λ_=>λw F cx=>hk w cx.left)
theorem a5O(L G F):(cR L G++F).Perm (fX L.N G.dL++(kG L.gb (lS L G) :: (V1 L G.fE :: (JU L G++F)))):=by
 have e:cR L G++F=kG L.gb (lS L G) :: (fX L.N G.dL++(V1 L G.fE :: (JU L G++F))):=by
  unfold cR;simp only [aX,List.cons_append]
 rw [e];exact List.perm_middle.symm
def M8(L:GX)(fp:Option Addr)(fc:Nat):GX:={ L with N:=⟨L.N.nb,fp,fc⟩ }
def qW(G:gG)(n:JM):gG:={ G with dL:=n }
theorem P2(L G fp fc n F):(fX ⟨L.N.nb,fp,fc⟩ n++(kG L.gb (lS L G) :: (V1 L G.fE :: (JU L G++F)))).Perm (cR (M8 L fp fc) (qW G n)++F):=(a5O (M8 L fp fc) (qW G n) F).symm
theorem aFn(G i a b):bZ (bZ G i a) i b=bZ G i b:=by
 unfold bZ;rw [aMR]
def doH(H:gG)(i:Nat)(u:XM)(o:mK):gG × Int :=
 let s:=bW (H.mem i).d u o
 if s.2.2=0 then (eM (qW (bZ H i ⟨s.1,some s.2.1⟩) (jK i H.dL o.send)),0) else (eM (bZ H i ⟨s.1,none⟩),s.2.2)
theorem aRs(G i u x):doG G i u x=doH (bZ G i ⟨(G.mem i).d,some { u with r:=x.1 }⟩) i { u with r:=x.1 } x.2:=by
 unfold doG doH;have e:((bZ G i ⟨(G.mem i).d,some { u with r:=x.1 }⟩).mem i).d=(G.mem i).d:=by show (put G.mem i _ i).d=_;rw [cI]
 rw [e];simp only [aFn];rfl
structure aXg(l:List bQ):Prop where
 msg:∀ a∈l,UL a/\a.aF.length<=1000000
theorem aOw(R J D:List Own)(c T):((R++(J++(D++[c])))++T).Perm (J++(D++(c :: (R++T)))):=by
 have e:(R++(J++(D++[c])))++T=R++((J++(D++[c]))++T):=by simp only [aX]
 rw [e];refine (List.perm_append_comm_assoc _ _ _).trans ?_;simp only [aX,List.cons_append,List.nil_append];exact .refl _
theorem VA(id):∀ (l:List bQ) (n:JM),n.aH.length<=500->(jK id n l).aH.length<=500
 | [],n,h=>h
 | a :: l,n,h=>by
  have hn:(rJ n id a.to (bs (qQ a))).1.aH.length<=500:=by
   unfold rJ;split
   .exact h
   split
   .exact h
   split
   .exact h
   .show (n.aH++[_]).length<=500;rw [List.length_append,List.length_singleton];omega
  exact VA id l _ hn
theorem a8F(G):(eM G).mem=G.mem/\(eM G).dL=G.dL:=by
 unfold eM;have h0:=jQ G 0;have h1:=jQ (gL G 0) 1;have h2:=jQ (gL (gL G 0) 1) 2;exact ⟨h2.1.trans (h1.1.trans h0.1),h2.2.trans (h1.2.trans h0.2)⟩
theorem mA.note(h:mA Φ L G)(cp cc):mA Φ (AB L cp cc) (eM G):=⟨λi hi=>by rw [(a8F G).1];exact h.mem i hi,by rw [(a8F G).2];exact h.V2⟩
end
section
variable {W w:World}{S:List Own}{Φ:PW}{L:GX}{G:gG}{i:Nat}
theorem aBB[aB Φ](hoff:∀ M w,Φ M w->sS M w)(hT:∀ M w,Φ M w->yT M w)(hF:mA Φ L G)(hi:i<3){u}(hu:(G.mem i).up=some u){o p1 p2 c1 c2}(hb:aMV u o)(mF:∀ M w,Φ M w->Sl M w p1 o.aF)(cx:Ctx W w (cR L G++S) Φ){K}(h0:∀ P' w',(bW (G.mem i).d u o).2.2=0->(∀ Ξ:PW,JR Ξ (L.P i).q (G.mem i).d->P0 Ξ P' ⟨(bW (G.mem i).d u o).1,some (bW (G.mem i).d u o).2.1⟩)->Ctx W w' (cR (fU L i P') (bZ G i ⟨(bW (G.mem i).d u o).1,some (bW (G.mem i).d u o).2.1⟩)++S) Φ->K (.returned (.int .i64 0)) w')(h1:∀ P' w',(bW (G.mem i).d u o).2.2≠0->(∀ Ξ:PW,JR Ξ (L.P i).q (G.mem i).d->P0 Ξ P' ⟨(bW (G.mem i).d u o).1,none⟩)->Ctx W w' (cR (fU L i P') (bZ G i ⟨(bW (G.mem i).d u o).1,none⟩)++S) Φ->K (.returned (.int .i64 (bW (G.mem i).d u o).2.2)) w'):
  aD F.mG #[.pointer (some ⟨L.gb,i*4,none⟩),XK o p1 c1 p2 c2] w K:=by
 have hm:=hF.mem i hi;have em:iL (L.P i) (G.mem i)=aS (L.P i).rb u.r (L.P i).rp (L.P i).rc++(eJ (L.P i).x (L.P i).q u.j++(b8 (L.P i).q (G.mem i).d++[eX (L.P i).cb (L.P i).q u.c])):=by unfold iL;rw [hu];rfl
 have hsm:(G.mem i).up.isSome=true:=by rw [hu];rfl
 have hc1:(lS L G)[i*4+1]? = some (pA (L.P i).x.jb):=by rw [B5 L G hi (by decide),hsm];rfl
 have MO:(lS L G)[i*4+2]? = some (pA (L.P i).cb):=by rw [B5 L G hi (by decide),hsm];rfl
 have pm:=SM L G hi S;rw [em] at pm;have ps:=(aOw (aS (L.P i).rb u.r (L.P i).rp (L.P i).rc) (eJ (L.P i).x (L.P i).q u.j) (b8 (L.P i).q (G.mem i).d) (eX (L.P i).cb (L.P i).q u.c) (AA L G i++S));have er:(bW (G.mem i).d u o).2.1.r=u.r:=by unfold bW;simp only;split<;>rfl
 refine aFe (gb:=L.gb) (mO:=i*4) (cb:=(L.P i).cb) (cs:=lS L G) (q:=(L.P i).q) (d:=(G.mem i).d) (x:=(L.P i).x) (u:=u) (o:=o) (S:=aS (L.P i).rb u.r (L.P i).rp (L.P i).rc++(AA L G i++S)) hoff hT (by rw [aBm];omega) hc1 MO hm.dq hm.dk (hm.sb u hu) hb mF (cx.perm (pm.trans (ps.cons _))) λv p c oo w hsb hq UY cx=>?_;obtain ⟨⟨d1,u1,e1⟩,hs⟩:∃ s,bW (G.mem i).d u o=s:=⟨_,rfl⟩;rw [hs] at hsb hq UY cx h0 h1 er ⊢
 simp only at hsb hq UY cx h0 h1 er ⊢;by_cases he:e1=0
 .subst he;rw [if_pos rfl] at cx;have hP:∀ Ξ:PW,JR Ξ (L.P i).q (G.mem i).d->P0 Ξ ⟨(L.P i).q.mv v,(L.P i).x.mv p c oo,(L.P i).cb,(L.P i).rb,(L.P i).rp,(L.P i).rc⟩ ⟨d1,some u1⟩:=λΞ hd=>⟨hq,hd.of UY v,λu2 h2=>by cases h2;exact hsb⟩;refine h0 _ w rfl hP ?_;have e4:=JV (L:=L) (G:=G) (i:=i) (P:=⟨(L.P i).q.mv v,(L.P i).x.mv p c oo,(L.P i).cb,(L.P i).rb,(L.P i).rp,(L.P i).rc⟩) (m:=⟨d1,some u1⟩) rfl rfl rfl rfl (by rw [hsm];rfl) hi
  refine cx.perm (List.Perm.trans ?_ (Y7 (L:=L) (G:=G) ⟨(L.P i).q.mv v,(L.P i).x.mv p c oo,(L.P i).cb,(L.P i).rb,(L.P i).rp,(L.P i).rc⟩ ⟨d1,some u1⟩ hi S));rw [<-e4];refine .cons _ ?_;have ps2:=(aOw (aS (L.P i).rb u.r (L.P i).rp (L.P i).rc) (eJ ((L.P i).x.mv p c oo) (L.P i).q u1.j) (b8 ((L.P i).q.mv v) d1) (eX (L.P i).cb (L.P i).q u1.c) (AA L G i++S)).symm;rw [<-er] at ps2 ⊢;exact ps2
 .rw [if_neg he] at cx;have hP:∀ Ξ:PW,JR Ξ (L.P i).q (G.mem i).d->P0 Ξ ⟨(L.P i).q.mv v,(L.P i).x,(L.P i).cb,(L.P i).rb,(L.P i).rp,(L.P i).rc⟩ ⟨d1,none⟩:=λΞ hd=>⟨hq,hd.of UY v,λu2 h2=>by cases h2⟩;refine h1 _ w he hP ?_;have e4:=a8v (L:=L) (G:=G) (i:=i) (P:=⟨(L.P i).q.mv v,(L.P i).x,(L.P i).cb,(L.P i).rb,(L.P i).rp,(L.P i).rc⟩) (d:=d1) rfl hi;have c5:Ctx W w (kG L.gb (FJ (lS L G) (i*4)) :: (b8 ((L.P i).q.mv v) d1++(AA L G i++S))) Φ:=by
   refine cx.sub (.cons_cons _ (List.Sublist.trans ?_ (List.sublist_append_right _ _)));exact List.Sublist.append_left (((List.sublist_append_right _ _)).cons _) _
  rw [e4] at c5;exact c5.perm (Y7 (L:=L) (G:=G) ⟨(L.P i).q.mv v,(L.P i).x,(L.P i).cb,(L.P i).rb,(L.P i).rp,(L.P i).rc⟩ ⟨d1,none⟩ hi S)
theorem a8G(id n l a):jK id n (l++[a])=(rJ (jK id n l) id a.to (bs (qQ a))).1:=by unfold jK;rw [List.foldl_append];rfl
theorem aM6[aB Φ](hoff:∀ M w,Φ M w->sS M w)(hT:∀ M w,Φ M w->yT M w)(hF:mA Φ L G)(hi:i<3){u}(hu:(G.mem i).up=some u){o p1 p2 c1 c2}(hb:aMV u o)(hsd:aXg o.send)(hok:∀ j,j<3->∀ v,(G.mem j).up=some v->v.r.Ok)(hlen:o.send.length<=1000000)(mF:∀ M w,Φ M w->Sl M w p1 o.aF)(aQP:∀ M w,Φ M w->Sl M w p2 o.send)(cx:Ctx W w (cR L G++S) Φ){K}(hk:∀ L' w',L'.gb=L.gb->(∀ Ξ:PW,mA Ξ L G->mA Ξ L' (doH G i u o).1)->Ctx W w' (cR L' (doH G i u o).1++S) Φ->K (.returned (.int .i64 (doH G i u o).2)) w'):
  aD F.nU #[.pointer (some ⟨L.gb,0,none⟩),.int .i64 (i:Int),XK o p1 c1 p2 c2] w K:=by
 obtain ⟨pb,po,pcs,hp2,cp⟩:=cx.pin (aQP _ _ cx.uX);obtain ⟨Ψ,XT⟩:∃ Ψ:PW,Ψ=λM w=>Φ M w/\Pin pb po pcs o.send M w:=⟨_,rfl⟩
 haveI:aB Ψ:=by rw [XT];infer_instance
 have hw1:∀ M w,Ψ M w->Φ M w:=by rw [XT];exact λM w h=>h.1
 have zI:∀ M w,Ψ M w->Pin pb po pcs o.send M w:=by rw [XT];exact λM w h=>h.2
 rw [<-XT] at cp;have aOx:∀ (L1:GX) (G1:gG),G1.mem=G.mem\/(∃ m:OR,G1.mem=(bZ G i m).mem/\∀ v,m.up=some v->v.r=u.r)->∀ j,j<3->∀ v,(G1.mem j).up=some v->v.r.Ok:=λL1 G1 h j hj v hv=>by
  rcases h with e|⟨m,e,hr⟩
  .rw [e] at hv;exact hok j hj v hv
  .rw [e] at hv;by_cases hij:j=i
   .subst hij;have e2:(bZ G j m).mem j=m:=cI _ _ _;rw [e2] at hv;rw [hr v hv];exact hok j hj u hu
   .have e2:(bZ G i m).mem j=G.mem j:=fR _ _ hij;rw [e2] at hv;exact hok j hj v hv
 have er:(bW (G.mem i).d u o).2.1.r=u.r:=by unfold bW;simp only;split<;>rfl
 refine gC (LY L.gb 0 (i:Int) o.save o.term o.aO o.src p1 o.aF.length c1 p2 o.send.length c2 (J:=K∘.returned) cp λ_=>?_);refine ⟨[],XN,aM,λw F cx=>(Ctx.right cx).weak λ_ _ _=>trivial,by omega,λw F cx=>?_⟩;rw [Nat.zero_add,Int.toNat_natCast];rw [aX] at cx;refine aBB (L:=L) (G:=G) (i:=i) (S:=S++F) (λM w h=>hoff M w (hw1 M w h)) (λM w h=>hT M w (hw1 M w h)) (hF.weak hw1) hi hu hb (λM w h=>mF M w (hw1 M w h)) cx (λP' w he hP cx=>?_) (λP' w he hP cx=>?_)
 rotate_left 1
 ·-- storing fails
  have eD:doH G i u o=(eM (bZ G i ⟨(bW (G.mem i).d u o).1,none⟩),(bW (G.mem i).d u o).2.2):=by unfold doH;simp only;rw [if_neg he]
  rw [eD] at hk;refine ⟨_,rfl,cR (fU L i P') (bZ G i ⟨(bW (G.mem i).d u o).1,none⟩)++S,Ψ,aM,by rw [aX];exact cx,Br.intro (λh=>absurd (eR h) he) (λ_=>λw F cx=>?_)⟩;rw [aX] at cx;refine V4 (L:=fU L i P') (aOx (fU L i P') _ (.inr ⟨_,rfl,λv hv=>by cases hv⟩)) cx λcp cc w cx=>⟨rfl,cR (AB (fU L i P') cp cc) (eM (bZ G i ⟨(bW (G.mem i).d u o).1,none⟩))++S,Ψ,aM,by rw [aX];exact cx,λw F cx=>?_⟩;exact hk (AB (fU L i P') cp cc) w rfl (λΞ h=>mA.note (h.put (hP Ξ (h.mem i hi).dk)) cp cc) (cx.left.weak hw1)
 ·-- the messages are sent
  obtain ⟨L1,M6⟩:∃ L1,fU L i P'=L1:=⟨_,rfl⟩;obtain ⟨G1,hG1⟩:∃ G1,bZ G i ⟨(bW (G.mem i).d u o).1,some (bW (G.mem i).d u o).2.1⟩=G1:=⟨_,rfl⟩;have hF1:∀ Ξ:PW,mA Ξ L G->mA Ξ L1 G1:=λΞ h=>by rw [<-M6,<-hG1];exact h.put (hP Ξ (h.mem i hi).dk)
  have hgb:L1.gb=L.gb:=by rw [<-M6];rfl
  have b2J:G1.dL=G.dL:=by rw [<-hG1];rfl
  have eD:doH G i u o=(eM (qW G1 (jK i G1.dL o.send)),0):=by unfold doH;simp only;rw [if_pos he,hG1,b2J]
  rw [M6,hG1] at cx;rw [eD] at hk;have aXh:∀ j,j<3->∀ v,(G1.mem j).up=some v->v.r.Ok:=aOx L1 G1 (.inr ⟨⟨(bW (G.mem i).d u o).1,some (bW (G.mem i).d u o).2.1⟩,by rw [<-hG1],λv hv=>by cases hv;exact er⟩);refine ⟨0,rfl,cR L1 G1++S,Ψ,aM,by rw [aX];exact cx,Br.intro (λ_=>?_) (λh=>absurd rfl (dD h))⟩;refine dN (λnI R' Ξ κ=>∃ (j:Nat) (fp:Option Addr) (fc:Nat),nI=j/\j<=o.send.length/\κ=o.send.length - j/\Ξ=Ψ/\R'=cR (M8 L1 fp fc) (qW G1 (jK i G1.dL (o.send.take j)))++S) ⟨⟨_,Ψ,_,aM,λw G cx=>cx,0,L1.N.fp,L1.N.fc,rfl,Nat.zero_le _,rfl,rfl,by rw [List.take_zero];rfl⟩,?_⟩
  rintro nI R1 Ξ κ _ ⟨j,fp,fc,rfl,hj,rfl,rfl,rfl⟩;refine Br.intro (λhlt=>?_) (λhge=>λw F cx=>?_)
  .have hlt:j<o.send.length:=by have:=eR hlt;omega
   obtain ⟨mp,mc,hp,J2,hr2,hmo⟩:=aMW (zI _ _ cx.uX) hlt;have aXi:=hsd.msg _ (List.getElem_mem hlt);refine ⟨by omega,aW pb po (hp2 (by omega)) λw F cx=>⟨_,_,_,_,_,_,_,_,mp,_,mc,by rw [Int.toNat_natCast];exact aFg (zI _ _ cx.uX) hlt hp,λ_=>?_⟩⟩;obtain ⟨n0,hn0⟩:∃ n0,jK i G1.dL (o.send.take j)=n0:=⟨_,rfl⟩;rw [hn0] at cx ⊢;have hl0:n0.aH.length<=500:=by rw [<-hn0];exact VA i _ _ (hF1 Φ hF).V2
   have sG:∀ Y:List Own,List.Sublist [kG L1.gb (lS (M8 L1 fp fc) (qW G1 n0))] (cR (M8 L1 fp fc) (qW G1 n0)++Y):=λY=>.cons_cons _ (List.nil_sublist _);refine ⟨[kG L1.gb (lS (M8 L1 fp fc) (qW G1 n0))],XN,aM,λw G cx=>cQ cx (sG S),some ⟨L1.N.nb,0,none⟩,λw G cx=>⟨_,by rw [<-hgb];exact cx.get 0 rfl rfl,rfl⟩,λw F cx=>?_⟩;refine (a8g (Φ:=Ξ) (m:=o.send[j]) (p:=mp) (c:=mc) (λM w h=>hT M w (hw1 M w h)) (λM w h=>aFf (zI M w h) hlt hp) aXi.1 aXi.2).use cx λw cx=>⟨_,rfl,_,Ξ,aM,cx,λw G cx=>cQ cx (sG S),λw F cx=>?_⟩
   rw [aX] at cx;refine aE0 (N:=⟨L1.N.nb,fp,fc⟩) (n:=n0) hl0 (cx.perm (a5O (M8 L1 fp fc) (qW G1 n0) (S++F))) λfp2 fc2 w cx=>⟨_,rfl,cR (M8 L1 fp2 fc2) (qW G1 (rJ n0 i o.send[j].to (bs (qQ o.send[j]))).1)++S,Ξ,aM,by
    rw [aX];exact cx.perm (P2 (M8 L1 fp fc) (qW G1 n0) fp2 fc2 (rJ n0 i o.send[j].to (bs (qQ o.send[j]))).1 (S++F)),by unfold aY;omega,_,Ξ,_,aM,λw G cx=>cx,⟨j+1,fp2,fc2,by omega,by omega,rfl,rfl,by rw [List.take_succ_eq_append_getElem hlt,a8G,hn0]⟩,by omega⟩
  .have hje:j=o.send.length:=by have:=dD hge;omega
   subst hje;rw [List.take_length,aX] at cx;rw [<-hgb];refine V4 (L:=M8 L1 fp fc) (G:=qW G1 (jK i G1.dL o.send)) aXh cx λcp cc w cx=>⟨rfl,cR (AB (M8 L1 fp fc) cp cc) (eM (qW G1 (jK i G1.dL o.send)))++S,Ξ,aM,by rw [aX];exact cx,λw F cx=>?_⟩;refine hk (AB (M8 L1 fp fc) cp cc) w hgb (λΞ h=>mA.note (L:=M8 L1 fp fc) (G:=qW G1 (jK i G1.dL o.send)) ⟨(hF1 Ξ h).mem,VA i _ _ (hF1 Ξ h).V2⟩ cp cc) (cx.left.weak hw1)
end
section
variable {W w:World}{S:List Own}{Φ:PW}{L:GX}{G:gG}{i:Nat}
theorem SZ(L G i u A F):M7 L G i u (A++F)=M7 L G i u A++F:=by
 have e:∀ (a:Own) (X R A F:List Own),a :: (X++(R++(A++F)))=(a :: (X++(R++A)))++F:=by intros;simp only [aX,List.cons_append]
 exact e _ _ _ _ _
theorem a8H(hi:i<3){u}(hu:(G.mem i).up=some u)(r p c F):
  (aS (L.P i).rb r p c++M7 L G i u F).Perm (cR (fU L i { L.P i with rp:=p,rc:=c }) (bZ G i ⟨(G.mem i).d,some { u with r:=r }⟩)++F):=by
 refine List.Perm.trans ?_ (Y7 (L:=L) (G:=G) { L.P i with rp:=p,rc:=c } ⟨(G.mem i).d,some { u with r:=r }⟩ hi F);have e4:=JV (L:=L) (G:=G) (i:=i) (P:={ L.P i with rp:=p,rc:=c }) (m:=⟨(G.mem i).d,some { u with r:=r }⟩) rfl rfl rfl rfl (by rw [hu];rfl) hi;rw [<-e4];refine List.perm_middle.trans (.cons _ ?_);show (aS (L.P i).rb r p c++((eJ (L.P i).x (L.P i).q u.j++(b8 (L.P i).q (G.mem i).d++[eX (L.P i).cb (L.P i).q u.c]))++(AA L G i++F))).Perm ((aS (L.P i).rb r p c++(eJ (L.P i).x (L.P i).q u.j++(b8 (L.P i).q (G.mem i).d++[eX (L.P i).cb (L.P i).q u.c])))++(AA L G i++F))
 rw [aX (aS (L.P i).rb r p c)]
structure a2u(u:XM)(x:dY × mK):Prop where
 sto:aMV { u with r:=x.1 } x.2
 snd:aXg x.2.send
 len:x.2.send.length<=1000000
 ok:x.1.Ok
def qE(G:gG):Prop:=∀ j,j<3->∀ v,(G.mem j).up=some v->v.r.Ok
theorem qE.put(h:qE G){m}(hm:∀ v,m.up=some v->v.r.Ok):qE (bZ G i m):=λj hj v hv=>by
 by_cases e:j=i
 .subst e;have e2:(bZ G j m).mem j=m:=cI _ _ _;rw [e2] at hv;exact hm v hv
 .have e2:(bZ G i m).mem j=G.mem j:=fR _ _ e;rw [e2] at hv;exact h j hj v hv
theorem WT[aB Φ](hoff:∀ M w,Φ M w->sS M w)(hT:∀ M w,Φ M w->yT M w)(hF:mA Φ L G)(hi:i<3){u}(hu:(G.mem i).up=some u)(x)(hx:a2u u x)(hok:qE G){q1 q2 c1 c2 p c}(cx:Ctx W w (aS (L.P i).rb x.1 p c++M7 L G i u S) (a5b Φ q1 x.2.aF q2 x.2.send)){K}(hk:∀ L' w',L'.gb=L.gb->(∀ Ξ:PW,mA Ξ L G->mA Ξ L' (doG G i u x).1)->Ctx W w' (cR L' (doG G i u x).1++S) Φ->K (.returned (.int .i64 (doG G i u x).2)) w'):
  aD F.nU #[.pointer (some ⟨L.gb,0,none⟩),.int .i64 (i:Int),XK x.2 q1 c1 q2 c2] w K:=by
 have hw1:∀ M w,a5b Φ q1 x.2.aF q2 x.2.send M w->Φ M w:=λM w h=>h.1;have hput:∀ Ξ:PW,mA Ξ L G->mA Ξ (fU L i { L.P i with rp:=p,rc:=c }) (bZ G i ⟨(G.mem i).d,some { u with r:=x.1 }⟩):=λΞ h=>h.put ⟨(h.mem i hi).dq,(h.mem i hi).dk,λv hv=>by cases hv;exact (h.mem i hi).sb u hu⟩;have eG:((bZ G i ⟨(G.mem i).d,some { u with r:=x.1 }⟩).mem i).up=some { u with r:=x.1 }:=by show (put G.mem i _ i).up=_;rw [cI]
 rw [aRs] at hk;refine aM6 (L:=fU L i { L.P i with rp:=p,rc:=c }) (G:=bZ G i ⟨(G.mem i).d,some { u with r:=x.1 }⟩) (i:=i) (S:=S) (λM w h=>hoff M w (hw1 M w h)) (λM w h=>hT M w (hw1 M w h)) ((hput Φ hF).weak hw1) hi eG hx.sto hx.snd (hok.put λv hv=>by cases hv;exact hx.ok) hx.len (λM w h=>h.2.1) (λM w h=>h.2.2) (cx.perm (a8H hi hu x.1 p c S)) λL' w hgb hg cx=>?_;exact hk L' w hgb (λΞ h=>hg Ξ (hput Ξ h)) (cx.weak hw1)
theorem a38[aB Φ](hoff:∀ M w,Φ M w->sS M w)(hT:∀ M w,Φ M w->yT M w)(hF:mA Φ L G)(hok:qE G){id fF fC f Z}(hx:∀ u,¬ (id<0\/3<=id)->(G.mem id.toNat).up=some u->a2u u (f u.r))(hf:qZ prog fF=true)(hfc:∀ u,¬ (id<0\/3<=id)->(G.mem id.toNat).up=some u->∀ {W w:World} {T:List Own} {b:Nat} {p:Option Addr} {c:Nat} {K:EkV},Ctx W w (aS b u.r p c++(Z++T)) Φ->J0 W (Z++T) Φ b (f u.r).1 (f u.r).2 (λv w=>K (.returned v) w)->Calls prog fF (Array.mk (.pointer (some ⟨b,0,none⟩) :: fC.toList)) w K)(cx:Ctx W w (cR L G++(Z++S)) Φ){K}(hk:∀ L' w',L'.gb=L.gb->(∀ Ξ:PW,mA Ξ L G->mA Ξ L' (vY G id f).1)->Ctx W w' (cR L' (vY G id f).1++(Z++S)) Φ->K (.returned (.int .i64 (vY G id f).2)) w'):
  aD F.oJ #[.pointer (some ⟨L.gb,0,none⟩),.int .i64 id,.func (.func fF) #[] fC] w K:=by
 unfold vY at hk;refine gC (GF L.gb 0 id fF fC (J:=K∘.returned) cx λw F cx=>?_);rw [aX] at cx;refine SY cx λw cx=>⟨_,rfl,cR L G++(Z++S),Φ,aM,by rw [aX];exact cx,?_⟩;unfold upG;by_cases hid:id<0\/3<=id
 .rw [if_pos hid] at hk ⊢;exact Br.intro (λ_=>λw F cx=>hk L w rfl (λ_ h=>h) cx.left) (λh=>absurd (dD h) (by decide))
 rw [if_neg hid] at hk ⊢;cases hu:(G.mem id.toNat).up with
 | none =>
  rw [hu] at hk;exact Br.intro (λ_=>λw F cx=>hk L w rfl (λ_ h=>h) cx.left) (λh=>absurd (dD h) (by decide))
 | some u =>
  rw [hu] at hk;simp only at hk;have hi:id.toNat<3:=by omega
  obtain ⟨i,rfl⟩:∃ i:Nat,id=i:=⟨id.toNat,by omega⟩;rw [Int.toNat_natCast] at hu hi hk ⊢;refine Br.intro (λh=>absurd rfl (eR h)) (λ_=>⟨by omega,λw F cx=>⟨some ⟨(L.P i).rb,0,none⟩,cx.get 0 rfl (by rw [Nat.zero_add,B5 L G hi (by decide),hu];rfl),λw F cx=>⟨hf,?_⟩⟩⟩);rw [aX] at cx;have pq:∀ F:List Own,(M7 L G i u ((Z++S)++F)).Perm (Z++M7 L G i u (S++F)):=λF=>by
   show (kG L.gb (lS L G) :: (_++(AA L G i++((Z++S)++F)))).Perm _;have e1:kG L.gb (lS L G) :: ((eJ (L.P i).x (L.P i).q u.j++(b8 (L.P i).q (G.mem i).d++[eX (L.P i).cb (L.P i).q u.c]))++(AA L G i++((Z++S)++F)))=(kG L.gb (lS L G) :: ((eJ (L.P i).x (L.P i).q u.j++(b8 (L.P i).q (G.mem i).d++[eX (L.P i).cb (L.P i).q u.c]))++AA L G i))++(Z++(S++F)):=by simp only [aX,List.cons_append]
   rw [e1];refine (List.perm_append_comm_assoc _ _ _).trans ?_;simp only [aX,List.cons_append];exact .refl _
  have c1:Ctx W w (aS (L.P i).rb u.r (L.P i).rp (L.P i).rc++(Z++M7 L G i u (S++F))) Φ:=cx.perm ((F2 hi hu ((Z++S)++F)).trans ((pq F).append_left _));refine hfc u hid (by rw [Int.toNat_natCast];exact hu) c1 λp' c' q1 c1 q2 c2 w _ _ _ _ cx=>?_;have c2:Ctx W w (aS (L.P i).rb (f u.r).1 p' c'++M7 L G i u ((Z++S)++F)) (a5b Φ q1 (f u.r).2.aF q2 (f u.r).2.send):=cx.perm ((pq F).symm.append_left _);have e5:∀ F:List Own,aS (L.P i).rb (f u.r).1 p' c'++M7 L G i u ((Z++S)++F)=(aS (L.P i).rb (f u.r).1 p' c'++M7 L G i u (Z++S))++F:=λF=>by
   have e6:M7 L G i u ((Z++S)++F)=M7 L G i u (Z++S)++F:=SZ _ _ _ _ _ _;rw [e6,<-aX (aS _ _ _ _)]
  refine ⟨_,_,_,_,_,_,_,_,_,_,rfl,aS (L.P i).rb (f u.r).1 p' c'++M7 L G i u (Z++S),_,aM,by rw [<-e5];exact c2,λw F cx=>?_⟩;rw [<-e5] at cx;refine WT hoff hT hF hi hu (f u.r) (hx u hid (by rw [Int.toNat_natCast];exact hu)) hok (S:=(Z++S)++F) cx λL' w hgb hg cx=>⟨_,rfl,cR L' (doG G i u (f u.r)).1++(Z++S),Φ,aM,by rw [aX];exact cx,λw F cx=>hk L' w hgb hg cx.left⟩
end
section
variable {W w:World}{S:List Own}{Φ:PW}{L:GX}{G:gG}{i:Nat}
theorem a39[aB Φ](hoff:∀ M w,Φ M w->sS M w)(hT:∀ M w,Φ M w->yT M w)(hF:mA Φ L G)(hok:qE G){id}(hx:∀ u:XM,¬ (id<0\/3<=id)->(G.mem id.toNat).up=some u->a2u u (eA u.r))(cx:Ctx W w (cR L G++S) Φ){K}(hk:∀ L' w',L'.gb=L.gb->(∀ Ξ:PW,mA Ξ L G->mA Ξ L' (x4 G id).1)->Ctx W w' (cR L' (x4 G id).1++S) Φ->K (.returned (.int .i64 (x4 G id).2)) w'):
  aD F.oI #[.pointer (some ⟨L.gb,0,none⟩),.int .i64 id] w K:=by
 refine gC (GC L.gb 0 id (J:=K∘.returned) cx λw Y cx=>?_);rw [aX] at cx;refine a38 (Z:=[]) (fF:=F.nX) (fC:=#[]) (f:=eA) hoff hT hF hok hx (by kernel_rfl) (λu hid hu {_ _ _ _ _ _ _} cx hK=>aIi cx (hok _ (by omega) u hu) hK) cx λL' w hgb hg cx=>⟨_,rfl,cR L' (x4 G id).1++S,Φ,aM,by rw [aX];exact cx,λw Y cx=>hk L' w hgb hg cx.left⟩
theorem F9[aB Φ](hoff:∀ M w,Φ M w->sS M w)(hT:∀ M w,Φ M w->yT M w)(hF:mA Φ L G)(hok:qE G){id data}(hx:∀ u:XM,¬ (id<0\/3<=id)->(G.mem id.toNat).up=some u->(u.r.role=2->1<=u.r.term)/\a2u u ((aL u.r data).1,(aL u.r data).2.2.2))(hsame:∀ u:XM,(aL u.r data).2.2.1≠0->(aL u.r data).1=u.r)(cx:Ctx W w (cR L G++S) Φ){K}(hk:∀ L' w',L'.gb=L.gb->(∀ Ξ:PW,mA Ξ L G->mA Ξ L' (dF G id data).1)->Ctx W w' (cR L' (dF G id data).1++S) Φ->K (.returned (.tuple #[.int .i64 (dF G id data).2.1,.int .i64 (dF G id data).2.2])) w'):
  aD F.eU #[.pointer (some ⟨L.gb,0,none⟩),.int .i64 id,.string data] w K:=by
 unfold dF at hk;refine gC (BR L.gb 0 id data (J:=K∘.returned) cx λw Y cx=>?_);rw [aX] at cx;refine SY cx λw cx=>⟨_,rfl,cR L G++S,Φ,aM,by rw [aX];exact cx,?_⟩;unfold upG;by_cases hid:id<0\/3<=id
 .rw [if_pos hid] at hk ⊢;exact Br.intro (λ_=>λw Y cx=>hk L w rfl (λ_ h=>h) cx.left) (λh=>absurd (dD h) (by decide))
 rw [if_neg hid] at hk ⊢;cases hu:(G.mem id.toNat).up with
 | none =>
  rw [hu] at hk;exact Br.intro (λ_=>λw Y cx=>hk L w rfl (λ_ h=>h) cx.left) (λh=>absurd (dD h) (by decide))
 | some u =>
  rw [hu] at hk;simp only at hk;have hi:id.toNat<3:=by omega
  obtain ⟨i,rfl⟩:∃ i:Nat,id=i:=⟨id.toNat,by omega⟩;obtain ⟨hx1,hx2⟩:=hx u hid hu;rw [Int.toNat_natCast] at hu hi hk ⊢;refine Br.intro (λh=>absurd rfl (eR h)) (λ_=>⟨by omega,λw Y cx=>⟨some ⟨(L.P i).rb,0,none⟩,cx.get 0 rfl (by rw [Nat.zero_add,B5 L G hi (by decide),hu];rfl),λw Y cx=>?_⟩⟩);rw [aX] at cx;refine a7I (cx.perm (F2 hi hu (S++Y))) (hok i hi u hu) hx1 data λp' c' q1 c1 q2 c2 w _ _ _ _ cx=>?_
  obtain ⟨P,hP⟩:∃ P,aL u.r data=P:=⟨_,rfl⟩;have hsm:=hsame u;rw [hP] at cx hk hx2 hsm ⊢;refine ⟨_,_,_,_,_,_,_,_,_,_,_,_,rfl,aS (L.P i).rb P.1 p' c'++M7 L G i u S,_,aM,by rw [aX,<-SZ];exact cx,λ_=>Br.intro (λh=>λw Y cx=>?_) (λh=>Br.intro (λ_=>λw Y cx=>?_) (λh2=>absurd (Decidable.not_not.1 (dD h2)) (dD h) ))⟩
  .have h0:P.2.2.1=0:=eR h;rw [if_neg (by simp [h0])] at hk;rw [aX,<-SZ] at cx;refine WT hoff hT hF hi hu (P.1,P.2.2.2) hx2 hok (S:=S++Y) cx λL' w hgb hg cx=>⟨_,rfl,cR L' (doG G i u (P.1,P.2.2.2)).1++S,Φ,aM,by rw [aX];exact cx,Br.intro (λh=>λw Y cx=>?_) (λh=>λw Y cx=>?_)⟩
   .rw [if_pos (eR h)] at hk;exact hk L' w hgb hg cx.left
   .rw [if_neg (dD h)] at hk;exact hk L' w hgb hg cx.left
  .have h0:P.2.2.1≠0:=dD h;rw [if_pos h0] at hk;rw [aX,<-SZ,hsm h0] at cx;have c2:=(cx.perm (a8H hi hu u.r p' c' (S++Y))).weak (Ψ:=Φ) λM w h=>h.1;have e1:bZ G i ⟨(G.mem i).d,some { u with r:=u.r }⟩=G:=by
    unfold bZ;have:(⟨(G.mem i).d,some { u with r:=u.r }⟩:OR)=G.mem i:=by rw [<-hu]
    rw [this,aJh]
   rw [e1] at c2;refine hk (fU L i { L.P i with rp:=p',rc:=c' }) w rfl (λΞ h=>?_) (by rw [<-aX] at c2;exact c2.left);have:=h.put (i:=i) (P:={ L.P i with rp:=p',rc:=c' }) (m:=⟨(G.mem i).d,some { u with r:=u.r }⟩) ⟨(h.mem i hi).dq,(h.mem i hi).dk,λv hv=>by cases hv;exact (h.mem i hi).sb u hu⟩;rw [e1] at this;exact this
theorem aFo[aB Φ](hN:∀ M w,Φ M w->uL M w){k p m}(hl:p.body.data.toList.length<=1000000)(hm:yU p.body.data.toList=some m)(hmo:m.Ok){b r}(hr:r.Ok){rp rc T}(cx:Ctx W w (aS b r rp rc++([.blk k (qB p) 267]++T)) Φ){K}(hK:J0 W ([.blk k (qB p) 267]++T) Φ b (cX r m).1 (cX r m).2 λv w=>K (.returned v) w):
  aD F.nA #[.pointer (some ⟨b,0,none⟩),.pointer (some ⟨k,0,none⟩)] w K:=by
 refine gC (yP b 0 k 0 (J:=K∘.returned) cx λ_ w Y cx=>⟨p.body,cx.get 2 rfl rfl,λw Y cx=>?_⟩);have eb:p.body=bs p.body.data.toList:=(aWs _).symm;rw [eb];refine aET hN p.body.data.toList hl cx (λw h=>by rw [hm] at h;cases h) (λm2 q c w h zI hlen hqc hqm cx=>?_);rw [hm] at h;cases h;obtain ⟨Ψ,XT⟩:∃ Ψ:PW,Ψ=λM w=>Φ M w/\Sl M w q m.aF:=⟨_,rfl⟩
 haveI:aB Ψ:=by rw [XT];infer_instance
 have hw1:∀ M w,Ψ M w->Φ M w:=by rw [XT];exact λM w h=>h.1
 have zI:∀ M w,Ψ M w->Sl M w q m.aF:=by rw [XT];exact λM w h=>h.2
 rw [<-XT] at cx;refine ⟨_,_,_,_,_,_,_,_,_,_,_,_,rfl,aS b r rp rc++([.blk k (qB p) 267]++T),Ψ,aM,cx,λ_ w Y cx=>?_⟩;rw [aX] at cx;refine aIo cx hr m hmo q c zI hqc hqm λp' c' q1 c1 q2 c2 w b1 b2 b3 b4 cx=>⟨_,_,_,_,_,_,_,_,_,_,rfl,aS b (cX r m).1 p' c'++([.blk k (qB p) 267]++T),a5b Ψ q1 (cX r m).2.aF q2 (cX r m).2.send,aM,by rw [aX];exact cx,λw Y cx=>?_⟩;exact hK p' c' q1 c1 q2 c2 w b1 b2 b3 b4 (cx.left.weak λM w h=>⟨hw1 M w h.1,h.2⟩)
structure PkH(G:gG)(p:OQ)(m:bQ):Prop where
 read:yU p.body.data.toList=some m
 ok:m.Ok
 len:p.body.data.toList.length<=1000000
 trn:∀ u:XM,¬ (p.to<0\/3<=p.to)->(G.mem p.to.toNat).up=some u->a2u u (cX u.r m)
theorem a5P{k}(h:iR G.dL k=none):eT G k=(G,4):=by
 unfold iR at h;unfold eT;split at h
 .rename_i hk;rw [if_pos hk]
 .rename_i hk;rw [if_neg hk,h]
theorem T0{k p}(h:iR G.dL k=some p):eT G k=if yX G.dL.split p.src p.to=false then (qW G (takeN G.dL k.toNat),10) else vY (qW G (takeN G.dL k.toNat)) p.to λr=>cX r ((yU p.body.data.toList).getD S3):=by
 unfold iR at h;unfold eT;split at h
 .cases h
 .rename_i hk;rw [if_neg hk,h];rfl
theorem T3[aB Φ](hoff:∀ M w,Φ M w->sS M w)(hN:∀ M w,Φ M w->uL M w)(hF:mA Φ L G)(hok:qE G){k}(hpk:∀ p,iR G.dL k=some p->∃ m,PkH G p m)(cx:Ctx W w (cR L G++S) Φ){K}(hk:∀ L' w',L'.gb=L.gb->(∀ Ξ:PW,mA Ξ L G->mA Ξ L' (eT G k).1)->Ctx W w' (cR L' (eT G k).1++S) Φ->K (.returned (.int .i64 (eT G k).2)) w'):
  aD F.eV #[.pointer (some ⟨L.gb,0,none⟩),.int .i64 k] w K:=by
 have hnb:(lS L G)[12]? = some (.pointer (some ⟨L.N.nb,0,none⟩)):=rfl;refine gC (BT L.gb 0 k (J:=K∘.returned) cx λw Y cx=>⟨_,cx.get 0 rfl hnb,λw Y cx=>?_⟩);rw [aX] at cx;have hgt:∀ Ξ:PW,mA Ξ L G->mA Ξ L (qW G (takeN G.dL k.toNat)):=λΞ h=>⟨h.mem,Nat.le_trans (JY _ _).2 h.V2⟩;have back:∀ {w:World} {n:JM} {Y:List Own},Ctx W w (fX L.N n++(kG L.gb (lS L G) :: (V1 L G.fE :: (JU L G++Y)))) Φ->Ctx W w (cR L (qW G n)++Y) Φ:=fun {w n Y} c=>c.perm (P2 L G L.N.fp L.N.fc n Y)
 refine a5v (N:=L.N) (n:=G.dL) hF.V2 (cx.perm (a5O L G (S++Y))) (λw ht cx=>?_) (λp w ht hh cx=>?_) (λp w ht hh cx=>?_)
 .have hd:=a5P (G:=G) ht;refine ⟨_,_,_,_,rfl,cR L G++S,Φ,aM,by rw [aX];exact back cx,λb w Y cx=>⟨cx.can 0 rfl (by show 0+3<=3;omega),λw' hw'=>⟨.blk b (qB aJd) 267 :: (cR L G++S),Φ,aM,cx.FL 0 hw' rfl,Br.intro (λ_=>λw Y cx=>?_) (λh=>absurd (dD h) (by decide))⟩⟩⟩;rw [hd] at hk;exact hk L w rfl (λ_ h=>h) (Ctx.drop1 cx.left)
 .have hd:=T0 (G:=G) ht;rw [if_pos hh] at hd;refine ⟨_,_,_,_,rfl,cR L (qW G (takeN G.dL k.toNat))++S,Φ,aM,by rw [aX];exact back cx,λb w Y cx=>⟨cx.can 0 rfl (by show 0+3<=3;omega),λw' hw'=>⟨.blk b (qB aJd) 267 :: (cR L (qW G (takeN G.dL k.toNat))++S),Φ,aM,cx.FL 0 hw' rfl,Br.intro (λ_=>λw Y cx=>?_) (λh=>absurd (dD h) (by decide))⟩⟩⟩;rw [hd] at hk;exact hk L w rfl hgt (Ctx.drop1 cx.left)
 .have hd:=T0 (G:=G) ht;obtain ⟨m,hm⟩:=hpk p ht;rw [if_neg (by rw [hh];simp),hm.read] at hd;rw [hd] at hk;refine ⟨_,_,_,_,rfl,cR L (qW G (takeN G.dL k.toNat))++S,Φ,aM,by rw [aX];exact back cx,λb w Y cx=>⟨cx.can 0 rfl (by show 0+3<=3;omega),λw' hw'=>⟨.blk b (qB p) 267 :: (cR L (qW G (takeN G.dL k.toNat))++S),Φ,aM,cx.FL 0 hw' rfl,Br.intro (λh=>absurd rfl (eR h)) (λ_=>λw Y cx=>⟨p.to,cx.get 0 rfl rfl,λw Y cx=>?_⟩)⟩⟩⟩
  have c1:Ctx W w (cR L (qW G (takeN G.dL k.toNat))++([.blk b (qB p) 267]++(S++Y))) Φ:=cx.perm (by
   rw [List.cons_append,aX];exact List.perm_append_comm_assoc [Own.blk b (qB p) 267] (cR L (qW G (takeN G.dL k.toNat))) (S++Y))
  refine a38 (L:=L) (G:=qW G (takeN G.dL k.toNat)) (Z:=[.blk b (qB p) 267]) (fF:=F.nA) (fC:=#[.pointer (some ⟨b,0,none⟩)]) (f:=λr=>cX r ((some m).getD S3)) hoff (λM w h=>(hN M w h).1) (hgt Φ hF) hok (λu h1 h2=>hm.trn u h1 h2) (by kernel_rfl) (λu h1 h2 {_ _ _ _ _ _ _} cx hK=>aFo hN hm.len hm.read hm.ok (hok _ (by omega) u h2) cx hK) c1 λL' w hgb hg cx=>⟨_,rfl,cR L' (vY (qW G (takeN G.dL k.toNat)) p.to λr=>cX r ((some m).getD S3)).1++S,Φ,aM,?_,λw Y cx=>hk L' w hgb (λΞ h=>hg Ξ (hgt Ξ h)) cx.left⟩
  rw [aX];exact Ctx.drop1 (cx.perm (List.perm_append_comm_assoc (cR L' _) [Own.blk b (qB p) 267] (S++Y)))
end
def a1k(G:gG)(id:Int)(m:Nat->OR)(n:Nat->Int):gG × Int:=if id<0\/3<=id then (G,1) else (eM (bZ G id.toNat (m id.toNat)),n id.toNat)
section
variable {W w:World}{S:List Own}{Φ:PW}{L:GX}{G:gG}{i:Nat}
theorem xS[aB Φ](hF:mA Φ L G){id:Int}{fF fC Z m' n}(hf:qZ prog fF=true)(hok:∀ i:Nat,id=i->i<3->qE (bZ G i (m' i)))(hfc:∀ i:Nat,id=i->i<3->∀ {w:World} {T:List Own} {K:EkV},Ctx W w (kG L.gb (lS L G) :: (iL (L.P i) (G.mem i)++(Z++T))) Φ ->
   (∀ P' Ψ w',aB Ψ->(∀ M w,Ψ M w->Φ M w)->P0 Ψ P' (m' i)->Ctx W w' (kG L.gb (lS (fU L i P') (bZ G i (m' i))) :: (iL P' (m' i)++(Z++T))) Ψ->K (.returned (.int .i64 (n i))) w')->Calls prog fF (Array.mk (.pointer (some ⟨L.gb,i*4,none⟩) :: fC.toList)) w K)(cx:Ctx W w (cR L G++(Z++S)) Φ){K}(hk:∀ L' Ψ w',L'.gb=L.gb->aB Ψ->(∀ M w,Ψ M w->Φ M w)->mA Ψ L' (a1k G id m' n).1->Ctx W w' (cR L' (a1k G id m' n).1++(Z++S)) Ψ->K (.returned (.int .i64 (a1k G id m' n).2)) w'):
  aD F.fZ #[.pointer (some ⟨L.gb,0,none⟩),.int .i64 id,.func (.func fF) #[] fC] w K:=by
 unfold a1k at hk;refine gC (BU L.gb 0 id fF fC (J:=K∘.returned) cx λw Y cx=>?_);rw [aX] at cx;refine SY cx λw cx=>⟨_,rfl,cR L G++(Z++S),Φ,aM,by rw [aX];exact cx,?_⟩;by_cases hid:id<0\/3<=id
 .have e1:upG G id=1:=by unfold upG;rw [if_pos hid]
  rw [if_pos hid] at hk;rw [e1];exact Br.intro (λ_=>λw Y cx=>hk L Φ w rfl aM (λ_ _ h=>h) hF cx.left) (λh=>absurd rfl (dD h))
 have e1:upG G id≠1:=by unfold upG;rw [if_neg hid];split<;>decide
 rw [if_neg hid] at hk;refine Br.intro (λh=>absurd (eR h) e1) (λ_=>⟨by omega,λw Y cx=>⟨hf,?_⟩⟩);obtain ⟨i,rfl⟩:∃ i:Nat,id=i:=⟨id.toNat,by omega⟩;have hi:i<3:=by omega
 rw [Int.toNat_natCast] at hk ⊢;rw [Nat.zero_add];have pz:∀ (A:GX) (P:SL) (m:OR),(kG L.gb (lS A (bZ G i m)) :: (iL P m++(AA L G i++((Z++S)++Y)))).Perm (kG L.gb (lS A (bZ G i m)) :: (iL P m++(Z++(AA L G i++(S++Y))))):=λA P m=>by
  refine .cons _ (.append_left _ ?_);rw [aX];exact List.perm_append_comm_assoc _ _ _
 have c1:Ctx W w (kG L.gb (lS L G) :: (iL (L.P i) (G.mem i)++(Z++(AA L G i++(S++Y))))) Φ:=by
  rw [aX] at cx;refine cx.perm ((SM L G hi ((Z++S)++Y)).trans (.cons _ (.append_left _ ?_)));rw [aX];exact List.perm_append_comm_assoc _ _ _
 refine hfc i rfl hi c1 λP' Ψ w hst hw hP cx=>?_
 haveI:=hst
 have c2:Ctx W w (cR (fU L i P') (bZ G i (m' i))++((Z++S)++Y)) Ψ:=(cx.perm (pz _ _ _).symm).perm (Y7 (L:=L) (G:=G) P' (m' i) hi ((Z++S)++Y));refine ⟨_,rfl,cR (fU L i P') (bZ G i (m' i))++(Z++S),Ψ,hst,by rw [aX];exact c2,λw Y cx=>?_⟩;rw [aX] at cx;refine V4 (L:=fU L i P') (hok i rfl hi) cx λcp cc w cx=>⟨rfl,cR (AB (fU L i P') cp cc) (eM (bZ G i (m' i)))++(Z++S),Ψ,hst,by rw [aX];exact cx,λw Y cx=>?_⟩
 exact hk (AB (fU L i P') cp cc) Ψ w rfl hst hw (mA.note ((hF.weak hw).put hP) cp cc) cx.left
theorem aJQ(P:SL)(m:OR)(T:List Own):(iL P m++T).Perm (b8 P.q m.d++((match m.up with|none=>[]|some u=>aS P.rb u.r P.rp P.rc++(eJ P.x P.q u.j++[eX P.cb P.q u.c]))++T)):=by
 unfold iL;cases hu:m.up with
 | none=>exact .refl _
 | some u =>
  show ((aS P.rb u.r P.rp P.rc++(eJ P.x P.q u.j++(b8 P.q m.d++[eX P.cb P.q u.c])))++T).Perm (b8 P.q m.d++((aS P.rb u.r P.rp P.rc++(eJ P.x P.q u.j++[eX P.cb P.q u.c]))++T));have e1:(aS P.rb u.r P.rp P.rc++(eJ P.x P.q u.j++(b8 P.q m.d++[eX P.cb P.q u.c])))++T=(aS P.rb u.r P.rp P.rc++eJ P.x P.q u.j)++(b8 P.q m.d++([eX P.cb P.q u.c]++T)):=by simp only [aX]
  have e2:(aS P.rb u.r P.rp P.rc++(eJ P.x P.q u.j++[eX P.cb P.q u.c]))++T=(aS P.rb u.r P.rp P.rc++eJ P.x P.q u.j)++([eX P.cb P.q u.c]++T):=by simp only [aX]
  rw [e1,e2];exact List.perm_append_comm_assoc _ _ _
def aBC(P:SL)(m:OR):List Own:=match m.up with
 | none=>[]
 | some u=>aS P.rb u.r P.rp P.rc++(eJ P.x P.q u.j++[eX P.cb P.q u.c])
theorem zD(P m gb cs X Y):((kG gb cs :: (iL P m++X))++Y).Perm (b8 P.q m.d++(kG gb cs :: (aBC P m++(X++Y)))):=by
 rw [List.cons_append,aX];exact ((aJQ P m (X++Y)).cons _).trans List.perm_middle.symm
theorem aM7(P m q d)(hq:q.db=P.q.db):aBC { P with q:=q } { m with d:=d }=aBC P m:=by
 unfold aBC;cases m.up with
 | none=>rfl
 | some u=>simp only [eJ,joB,eX,clB,hq]
theorem a4a(P m q d)(hq:q.db=P.q.db)(gb cs X Y):(b8 q d++(kG gb cs :: (aBC P m++(X++Y)))).Perm ((kG gb cs :: (iL { P with q:=q } { m with d:=d }++X))++Y):=by
 have h:=(zD { P with q:=q } { m with d:=d } gb cs X Y).symm;rw [aM7 P m q d hq] at h;exact h
theorem aOy(P q d)(hi:i<3)(hP:P=L.P i)(hq:q.db=P.q.db):lS L G=lS (fU L i { P with q:=q }) (bZ G i { G.mem i with d:=d }):=by
 subst hP;exact JV hq rfl rfl rfl rfl hi
theorem aFp[aB Φ](hF:mA Φ L G)(hi:i<3){k n}(hn:aY n){T}(cx:Ctx W w (kG L.gb (lS L G) :: (iL (L.P i) (G.mem i)++([Own.blk k [.int .i64 n] 3]++T))) Φ){K}(hk:∀ P' Ψ w',aB Ψ->(∀ M w,Ψ M w->Φ M w)->P0 Ψ P' { G.mem i with d:=j9 (G.mem i).d n }->Ctx W w' (kG L.gb (lS (fU L i P') (bZ G i { G.mem i with d:=j9 (G.mem i).d n })) :: (iL P' { G.mem i with d:=j9 (G.mem i).d n }++([Own.blk k [.int .i64 n] 3]++T))) Ψ->K (.returned (.int .i64 0)) w'):
  aD F.qM #[.pointer (some ⟨L.gb,i*4,none⟩),.pointer (some ⟨k,0,none⟩)] w K:=by
 have hm:=hF.mem i hi;have h0:(lS L G)[i*4]? = some (.pointer (some ⟨(L.P i).q.db,0,none⟩)):=B5 L G hi (k:=0) (by decide);refine gC (D3 L.gb (i*4) k 0 (J:=K∘.returned) cx ⟨[kG L.gb (lS L G),.blk k [.int .i64 n] 3],XN,aM,λw Y cx=>cQ cx (.cons_cons _ ((List.sublist_append_left _ _).trans (List.sublist_append_right _ _))),n,λw Y cx=>⟨_,cx.get 1 rfl rfl,rfl⟩,some ⟨(L.P i).q.db,0,none⟩,λw Y cx=>⟨_,cx.get 0 rfl h0,rfl⟩,λw Y cx=>?_⟩)
 refine a78 hm.dq hn (cx.perm (zD _ _ _ _ _ _)) λw hq cx=>⟨rfl,_,Φ,aM,cx.perm (a4a (L.P i) (G.mem i) (L.P i).q (j9 (G.mem i).d n) rfl L.gb (lS L G) _ Y),λw Y cx=>?_⟩;have e4:=aOy (L:=L) (G:=G) (i:=i) (L.P i) (L.P i).q (j9 (G.mem i).d n) hi rfl rfl;rw [e4] at cx;exact hk _ Φ w aM (λ_ _ h=>h) ⟨hq,⟨hm.dk.le,hm.dk.sl⟩,hm.sb⟩ cx.left
theorem aJR[aB Φ](hF:mA Φ L G)(hi:i<3){k k2 n}(hn:aY n){p c l}(hl:l.length<=1000000)(mF:∀ M w,Φ M w->Sl M w p l){T}(cx:Ctx W w (kG L.gb (lS L G) :: (iL (L.P i) (G.mem i)++([Own.blk k2 [.slice p l.length c] 37,.blk k [.int .i64 n] 3]++T))) Φ){K}(hk:∀ P' Ψ w',aB Ψ->(∀ M w,Ψ M w->Φ M w)->P0 Ψ P' { G.mem i with d:=pI (G.mem i).d n l }->Ctx W w' (kG L.gb (lS (fU L i P') (bZ G i { G.mem i with d:=pI (G.mem i).d n l })) :: (iL P' { G.mem i with d:=pI (G.mem i).d n l }++([Own.blk k2 [.slice p l.length c] 37,.blk k [.int .i64 n] 3]++T))) Ψ->K (.returned (.int .i64 0)) w'):
  aD F.sF #[.pointer (some ⟨L.gb,i*4,none⟩),.pointer (some ⟨k,0,none⟩),.pointer (some ⟨k2,0,none⟩)] w K:=by
 have hm:=hF.mem i hi;have h0:(lS L G)[i*4]? = some (.pointer (some ⟨(L.P i).q.db,0,none⟩)):=B5 L G hi (k:=0) (by decide);refine gC (EK L.gb (i*4) k 0 k2 0 (J:=K∘.returned) cx ⟨[kG L.gb (lS L G),.blk k2 [.slice p l.length c] 37,.blk k [.int .i64 n] 3],XN,aM,λw Y cx=>cQ cx (.cons_cons _ ((List.sublist_append_left _ _).trans (List.sublist_append_right _ _))),n,λw Y cx=>⟨_,cx.get 2 rfl rfl,rfl⟩,p,l.length,c,λw Y cx=>⟨_,_,_,cx.get 1 rfl rfl,rfl⟩,some ⟨(L.P i).q.db,0,none⟩,λw Y cx=>⟨_,cx.get 0 rfl h0,rfl⟩,λw Y cx=>?_⟩)
 refine aCX hm.dq hn hl mF (cx.perm (zD _ _ _ _ _ _)) λp' c' w hq cx=>?_;obtain ⟨q1,hq1⟩:∃ q1:DkP,q1={ (L.P i).q with kp:=p',kc:=c' }:=⟨_,rfl⟩;have hdb:q1.db=(L.P i).q.db:=by rw [hq1]
 rw [<-hq1] at hq cx;obtain ⟨Ψ,XT⟩:∃ Ψ:PW,Ψ=λM w=>Φ M w/\dkF q1 (pI (G.mem i).d n l) M w:=⟨_,rfl⟩
 haveI:aB Ψ:=by rw [XT];infer_instance
 have hw1:∀ M w,Ψ M w->Φ M w:=by rw [XT];exact λM w h=>h.1
 have zI:∀ M w,Ψ M w->dkF q1 (pI (G.mem i).d n l) M w:=by rw [XT];exact λM w h=>h.2
 rw [<-XT] at cx;refine ⟨rfl,_,Ψ,aM,cx.perm (a4a (L.P i) (G.mem i) q1 (pI (G.mem i).d n l) hdb L.gb (lS L G) _ Y),λw Y cx=>?_⟩;have e4:=aOy (L:=L) (G:=G) (i:=i) (L.P i) q1 (pI (G.mem i).d n l) hi rfl hdb;rw [e4] at cx;exact hk { L.P i with q:=q1 } Ψ w aM hw1 ⟨hq,⟨hl,zI⟩,hm.sb⟩ cx.left
theorem aBD[aB Φ](hF:mA Φ L G)(hi:i<3){k p c l}(hl:l.length<=1000000)(mF:∀ M w,Φ M w->Sl M w p l){T}(cx:Ctx W w (kG L.gb (lS L G) :: (iL (L.P i) (G.mem i)++([Own.blk k [.slice p l.length c] 37]++T))) Φ){K}(hk:∀ P' Ψ w',aB Ψ->(∀ M w,Ψ M w->Φ M w)->P0 Ψ P' ⟨bV (G.mem i).d l,none⟩->Ctx W w' (kG L.gb (lS (fU L i P') (bZ G i ⟨bV (G.mem i).d l,none⟩)) :: (iL P' ⟨bV (G.mem i).d l,none⟩++([Own.blk k [.slice p l.length c] 37]++T))) Ψ->K (.returned (.int .i64 0)) w'):
  aD F.oW #[.pointer (some ⟨L.gb,i*4,none⟩),.pointer (some ⟨k,0,none⟩)] w K:=by
 have hm:=hF.mem i hi;have h0:(lS L G)[i*4]? = some (.pointer (some ⟨(L.P i).q.db,0,none⟩)):=B5 L G hi (k:=0) (by decide);refine gC (BW L.gb (i*4) k 0 (J:=K∘.returned) cx ⟨[kG L.gb (lS L G),.blk k [.slice p l.length c] 37],XN,aM,λw Y cx=>cQ cx (.cons_cons _ ((List.sublist_append_left _ _).trans (List.sublist_append_right _ _))),p,l.length,c,λw Y cx=>⟨_,_,_,cx.get 1 rfl rfl,rfl⟩,some ⟨(L.P i).q.db,0,none⟩,λw Y cx=>⟨_,cx.get 0 rfl h0,rfl⟩,λw Y cx=>?_⟩)
 refine KQ hm.dq hl mF (cx.perm (zD _ _ _ _ _ _)) λu w hq cx=>?_;have c1:Ctx W w (kG L.gb (lS L G) :: ((b8 ((L.P i).q.mv u) (bV (G.mem i).d l)++([Own.blk k [.slice p l.length c] 37]++T))++Y)) Φ:=by
  have c2:=cx.perm (List.perm_middle (a:=kG L.gb (lS L G)));refine c2.sub (.cons_cons _ ?_);rw [aX];exact List.Sublist.append_left (List.sublist_append_right _ _) _
 refine ⟨rfl,kG L.gb (lS L G) :: (b8 ((L.P i).q.mv u) (bV (G.mem i).d l)++([Own.blk k [.slice p l.length c] 37]++T)),Φ,aM,c1,λw Y cx=>?_⟩;refine a0Y (by rw [aBm];omega) cx λw cx=>⟨rfl,kG L.gb (FJ (lS L G) (i*4)) :: (b8 ((L.P i).q.mv u) (bV (G.mem i).d l)++([Own.blk k [.slice p l.length c] 37]++T)),Φ,aM,cx,λw Y cx=>?_⟩;have e4:=a8v (L:=L) (G:=G) (i:=i) (P:={ L.P i with q:=(L.P i).q.mv u }) (d:=bV (G.mem i).d l) rfl hi
 rw [e4] at cx;exact hk { L.P i with q:=(L.P i).q.mv u } Φ w aM (λ_ _ h=>h) ⟨hq,hm.dk.of (EV _ _) u,λv hv=>by cases hv⟩ cx.left
def oC(i:Nat)(m:OR):OR:=match m.up with
 | some _=>m
 | none=>⟨(bD i (bY m.d)).1,(bD i (bY m.d)).2.1⟩
def sW(i:Nat)(m:OR):Int:=match m.up with
 | some _=>7
 | none=>(bD i (bY m.d)).2.2
theorem aBE[aB Φ](hoff:∀ M w,Φ M w->sS M w)(hN:∀ M w,Φ M w->uL M w)(hF:mA Φ L G)(hi:i<3){k}(aJf:∀ up,(bD i (bY (G.mem i).d)).2.1=some up->aE4 i up)(hne:∀ up,(bD i (bY (G.mem i).d)).2.1=some up->(bD i (bY (G.mem i).d)).2.2=0){T}(cx:Ctx W w (kG L.gb (lS L G) :: (iL (L.P i) (G.mem i)++([Own.blk k [.int .i64 (i:Int)] 3]++T))) Φ){K}(hk:∀ P' Ψ w',aB Ψ->(∀ M w,Ψ M w->Φ M w)->P0 Ψ P' (oC i (G.mem i))->Ctx W w' (kG L.gb (lS (fU L i P') (bZ G i (oC i (G.mem i)))) :: (iL P' (oC i (G.mem i))++([Own.blk k [.int .i64 (i:Int)] 3]++T))) Ψ->K (.returned (.int .i64 (sW i (G.mem i)))) w'):
  aD F.oV #[.pointer (some ⟨L.gb,i*4,none⟩),.pointer (some ⟨k,0,none⟩)] w K:=by
 have hm:=hF.mem i hi;have h0:(lS L G)[i*4]? = some (.pointer (some ⟨(L.P i).q.db,0,none⟩)):=B5 L G hi (k:=0) (by decide);have h3:(lS L G)[i*4+3]? = some (.pointer (oA (G.mem i).up.isSome (L.P i).rb)):=B5 L G hi (k:=3) (by decide);refine gC (BV L.gb (i*4) k 0 (J:=K∘.returned) cx λw Y cx=>⟨_,cx.get 0 rfl h3,?_⟩);cases hu:(G.mem i).up with
 | some u =>
  have e1:oC i (G.mem i)=G.mem i:=by unfold oC;rw [hu]
  have e2:sW i (G.mem i)=7:=by unfold sW;rw [hu]
  rw [e1,e2] at hk;refine Br.intro (λ_=>λw Y cx=>?_) (λh=>by cases h);have e4:=JV (L:=L) (G:=G) (i:=i) (P:=L.P i) (m:=G.mem i) rfl rfl rfl rfl rfl hi;rw [e4] at cx;exact hk (L.P i) Φ w aM (λ_ _ h=>h) hm cx.left
 | none =>
  have e1:oC i (G.mem i)=⟨(bD i (bY (G.mem i).d)).1,(bD i (bY (G.mem i).d)).2.1⟩:=by unfold oC;rw [hu]
  have e2:sW i (G.mem i)=(bD i (bY (G.mem i).d)).2.2:=by unfold sW;rw [hu]
  rw [e1,e2] at hk;refine Br.intro (λh=>by cases h) (λ_=>λw Y cx=>⟨_,cx.get 0 rfl h0,λw Y cx=>?_⟩);have em:iL (L.P i) (G.mem i)=b8 (L.P i).q (G.mem i).d:=by unfold iL;rw [hu]
  rw [em] at cx;have pd:∀ (q:DkP) (d:iM) (Y:List Own),((kG L.gb (lS L G) :: (b8 q d++([Own.blk k [.int .i64 (i:Int)] 3]++T)))++Y).Perm (b8 q d++(kG L.gb (lS L G) :: (([Own.blk k [.int .i64 (i:Int)] 3]++T)++Y))):=λq d Y=>by
   rw [List.cons_append,aX];exact List.perm_middle.symm
  refine a3G hm.dq (cx.perm (pd _ _ _)) λw hq cx=>⟨rfl,kG L.gb (lS L G) :: (b8 (L.P i).q (bY (G.mem i).d)++([Own.blk k [.int .i64 (i:Int)] 3]++T)),Φ,aM,cx.perm (pd _ _ _).symm,λw Y cx=>⟨(i:Int),?_,λw Y cx=>?_⟩⟩
  .exact (cx.perm (pd _ _ _)).get 5 rfl rfl
  .have hk1:JR Φ (L.P i).q (bY (G.mem i).d):=⟨hm.dk.le,hm.dk.sl⟩;rw [List.cons_append,aX] at cx;refine a3T (id:=i) hoff hN h0 (by rw [aBm];omega) hq hk1 aJf cx (λu w ho he hq1 UY cx=>?_) (λu x cb rb rp rc up w ho he hsb hq1 UY cx=>?_)
   .refine ⟨_,rfl,kG L.gb (lS L G) :: (b8 ((L.P i).q.mv u) (bD i (bY (G.mem i).d)).1++([Own.blk k [.int .i64 (i:Int)] 3]++T)),Φ,aM,by rw [List.cons_append,aX];exact cx,λw Y cx=>?_⟩;have e4:=JV (L:=L) (G:=G) (i:=i) (P:={ L.P i with q:=(L.P i).q.mv u }) (m:=⟨(bD i (bY (G.mem i).d)).1,none⟩) rfl rfl rfl rfl (by rw [hu]) hi;rw [ho] at hk;rw [e4] at cx;exact hk { L.P i with q:=(L.P i).q.mv u } Φ w aM (λ_ _ h=>h) ⟨hq1,hk1.of UY u,λv hv=>by cases hv⟩ cx.left
   .rw [ho,he] at hk;obtain ⟨P',hP'⟩:∃ P':SL,P'=⟨(L.P i).q.mv u,x,cb,rb,rp,rc⟩:=⟨_,rfl⟩;have e4:=aQ8 (L:=L) (G:=G) (i:=i) (P:=⟨(L.P i).q.mv u,x,cb,rb,rp,rc⟩) (d:=(bD i (bY (G.mem i).d)).1) (u:=up) rfl hi;have e5:(bD i (bY (G.mem i).d)).2.2=0:=he;have c5:Ctx W w ((kG L.gb (lS (fU L i ⟨(L.P i).q.mv u,x,cb,rb,rp,rc⟩) (bZ G i ⟨(bD i (bY (G.mem i).d)).1,some up⟩)) :: (iL ⟨(L.P i).q.mv u,x,cb,rb,rp,rc⟩ ⟨(bD i (bY (G.mem i).d)).1,some up⟩++([Own.blk k [.int .i64 (i:Int)] 3]++T)))++Y) Φ:=by
     rw [<-e4];refine cx.perm (.cons _ ?_);show (aS rb up.r rp rc++(eJ x (L.P i).q up.j++([eX cb (L.P i).q up.c]++(b8 ((L.P i).q.mv u) (bD i (bY (G.mem i).d)).1++(([Own.blk k [.int .i64 (i:Int)] 3]++T)++Y))))).Perm (((aS rb up.r rp rc++(eJ x ((L.P i).q.mv u) up.j++(b8 ((L.P i).q.mv u) (bD i (bY (G.mem i).d)).1++[eX cb ((L.P i).q.mv u) up.c])))++([Own.blk k [.int .i64 (i:Int)] 3]++T))++Y);rw [aX (aS rb up.r rp rc++_),aX (aS rb up.r rp rc),aX (eJ x _ up.j),aX (b8 _ _)]
     exact .append_left _ (.append_left _ (List.perm_append_comm_assoc _ _ _))
    refine ⟨0,rfl,_,Φ,aM,c5,λw Y cx=>?_⟩;exact hk ⟨(L.P i).q.mv u,x,cb,rb,rp,rc⟩ Φ w aM (λ_ _ h=>h) ⟨hq1,hk1.of UY u,λv hv=>by cases hv;exact hsb⟩ cx.left
end
structure OpG where
 kind:Int
 id:Int
 n:Int
 data:ByteArray
 keep:List Int
def opK(G:gG)(o:OpG)(i k:Int):gG × Int × Int :=
 if k=0 then ((x4 G o.id).1,0,(x4 G o.id).2) else
 if k=1 then dF G o.id o.data else
 if k=2\/k=3\/k=4 then ((eT G i).1,0,(eT G i).2) else
 if k=5 then ((x5 G i).1,0,(x5 G i).2) else
 if k=6 then ((kW G i).1,0,(kW G i).2) else
 if k=7 then (UP G o.n,0,0) else
 if k=8 then (a3D G,0,0) else
 if k=9 then ((mM G o.id o.keep).1,0,(mM G o.id o.keep).2) else
 if k=10 then ((kP G o.id).1,0,(kP G o.id).2) else
 if k=11 then ((gV G o.id o.n).1,0,(gV G o.id o.n).2) else
 if k=12 then ((M5 G o.id o.n o.keep).1,0,(M5 G o.id o.n o.keep).2) else
 ((cJ G o.id (lR o.n 100)).1,((cJ G o.id (lR o.n 100)).2:Int),0)
def opG(G:gG)(o:OpG):gG × Int × Int:=opK G o (lR o.n G.dL.aH.length) (lR o.kind 14)
section
variable {N N' D:Nat}{B B':Int}{G G':gG}{C C':Cl}{g g':Gh}{A A':Int->Nat->Nat}{i:Nat}
theorem GI.op(h:GI N B D G C g A)(wE:(N+1)*(D+90)<=1048576)(o)(hd:o.data.size<=D):AE (N+1) (B+1) D G g A (opG G o).1:=by
 have aBF:N*(D+90)<=1048576:=Nat.le_trans (Nat.mul_le_mul_right _ (Nat.le_succ N)) wE;have up:∀ {G'},AE N B D G g A G'->AE (N+1) (B+1) D G g A G':=λh=>h.more (Nat.le_succ N) (by omega);have up1:∀ {G'},AE N (B+1) D G g A G'->AE (N+1) (B+1) D G g A G':=λh=>h.more (Nat.le_succ N) (Int.le_refl _);unfold opG;generalize lR o.n (G.dL.aH.length:Int)=i;generalize lR o.kind 14=k;unfold opK;by_cases e0:k=0
 .rw [if_pos e0];exact up1 (h.tick aBF _)
 rw [if_neg e0];by_cases e1:k=1
 .rw [if_pos e1];exact (h.SX wE _ hd).more (Nat.le_refl _) (by omega)
 rw [if_neg e1];by_cases e2:k=2\/k=3\/k=4
 .rw [if_pos e2];exact up (h.vH aBF _)
 rw [if_neg e2];by_cases e3:k=5
 .rw [if_pos e3];exact up (h.drop _)
 rw [if_neg e3];by_cases e4:k=6
 .rw [if_pos e4];exact up (h.double _)
 rw [if_neg e4];by_cases e5:k=7
 .rw [if_pos e5];exact up (h.split _)
 rw [if_neg e5];by_cases e6:k=8
 .rw [if_pos e6];exact up h.b2I
 rw [if_neg e6];by_cases e7:k=9
 .rw [if_pos e7];exact up (h.a0H _ _)
 rw [if_neg e7];by_cases e8:k=10
 .rw [if_pos e8];exact up (h.start _)
 rw [if_neg e8];by_cases e9:k=11
 .rw [if_pos e9];exact up (h.lose _ _)
 rw [if_neg e9];by_cases e10:k=12
 .rw [if_pos e10];exact up (h.arm _ _ _)
 rw [if_neg e10];exact up1 (h.settle aBF _ _)
theorem L6(h:SW G):eM G=G:=by
 have one:∀ {i},i<3->gL G i=G:=fun {i} hi=>by
  unfold gL;split
  .rfl
  .rename_i u hu;rw [if_neg (by have:=h i hi u hu;omega)]
 unfold eM;rw [one (by decide),one (by decide),one (by decide)]
theorem a1l(h:GJ N B D G C g A)(hi:i<3){Q d}(hd:WL d Q)(hh:KO d):∃ u,bD i d=((bD i d).1,some u,0)/\MU (bD i d).1 u/\KO (bD i d).1/\u.r=dU i u.r.term u.r.aO u.r.log/\Q u.r.term u.r.aO u.r.log:=by
 have ho:=KT (id:=i) hd;obtain ⟨f1,f2⟩:=ho.A9 hh;rcases ho.or with ⟨u,a1,a2,a3,a4,a5⟩|⟨_,a2,_⟩
 .exact ⟨u,by rw [<-a1,<-a2],a3,f1,a4,a5⟩
 .omega
theorem aBG{d}(keep):KO (bY (bV (pI (j9 d 0) 0 []) keep)):=by
 refine ⟨rfl,?_,?_⟩
 .show (bV (pI (j9 d 0) 0 []) keep).eL=0;unfold bV;split
  .rfl
  .rfl
 .show (bV (pI (j9 d 0) 0 []) keep).lost=0;unfold bV;split
  .rfl
  .rfl
end
section
variable {W w:World}{S:List Own}{Φ:PW}{L:GX}{G:gG}{i:Nat}
theorem qE.aXk(h:qE G)(hi:i<3)(d):qE (bZ G i { G.mem i with d:=d }):=h.put λv hv=>h i hi v hv
theorem a5Q[aB Φ]{a w Y}(cx:Ctx W w ((a++(cR L G++S))++Y) Φ):Ctx W w (cR L G++(a++(S++Y))) Φ:=by
 refine cx.perm ?_;rw [aX,aX];exact List.perm_append_comm_assoc _ _ _
theorem Y9[aB Φ]{a w L' G' Y}(cx:Ctx W w (cR L' G'++(a++(S++Y))) Φ):Ctx W w ((cR L' G'++S)++Y) Φ:=by
 rw [aX];exact cx.sub (List.Sublist.append_left (List.sublist_append_right _ _) _)
theorem a4b[aB Φ](hF:mA Φ L G)(hok:qE G){id n}(hn:aY n)(cx:Ctx W w (cR L G++S) Φ){K}(hk:∀ L' Ψ w',L'.gb=L.gb->aB Ψ->(∀ M w,Ψ M w->Φ M w)->mA Ψ L' (gV G id n).1->Ctx W w' (cR L' (gV G id n).1++S) Ψ->K (.returned (.int .i64 (gV G id n).2)) w'):
  aD F.iY #[.pointer (some ⟨L.gb,0,none⟩),.int .i64 id,.int .i64 n] w K:=by
 refine gC (G6 L.gb 0 id n (J:=K∘.returned) cx λk w Y cx=>?_);refine xS (Z:=[Own.blk k [.int .i64 n] 3]) (fF:=F.qM) (fC:=#[.pointer (some ⟨k,0,none⟩)]) (m':=λi=>{ G.mem i with d:=j9 (G.mem i).d n }) (n:=λ_=>0) hF (by kernel_rfl) (λi _ hi=>hok.aXk hi _) (λi _ hi {w T K} cx hk=>aFp hF hi hn cx hk) (a5Q (a:=[Own.blk k [.int .i64 n] 3]) cx) λL' Ψ w hgb hst hw hg cx=>?_
 haveI:=hst
 exact ⟨_,rfl,cR L' (gV G id n).1++S,Ψ,hst,Y9 cx,λw Y cx=>hk L' Ψ w hgb hst hw hg cx.left⟩
theorem a8I[aB Φ](hF:mA Φ L G)(hok:qE G){id n}(hn:aY n){p c l}(hl:l.length<=1000000)(mF:∀ M w,Φ M w->Sl M w p l)(cx:Ctx W w (cR L G++S) Φ){K}(hk:∀ L' Ψ w',L'.gb=L.gb->aB Ψ->(∀ M w,Ψ M w->Φ M w)->mA Ψ L' (M5 G id n l).1->Ctx W w' (cR L' (M5 G id n l).1++S) Ψ->K (.returned (.int .i64 (M5 G id n l).2)) w'):
  aD F.jM #[.pointer (some ⟨L.gb,0,none⟩),.int .i64 id,.int .i64 n,.slice p l.length c] w K:=by
 refine gC (IE L.gb 0 id n p l.length c (J:=K∘.returned) cx λk k2 w Y cx=>?_);refine xS (Z:=[Own.blk k2 [.slice p l.length c] 37,Own.blk k [.int .i64 n] 3]) (fF:=F.sF) (fC:=#[.pointer (some ⟨k,0,none⟩),.pointer (some ⟨k2,0,none⟩)]) (m':=λi=>{ G.mem i with d:=pI (G.mem i).d n l }) (n:=λ_=>0) hF (by kernel_rfl) (λi _ hi=>hok.aXk hi _) (λi _ hi {w T K} cx hk=>aJR hF hi hn hl mF cx hk) (a5Q (a:=[Own.blk k2 [.slice p l.length c] 37,Own.blk k [.int .i64 n] 3]) cx) λL' Ψ w hgb hst hw hg cx=>?_
 haveI:=hst
 exact ⟨_,rfl,cR L' (M5 G id n l).1++S,Ψ,hst,Y9 cx,λw Y cx=>hk L' Ψ w hgb hst hw hg cx.left⟩
theorem a1m[aB Φ](hF:mA Φ L G)(hok:qE G){id p c l}(hl:l.length<=1000000)(mF:∀ M w,Φ M w->Sl M w p l)(cx:Ctx W w (cR L G++S) Φ){K}(hk:∀ L' Ψ w',L'.gb=L.gb->aB Ψ->(∀ M w,Ψ M w->Φ M w)->mA Ψ L' (mM G id l).1->Ctx W w' (cR L' (mM G id l).1++S) Ψ->K (.returned (.int .i64 (mM G id l).2)) w'):
  aD F.iC #[.pointer (some ⟨L.gb,0,none⟩),.int .i64 id,.slice p l.length c] w K:=by
 refine gC (EI L.gb 0 id p l.length c (J:=K∘.returned) cx λk w Y cx=>?_);refine xS (Z:=[Own.blk k [.slice p l.length c] 37]) (fF:=F.oW) (fC:=#[.pointer (some ⟨k,0,none⟩)]) (m':=λi=>⟨bV (G.mem i).d l,none⟩) (n:=λ_=>0) hF (by kernel_rfl) (λi _ hi=>hok.put λv hv=>by cases hv) (λi _ hi {w T K} cx hk=>aBD hF hi hl mF cx hk) (a5Q (a:=[Own.blk k [.slice p l.length c] 37]) cx) λL' Ψ w hgb hst hw hg cx=>?_
 haveI:=hst
 exact ⟨_,rfl,cR L' (mM G id l).1++S,Ψ,hst,Y9 cx,λw Y cx=>hk L' Ψ w hgb hst hw hg cx.left⟩
theorem a8J(G id):kP G id=a1k G id (λi=>oC i (G.mem i)) (λi=>sW i (G.mem i)):=by
 unfold kP a1k;split
 .rfl
 .cases hu:(G.mem id.toNat).up with
  | none =>
   have e1:oC id.toNat (G.mem id.toNat)=⟨(bD id.toNat (bY (G.mem id.toNat).d)).1,(bD id.toNat (bY (G.mem id.toNat).d)).2.1⟩:=by unfold oC;rw [hu]
   have e2:sW id.toNat (G.mem id.toNat)=(bD id.toNat (bY (G.mem id.toNat).d)).2.2:=by unfold sW;rw [hu]
   show _=(eM (bZ G id.toNat (oC id.toNat (G.mem id.toNat))),sW id.toNat (G.mem id.toNat));rw [e1,e2]
  | some u =>
   have e1:oC id.toNat (G.mem id.toNat)=G.mem id.toNat:=by unfold oC;rw [hu]
   have e2:sW id.toNat (G.mem id.toNat)=7:=by unfold sW;rw [hu]
   have e3:bZ G id.toNat (G.mem id.toNat)=G:=by unfold bZ;rw [aJh]
   show _=(eM (bZ G id.toNat (oC id.toNat (G.mem id.toNat))),sW id.toNat (G.mem id.toNat));rw [e1,e2,e3]
structure aXl(G:gG)(i:Nat):Prop where
 good:∀ up,(bD i (bY (G.mem i).d)).2.1=some up->aE4 i up
 A9:∀ up,(bD i (bY (G.mem i).d)).2.1=some up->(bD i (bY (G.mem i).d)).2.2=0
 ok:∀ up,(bD i (bY (G.mem i).d)).2.1=some up->up.r.Ok
theorem a1n[aB Φ](hoff:∀ M w,Φ M w->sS M w)(hN:∀ M w,Φ M w->uL M w)(hF:mA Φ L G)(hok:qE G){id}(hs:∀ i,i<3->aXl G i)(cx:Ctx W w (cR L G++S) Φ){K}(hk:∀ L' Ψ w',L'.gb=L.gb->aB Ψ->(∀ M w,Ψ M w->Φ M w)->mA Ψ L' (kP G id).1->Ctx W w' (cR L' (kP G id).1++S) Ψ->K (.returned (.int .i64 (kP G id).2)) w'):
  aD F.iB #[.pointer (some ⟨L.gb,0,none⟩),.int .i64 id] w K:=by
 rw [a8J] at hk;refine gC (EG L.gb 0 id (J:=K∘.returned) cx λk w Y cx=>⟨id,cx.get 0 rfl rfl,λw Y cx=>?_⟩);refine xS (Z:=[Own.blk k [.int .i64 id] 3]) (fF:=F.oV) (fC:=#[.pointer (some ⟨k,0,none⟩)]) (m':=λi=>oC i (G.mem i)) (n:=λi=>sW i (G.mem i)) hF (by kernel_rfl) (λi _ hi=>hok.put λv hv=>?_) (λi e hi {w T K} cx hk=>by subst e;exact aBE hoff hN hF hi (hs i hi).good (hs i hi).A9 cx hk) (a5Q (a:=[Own.blk k [.int .i64 id] 3]) cx) λL' Ψ w hgb hst hw hg cx=>?_
 .unfold oC at hv;cases hu:(G.mem i).up with
  | some u=>rw [hu] at hv;exact hok i hi v (by first|exact hv|(rw [<-hv,hu]))
  | none=>rw [hu] at hv;exact (hs i hi).ok v hv
 .haveI:=hst
  exact ⟨_,rfl,cR L' (a1k G id (λi=>oC i (G.mem i)) (λi=>sW i (G.mem i))).1++S,Ψ,hst,Y9 cx,λw Y cx=>hk L' Ψ w hgb hst hw hg cx.left⟩
theorem a8K:(lS L G)[12]? = some (.pointer (some ⟨L.N.nb,0,none⟩)):=rfl
theorem a1o[aB Φ]{w Y}(cx:Ctx W w ((cR L G++S)++Y) Φ):Ctx W w (fX L.N G.dL++(kG L.gb (lS L G) :: (V1 L G.fE :: (JU L G++(S++Y))))) Φ:=by
 rw [aX] at cx;exact cx.perm (a5O L G (S++Y))
theorem B8[aB Φ]{w fp fc n Y}(cx:Ctx W w (fX ⟨L.N.nb,fp,fc⟩ n++(kG L.gb (lS L G) :: (V1 L G.fE :: (JU L G++(S++Y))))) Φ):Ctx W w ((cR (M8 L fp fc) (qW G n)++S)++Y) Φ:=by
 rw [aX];exact cx.perm (P2 L G fp fc n (S++Y))
theorem aFr{k}(h:iR G.dL k=none):x5 G k=(G,4):=by
 unfold x5;rw [if_pos (aE1 h)]
theorem aFs{k p}(h:iR G.dL k=some p):x5 G k=(qW G (takeN G.dL k.toNat),0):=by
 obtain ⟨h1,h2,_⟩:=a3Q h;unfold x5;rw [if_neg (by omega)];rfl
theorem aFt[aB Φ](hF:mA Φ L G){k}(cx:Ctx W w (cR L G++S) Φ){K}(hk:∀ w',(∀ Ξ:PW,mA Ξ L G->mA Ξ L (x5 G k).1)->Ctx W w' (cR L (x5 G k).1++S) Φ->K (.returned (.int .i64 (x5 G k).2)) w'):
  aD F.l8 #[.pointer (some ⟨L.gb,0,none⟩),.int .i64 k] w K:=by
 refine gC (GD L.gb 0 k (J:=K∘.returned) cx λw Y cx=>⟨_,cx.get 0 rfl a8K,λw Y cx=>?_⟩);refine aE2 (N:=L.N) (n:=G.dL) hF.V2 (a1o cx) (λw ht cx=>?_) (λp w ht cx=>?_)
 .rw [aFr ht] at hk;exact ⟨4,rfl,cR L G++S,Φ,aM,B8 cx,λw Y cx=>hk w (λ_ h=>h) cx.left⟩
 .rw [aFs ht] at hk;exact ⟨0,rfl,cR L (qW G (takeN G.dL k.toNat))++S,Φ,aM,B8 cx,λw Y cx=>hk w (λΞ h=>⟨h.mem,Nat.le_trans (JY _ _).2 h.V2⟩) cx.left⟩
theorem aBH[aB Φ]{m}(cx:Ctx W w (cR L G++S) Φ){K}(hk:∀ w',(∀ Ξ:PW,mA Ξ L G->mA Ξ L (UP G m))->Ctx W w' (cR L (UP G m)++S) Φ->K (.returned (.tuple #[])) w'):
  aD F.jU #[.pointer (some ⟨L.gb,0,none⟩),.int .i64 m] w K:=by
 refine gC (EH L.gb 0 m (J:=K∘.returned) cx λw Y cx=>⟨_,cx.get 0 rfl a8K,λw Y cx=>?_⟩);exact aA5 (N:=L.N) (n:=G.dL) (a1o cx) λw cx=>⟨rfl,cR L (UP G m)++S,Φ,aM,B8 cx,λw Y cx=>hk w (λΞ h=>⟨h.mem,h.V2⟩) cx.left⟩
theorem aFu[aB Φ](cx:Ctx W w (cR L G++S) Φ){K}(hk:∀ w',(∀ Ξ:PW,mA Ξ L G->mA Ξ L (a3D G))->Ctx W w' (cR L (a3D G)++S) Φ->K (.returned (.tuple #[])) w'):
  aD F.kY #[.pointer (some ⟨L.gb,0,none⟩)] w K:=by
 refine gC (G4 L.gb 0 (J:=K∘.returned) cx λw Y cx=>⟨_,cx.get 0 rfl a8K,λw Y cx=>?_⟩);exact aE3 (N:=L.N) (n:=G.dL) (a1o cx) λw cx=>⟨rfl,cR L (a3D G)++S,Φ,aM,B8 cx,λw Y cx=>hk w (λΞ h=>⟨h.mem,h.V2⟩) cx.left⟩
theorem T4[aB Φ](cx:Ctx W w (cR L G++S) Φ){K}(hk:∀ w',Ctx W w' (cR L G++S) Φ->K (.returned (.int .i64 (G.dL.aH.length:Int))) w'):
  aD F.kU #[.pointer (some ⟨L.gb,0,none⟩)] w K:=by
 refine gC (BS L.gb 0 (J:=K∘.returned) cx λw Y cx=>⟨_,cx.get 0 rfl a8K,λw Y cx=>?_⟩);exact aA6 (N:=L.N) (n:=G.dL) (a1o cx) λw cx=>⟨_,rfl,cR L G++S,Φ,aM,B8 cx,λw Y cx=>hk w cx.left⟩
theorem a8L[aB Φ](hoff:∀ M w,Φ M w->sS M w)(hN:∀ M w,Φ M w->uL M w)(hF:mA Φ L G)(hok:qE G){id most}(aCS:aY most)(hx:∀ u,¬ (id<0\/3<=id)->(G.mem id.toNat).up=some u->a2u u (eA u.r))(Q:gG->Prop)(hQ:∀ G,Q G->qE G/\∀ p,iR G.dL 0=some p->∃ m,PkH G p m)(hnext:∀ G,Q G->Q (eT G 0).1)(h0:Q (x4 G id).1)(cx:Ctx W w (cR L G++S) Φ){K}(hk:∀ L' w',L'.gb=L.gb->(∀ Ξ:PW,mA Ξ L G->mA Ξ L' (cJ G id most).1)->Ctx W w' (cR L' (cJ G id most).1++S) Φ->K (.returned (.int .i64 ((cJ G id most).2:Int))) w'):
  aD F.dV #[.pointer (some ⟨L.gb,0,none⟩),.int .i64 id,.int .i64 most] w K:=by
 refine gC (D0 L.gb 0 id most (J:=K∘.returned) cx λw Y cx=>?_);rw [aX] at cx;refine a39 hoff (λM w h=>(hN M w h).1) hF hok hx cx λL1 w aRt hg1 cx=>⟨_,rfl,cR L1 (x4 G id).1++S,Φ,aM,by rw [aX];exact cx,?_⟩;refine dN (λnI R' Ψ κ=>∃ (j:Nat) (L':GX) (G':gG),nI=j/\Ψ=Φ/\L'.gb=L.gb/\Q G'/\(∀ Ξ:PW,mA Ξ L G->mA Ξ L' G')/\R'=cR L' G'++S/\j<=most.toNat/\κ=most.toNat - j/\(qU (most.toNat - j) G').1=(cJ G id most).1/\(qU (most.toNat - j) G').2+j=(cJ G id most).2) ⟨⟨_,Φ,_,aM,λw G cx=>cx,0,L1,(x4 G id).1,rfl,rfl,aRt,h0,hg1,rfl,Nat.zero_le _,rfl,rfl,rfl⟩,?_⟩
 rintro nI R' Ψ κ _ ⟨j,L',G',rfl,rfl,hgb,hq,hg,rfl,hj,rfl,e1,e2⟩;obtain ⟨ho,hp⟩:=hQ G' hq;refine Br.intro (λhlt=>λw Y cx=>?_) (λhge=>λw Y cx=>?_)
 .have hlt:(j:Int)<most:=eR hlt;have hs:most.toNat - j=(most.toNat - (j+1))+1:=by omega
  rw [hs] at e1 e2;unfold qU at e1 e2;rw [aX] at cx;rw [<-hgb];refine T4 cx λw cx=>⟨_,rfl,cR L' G'++S,Ψ,aM,by rw [aX];exact cx,Br.intro (λhpos=>λw Y cx=>?_) (λhpos=>λw Y cx=>?_)⟩
  .have hne:¬ G'.dL.aH=[]:=λe=>by
    have:=eR hpos;rw [e] at this;simp at this
   rw [if_neg hne] at e1 e2;rw [aX] at cx;refine T3 hoff hN (hg Ψ hF) ho hp cx λL2 w aBI hg2 cx=>⟨_,rfl,cR L2 (eT G' 0).1++S,Ψ,aM,by rw [aX];exact cx,by unfold aY at *;omega,_,Ψ,_,aM,λw G cx=>cx,⟨j+1,L2,(eT G' 0).1,by omega,rfl,aBI,hnext G' hq,λΞ h=>hg2 Ξ (hg Ξ h),rfl,by omega,rfl,e1,by simp only at e2;omega⟩,by omega⟩
  .have b2O:G'.dL.aH=[]:=by
    have:=dD hpos;exact List.eq_nil_of_length_eq_zero (by omega)
   rw [if_pos b2O] at e1 e2;have:=hk L' w hgb (λΞ h=>by rw [<-e1];exact hg Ξ h) (by rw [<-e1];exact cx.left);rw [<-e2] at this;simp only [Nat.zero_add] at this;exact this
 .have hje:most.toNat - j=0:=by have:=dD hge;omega
  rw [hje] at e1 e2;unfold qU at e1 e2;have:=hk L' w hgb (λΞ h=>by rw [<-e1];exact hg Ξ h) (by rw [<-e1];exact cx.left);rw [<-e2] at this;simp only [Nat.zero_add] at this;exact this
end
section
variable {W w:World}{S:List Own}{Φ:PW}{L:GX}{G:gG}{i:Nat}
def upB(G:gG)(id:Int):Bool:=decide (upG G id=0)
theorem T6[aB Φ]{id}(cx:Ctx W w (cR L G++S) Φ){K}(hk:∀ w',Ctx W w' (cR L G++S) Φ->K (.returned (.bool (upB G id))) w'):
  aD F.kZ #[.pointer (some ⟨L.gb,0,none⟩),.int .i64 id] w K:=by
 refine gC (LQ L.gb 0 id (J:=K∘.returned) cx λw Y cx=>?_);rw [aX] at cx;exact SY cx λw cx=>⟨_,rfl,cR L G++S,Φ,aM,by rw [aX];exact cx,λw Y cx=>hk w cx.left⟩
theorem aJS{id}(h:(!upB G id)=true):id<0\/3<=id\/(G.mem id.toNat).up=none:=by
 unfold upB upG at h;by_cases hid:id<0\/3<=id
 .omega
 .rw [if_neg hid] at h;cases hu:(G.mem id.toNat).up with
  | none=>exact .inr (.inr rfl)
  | some u=>rw [hu] at h;simp at h
theorem aBJ{id}(h:(!upB G id)=false):¬ (id<0\/3<=id)/\∃ u,(G.mem id.toNat).up=some u:=by
 unfold upB upG at h;by_cases hid:id<0\/3<=id
 .rw [if_pos hid] at h;simp at h
 .rw [if_neg hid] at h;cases hu:(G.mem id.toNat).up with
  | none=>rw [hu] at h;simp at h
  | some u=>exact ⟨hid,u,rfl⟩
theorem aFv[aB Φ]{b r p c}(cx:Ctx W w (aS b r p c++S) Φ){K}(hK:∀ w',Ctx W w' (aS b r p c++S) Φ->K (.returned (.int .i64 r.role)) w'):
  aD F.gZ #[.pointer (some ⟨b,0,none⟩)] w K :=
 (aQ7 (EN cx)).mono λe w' ⟨h1,h2⟩=>by subst h2;rw [h1];exact hK _ cx
theorem a4c[aB Φ]{id}(cx:Ctx W w (cR L G++S) Φ){K}(hk:∀ w',Ctx W w' (cR L G++S) Φ->K (.returned (.int .i64 (MQ G id))) w'):
  aD F.oH #[.pointer (some ⟨L.gb,0,none⟩),.int .i64 id] w K:=by
 refine gC (G8 L.gb 0 id (J:=K∘.returned) cx λw Y cx=>?_);rw [aX] at cx;refine T6 cx λw cx=>⟨_,rfl,cR L G++S,Φ,aM,by rw [aX];exact cx,Br.intro (λh=>λw Y cx=>?_) (λh=>?_)⟩
 .have e:MQ G id = -1:=by
   unfold MQ;rcases aJS h with h|h|h
   .rw [if_pos (.inl h)]
   .rw [if_pos (.inr h)]
   .split
    .rfl
    .rw [h]
  rw [e] at hk;exact hk w cx.left
 .obtain ⟨hid,u,hu⟩:=aBJ h;have e:MQ G id=u.r.role:=by unfold MQ;rw [if_neg hid,hu]
  rw [e] at hk;obtain ⟨i,rfl⟩:∃ i:Nat,id=i:=⟨id.toNat,by omega⟩;have hi:i<3:=by omega
  rw [Int.toNat_natCast] at hu ⊢;refine ⟨by omega,λw Y cx=>⟨some ⟨(L.P i).rb,0,none⟩,cx.get 0 rfl (by rw [Nat.zero_add,B5 L G hi (by decide),hu];rfl),λw Y cx=>?_⟩⟩;rw [aX] at cx;exact aFv (cx.perm (F2 hi hu (S++Y))) λw cx=>⟨_,rfl,cR L G++S,Φ,aM,by rw [aX];exact cx.perm (F2 hi hu (S++Y)).symm,λw Y cx=>hk w cx.left⟩
theorem aFw[aB Φ]{id}(cx:Ctx W w (cR L G++S) Φ){K}(hk:∀ w',Ctx W w' (cR L G++S) Φ->K (.returned (.int .i64 (WE G id))) w'):
  aD F.tZ #[.pointer (some ⟨L.gb,0,none⟩),.int .i64 id] w K:=by
 refine gC (G9 L.gb 0 id (J:=K∘.returned) cx λw Y cx=>?_);rw [aX] at cx;refine T6 cx λw cx=>⟨_,rfl,cR L G++S,Φ,aM,by rw [aX];exact cx,Br.intro (λh=>λw Y cx=>?_) (λh=>?_)⟩
 .have e:WE G id=0:=by
   unfold WE;rcases aJS h with h|h|h
   .rw [if_pos (.inl h)]
   .rw [if_pos (.inr h)]
   .split
    .rfl
    .rw [h]
  rw [e] at hk;exact hk w cx.left
 .obtain ⟨hid,u,hu⟩:=aBJ h;have e:WE G id=u.r.term:=by unfold WE;rw [if_neg hid,hu]
  rw [e] at hk;obtain ⟨i,rfl⟩:∃ i:Nat,id=i:=⟨id.toNat,by omega⟩;have hi:i<3:=by omega
  rw [Int.toNat_natCast] at hu ⊢;refine ⟨by omega,λw Y cx=>⟨some ⟨(L.P i).rb,0,none⟩,cx.get 0 rfl (by rw [Nat.zero_add,B5 L G hi (by decide),hu];rfl),λw Y cx=>?_⟩⟩;rw [aX] at cx;exact aJs (cx.perm (F2 hi hu (S++Y))) λw cx=>⟨_,_,rfl,cR L G++S,Φ,aM,by rw [aX];exact cx.perm (F2 hi hu (S++Y)).symm,λw Y cx=>hk w cx.left⟩
theorem a1p[aB Φ](hok:qE G){id}(cx:Ctx W w (cR L G++S) Φ){K}(hk:∀ p c w',Ctx W w' (cR L G++S) (λM w=>Φ M w/\Sl M w p (qV G id))->K (.returned (.slice p (qV G id).length c)) w'):
  aD F.iG #[.pointer (some ⟨L.gb,0,none⟩),.int .i64 id] w K:=by
 refine gC (IG L.gb 0 id (J:=K∘.returned) cx λw Y cx=>?_);rw [aX] at cx;refine T6 cx λw cx=>⟨_,rfl,cR L G++S,Φ,aM,by rw [aX];exact cx,Br.intro (λh=>λw Y cx=>?_) (λh=>?_)⟩
 .have e:qV G id=[]:=by
   unfold qV;rcases aJS h with h|h|h
   .rw [if_pos (.inl h)]
   .rw [if_pos (.inr h)]
   .split
    .rfl
    .rw [h]
  rw [e] at hk;exact hk none 0 w (cx.left.weak λM w h=>⟨h,Sl.nil⟩)
 .obtain ⟨hid,u,hu⟩:=aBJ h;have e:qV G id=u.r.log:=by unfold qV;rw [if_neg hid,hu]
  rw [e] at hk;obtain ⟨i,rfl⟩:∃ i:Nat,id=i:=⟨id.toNat,by omega⟩;have hi:i<3:=by omega
  rw [Int.toNat_natCast] at hu ⊢;have ho:=hok i hi u hu;refine ⟨by omega,λw Y cx=>⟨some ⟨(L.P i).rb,0,none⟩,cx.get 0 rfl (by rw [Nat.zero_add,B5 L G hi (by decide),hu];rfl),λw Y cx=>?_⟩⟩;rw [aX] at cx;exact aDd (cx.perm (F2 hi hu (S++Y))) ho.aF ho.len λq c w _ _ cx=>⟨q,_,c,rfl,cR L G++S,_,cE Φ (λM w=>Sl M w q u.r.log),by rw [aX];exact cx.perm (F2 hi hu (S++Y)).symm,λw Y cx=>hk q c w cx.left⟩
theorem a8M{k}(h:iR G.dL k=none):kW G k=(G,4):=by
 unfold iR at h;unfold kW;split at h
 .rename_i hk;rw [if_pos hk]
 .rename_i hk;rw [if_neg hk,h]
theorem WU{k p}(h:iR G.dL k=some p):kW G k=if 500<=G.dL.aH.length then (G,6) else (qW G { G.dL with aH:=G.dL.aH++[p] },0):=by
 unfold iR at h;unfold kW;split at h
 .cases h
 .rename_i hk;rw [if_neg hk,h];rfl
theorem a8N[aB Φ](hF:mA Φ L G){k}(cx:Ctx W w (cR L G++S) Φ){K}(hk:∀ L' w',L'.gb=L.gb->(∀ Ξ:PW,mA Ξ L G->mA Ξ L' (kW G k).1)->Ctx W w' (cR L' (kW G k).1++S) Φ->K (.returned (.int .i64 (kW G k).2)) w'):
  aD F.j4 #[.pointer (some ⟨L.gb,0,none⟩),.int .i64 k] w K:=by
 refine gC (D2 L.gb 0 k (J:=K∘.returned) cx λw Y cx=>⟨_,cx.get 0 rfl a8K,λw Y cx=>?_⟩);refine a8p (N:=L.N) (n:=G.dL) hF.V2 (a1o cx) (λw ht cx=>?_) (λp w ht h5 cx=>?_) (λp fp fc w ht h5 cx=>?_)
 .rw [a8M ht] at hk;exact ⟨4,rfl,cR L G++S,Φ,aM,B8 cx,λw Y cx=>hk L w rfl (λ_ h=>h) cx.left⟩
 .rw [WU ht,if_pos h5] at hk;exact ⟨6,rfl,cR L G++S,Φ,aM,B8 cx,λw Y cx=>hk L w rfl (λ_ h=>h) cx.left⟩
 .rw [WU ht,if_neg h5] at hk;exact ⟨0,rfl,cR (M8 L fp fc) (qW G { G.dL with aH:=G.dL.aH++[p] })++S,Φ,aM,B8 cx,λw Y cx=>hk (M8 L fp fc) w rfl (λΞ h=>⟨h.mem,by show (G.dL.aH++[p]).length<=500;rw [List.length_append,List.length_singleton];omega⟩) cx.left⟩
end
structure a1q(o:mK):Prop where
 tv:o.save=true\/(o.term=0/\o.aO=0)
 src:(o.src=0/\o.aF=[])\/(0<o.src/\o.src<=5000)
 V2:o.send.length<=2
theorem aBK{l}(h:l.length<=2):a1q (nE l):=⟨.inr ⟨rfl,rfl⟩,.inl ⟨rfl,rfl⟩,h⟩
theorem JZ:a1q kR:=aBK (l:=[]) (Nat.zero_le _)
theorem a1r(m):a1q (nE [m]):=aBK (l:=[m]) (by simp)
theorem aBL(i):(aT i).length=2:=by
 unfold aT;split
 .rfl
 .split<;>rfl
theorem aOz(r):a1q (nE (cU r)):=aBK (a5y r)
theorem aRv(r):a1q (eA r).2:=by
 unfold eA;split
 .exact aOz r
 split
 .exact JZ
 .exact ⟨.inl rfl,.inl ⟨rfl,rfl⟩,by show ((aT _).map _).length<=2;rw [List.length_map,aBL];exact Nat.le_refl _⟩
theorem aRw{r}(hr:r.Ok)(data):a1q (aL r data).2.2.2:=by
 by_cases h1:r.role≠2
 .rw [xN h1];exact JZ
 by_cases h2:2000<(data.size:Int)
 .rw [vW h1 h2];exact JZ
 by_cases h3:r.log.length=4000
 .rw [r9 h1 h2 h3];exact JZ
 rw [B0 h1 h2 h3];have:=hr.len;exact ⟨.inr ⟨rfl,rfl⟩,.inr ⟨by show 0<((r.log.length+1:Nat):Int);omega,by show ((r.log.length+1:Nat):Int)<=5000;omega⟩,a5y _⟩
theorem VB{r data}(h:(aL r data).2.2.1≠0):(aL r data).1=r:=by
 by_cases h1:r.role≠2
 .rw [xN h1]
 by_cases h2:2000<(data.size:Int)
 .rw [vW h1 h2]
 by_cases h3:r.log.length=4000
 .rw [r9 h1 h2 h3]
 rw [B0 h1 h2 h3] at h;exact absurd rfl h
theorem aXm{r x}(h:a1q x.2):a1q (C8 r x).2:=by
 unfold C8;split
 .exact h
 .exact ⟨.inl rfl,h.src,h.V2⟩
theorem aM8{r id m}(hm:m.sO id):a1q (dQ r m).2:=by
 have hk:=hm.kind;have a1f:m.kind=0\/m.kind=1\/m.kind=2\/m.kind=3:=by omega
 rcases a1f with hk|hk|hk|hk
 .rw [aDi hk];unfold dI;split
  .exact a1r _
  .exact a1r _
 .rw [aDj hk];by_cases hc:(decide (r.role≠1)||decide (m.term≠r.term) || !m.yes)=true
  .rw [D9 hc];exact JZ
  have hc:(decide (r.role≠1)||decide (m.term≠r.term) || !m.yes)=false:=by simpa using hc
  by_cases h2:pG (gU r m).cK<2
  .rw [xV hc h2];exact JZ
  .rw [uH hc h2];exact aOz _
 .rw [aDk hk];by_cases h2:m.term<r.term
  .rw [uI h2];exact a1r _
  by_cases h3:r.role=2
  .rw [rA h2 h3];exact JZ
  by_cases h4:(decide ((r.log.length:Int)<m.index)||decide (bE r.log m.index.toNat≠m.prev))=true
  .rw [uJ h2 h3 h4];exact a1r _
  have h4:(decide ((r.log.length:Int)<m.index)||decide (bE r.log m.index.toNat≠m.prev))=false:=by simpa using h4
  by_cases h5:gF r m<m.aF.length
  .by_cases h6:m.index.toNat+gF r m+1<=r.aE
   .rw [rD h2 h3 h4 h5 h6];exact JZ
   .rw [uK h2 h3 h4 h5 h6];have h7:=hm.fits;have h8:=hm.index.1;exact ⟨.inr ⟨rfl,rfl⟩,.inr ⟨by show 0<((m.index.toNat+gF r m+1:Nat):Int);omega,by show ((m.index.toNat+gF r m+1:Nat):Int)<=5000;omega⟩,by show [_].length<=2;simp⟩
  .rw [rC h2 h3 h4 h5];exact a1r _
 .rw [aDl hk];by_cases hc:(decide (r.role≠2)||decide (m.term≠r.term)||m.yes&&decide ((r.log.length:Int)<m.index))=true
  .rw [r8 hc];exact JZ
  have hc:(decide (r.role≠2)||decide (m.term≠r.term)||m.yes&&decide ((r.log.length:Int)<m.index))=false:=by simpa using hc
  cases hyes:m.yes with
  | false=>rw [mX hc hyes];exact a1r _
  | true =>
   rw [oM hc hyes];split
   .exact a1r _
   .exact JZ
theorem aRx(r m):a1q (cX r m).2:=by
 cases hy:iV r.id m with
 | false=>rw [vF hy];exact JZ
 | true=>rw [pX hy];exact aXm (aM8 (lK.1 hy))
theorem aM9{x}(h:aY x.term)(h2:x.data.size<=2000):(wW x).length<=2043:=by
 have:=a5M h (show x.data.size<=1000000 by omega);omega
theorem a8O:∀ (l:List bT),(∀ x∈l,aY x.term/\x.data.size<=2000)->(lY l).length<=l.length*2043
 | [],_=>by simp [lY]
 | x :: l,h=>by
  have hx:=h x (by simp);have ih:=a8O l λy hy=>h y (by simp [hy]);have:=aM9 hx.1 hx.2;rw [OM,List.length_append,List.length_cons,Nat.add_mul];omega
theorem a8P:∀ (l:List Int),(∀ n∈l,aY n)->(oT l).length<=l.length*21
 | [],_=>by simp [oT]
 | n :: l,h=>by
  have ih:=a8P l λy hy=>h y (by simp [hy]);have h1:=(gE (h n (by simp))).2;rw [ON,List.length_append,gD,List.length_cons,Nat.add_mul];omega
theorem aNa{m}(h:UL m)(hl:m.aF.length<=8)(hd:∀ x∈m.aF,x.data.size<=2000):(qQ m).length<=1000000:=by
 have h1:=a8P (pY m) h.ints;have h2:=a8O m.aF λx hx=>⟨(h.aF x hx).1,hd x hx⟩;have h3:=UH (n:=(m.aF.length:Int)) (by unfold aY;omega);have e8:(pY m).length=8:=rfl;have e:(qQ m).length=(oT (pY m)).length+((UG m.aF.length).data.toList.length+(lY m.aF).length):=by
  unfold qQ FG;simp only [List.length_append];omega
 rw [e,gD];have:m.aF.length*2043<=8*2043:=Nat.mul_le_mul_right _ hl;omega
theorem aNb{m}(h:UL m):m.Ok :=
 ⟨h.ints _ (by simp [pY]),h.ints _ (by simp [pY]),h.ints _ (by simp [pY]),h.ints _ (by simp [pY]),h.ints _ (by simp [pY]),h.ints _ (by simp [pY]),h.ints _ (by simp [pY])⟩
section
variable {N N' D:Nat}{B B':Int}{G G':gG}{C C':Cl}{g g':Gh}{A A':Int->Nat->Nat}{i:Nat}
theorem GI.rM(h:GI N B D G C g A):qE G:=λj hj v hv=>by
 rw [(h.j.up j hj v hv).1];exact (h.j.s.m.wf.rep j hj).1.ok
theorem aFx{a b:List bT}:(aQ (b.map iK)).length<=(aQ ((a++b).map iK)).length:=by
 rw [List.map_append,mY,List.length_append];omega
theorem GI.trn(h:GI N B D G C g A)(hi:i<3){u}(hu:(G.mem i).up=some u){x}(hx:Hap C i x)(hlw:JT x.1.log)(hg:∀ a∈x.2.send,XP i x.1.log a)(hb:a1q x.2):a2u u x:=by
 obtain ⟨hr,hU⟩:=h.j.up i hi u hu;obtain ⟨hw,hf⟩:=hx.fits h.j.s.m.wf hi;have hok:=hw.ok;have hin:∀ y∈x.2.aF,y∈x.1.log:=λy hy=>by
  rcases hb.src with ⟨_,e⟩|⟨h0,_⟩
  .rw [e] at hy;cases hy
  .rw [hf.log h0];exact List.mem_append_right _ hy
 have hlen:x.2.aF.length<=x.1.log.length/\(aQ (x.2.aF.map iK)).length<=(aQ (x.1.log.map iK)).length:=by
  rcases hb.src with ⟨_,e⟩|⟨h0,_⟩
  .rw [e];exact ⟨Nat.zero_le _,by simp [aQ]⟩
  .rw [hf.log h0];exact ⟨by rw [List.length_append];omega,aFx⟩
 have h1:=hok.len;have h2:=hlw.size;have hjl:u.j.list.length<=1000000:=by
  rw [hU.log,List.length_map,hr];have:=(h.j.s.m.wf.rep i hi).1.ok.len;omega
 have hjf:(aQ u.j.list).length<=1000000000:=by
  rw [hU.log];have:=hU.lw.size;omega
 have hjb:=hU.live.bytes;refine ⟨⟨⟨?_,?_⟩,λy hy=>hlw.aBh y (hin y hy),by omega,by omega,hjf,by show u.j.bytes<=_;omega,hjl⟩,⟨λa ha=>⟨a5L hok (hg a ha),Nat.le_trans (hg a ha).len (by omega)⟩⟩,Nat.le_trans hb.V2 (by omega),hok⟩
 .rcases hb.tv with hs|⟨e1,e2⟩
  .obtain ⟨e1,e2⟩:=hf.save hs;rw [e1,e2];have:=hok.mT;have:=hok.jD;have:=hok.yQ;have:=hok.yR;unfold aY;omega
  .rw [e1,e2];unfold aY;decide
 .have:=hb.src;unfold aY;omega
theorem GI.a8Q(h:GI N B D G C g A)(wE:N*(D+90)<=1048576){id:Int}{u}(hid:¬ (id<0\/3<=id))(hu:(G.mem id.toNat).up=some u):a2u u (eA u.r):=by
 have hi:=qD hid;obtain ⟨e,hU⟩:=h.j.up _ hi u hu;have hw:=(h.j.s.m.wf.rep _ hi).1;have hb:=a5J hw (h.j.b.rep _ hi);have zI:=(a5x hw).1.ok;rw [e];refine h.trn hi hu (.inl rfl) (SU zI.log zI.jD hb.1.len (by rw [a1g];exact h.j.data _ hi) wE) ?_ (aRv _);have:=aBx hw.ok;rw [(h.j.s.m.wf.rep _ hi).2] at this;exact this
theorem GI.a1s(h:GI N B D G C g A)(wE:(N+1)*(D+90)<=1048576){id:Int}{data}(aJN:data.size<=D){u}(hid:¬ (id<0\/3<=id))(hu:(G.mem id.toNat).up=some u):
  (u.r.role=2->1<=u.r.term)/\a2u u ((aL u.r data).1,(aL u.r data).2.2.2):=by
 have hi:=qD hid;obtain ⟨e,hU⟩:=h.j.up _ hi u hu;have hw:=(h.j.s.m.wf.rep _ hi).1;have hb:=a5K hw (h.j.b.rep _ hi) data;have zI:=(z7 hw data).1.ok;rw [e];refine ⟨λh2=>hw.one (by rw [h2];decide),h.trn hi hu (.inr (.inr ⟨data,rfl⟩)) (SU zI.log zI.jD hb.1.len (λy hy=>?_) wE) ?_ (aRw hw.ok data)⟩
 .rcases a1h y hy with a|a
  .exact h.j.data _ hi y a
  .rw [a];exact aJN
 .have:=aBy hw data;rw [(h.j.s.m.wf.rep _ hi).2] at this;exact this
theorem GI.aJT(h:GI N B D G C g A)(wE:N*(D+90)<=1048576){m}(hm:m∈C.sent){id:Int}{u}(hid:¬ (id<0\/3<=id))(hu:(G.mem id.toNat).up=some u):a2u u (cX u.r m):=by
 have hi:=qD hid;obtain ⟨e,hU⟩:=h.j.up _ hi u hu;have hw:=(h.j.s.m.wf.rep _ hi).1;have hb:=a5I hw (h.j.b.rep _ hi) (h.j.b.msg m hm);have hg:=aBz hw m;have zI:=(Y6 (m:=m) hw).1.ok;rw [e];refine h.trn hi hu (.inr (.inl ⟨m,hm,rfl⟩)) (SU zI.log zI.jD hb.1.len (λy hy=>?_) wE) ?_ (aRx _ _)
 .rcases hg.2 y hy with a|a
  .exact h.j.data _ hi y a
  .exact h.j.mdata m hm y a
 .have:=hg.1;rw [(h.j.s.m.wf.rep _ hi).2] at this;exact this
theorem GI.pkt(h:GI N B D G C g A)(wE:N*(D+90)<=1048576)(hD:D<=2000){k p}(ht:iR G.dL k=some p):∃ m,PkH G p m:=by
 obtain ⟨_,_,hp⟩:=a3Q ht;obtain ⟨m,hm,hw,hl,hs,hto,rfl⟩:=h.j.dL p (List.mem_of_getElem? hp);refine ⟨m,⟨?_,aNb hw,?_,λu hid hu=>h.aJT wE hm hid hu⟩⟩
 .show yU (bs (qQ m)).data.toList=some m;rw [qI,a0E hw (by omega)]
 .show (bs (qQ m)).data.toList.length<=1000000;rw [qI];exact aNa hw hl λx hx=>Nat.le_trans (h.j.mdata m hm x hx) hD
theorem aRy{d u}(hi:i<3)(hU:MU d u)(hok:u.r.Ok):aE4 i u:=by
 have hl:∀ s∈u.j.list,∃ x∈u.r.log,s=iK x:=λs hs=>by
  rw [hU.log] at hs;obtain ⟨x,hx,rfl⟩:=List.mem_map.1 hs;exact ⟨x,hx,rfl⟩
 refine ⟨aMQ (by omega) hok,?_,λs hs=>?_,λs hs=>?_,?_⟩
 .rw [hU.log,List.length_map];have:=hok.len;omega
 .obtain ⟨x,hx,rfl⟩:=hl s hs;have h1:=hU.lw.aBh x hx;have:=a5M h1.1 h1.2;show (bs (wW x)).size<=_;rw [bL];omega
 .obtain ⟨x,hx,rfl⟩:=hl s hs;have h1:=hU.lw.aBh x hx;rw [Z6 h1.1 h1.2];exact hok.aF x hx
 .rcases hU.now with ⟨_,e,_⟩|⟨_,e,_⟩
  .rw [e];exact Nat.zero_le _
  .omega
theorem GI.opens(h:GI N B D G C g A)(hi:i<3){d}(hd:WL d (B6 N B D C i)){up}(hu:(bD i d).2.1=some up):(bD i d).2.2=0/\aE4 i up/\up.r.Ok:=by
 have ho:=KT (id:=i) hd;rcases ho.or with ⟨u,a1,a2,a3,a4,a5,a6,a7,a8⟩|⟨a1,_⟩
 .rw [a1] at hu;cases hu;obtain ⟨C',g',A',bk⟩:=KX h.j.s hi a5;rw [<-a4] at bk;have hok:up.r.Ok:=by
   rw [<-bk.rep];exact (bk.s.m.wf.rep i hi).1.ok
  exact ⟨a2,aRy hi a3 hok,hok⟩
 .rw [a1] at hu;cases hu
theorem GI.sta(h:GI N B D G C g A)(hi:i<3):aXl G i:=by
 have hd:WL (bY (G.mem i).d) (B6 N B D C i):=(h.j.any hi).frame rfl rfl;exact ⟨λup hu=>(h.opens hi hd hu).2.1,λup hu=>(h.opens hi hd hu).1,λup hu=>(h.opens hi hd hu).2.2⟩
theorem aNc{n}(hn:n<3):∀ up,(bD n o9).2.1=some up->aE4 n up/\up.r.Ok:=λup hu=>by
 have h:GI 0 0 0 MS cl0 gh0 λ_ _=>0:=aJO;refine (h.opens (i:=n) hn (aJn.mono λt v l e=>?_) hu).2;obtain ⟨rfl,rfl,rfl⟩:=e;exact ⟨.inl ⟨⟨rfl,rfl⟩,rfl⟩,Nat.le_refl _,Int.le_refl _,by simp⟩
end
end Go.Proofs.YtnlkemjhgdbfkaaGreatDoor
end

section
namespace Go.Proofs
open Go.Shelf
def Tryz.aNd:Go.Shelf.Ren:=⟨fun|5=>248|7=>335|n=>n,fun|23=>252|25=>3|3=>322|4=>4|20=>20|n=>n,fun|n=>n⟩
theorem Tryz.mc1:Go.Proofs.SlLaysW.n5 prog Tryz.aNd:={
 mixed:=by kernel_rfl
 f5:=⟨Tryz.f248.name,by decide,func248.trans (congrArg some (by kernel_rfl))⟩
 f7:=func335.trans (congrArg some (by kernel_rfl))
 t4:=underlying4
 a4:=isAgg4
 z4:=sizeOf4
 v4:=zeroValue4
 t20:=underlying20
 a20:=isAgg20
 z20:=sizeOf20
 v20:=zeroValue20
 t23:=underlying252
 a23:=isAgg252
 z23:=sizeOf252
 v23:=zeroValue252 }
def Tryz.aNe:Go.Shelf.Ren:=⟨fun|5=>250|7=>335|n=>n,fun|23=>253|25=>325|3=>4|4=>4|20=>20|n=>n,fun|n=>n⟩
theorem Tryz.mc2:Go.Proofs.SlLaysW.n5 prog Tryz.aNe:={
 mixed:=by kernel_rfl
 f5:=⟨Tryz.f250.name,by decide,func250.trans (congrArg some (by kernel_rfl))⟩
 f7:=func335.trans (congrArg some (by kernel_rfl))
 t4:=underlying4
 a4:=isAgg4
 z4:=sizeOf4
 v4:=zeroValue4
 t20:=underlying20
 a20:=isAgg20
 z20:=sizeOf20
 v20:=zeroValue20
 t23:=underlying253
 a23:=isAgg253
 z23:=sizeOf253
 v23:=zeroValue253 }
end Go.Proofs
end

