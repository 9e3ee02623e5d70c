/-
 A member that starts again from what a failed store may have left: the cluster stays safe;in plain Lean.
-/
import Derived.Test.YtcmgeboolmmdkaaGreatDoorCm11
import Derived.Test.YtcmgeboolmmdkaaGreatDoorCm10
open Go.Proofs.Tryz
set_option linter.unusedVariables false
set_option linter.unusedSimpArgs false
section
namespace Go.Proofs.YtcmgeboolmmdkaaGreatDoor
open Go.Vc
theorem aJU{r x}:(mD r x).2.src=x.2.src:=by unfold mD;split<;>rfl
theorem aRG(r m):(cV r m).2.src=0:=by unfold cV;split<;>rfl
theorem aRO(r m):(eC r m).2.src=0:=by
 unfold eC;split
 .rfl
 .simp only;split<;>rfl
theorem a2c(r m):(dQ r m).2.src=0:=by
 unfold dQ;split
 .rfl
 .simp only;split
  .rfl
  .split<;>rfl
def j9(r:aG)(m:aH):aG:=if r.term<m.term then jr r m else r
structure a1B(r:aG)(m:aH):Prop where
 right:m.eO r.id
 kind:m.kind=2
 term:m.term=(j9 r m).term
 t:(aU r m).1.term=(j9 r m).term
 v:(aU r m).1.ρ=(j9 r m).ρ
 ix:m.index.toNat<=r.log.length
 prev:bB r.log m.index.toNat=m.prev
 aGO:agree (r.log.drop m.index.toNat) m.ζ<m.ζ.length
 src:(aU r m).2.src=((m.index.toNat+agree (r.log.drop m.index.toNat) m.ζ+1:Nat):Int)
theorem aKP{r m}(h:0<(aU r m).2.src):a1B r m:=by
 cases hy:kC r.id m with
 | false=>rw [uj hy] at h;cases h
 | true =>
  have hm:=sE.1 hy;have gw:(j9 r m).log=r.log:=by unfold j9;split<;>rfl
  have rj:m.term<=(j9 r m).term:=by
   unfold j9;split
   .exact Int.le_refl _
   .omega
  have e0:aU r m=mD r (cv (j9 r m) m):=xA hy;have e1:(aU r m).2.src=(cv (j9 r m) m).2.src:=by rw [e0,aJU]
  have e2:(aU r m).1=(cv (j9 r m) m).1:=by rw [e0,C3]
  rw [e1] at h;have hk:m.kind=2:=Decidable.byContradiction λhk=>by
   unfold cv at h;split at h
   .rw [aRG] at h;cases h
   split at h
   .rw [aRO] at h;cases h
   .first
     | (rw [if_neg hk,a2c] at h;cases h)
     | (rw [a2c] at h;cases h)
  have bI:cv (j9 r m) m=cM (j9 r m) m:=by unfold cv;rw [if_neg (by rw [hk];decide),if_neg (by rw [hk];decide),if_pos hk]
  rw [bI] at h e1 e2;have Lx:=a2Y (j9 r m) m;have ht:(aU r m).1.term=(j9 r m).term:=by rw [e2];exact Lx.term
  have hv:(aU r m).1.ρ=(j9 r m).ρ:=by rw [e2];exact Lx.ρ
  unfold cM at h e1;split at h
  .cases h
  rename_i h1;rw [if_neg h1] at e1;split at h
  .cases h
  rename_i h2;rw [if_neg h2] at e1;simp only at h e1;split at h
  .cases h
  rename_i h3;rw [if_neg h3] at e1;simp only [Bool.or_eq_true,decide_eq_true_eq,not_or] at h3;obtain ⟨h4,h5⟩:=h3;have h5:=Decidable.of_not_not h5;split at h
  rotate_left 1
  .cases h
  rename_i h6;rw [if_pos h6] at e1;split at h
  .cases h
  rename_i h7;rw [if_neg h7] at e1;simp only at e1;rw [gw] at h4 h5 h6 e1;exact ⟨hm,hk,by omega,ht,hv,by omega,h5,h6,e1⟩
theorem aAz{C i m}(hid:(C.nd i).rep.id=i):wV C i (j9 (C.nd i).rep m):=by
 unfold j9;split
 .rename_i hlt;exact ⟨by show _<=m.term;omega,.inr rfl,rfl,λhr=>absurd rfl hr,rfl,hid⟩
 .exact ⟨Int.le_refl _,.inl ⟨rfl,rfl⟩,rfl,λ_=>rfl,rfl,hid⟩
theorem a74{C g i r}(up:(C.nd i).rep.term<=r.term)(hv:(r.term=(C.nd i).rep.term/\r.ρ=(C.nd i).rep.ρ)\/((C.nd i).rep.term<r.term/\r.ρ = -1))(h0:r.role=0)(gw:jE g.φ r.log):mV C g i r [] (g.ρ i r) :=
 ⟨rfl,up,λe hne=>by
  rcases hv with ⟨_,b⟩|⟨a,_⟩
  .exact b
  .omega,λm hm=>(by cases hm),λt=>.inl rfl,Ext.refl _,λt=>.inl rfl,λhr=>by omega,λhr=>by omega,gw,λm hm=>(by cases hm)⟩
theorem aMr{C g A}(h:c8 C g A){i}(hi:i<3){t v}(up:(C.nd i).rep.term<=t)(hv:(t=(C.nd i).rep.term/\v=(C.nd i).rep.ρ)\/((C.nd i).rep.term<t/\v = -1)):
  kP C g A i (fR i t v (C.nd i).rep.log) [] (g.ρ i (fR i t v (C.nd i).rep.log)) (A t i) :=
 B7 h hi (a74 up hv rfl (h.m.log i hi)) rfl rfl rfl (λhr=>absurd (show (0:Int)=1 from hr) (by decide)) (λhr=>absurd (show (0:Int)=2 from hr) (by decide)) (hv.imp id λh=>h.2)
  (λhr=>absurd (show (0:Int)=2 from hr) (by decide)) (λm hm=>by cases hm) (λm hm=>by cases hm) (λm hm=>by cases hm) (.inl rfl)
theorem aHb{C g A}(h:c8 C g A){i}(hi:i<3){m}(hmem:m∈C.sent)(hs:a1B (C.nd i).rep m):
  kP C g A i (fR i (j9 (C.nd i).rep m).term (j9 (C.nd i).rep m).ρ ((C.nd i).rep.log.take (m.index.toNat+agree ((C.nd i).rep.log.drop m.index.toNat) m.ζ))) [] (g.ρ i (fR i (j9 (C.nd i).rep m).term (j9 (C.nd i).rep m).ρ ((C.nd i).rep.log.take (m.index.toNat+agree ((C.nd i).rep.log.drop m.index.toNat) m.ζ)))) (A (j9 (C.nd i).rep m).term i):=by
 obtain ⟨hw,hid⟩:=h.m.wf.rep i hi;have u:=aAz (C:=C) (i:=i) (m:=m) hid;obtain ⟨r1,gx⟩:∃ r1,j9 (C.nd i).rep m=r1:=⟨_,rfl⟩;have rj:=hs.term;rw [gx] at u rj ⊢;obtain ⟨old,hold⟩:∃ l,(C.nd i).rep.log=l:=⟨_,rfl⟩;obtain ⟨k,hk⟩:∃ k,m.index.toNat+agree ((C.nd i).rep.log.drop m.index.toNat) m.ζ=k:=⟨_,rfl⟩;have hag:=hs.aGO;have nD:=hs.ix;have aL8:=hs.prev;rw [hk];rw [hold] at hag nD aL8 hk ⊢;obtain ⟨a1,a2,a3,a4⟩:=h.m.app m hmem hs.kind
 rw [rj] at a2 a3 a4;have hpl:jE g.φ old:=by rw [<-hold];exact h.m.log i hi
 have Vp:=h.m.ll r1.term;have hv:(r1.term=(C.nd i).rep.term/\r1.ρ=(C.nd i).rep.ρ)\/((C.nd i).rep.term<r1.term/\r1.ρ = -1):=by
  rw [<-gx];unfold j9;split
  .exact .inr ⟨by assumption,rfl⟩
  .exact .inl ⟨rfl,rfl⟩
 obtain ⟨r,hr⟩:∃ r,fR i r1.term r1.ρ (old.take k)=r:=⟨_,rfl⟩;have e1:r.term=r1.term:=by rw [<-hr];rfl
 have e2:r.ρ=r1.ρ:=by rw [<-hr];rfl
 have bI:r.role=0:=by rw [<-hr];rfl
 have bL:r.log=old.take k:=by rw [<-hr];rfl
 have bz:r.υ=0:=by rw [<-hr];rfl
 rw [hr];have aJ:mV C g i r [] (g.ρ i r):=a74 (by rw [e1];exact u.up) (by rw [e1,e2];exact hv) bI (by rw [bL];exact a8t hpl k);rw [<-e1];have q2:∀ c:Nat,r.ρ=c->g.V r.term i=c:=λc hc=>by
  rw [e2] at hc;rw [e1];rcases hv with ⟨a,b⟩|⟨_,b⟩
  .rw [a,h.m.now i hi,<-b];exact hc
  .omega
 have hka:k<=old.length:=by
  rw [<-hk];rcases Nat.eq_zero_or_pos (agree (old.drop m.index.toNat) m.ζ) with e|e
  .omega
  .obtain ⟨q,_⟩:=KH (old.drop m.index.toNat) m.ζ (agree (old.drop m.index.toNat) m.ζ - 1) (by omega);rw [List.length_drop] at q;omega
 have p2:∀ p,p<=old.length->p<=(g.φ r1.term).length->old.take p=(g.φ r1.term).take p->p<=k:=λp oO Hr AO=>Decidable.byContradiction λhn=>by
  have hq:k<old.length:=by omega
  rw [<-hk] at hq hn;obtain ⟨x,hx⟩:∃ x,old[m.index.toNat+agree (old.drop m.index.toNat) m.ζ]? = some x:=⟨_,List.getElem?_eq_getElem hq⟩;obtain ⟨U,hy⟩:∃ U,m.ζ[agree (old.drop m.index.toNat) m.ζ]? = some U:=⟨_,List.getElem?_eq_getElem hag⟩;have hne:=PB _ _ hag x U (by rw [List.getElem?_drop];exact hx) hy;have W8:(g.φ r1.term)[m.index.toNat+agree (old.drop m.index.toNat) m.ζ]? = some U:=by
   have h9:((List.drop m.index.toNat (g.φ r1.term)).take m.ζ.length)[agree (old.drop m.index.toNat) m.ζ]? = some U:=by rw [<-a3];exact hy
   rw [List.getElem?_take_of_lt hag,List.getElem?_drop] at h9;exact h9
  have:=congrArg (λl=>l[m.index.toNat+agree (old.drop m.index.toNat) m.ζ]?) AO;simp only [List.getElem?_take_of_lt (show m.index.toNat+agree (old.drop m.index.toNat) m.ζ<p by omega)] at this;rw [hx,W8] at this;cases this;exact hne rfl
 have gA:=u.up;have keep:∀ {t p},dB g t p old->p<=(g.φ r1.term).length->old.take p=(g.φ r1.term).take p->dB g t p r.log:=λq hpl e=>by
  have z:=p2 _ q.1 hpl e;rw [bL];exact ⟨by rw [List.length_take];omega,by rw [List.take_take,Nat.min_eq_left z];exact q.2⟩
 refine ⟨aJ,QE rfl,h.iq,Nat.le_refl _,h.a1 _ _,λh0=>by omega,λt p oO hp=>?_,λw hu bF=>absurd hu bF,λt p _ hv hlt=>?_,λv hv e9=>(by cases hv),λh0=>by omega,λh0=>by omega,λh0=>by omega,
  λc _ _ _ _ hv hV=>absurd (q2 c hv) hV,λc _ _ hv=>.inl (q2 c hv),λh0=>by omega,λv hv _ _=>(by cases hv),λv hv e9=>(by cases hv),by rw [bz];exact .inl rfl⟩
 .rw [ED] at hp;have Lt:=h.q5 t i p hi oO hp;rw [hold] at Lt;rcases Lt with q|⟨w,q1,bP,gC,jK⟩
  .have M3:=h.a2 t i hi (by omega);have aT8:=h.a1 t i;by_cases gu:dB g t p (g.φ r1.term)
   .exact .inl (keep q gu.1 (q.2.trans gu.2.symm))
   .by_cases ht:t=r1.term
    .subst ht;exact absurd ⟨by omega,rfl⟩ gu
    .have hl:g.b5 r1.term ≠ -1:=λhl=>by
      have h0:=h.m.none _ hl;rw [h0] at a2;simp at a2;rw [a2.2] at hag;simp at hag
     exact .inr ⟨r1.term,by omega,by omega,hl,gu⟩
  .exact .inr ⟨w,q1,by omega,gC,jK⟩
 .have:=hv.2.1;have e:(g.ρ i r).φ=g.φ:=rfl;rw [e] at this;omega
def wM(C:cJ)(i:Nat)(x:aG × fN):Prop:=x=cr (C.nd i).rep\/(∃ m∈C.sent,x=aU (C.nd i).rep m)\/∃ data,x=((aq (C.nd i).rep data).1,(aq (C.nd i).rep data).2.2.2)
def ze(C:cJ)(i:Nat)(t v:Int)(l:List aS):Prop :=
 ((t=(C.nd i).rep.term/\v=(C.nd i).rep.ρ)/\l=(C.nd i).rep.log) \/
  ∃ x,wM C i x/\(t=x.1.term/\v=x.1.ρ)/\(l=(C.nd i).rep.log\/(0<x.2.src/\l=(C.nd i).rep.log.take (min (x.2.src - 1) ((C.nd i).rep.log.length:Int)).toNat)\/l=x.1.log)
theorem wM.fits{C}(hw:C.bq){i}(hi:i<3){x}(h:wM C i x):x.1.bq/\Fits (C.nd i).rep x.1 x.2:=by
 have hr:=(hw.rep i hi).1;rcases h with rfl|⟨m,_,rfl⟩|⟨data,rfl⟩
 .exact Nl hr
 .exact CF hr
 .exact Ig hr data
theorem wM.Yu{C g A}(h:c8 C g A){i}(hi:i<3){x}(hx:wM C i x):∃ g' n,kP C g A i x.1 x.2.send g' n:=by
 rcases hx with rfl|⟨m,hm,rfl⟩|⟨data,rfl⟩
 .exact aAx h hi
 .exact VQ h hi hm
 .exact a8v h hi data
def DB(C:cJ)(i:Nat)(r:aG)(s:List aH):cJ:=⟨put C.nd i (CA (C.nd i) r),s⟩
theorem Yr{C g g' A}(h:c8 C g A){i n}(hi:i<3){r send s}(f:kP C g A i r send g' n)(hw:r.bq)(hid:r.id=i)(hs:∀ m∈s,m∈C.sent\/m∈send):c8 (DB C i r s) g' (ng A i r.term n):=by
 have hh:=VJ h.m.wf hi hw hid;exact h.node hi f ⟨hh.rep,hh.rX,hh.stop,Nat.zero_le _⟩ (by show (put C.nd i _ i).rep=r;rw [cF];rfl) (λj hj=>dD _ _ hj) hs
theorem J0(C i r s):((DB C i r s).nd i).rep=r:=by
 show (put C.nd i _ i).rep=r;rw [cF];rfl
theorem Fq(C){i j}(r s)(h:j≠i):(DB C i r s).nd j=C.nd j:=dD _ _ h
theorem lK.trans'{g g1 g2 A zT zU}(h:lK g A g1 zT)(h2:lK g1 zT g2 zU):lK g A g2 zU:=by
 obtain ⟨a1,a2,a3⟩:=h;obtain ⟨b1,b2,b3⟩:=h2;refine ⟨λt=>?_,λt ht=>?_,λt j=>Nat.le_trans (a3 t j) (b3 t j)⟩
 .obtain ⟨s,hs⟩:=a1 t;obtain ⟨s2,hs2⟩:=b1 t;exact ⟨s++s2,by rw [hs2,hs,μ]⟩
 .have:=a2 t ht;rw [b2 t (by rw [this];exact ht),this]
structure Dk(C:cJ)(g:fK)(A:Int->Nat->Nat)(i:Nat)(r:aG)(bC:cJ)(g':fK)(bK:Int->Nat->Nat):Prop where
 s:c8 bC g' bK
 uQ:lK g A g' bK
 rep:(bC.nd i).rep=r
 ne:∀ j,j≠i->bC.nd j=C.nd j
 sent:bC.sent=C.sent
theorem aAP{C g A}(h:c8 C g A){i}(hi:i<3):Dk C g A i (fR i (C.nd i).rep.term (C.nd i).rep.ρ (C.nd i).rep.log) (th C i) g A:=by
 obtain ⟨h1,h2,h3⟩:=h.m.wf.rX i hi;refine ⟨h.start hi,lK.refl _ _,?_,λj hj=>dD _ _ hj,rfl⟩;show (put C.nd i _ i).rep=_;rw [cF];show fR i (C.nd i).vK (C.nd i).BC (C.nd i).vJ=_;rw [h1,h2,h3]
theorem a6o{C g g' A}(h:c8 C g A){i n}(hi:i<3){t v l}(f:kP C g A i (fR i t v l) [] g' n)(hw:(fR i t v l).bq):∃ bC g' bK,Dk C g A i (fR i t v l) bC g' bK :=
 ⟨_,_,_,Yr h hi f hw rfl (s:=C.sent) λm hm=>.inl hm,f.uQ,J0 _ _ _ _,λj hj=>Fq _ _ _ hj,rfl⟩
theorem aJe{C g A}(h:c8 C g A){i}(hi:i<3){x}(hx:wM C i x):∃ bC g' bK,Dk C g A i (fR i x.1.term x.1.ρ x.1.log) bC g' bK:=by
 obtain ⟨g',n,f⟩:=hx.Yu h hi;obtain ⟨hw,hf⟩:=hx.fits h.m.wf hi;have hid:x.1.id=i:=by rw [hf.id];exact (h.m.wf.rep i hi).2
 have h1:=Yr h hi f hw hid (s:=C.sent) λm hm=>.inl hm;have b:=aAP h1 hi;rw [J0] at b;exact ⟨_,_,_,b.s,f.uQ.trans' b.uQ,b.rep,λj hj=>by rw [b.ne j hj,Fq _ _ _ hj],b.sent⟩
theorem RP{C g A}(h:c8 C g A){i}(hi:i<3){t v l}(hp:ze C i t v l):∃ bC g' bK,Dk C g A i (fR i t v l) bC g' bK:=by
 have old:∃ bC g' bK,Dk C g A i (fR i (C.nd i).rep.term (C.nd i).rep.ρ (C.nd i).rep.log) bC g' bK:=⟨_,_,_,aAP h hi⟩;rcases hp with ⟨⟨rfl,rfl⟩,rfl⟩|⟨x,hx,⟨rfl,rfl⟩,hl⟩
 .exact old
 have full:=aJe h hi hx;obtain ⟨hw,hf⟩:=hx.fits h.m.wf hi;obtain ⟨hwr,hid⟩:=h.m.wf.rep i hi;by_cases hs:0<x.2.src
 rotate_left 1
 .have e:=hf.same hs;rw [e] at full;rcases hl with rfl|⟨a,_⟩|rfl
  .exact full
  .exact absurd a hs
  .rw [e];exact full
 rcases hx with rfl|⟨m,hm,rfl⟩|⟨data,rfl⟩
 .exfalso
  revert hs
  unfold cr;split
  .exact λh=>absurd h (Int.lt_irrefl 0)
  split
  .exact λh=>absurd h (Int.lt_irrefl 0)
  .exact λh=>absurd h (Int.lt_irrefl 0)
 .have hS:=aKP hs;have hv:((j9 (C.nd i).rep m).term=(C.nd i).rep.term/\(j9 (C.nd i).rep m).ρ=(C.nd i).rep.ρ)\/((C.nd i).rep.term<(j9 (C.nd i).rep m).term/\(j9 (C.nd i).rep m).ρ = -1):=by
   unfold j9;split
   .exact .inr ⟨by assumption,rfl⟩
   .exact .inl ⟨rfl,rfl⟩
  have gA:=(aAz (C:=C) (i:=i) (m:=m) hid).up;have Hy:=hw.ok;have e1:=hS.t;have e2:=hS.v;have wf:∀ k,(fR i (j9 (C.nd i).rep m).term (j9 (C.nd i).rep m).ρ ((C.nd i).rep.log.take k)).bq:=λk =>
   XL (by omega) (by rw [<-e1];exact Hy.jn) (by rw [<-e1];exact Hy.gf) (by rw [<-e2];exact Hy.sJ) (by rw [<-e2];exact Hy.sK) (Z5 (Z4 hwr.ok.log k) gA) (by rw [List.length_take];have:=hwr.ok.len;omega)
  rw [e1,e2] at full ⊢;rcases hl with rfl|⟨_,rfl⟩|rfl
  .have w:=wf (C.nd i).rep.log.length;rw [List.take_length] at w;exact a6o h hi (aMr h hi gA hv) w
  .have bI:=hS.src;have bL:(min ((aU (C.nd i).rep m).2.src - 1) ((C.nd i).rep.log.length:Int)).toNat=min (m.index.toNat+agree ((C.nd i).rep.log.drop m.index.toNat) m.ζ) (C.nd i).rep.log.length:=by rw [bI];omega
   rw [bL];have bz:(C.nd i).rep.log.take (min (m.index.toNat+agree ((C.nd i).rep.log.drop m.index.toNat) m.ζ) (C.nd i).rep.log.length)=(C.nd i).rep.log.take (m.index.toNat+agree ((C.nd i).rep.log.drop m.index.toNat) m.ζ):=by
    rcases Nat.le_total (m.index.toNat+agree ((C.nd i).rep.log.drop m.index.toNat) m.ζ) (C.nd i).rep.log.length with a|a
    .rw [Nat.min_eq_left a]
    .rw [Nat.min_eq_right a,List.take_length,List.take_of_length_le a]
   rw [bz];exact a6o h hi (aHb h hi hm hS) (wf _)
  .exact full
 .have h0:0<(aq (C.nd i).rep data).2.2.2.src:=hs;have e:(aq (C.nd i).rep data).1.term=(C.nd i).rep.term/\(aq (C.nd i).rep data).1.ρ=(C.nd i).rep.ρ/\(aq (C.nd i).rep data).2.2.2.src=(((C.nd i).rep.log.length+1:Nat):Int):=by
   revert h0
   unfold aq;split
   .exact λh=>absurd h (Int.lt_irrefl 0)
   split
   .exact λh=>absurd h (Int.lt_irrefl 0)
   split
   .exact λh=>absurd h (Int.lt_irrefl 0)
   .exact λ_=>⟨rfl,rfl,rfl⟩
  rcases hl with rfl|⟨_,rfl⟩|rfl
  .show ∃ bC g' bK,Dk C g A i (fR i (aq (C.nd i).rep data).1.term (aq (C.nd i).rep data).1.ρ _) bC g' bK;rw [e.1,e.2.1];exact old
  .show ∃ bC g' bK,Dk C g A i (fR i (aq (C.nd i).rep data).1.term (aq (C.nd i).rep data).1.ρ ((C.nd i).rep.log.take (min ((aq (C.nd i).rep data).2.2.2.src - 1) _).toNat)) bC g' bK;rw [e.1,e.2.1,e.2.2,List.take_of_length_le (by omega)];exact old
  .exact full
theorem ze.keep{C bC i t v l}(h:ze C i t v l)(e:(bC.nd i).rep=(C.nd i).rep)(hs:∀ m∈C.sent,m∈bC.sent):ze bC i t v l:=by
 unfold ze wM at *;rw [e];rcases h with h|⟨x,hx,h⟩
 .exact .inl h
 .refine .inr ⟨x,?_,h⟩;rcases hx with a|⟨m,hm,a⟩|a
  .exact .inl a
  .exact .inr (.inl ⟨m,hs m hm,a⟩)
  .exact .inr (.inr a)
theorem ze.of{C i x}(hx:wM C i x){t v l}(h:a1P (C.nd i).rep x.1 x.2 t v l):ze C i t v l :=
 h.imp id λh=>⟨x,hx,h⟩
def a4P:Nat->cJ->cJ
 | 0,C=>C
 | n+1,C=>if C.sent.length=0 then C else a4P n (Gw C 0 false)
def Rv(C:cJ)(j:Nat)(r:aG)(s:List aH):cJ:=⟨put C.nd j (CA (C.nd j) r),s⟩
theorem a3T{C}(hw:C.bq){i}(hi:i<3)(hs:(C.nd i).stop=0){x}(hf:Fits (C.nd i).rep x.1 x.2)(hl:C.sent.length+x.2.send.length<=300):zn C i x=Rv C i x.1 (C.sent++x.2.send):=by
 rw [Tk hw hi hf,if_neg (by rw [hs];decide),if_neg (by rw [hs];decide),List.take_of_length_le (by omega)];rfl
theorem aGi{C:cJ}(hw:C.bq)(hs:∀ j,j<3->(C.nd j).stop=0){m rest}(he:C.sent=m :: rest){j}(hj:j<3)(hto:m.to=(j:Nat))(hl:rest.length<=298):
  Gw C 0 false=Rv C j (aU (C.nd j).rep m).1 (rest++(aU (C.nd j).rep m).2.send):=by
 have hp:iA 0 C.sent.length=((0:Nat):Int):=by
  unfold iA;split
  .rfl
  .exact Int.zero_emod _
 rw [aGj hp (by rw [he];rfl)];have h3:(iA m.to 3).toNat=j:=by
  rw [hto];unfold iA;rw [if_neg (by decide)];show ((j:Int) % 3).toNat=j;omega
 unfold rP;rw [h3];have hh:=CF (m:=m) (hw.rep j hj).1;have F5:=(a5L (C.nd j).rep m).send;have hd:(yU C 0).sent=rest:=by unfold yU a9Q;rw [he];rfl
 have hc:=a3T (C:=yU C 0) (a44 hw (by rw [he];simp)) hj (hs j hj) (x:=aU (C.nd j).rep m) hh.2 (by rw [hd];omega);rw [hd] at hc;exact hc
def af(r:aG)(m:aH):aG:=if r.term<m.term then jr r m else r
theorem Hg{r m}(hm:m.eO r.id):(aU r m).1=(cv (af r m) m).1/\(aU r m).2.send=(cv (af r m) m).2.send:=by
 rw [xA (sE.2 hm)];exact ⟨C3,Un⟩
theorem wG(r m):(af r m).id=r.id/\(af r m).log=r.log/\(af r m).υ=r.υ/\(af r m).next=r.next/\(af r m).Ω=r.Ω/\(af r m).bh=r.bh:=by
 unfold af;split<;>exact ⟨rfl,rfl,rfl,rfl,rfl,rfl⟩
theorem BG(r m):(af r m).term=max r.term m.term:=by
 unfold af;split
 .show m.term=_;omega
 .omega
theorem JD{r m}(h:¬ r.term<m.term):af r m=r:=if_neg h
theorem SC{r m}(h:r.term<m.term):af r m=jr r m:=if_pos h
theorem aB6{r}(h:r.bq){m}(hm:m.eO r.id):(af r m).bq:=by
 unfold af;split
 .rename_i ht;exact SD h hm ht
 .exact h
theorem ES{id to kind:Nat}{t index}(hid:id<3)(hto:to<3)(hne:id≠to)(hk:kind<=3)(h1:1<=t)(h2:t<=1099511627776)(h3:0<=index)(h4:index<=4000)(U):(⟨kind,id,to,t,index,0,0,U,[]⟩:aH).eO to :=
 ⟨by constructor<;>(simp only;omega),rfl,by refine ⟨?_,?_,?_⟩<;>(simp only;omega),⟨h1,h2⟩,⟨h3,h4⟩,by constructor<;>(simp only;omega),λ_=>rfl,by constructor<;>(simp only;omega),by simp,by simp only [List.length_nil];omega,rfl⟩
theorem aAq{r:aG}(h:r.bA)(k):0<=bB r.log k/\bB r.log k<=r.term:=by
 cases k with
 | zero=>exact ⟨Int.le_refl _,h.jn⟩
 | succ k =>
  have h0:=h.jn;by_cases hk:k<r.log.length
  .rw [BE hk];have h1:=h.log.lo _ (List.getElem_mem hk);have h2:=h.log.hi _ (List.getElem_mem hk);omega
  .have:bB r.log (k+1)=0:=by
    simp only [bB,List.getElem?_eq_none (show r.log.length<=k by omega)]
   omega
theorem a2h{r}(h:r.bA)(h1:1<=r.term){to}(hto:to<3)(hne:r.id≠to):(jS r to).eO to:=by
 have hid:=h.id;have ht:=aAq h r.log.length;have hl:=h.len;refine ⟨⟨Int.le_refl _,show (0:Int)<=3 by decide⟩,rfl,?_,⟨h1,h.gf⟩,?_,ht,λhz=>?_,⟨Int.le_refl _,show (0:Int)<=4000 by decide⟩,by simp [jS],?_,rfl⟩
 .refine ⟨?_,?_,?_⟩<;>(simp only [jS];omega)
 .constructor<;>(simp only [jS];omega)
 .show bB r.log r.log.length=0;have:r.log.length=0:=by
   have:((r.log.length:Nat):Int)=0:=hz;omega
  rw [this];rfl
 .simp only [jS,List.length_nil];omega
theorem aJD{r}(h:r.bA)(h1:1<=r.term){to}(hto:to<3)(hne:r.id≠to)(AM:1<=r.next to)(hn2:r.next to<=r.log.length+1){c:Nat}(hc:c<=4000):({ entriesOf r to with υ:=(c:Int) }:aH).eO to:=by
 have hid:=h.id;have hl:=h.len;have ht:=aAq h (r.next to - 1);refine ⟨⟨show (0:Int)<=2 by decide,show (2:Int)<=3 by decide⟩,rfl,?_,⟨h1,h.gf⟩,?_,ht,λhz=>?_,?_,?_,?_,?_⟩
 .refine ⟨?_,?_,?_⟩<;>(simp only [entriesOf];omega)
 .constructor<;>(simp only [entriesOf];omega)
 .show bB r.log (r.next to - 1)=0;have:r.next to - 1=0:=by
   have:((r.next to - 1:Nat):Int)=0:=hz;omega
  rw [this];rfl
 .constructor<;>(simp only;omega)
 .simp only [entriesOf,List.length_take];omega
 .simp only [entriesOf,List.length_take,List.length_drop];omega
 .show r7 ((r.log.drop (r.next to - 1)).take 8) (max 1 (bB r.log (r.next to - 1))) r.term=true;have hs:=Z4 (aAK h.log (r.next to - 1)) 8;refine Z6 _ _ _ (λx hx=>?_) hs.hi hs.data hs.iq;have hx1:=hs.lo x hx;have hx2:bB r.log (r.next to - 1)<=x.term:=by
   have hx:=List.mem_of_mem_take hx;generalize r.next to - 1=q at hx;obtain ⟨k,hk,rfl⟩:=List.getElem_of_mem hx;rw [List.length_drop] at hk;rw [List.getElem_drop];cases q with
   | zero=>exact Int.le_trans (show (0:Int)<=1 by decide) (h.log.lo _ (List.getElem_mem _))
   | succ p =>
    rw [BE (show p<r.log.length by omega)];exact h.log.iq p (p+1+k) (by omega) (by omega) (by omega)
  omega
def Xs(i:Nat)(m:aH):Int:=if m.src=i then m.to else m.src
abbrev apart(i:Nat)(a b:aH):Prop:=¬ ((2<=a.kind ↔ 2<=b.kind)/\Xs i a=Xs i b)
def base(m:aH):Nat:=if m.kind=0\/m.kind=2 then 2 else 1
def ms(r:aG)(j:Nat):Nat:=(r.log.length - r.Ω j)+(r.next j - 1 - r.Ω j)
def wt(i:Nat)(r:aG)(m:aH):Nat:=base m+(if r.role=2/\2<=m.kind then 2*ms r (Xs i m).toNat else 0)
def o9(f:aH->Nat):List aH->Nat
 | []=>0
 | m :: l=>f m+o9 f l
def X4(i:Nat)(C:cJ):Nat:=(if (C.nd i).rep.role=1 then 2*(4*(C.nd i).rep.log.length+2) else 0)+o9 (wt i (C.nd i).rep) C.sent
theorem aAi(f):∀ a b,o9 f (a++b)=o9 f a+o9 f b
 | [],b=>by simp [o9]
 | m :: a,b=>by
  show f m+o9 f (a++b)=f m+o9 f a+o9 f b;rw [aAi f a b];omega
theorem aAj{f g}:∀ {l:List aH},(∀ m∈l,f m<=g m)->o9 f l<=o9 g l
 | [],_=>Nat.le_refl _
 | m :: l,h=>Nat.add_le_add (h m (by simp)) (aAj λx hx=>h x (List.mem_cons_of_mem _ hx))
theorem IG{i k}(hi:i<3):k∈bu i ↔ k<3/\k≠i:=by
 have h:i=0\/i=1\/i=2:=by omega
 rcases h with rfl|rfl|rfl<;>simp [bu]<;>omega
theorem PD{r i}(hid:r.id=i)(hi:i<3){m}:m∈bT r ↔ ∃ k,k<3/\k≠i/\m=entriesOf r k:=by
 unfold bT;rw [List.mem_map,hid];constructor
 .rintro ⟨k,hk,rfl⟩;exact ⟨k,((IG hi).1 hk).1,((IG hi).1 hk).2,rfl⟩
 .rintro ⟨k,h1,h2,rfl⟩;exact ⟨k,(IG hi).2 ⟨h1,h2⟩,rfl⟩
theorem a2R{r:aG}{i}(hid:r.id=i)(hi:i<3):∃ a b,a<3/\b<3/\a≠b/\a≠i/\b≠i/\bu r.id=[a,b]:=by
 rw [hid];have h:i=0\/i=1\/i=2:=by omega
 rcases h with rfl|rfl|rfl
 .exact ⟨1,2,by decide,by decide,by decide,by decide,by decide,rfl⟩
 .exact ⟨0,2,by decide,by decide,by decide,by decide,by decide,rfl⟩
 .exact ⟨0,1,by decide,by decide,by decide,by decide,by decide,rfl⟩
theorem aAr{l n}(h:n<=l.length):bB (l.take n) n=bB l n:=by
 cases n with
 | zero=>rfl
 | succ n =>
  rw [BE (show n<l.length by omega),BE (show n<(l.take (n+1)).length by rw [List.length_take];omega),List.getElem_take]
theorem c8.aAl{C g A}(h:c8 C g A){s u l n}(h1:ef g A s l n)(Hu:s<=u)(hu:g.b5 u ≠ -1):n<=(g.φ u).length/\(g.φ u).take n=l.take n:=by
 rcases h1 with e|⟨t,p,c1,k0,k1,q1⟩
 .subst e;simp
 .rcases Int.lt_or_eq_of_le (show t<=u by omega) with hlt|heq
  .have q:=h.Qy c1 hlt hu;exact ⟨by have:=q.1;omega,by rw [QK q k1,q1.2]⟩
  .subst heq;exact ⟨Nat.le_trans k1 c1.1.2.1,q1.2.symm⟩
theorem c8.a55{C g A}(h:c8 C g A){i j}(hi:i<3)(hj:j<3)(hji:j≠i)(hr:(C.nd i).rep.role=2)(ht:(C.nd j).rep.term<=(C.nd i).rep.term):
  (C.nd i).rep.Ω j<=(C.nd j).rep.log.length/\(C.nd j).rep.log.take ((C.nd i).rep.Ω j)=(C.nd i).rep.log.take ((C.nd i).rep.Ω j):=by
 rcases Nat.eq_zero_or_pos ((C.nd i).rep.Ω j) with h0|h0
 .rw [h0];simp
 .have hL:=(h.m.lead i hi hr).2;rcases h.q5 (C.nd i).rep.term j ((C.nd i).rep.Ω j) hj h0 (h.im i hi hr j hj hji) with hh|⟨u,h1,h2,_⟩
  .rw [<-hL];exact hh
  .omega
theorem c8.aNL{C g A}(h:c8 C g A){i j}(hi:i<3)(hj:j<3)(hr:(C.nd i).rep.role=2)(ht:(C.nd j).rep.term<=(C.nd i).rep.term){ix ζ}(um:ζ=((C.nd i).rep.log.drop ix).take ζ.length)(h4:agree ((C.nd j).rep.log.drop ix) ζ<ζ.length)(h5:ix+agree ((C.nd j).rep.log.drop ix) ζ+1<=(C.nd j).rep.υ):False:=by
 obtain ⟨e5,cC⟩:=h.m.lead i hi hr;have hc:=h.aAl (h.co j hj) ht (by rw [e5];omega);rw [cC] at hc;obtain ⟨c1,c2⟩:=hc;have HZ:=(h.m.wf.rep j hj).1.ok.υ;obtain ⟨k,hk⟩:∃ k,agree ((C.nd j).rep.log.drop ix) ζ=k:=⟨_,rfl⟩;have hmax:=PB ((C.nd j).rep.log.drop ix) ζ h4;rw [hk] at h4 h5 hmax;have e1:(C.nd j).rep.log[ix+k]? = (C.nd i).rep.log[ix+k]? := by
  have:=congrArg (λl=>l[ix+k]?) c2;simp only [List.getElem?_take_of_lt (show ix+k<(C.nd j).rep.υ by omega)] at this;exact this.symm
 have hx:ix+k<(C.nd j).rep.log.length:=by omega
 have hy:ζ[k]? = (C.nd i).rep.log[ix+k]? := by
  rw [um,List.getElem?_take_of_lt h4,List.getElem?_drop]
 obtain ⟨x,hx2⟩:∃ x,(C.nd j).rep.log[ix+k]? = some x:=⟨_,List.getElem?_eq_getElem hx⟩;exact hmax x x (by rw [List.getElem?_drop];exact hx2) (by rw [hy,<-e1];exact hx2) rfl
theorem He{r m}(h:m.kind=0):cv r m=cV r m:=if_pos h
theorem Hf{r m}(h:m.kind=1):cv r m=eC r m:=by unfold cv;rw [if_neg (by omega),if_pos h]
theorem Ln{r m}(h:m.kind=2):cv r m=cM r m:=by unfold cv;rw [if_neg (by omega),if_neg (by omega),if_pos h]
theorem Lo{r m}(h:m.kind=3):cv r m=dQ r m:=by unfold cv;rw [if_neg (by omega),if_neg (by omega),if_neg (by omega)]
theorem Zq(r m):∃ U,(cV r m).2.send=[⟨1,r.id,m.src,r.term,0,0,0,U,[]⟩]/\(U=true ↔ (m.term=r.term/\(r.ρ = -1\/r.ρ=m.src)/\C6 r m=true)):=by
 unfold cV;split
 .rename_i h;simp only [Bool.and_eq_true,Bool.or_eq_true,decide_eq_true_eq] at h;exact ⟨true,rfl,λ_=>⟨h.1.1,h.1.2,h.2⟩,λ_=>rfl⟩
 .rename_i h;simp only [Bool.and_eq_true,Bool.or_eq_true,decide_eq_true_eq] at h;exact ⟨false,rfl,λh=>(by cases h),λhh=>absurd ⟨⟨hh.1,hh.2.1⟩,hh.2.2⟩ h⟩
structure oL(N:Nat)(B:Int)(r:aG):Prop where
 nN:r.role=2->∀ f,r.Ω f+1<=r.next f
 len:r.log.length<=N
 term:r.term<=B
def sW(N:Nat)(B:Int)(m:aH):Prop:=m.term<=B/\(m.kind=2->m.index.toNat+m.ζ.length<=N)
structure GQ(N:Nat)(B:Int)(C:cJ):Prop where
 rep:∀ j,j<3->oL N B (C.nd j).rep
 msg:∀ m∈C.sent,sW N B m
theorem oL.more{N fq B B' r}(h:oL N B r)(h1:N<=fq)(h2:B<=B'):oL fq B' r:=⟨h.nN,Nat.le_trans h.len h1,Int.le_trans h.term h2⟩
theorem sW.more{N fq B B' m}(h:sW N B m)(h1:N<=fq)(h2:B<=B'):sW fq B' m:=⟨Int.le_trans h.1 h2,λhk=>Nat.le_trans (h.2 hk) h1⟩
theorem GQ.more{N fq B B' C}(h:GQ N B C)(h1:N<=fq)(h2:B<=B'):GQ fq B' C:=⟨λj hj=>(h.rep j hj).more h1 h2,λm hm=>(h.msg m hm).more h1 h2⟩
theorem Ue{N B r}(ht:r.term<=B)(hl:r.log.length<=N){k}(hn:r.next k<=r.log.length+1):sW N B (entriesOf r k):=by
 refine ⟨ht,λ_=>?_⟩;show (((r.next k - 1:Nat)):Int).toNat+((r.log.drop (r.next k - 1)).take 8).length<=N;rw [Int.toNat_natCast,List.length_take,List.length_drop];omega
theorem TX{N B r}(ht:r.term<=B)(hl:r.log.length<=N)(hn:∀ k,r.next k<=r.log.length+1):∀ a∈bT r,sW N B a:=λa ha=>by
 unfold bT at ha;obtain ⟨k,_,rfl⟩:=List.mem_map.1 ha;exact Ue ht hl (hn k)
theorem Gy{N B m}(h:m.term<=B)(hk:m.kind≠2):sW N B m:=⟨h,λhh=>absurd hh hk⟩
theorem aQr{N B r m}(h:oL N B r)(hm:m.term<=B):oL N B (af r m):=by
 unfold af;split
 .exact ⟨λhr=>(by cases (show (0:Int)=2 from hr)),h.len,hm⟩
 .exact h
theorem VP{N B r m}(hw:r.bq)(h:oL N B r)(hm:sW N B m):oL N B (aU r m).1/\∀ a∈(aU r m).2.send,sW N B a:=by
 cases hy:kC r.id m with
 | false =>
  rw [uj hy];exact ⟨h,λa ha=>by cases ha⟩
 | true =>
  have hr:=sE.1 hy;obtain ⟨e1,e2⟩:=Hg hr;rw [e1,e2];have h1:=aQr (m:=m) h hm.1;have hw1:=aB6 hw hr;have gx:m.eO (af r m).id:=by rw [(wG r m).1];exact hr
  have hle:m.term<=(af r m).term:=by rw [BG];omega
  generalize af r m=r1 at h1 hw1 gx hle;have hk:=hr.kind;have AD:m.kind=0\/m.kind=1\/m.kind=2\/m.kind=3:=by omega
  rcases AD with hk|hk|hk|hk
  .rw [He hk];obtain ⟨U,LC,_⟩:=Zq r1 m;rw [LC];refine ⟨?_,λa ha=>?_⟩
   .unfold cV;split<;>exact ⟨h1.nN,h1.len,h1.term⟩
   .rw [List.mem_singleton.1 ha];exact Gy h1.term (show (1:Int)≠2 by decide)
  .rw [Hf hk];by_cases hc:(decide (r1.role≠1)||decide (m.term≠r1.term) || !m.yes)=true
   .rw [DN hc];exact ⟨h1,λa ha=>by cases ha⟩
   have hc:(decide (r1.role≠1)||decide (m.term≠r1.term) || !m.yes)=false:=by simpa using hc
   by_cases h2:ni (fU r1 m).bh<2
   .rw [DL hc h2];exact ⟨⟨h1.nN,h1.len,h1.term⟩,λa ha=>by cases ha⟩
   .rw [DM hc h2];exact ⟨⟨λ_ f=>by show 0+1<=r1.log.length+1;omega,h1.len,h1.term⟩,TX h1.term h1.len λk=>Nat.le_refl _⟩
  .rw [Ln hk];have aKU:=hm.2 hk;by_cases h2:m.term<r1.term
   .rw [EK h2];exact ⟨h1,λa ha=>by rw [List.mem_singleton.1 ha];exact Gy h1.term (by show (3:Int)≠2;decide)⟩
   by_cases h3:r1.role=2
   .rw [EI h2 h3];exact ⟨h1,λa ha=>by cases ha⟩
   by_cases h4:(decide ((r1.log.length:Int)<m.index)||decide (bB r1.log m.index.toNat≠m.prev))=true
   .rw [EH h2 h3 h4];exact ⟨⟨λhr=>(by cases (show (0:Int)=2 from hr)),h1.len,h1.term⟩,λa ha=>by rw [List.mem_singleton.1 ha];exact Gy h1.term (by show (3:Int)≠2;decide)⟩
   have h4:(decide ((r1.log.length:Int)<m.index)||decide (bB r1.log m.index.toNat≠m.prev))=false:=by simpa using h4
   have Lw:m.index.toNat<=r1.log.length:=by
    simp only [Bool.or_eq_false_iff,decide_eq_false_iff_not] at h4;omega
   by_cases h5:cS r1 m<m.ζ.length
   .by_cases h6:m.index.toNat+cS r1 m+1<=r1.υ
    .rw [EG h2 h3 h4 h5 h6];exact ⟨⟨λhr=>(by cases (show (0:Int)=2 from hr)),h1.len,h1.term⟩,λa ha=>by cases ha⟩
    .rw [EJ h2 h3 h4 h5 h6];exact ⟨⟨λhr=>(by cases (show (0:Int)=2 from hr)),by show (r1.log.take (m.index.toNat+cS r1 m)++m.ζ.drop (cS r1 m)).length<=N;rw [KI Lw];exact aKU,h1.term⟩,λa ha=>by rw [List.mem_singleton.1 ha];exact Gy h1.term (by show (3:Int)≠2;decide)⟩
   .rw [EL h2 h3 h4 h5];exact ⟨⟨λhr=>(by cases (show (0:Int)=2 from hr)),h1.len,h1.term⟩,λa ha=>by rw [List.mem_singleton.1 ha];exact Gy h1.term (by show (3:Int)≠2;decide)⟩
  .rw [Lo hk];by_cases hc:(decide (r1.role≠2)||decide (m.term≠r1.term)||m.yes&&decide ((r1.log.length:Int)<m.index))=true
   .rw [EO hc];exact ⟨h1,λa ha=>by cases ha⟩
   have hc:(decide (r1.role≠2)||decide (m.term≠r1.term)||m.yes&&decide ((r1.log.length:Int)<m.index))=false:=by simpa using hc
   have iV:=hc;simp only [Bool.or_eq_false_iff,decide_eq_false_iff_not] at iV;have cI:r1.role=2:=Decidable.not_not.1 iV.1.1;have ur:=(PF hw1 (m:=m) hr.index.1).1;cases hyes:m.yes with
   | false =>
    rw [EM hc hyes] at ur ⊢;refine ⟨⟨λ_ f=>?_,h1.len,h1.term⟩,λa ha=>?_⟩
    .show r1.Ω f+1<=put r1.next _ _ f;have:=h1.nN cI f;unfold put;split
     .rename_i hf;rw [hf];exact Nat.le_max_left _ _
     .exact this
    .rw [List.mem_singleton.1 ha];exact Ue (r:=lP r1 m) h1.term h1.len (ur.ok.next cI m.src.toNat).2.1
   | true =>
    obtain ⟨a1,a2,a3,a4,a5,a6,a7⟩:=wY (cB r1 m);have hrb:oL N B (cA (cB r1 m)):=by
     refine ⟨λ_ f=>?_,by rw [a2];exact h1.len,by rw [a6];exact h1.term⟩;rw [a3,a4];show put r1.Ω _ _ f+1<=put r1.next _ _ f;have:=h1.nN cI f;unfold put;split
     .exact Nat.le_refl _
     .exact this
    rw [EN hc hyes] at ur ⊢;split
    .rename_i hmo;rw [if_pos hmo] at ur;refine ⟨hrb,λa ha=>?_⟩;rw [List.mem_singleton.1 ha];exact Ue hrb.term hrb.len (ur.ok.next (by rw [a1];exact cI) _).2.1
    .exact ⟨hrb,λa ha=>by cases ha⟩
theorem ZN{N B r}(hw:r.bq)(h:oL N B r):oL N (B+1) (cr r).1/\∀ a∈(cr r).2.send,sW N (B+1) a:=by
 by_cases h1:r.role=2
 .rw [DI h1];exact ⟨h.more (Nat.le_refl _) (by omega),λa ha=>(TX h.term h.len (λk=>(hw.ok.next h1 k).2.1) a ha).more (Nat.le_refl _) (by omega)⟩
 by_cases h2:r.term=1099511627776
 .rw [JB h1 h2];exact ⟨h.more (Nat.le_refl _) (by omega),λa ha=>by cases ha⟩
 rw [DH h1 h2];have ht:=h.term;refine ⟨⟨λhr=>(by cases (show (1:Int)=2 from hr)),h.len,by show r.term+1<=_;omega⟩,λa ha=>?_⟩;obtain ⟨k,_,rfl⟩:=List.mem_map.1 ha;exact Gy (by show r.term+1<=_;omega) (by show (0:Int)≠2;decide)
theorem Xx{N B r}(hw:r.bq)(h:oL N B r)(data):oL (N+1) B (aq r data).1/\∀ a∈(aq r data).2.2.2.send,sW (N+1) B a:=by
 have hm:=h.more (Nat.le_succ N) (Int.le_refl B);by_cases h1:r.role≠2
 .rw [yx h1];exact ⟨hm,λa ha=>by cases ha⟩
 by_cases h2:2000<(data.size:Int)
 .rw [Ay h1 h2];exact ⟨hm,λa ha=>by cases ha⟩
 by_cases h3:r.log.length=4000
 .rw [Az h1 h2 h3];exact ⟨hm,λa ha=>by cases ha⟩
 rw [yy h1 h2 h3];have hl:(lU r data).log.length=r.log.length+1:=by show (r.log++[_]).length=_;simp
 have hle:=h.len;have hrb:oL (N+1) B (lU r data):=⟨h.nN,by rw [hl];omega,h.term⟩;refine ⟨hrb,λa ha=>TX hrb.term hrb.len (λk=>?_) a ha⟩;have:=(hw.ok.next (Decidable.not_not.1 h1) k).2.1;rw [hl];show r.next k<=_;omega
theorem a7N{N B i t v l}(h1:l.length<=N)(h2:t<=B):oL N B (fR i t v l):=⟨λhr=>(by cases (show (0:Int)=2 from hr)),h1,h2⟩
theorem aHC:GQ 0 0 EW:=⟨λj hj=>a7N (Nat.le_refl _) (Int.le_refl _),λm hm=>by cases hm⟩
def aPM(i:Nat)(C:cJ):cJ:=a4P 2000 (aQh C i)
def HK(l:List aS)(m:aH):Bool:=decide (bB l l.length<m.prev)||decide (m.prev=bB l l.length)&&decide ((l.length:Int)<=m.index)
theorem aJd(r m):C6 r m=HK r.log m:=rfl
def GN(l l':List aS):Prop:=bB l' l'.length<bB l l.length\/(bB l l.length=bB l' l'.length/\l'.length<=l.length)
theorem aHU{v a b}(ha:a<3)(hb:b<3)(hab:a≠b)(h1:v a=true)(h2:v b=true):¬ ni v<2:=by
 have hca:a=0\/a=1\/a=2:=by omega
 have hcb:b=0\/b=1\/b=2:=by omega
 unfold ni;rcases hca with rfl|rfl|rfl<;>rcases hcb with rfl|rfl|rfl<;>first|exact absurd rfl hab|(rw [h1,h2];show ¬ _<2;simp only [wg,if_true];omega)
attribute [local irreducible] aPM
theorem aN6{r}(hid:r.id<3){k}(hk:k<3)(hki:k≠r.id):r.Ω k<=qs r:=by
 unfold qs;have hm:=(IG hid).2 ⟨hk,hki⟩;obtain ⟨a,b,_,_,_,_,_,e⟩:=a2R (r:=r) rfl hid;rw [e] at hm ⊢;show r.Ω k<=max (max 0 (r.Ω a)) (r.Ω b);rcases List.mem_cons.1 hm with rfl|hm
 .omega
 .rw [List.mem_singleton.1 hm];omega
theorem nY.same{C bC g}(h:nY C g)(hw:bC.bq)(e:∀ j,(bC.nd j).rep=(C.nd j).rep)(hs:∀ m∈bC.sent,m∈C.sent):nY bC g:=by
 refine ⟨hw,λj hj=>?_,λj hj t ht=>?_,λm hm=>h.yes m (hs m hm),λj hj hr=>?_,λj hj hr=>?_,h.quo,λt ht=>?_,h.none,λj hj=>?_,h.ll,λm hm=>h.app m (hs m hm)⟩
 .rw [e];exact h.now j hj
 .rw [e] at ht;exact h.later j hj t ht
 .rw [e] at hr ⊢;exact h.cand j hj hr
 .rw [e] at hr ⊢;exact h.lead j hj hr
 .obtain ⟨j,hj,a1,a2⟩:=h.Qz t ht;exact ⟨j,hj,a1,by rw [e];exact a2⟩
 .rw [e];exact h.log j hj
theorem c8.same{C bC g A}(h:c8 C g A)(hw:bC.bq)(e:∀ j,(bC.nd j).rep=(C.nd j).rep)(hs:∀ m∈bC.sent,m∈C.sent):c8 bC g A:=by
 have hc:∀ t p,qO C A t p->qO bC A t p:=λt p ⟨x,U,a1,a2,a3,a4,a5,a6,a7⟩=>⟨x,U,a1,a2,a3,by rw [e];exact a4,by rw [e];exact a5,a6,a7⟩;refine ⟨h.m.same hw e hs,h.iq,h.a1,λt j hj=>?_,λj hj=>?_,λt j p hj=>?_,λt u p a b c=>(h.ib t u p a b c).imp id (hc t p),λm hm hk=>?_,λc x8=>?_,λc x8=>?_,λt x c hx x8 hV=>?_,λj hj=>?_,λm hm=>h.ik m (hs m hm),λm hm=>h.F9 m (hs m hm),λj hj=>?_⟩
 .rw [e];exact h.a2 t j hj
 .rw [e];exact h.a3 j hj
 .rw [e];exact h.q5 t j p hj
 .obtain ⟨c,a1,a2,a3,a4⟩:=h.FB m (hs m hm) hk;exact ⟨c,a1,a2,by rw [e];exact a3,by rw [e];exact a4⟩
 .rw [e];exact h.il c x8
 .rw [e];exact λa x b d t p k1 k2 b8=>(h.iv c x8 a x b d t p k1 k2 b8).imp id (hc t p)
 .rw [e];exact h.gh t x c hx x8 hV
 .rw [e];exact h.im j hj
 .rw [e];exact h.co j hj
end Go.Proofs.YtcmgeboolmmdkaaGreatDoor
end

section
namespace Go.Proofs.YtcmgeboolmmdkaaGreatDoor
open Go.Vc
structure vX(i:Nat)(l:List aS)(a:aH):Prop where
 ok:a.bA
 src:a.src=i
 to:0<=a.to/\a.to<=2
 len:a.ζ.length<=8
 ζ:∀ U∈a.ζ,U∈l
theorem a2m{i:Nat}{l}{a:aH}(h:a.bA)(h1:a.src=i)(h2:0<=a.to/\a.to<=2)(h3:a.ζ=[]):vX i l a:=⟨h,h1,h2,by rw [h3];exact Nat.zero_le _,by rw [h3];intro U hy;cases hy⟩
theorem Ud{r}(h:r.bA){k}(hf:Fit r k):vX r.id r.log (entriesOf r k):=by
 have:=hf.to;refine ⟨Po h hf,rfl,⟨by show 0<=(k:Int);omega,by show (k:Int)<=2;omega⟩,?_,λU hy=>?_⟩
 .show ((r.log.drop _).take 8).length<=8;rw [List.length_take];omega
 .exact List.mem_of_mem_drop (List.mem_of_mem_take hy)
theorem TV{r}(h:r.bA)(h2:r.role=2):∀ a∈bT r,vX r.id r.log a:=λa ha=>by
 unfold bT at ha;obtain ⟨k,hk,rfl⟩:=List.mem_map.1 ha;exact Ud h (h.fit h2 ((Mj k hk).1))
theorem S4{r}(h:r.bA):∀ a∈(cr r).2.send,vX r.id (cr r).1.log a:=by
 by_cases h1:r.role=2
 .rw [DI h1];exact TV h h1
 by_cases h2:r.term=1099511627776
 .rw [JB h1 h2];intro a ha;cases ha
 rw [DH h1 h2];intro a ha;obtain ⟨k,hk,rfl⟩:=List.mem_map.1 ha;have hk:=(Mj k hk).1;exact a2m (a2g (PI h h1 h2) k hk) rfl ⟨by show 0<=(k:Int);omega,by show (k:Int)<=2;omega⟩ rfl
theorem RT{r}(hw:r.bq)(data):∀ a∈(aq r data).2.2.2.send,vX r.id (aq r data).1.log a:=by
 have hp:=(Ig hw data).1;by_cases h1:r.role≠2
 .rw [yx h1];intro a ha;cases ha
 by_cases h2:2000<(data.size:Int)
 .rw [Ay h1 h2];intro a ha;cases ha
 by_cases h3:r.log.length=4000
 .rw [Az h1 h2 h3];intro a ha;cases ha
 rw [yy h1 h2 h3] at hp ⊢;exact TV hp.ok (Decidable.not_not.1 h1)
theorem Lp{r}(hw:r.bq)(m):(∀ a∈(aU r m).2.send,vX r.id (aU r m).1.log a)/\∀ U∈(aU r m).1.log,U∈r.log\/U∈m.ζ:=by
 cases hy:kC r.id m with
 | false =>
  rw [uj hy];exact ⟨λa ha=>(by cases ha),λU hy=>.inl hy⟩
 | true =>
  have hr:=sE.1 hy;obtain ⟨e1,e2⟩:=Hg hr;rw [e1,e2];have hw1:=aB6 hw hr;have hid:=(wG r m).1;have Vh:=(wG r m).2.1;have gx:m.eO (af r m).id:=by rw [hid];exact hr
  rw [<-hid,<-Vh];generalize af r m=r1 at hw1 gx;have hk:=hr.kind;have hsrc:0<=m.src/\m.src<=2:=gx.src.2;have ho:=hw1.ok;have bare:∀ {l:List aS} {kind index:Int} {yes:Bool},0<=kind/\kind<=3 -> -1<=index/\index<=8000->vX r1.id l ⟨kind,r1.id,m.src,r1.term,index,0,0,yes,[]⟩:=λh1 h2=>a2m (FP ho h1 (by omega) h2 (by decide)) rfl hsrc rfl;have AD:m.kind=0\/m.kind=1\/m.kind=2\/m.kind=3:=by omega
  rcases AD with hk|hk|hk|hk
  .rw [He hk];obtain ⟨U,LC,_⟩:=Zq r1 m;rw [LC];refine ⟨λa ha=>?_,λz hz=>.inl ?_⟩
   .rw [List.mem_singleton.1 ha];exact bare (by decide) (by decide)
   .revert hz
    unfold cV;split<;>exact id
  .rw [Hf hk];by_cases hc:(decide (r1.role≠1)||decide (m.term≠r1.term) || !m.yes)=true
   .rw [DN hc];exact ⟨λa ha=>(by cases ha),λU hy=>.inl hy⟩
   have hc:(decide (r1.role≠1)||decide (m.term≠r1.term) || !m.yes)=false:=by simpa using hc
   by_cases h2:ni (fU r1 m).bh<2
   .rw [DL hc h2];exact ⟨λa ha=>(by cases ha),λU hy=>.inl hy⟩
   .rw [DM hc h2];exact ⟨TV (Wl ho m) rfl,λU hy=>.inl hy⟩
  .rw [Ln hk];by_cases h2:m.term<r1.term
   .rw [EK h2];exact ⟨λa ha=>by rw [List.mem_singleton.1 ha];exact bare (by decide) (by decide),λU hy=>.inl hy⟩
   by_cases h3:r1.role=2
   .rw [EI h2 h3];exact ⟨λa ha=>(by cases ha),λU hy=>.inl hy⟩
   by_cases h4:(decide ((r1.log.length:Int)<m.index)||decide (bB r1.log m.index.toNat≠m.prev))=true
   .rw [EH h2 h3 h4];have:=ho.len;have:=gx.index.1;exact ⟨λa ha=>by rw [List.mem_singleton.1 ha];exact bare (by decide) (by omega),λU hy=>.inl hy⟩
   have h4:(decide ((r1.log.length:Int)<m.index)||decide (bB r1.log m.index.toNat≠m.prev))=false:=by simpa using h4
   have mZ:∀ {l:List aS},vX r1.id l (l5 r1 m):=by
    have h5:=gx.fits;have h6:=gx.index.1;intro l;exact bare (kind:=3) (index:=m.index+(m.ζ.length:Int)) (yes:=true) (by decide) (by omega)
   by_cases h5:cS r1 m<m.ζ.length
   .by_cases h6:m.index.toNat+cS r1 m+1<=r1.υ
    .rw [EG h2 h3 h4 h5 h6];exact ⟨λa ha=>(by cases ha),λU hy=>.inl hy⟩
    .rw [EJ h2 h3 h4 h5 h6];refine ⟨λa ha=>by rw [List.mem_singleton.1 ha];exact mZ,λU hy=>?_⟩;rcases List.mem_append.1 (show U∈r1.log.take _++m.ζ.drop _ from hy) with h|h
     .exact .inl (List.mem_of_mem_take h)
     .exact .inr (List.mem_of_mem_drop h)
   .rw [EL h2 h3 h4 h5];exact ⟨λa ha=>by rw [List.mem_singleton.1 ha];exact mZ,λU hy=>.inl hy⟩
  .rw [Lo hk];by_cases hc:(decide (r1.role≠2)||decide (m.term≠r1.term)||m.yes&&decide ((r1.log.length:Int)<m.index))=true
   .rw [EO hc];exact ⟨λa ha=>(by cases ha),λU hy=>.inl hy⟩
   have hc:(decide (r1.role≠2)||decide (m.term≠r1.term)||m.yes&&decide ((r1.log.length:Int)<m.index))=false:=by simpa using hc
   have iV:=hc;simp only [Bool.or_eq_false_iff,decide_eq_false_iff_not] at iV;have cI:r1.role=2:=Decidable.not_not.1 iV.1.1;have ur:=(PF hw1 (m:=m) gx.index.1).1;cases hyes:m.yes with
   | false =>
    rw [EM hc hyes] at ur ⊢;refine ⟨λa ha=>?_,λU hy=>.inl hy⟩;rw [List.mem_singleton.1 ha];exact Ud (r:=lP r1 m) ur.ok (ur.ok.fit cI (by omega))
   | true =>
    obtain ⟨a1,a2,a3,a4,a5,a6,a7⟩:=wY (cB r1 m);rw [EN hc hyes] at ur ⊢;split
    .rename_i hmo;rw [if_pos hmo] at ur;refine ⟨λa ha=>?_,λU hy=>.inl (by
      have hy:U∈(cA (cB r1 m)).log:=hy;rw [a2] at hy;exact hy)⟩
     rw [List.mem_singleton.1 ha];have:=Ud (r:=cA (cB r1 m)) ur.ok (ur.ok.fit (by rw [a1];exact cI) (i:=m.src.toNat) (by omega));rw [a5] at this;exact this
    .exact ⟨λa ha=>(by cases ha),λU hy=>.inl (by
      have hy:U∈(cA (cB r1 m)).log:=hy;rw [a2] at hy;exact hy)⟩
theorem S6(r):(cr r).1.log=r.log:=by
 unfold cr;split
 .rfl
 split
 .rfl
 .rfl
theorem Xw{r data}:∀ U∈(aq r data).1.log,U∈r.log\/U.data=data:=by
 by_cases h1:r.role≠2
 .rw [yx h1];exact λU hy=>.inl hy
 by_cases h2:2000<(data.size:Int)
 .rw [Ay h1 h2];exact λU hy=>.inl hy
 by_cases h3:r.log.length=4000
 .rw [Az h1 h2 h3];exact λU hy=>.inl hy
 rw [yy h1 h2 h3];intro U hy;rcases List.mem_append.1 (show U∈r.log++[⟨r.term,data⟩] from hy) with h|h
 .exact .inl h
 .rw [List.mem_singleton.1 h];exact .inr rfl
theorem R5{r:aG}(hr:r.bA){i a}(h:vX i r.log a):uH a:=by
 refine ⟨λn hn=>?_,λx hx=>?_⟩
 .have ho:=h.ok;unfold iY at hn;simp only [List.mem_cons,List.not_mem_nil,or_false] at hn;rcases hn with rfl|rfl|rfl|rfl|rfl|rfl|rfl|rfl
  .exact ho.kind
  .exact ho.src
  .exact ho.to
  .exact ho.term
  .exact ho.index
  .exact ho.prev
  .exact ho.υ
  .split<;>(unfold κ;decide)
 .have hx:=h.ζ x hx;have h1:=hr.log.lo x hx;have h2:=hr.log.hi x hx;have h3:=hr.log.data x hx;have h4:=hr.gf;exact ⟨by unfold κ;omega,by omega⟩
theorem YE{x}(h:κ x.term)(h2:x.data.size<=1000000):(lD x).length<=x.data.size+43:=by
 unfold lD;rw [qq,B8];have h1:=(qj h).2;have h3:=(S3 (s:=x.data) (by omega)).1;omega
theorem MQ{l t}(hs:nc l t)(ht:t<=1099511627776){N D}(hl:l.length<=N)(hd:∀ x∈l,x.data.size<=D)(cH:N*(D+90)<=1048576):pV l:=by
 have hr:∀ x∈l,κ x.term/\x.data.size<=1000000:=λx hx=>by
  have h1:=hs.lo x hx;have h2:=hs.hi x hx;have h3:=hs.data x hx;exact ⟨by unfold κ;omega,by omega⟩
 refine ⟨hr,?_⟩;have key:∀ k:List aS,(∀ x∈k,κ x.term/\x.data.size<=1000000)->(∀ x∈k,x.data.size<=D)->(aK (k.map dU)).length<=k.length*(D+90):=by
  intro k
  induction k with
  | nil=>intro _ _;simp [aK]
  | cons x k ih =>
   intro h1 h2;have h3:=ih (λU hy=>h1 U (by simp [hy])) λU hy=>h2 U (by simp [hy]);obtain ⟨h4,h5⟩:=h1 x (by simp);have h6:=h2 x (by simp);have h7:=YE h4 (by omega);have h8:(n9 (dU x)).data.toList.length<=(lD x).length+22:=by
    have hb:(dU x).size=(lD x).length:=dN _;have:=S3 (s:=dU x) (by rw [hb];omega);rw [qq];omega
   rw [List.map_cons,LG,List.length_append,List.length_cons,Nat.add_mul];omega
 exact Nat.le_trans (key l hr hd) (Nat.le_trans (Nat.mul_le_mul_right _ hl) cH)
def sY(N:Nat)(B:Int)(D:Nat)(C:cJ)(i:Nat)(t v:Int)(l:List aS):Prop:=ze C i t v l/\l.length<=N/\t<=B/\∀ x∈l,x.data.size<=D
def Bf(C:cJ)(p:rI):Prop:=∃ m∈C.sent,uH m/\m.ζ.length<=8/\(0<=m.src/\m.src<=2)/\(0<=m.to/\m.to<=2)/\p=⟨m.src,m.to,bs (j5 m)⟩
structure jC(N:Nat)(B:Int)(D:Nat)(G:aa)(C:cJ)(g:fK)(A:Int->Nat->Nat):Prop where
 s:c8 C g A
 b:GQ N B C
 data:∀ j,j<3->∀ x∈(C.nd j).rep.log,x.data.size<=D
 mdata:∀ m∈C.sent,∀ x∈m.ζ,x.data.size<=D
 up:∀ i,i<3->∀ u,(G.mem i).up=some u->u.r=(C.nd i).rep/\iR (G.mem i).d u
 qY:∀ i,i<3->(G.mem i).up=none->kj (G.mem i).d (sY N B D C i)
 aD:∀ p∈G.aD.aI,Bf C p
 jx:G.aD.aI.length<=500
 aQ:∃ (K:List aS) (t:Int),G.aQ=K.map aS.data/\ef g A t K K.length
def aFQ(G:aa):Prop:=∀ i,i<3->∀ u,(G.mem i).up=some u->u.r.υ<=G.aQ.length
structure bG(N:Nat)(B:Int)(D:Nat)(G:aa)(C:cJ)(g:fK)(A:Int->Nat->Nat):Prop where
 j:jC N B D G C g A
 XR:aFQ G
def eM(N:Nat)(B:Int)(D:Nat)(G:aa)(g:fK)(A:Int->Nat->Nat)(G':aa):Prop:=∃ bC g' bK,bG N B D G' bC g' bK/\lK g A g' bK/\∃ s,G'.aQ=G.aQ++s
section
variable {N fq D:Nat}{B B':Int}{G G':aa}{C bC:cJ}{g g':fK}{A bK:Int->Nat->Nat}{i:Nat}
theorem sY.more{t v l}(h:sY N B D C i t v l)(h1:N<=fq)(h2:B<=B'):sY fq B' D C i t v l:=⟨h.1,Nat.le_trans h.2.1 h1,Int.le_trans h.2.2.1 h2,h.2.2.2⟩
theorem sY.keep{t v l}(h:sY N B D C i t v l)(e:(bC.nd i).rep=(C.nd i).rep)(hs:∀ m∈C.sent,m∈bC.sent):sY N B D bC i t v l:=⟨h.1.keep e hs,h.2⟩
theorem Bf.keep{p}(h:Bf C p)(hs:∀ m∈C.sent,m∈bC.sent):Bf bC p:=by
 obtain ⟨m,h1,h2⟩:=h;exact ⟨m,hs m h1,h2⟩
theorem jC.more(h:jC N B D G C g A)(h1:N<=fq)(h2:B<=B'):jC fq B' D G C g A :=
 ⟨h.s,h.b.more h1 h2,h.data,h.mdata,h.up,λi hi hn=>(h.qY i hi hn).mono λt v l a=>a.more h1 h2,h.aD,h.jx,h.aQ⟩
theorem bG.more(h:bG N B D G C g A)(h1:N<=fq)(h2:B<=B'):bG fq B' D G C g A:=⟨h.j.more h1 h2,h.XR⟩
theorem eM.more(h:eM N B D G g A G')(h1:N<=fq)(h2:B<=B'):eM fq B' D G g A G':=by
 obtain ⟨bC,g',bK,a,b⟩:=h;exact ⟨bC,g',bK,a.more h1 h2,b⟩
theorem eM.refl(h:bG N B D G C g A):eM N B D G g A G:=⟨C,g,A,h,lK.refl _ _,[],by simp⟩
theorem eM.then(h:eM N B D G g A G'){a0w}(h2:∀ bC g' bK,bG N B D G' bC g' bK->eM fq B' D G' g' bK a0w):eM fq B' D G g A a0w:=by
 obtain ⟨y9,g1,zT,a,b,s,e⟩:=h;obtain ⟨GO,g2,zU,a2,b2,s2,e2⟩:=h2 _ _ _ a;exact ⟨GO,g2,zU,a2,b.trans' b2,s++s2,by rw [e2,e,μ]⟩
theorem aAk(h:lK g A g' bK){t l n}(hs:ef g A t l n):ef g' bK t l n:=hs.Ek h.ext h.a (Int.le_refl _)
theorem wA(G i):(gZ G i).mem=G.mem/\(gZ G i).aD=G.aD:=by
 unfold gZ;split
 .exact ⟨rfl,rfl⟩
 .split<;>exact ⟨rfl,rfl⟩
theorem XP(h:jC N B D G C g A)(hi:i<3):jC N B D (gZ G i) C g A/\(∃ s,(gZ G i).aQ=G.aQ++s)/\∀ u,(G.mem i).up=some u->u.r.υ<=(gZ G i).aQ.length:=by
 unfold gZ;split
 .rename_i hn;exact ⟨h,⟨[],by simp⟩,λu hu=>by rw [hu] at hn;cases hn⟩
 .rename_i u hu;obtain ⟨hr,cn⟩:=h.up i hi u hu;split
  .rename_i hlt;have lR:=h.s.co i hi;have hok:=(h.s.m.wf.rep i hi).1.ok;rw [<-hr] at lR hok;have cW:=hok.υ;have hl:((u.r.log.take u.r.υ).map aS.data).length=u.r.υ:=by rw [List.length_map,List.length_take];omega
   obtain ⟨K,t,e,hs⟩:=h.aQ;have hK:K.length<=u.r.υ:=by rw [e,List.length_map] at hlt;omega
   have hcut:ef g A u.r.term (u.r.log.take u.r.υ) u.r.υ:=ef.cut lR (Int.le_refl _);have hcmp:=h.s.aQZ hs hcut hK;rw [List.take_length] at hcmp;refine ⟨⟨h.s,h.b,h.data,h.mdata,h.up,h.qY,h.aD,h.jx,u.r.log.take u.r.υ,u.r.term,rfl,by rw [List.length_take,Nat.min_eq_left cW];exact hcut⟩,⟨((u.r.log.take u.r.υ).drop K.length).map aS.data,?_⟩,λv hv=>?_⟩
   .show (u.r.log.take u.r.υ).map aS.data=G.aQ++_;rw [e]
    conv=>lhs;rw [<-List.take_append_drop K.length (u.r.log.take u.r.υ),List.map_append]
    rw [<-hcmp]
   .rw [hu] at hv;cases hv;show u.r.υ<=((u.r.log.take u.r.υ).map aS.data).length;omega
  .rename_i hlt;exact ⟨h,⟨[],by simp⟩,λv hv=>by rw [hu] at hv;cases hv;omega⟩
theorem a7R(h:jC N B D G C g A):bG N B D (ek G) C g A/\∃ s,(ek G).aQ=G.aQ++s:=by
 unfold ek;obtain ⟨h0,⟨s0,e0⟩,n0⟩:=XP (i:=0) h (by decide);obtain ⟨h1,⟨s1,e1⟩,n1⟩:=XP (i:=1) h0 (by decide);obtain ⟨h2,⟨s2,e2⟩,n2⟩:=XP (i:=2) h1 (by decide);have m0:=(wA G 0).1;have m1:=(wA (gZ G 0) 1).1;have m2:=(wA (gZ (gZ G 0) 1) 2).1;have l1:=congrArg List.length e1;have l2:=congrArg List.length e2;rw [List.length_append] at l1 l2;refine ⟨⟨h2,λi hi u hu=>?_⟩,s0++s1++s2,by rw [e2,e1,e0];simp⟩;rw [m2,m1,m0] at hu
 match i,hi with
 | 0,_=>have:=n0 u hu;omega
 | 1,_=>have:=n1 u (by rw [m0];exact hu);omega
 | 2,_=>exact n2 u (by rw [m1,m0];exact hu)
theorem eM.note(h:jC N B D G' bC g' bK)(ha:lK g A g' bK)(hc:G'.aQ=G.aQ):eM N B D G g A (ek G'):=by
 obtain ⟨a,s,e⟩:=a7R h;exact ⟨bC,g',bK,a,ha,s,by rw [e,hc]⟩
theorem jC.R2(h:jC N B D G C g A)(hi:i<3){m}(gA:∀ u,m.up=some u->u.r=(C.nd i).rep/\iR m.d u)(hdn:m.up=none->kj m.d (sY N B D C i)):jC N B D (ay G i m) C g A:=by
 refine ⟨h.s,h.b,h.data,h.mdata,λj hj u hu=>?_,λj hj hn=>?_,h.aD,h.jx,h.aQ⟩
 .by_cases e:j=i
  .subst e;have e2:(ay G j m).mem j=m:=cF _ _ _;rw [e2] at hu ⊢;exact gA u hu
  .have e2:(ay G i m).mem j=G.mem j:=dD _ _ e;rw [e2] at hu ⊢;exact h.up j hj u hu
 .by_cases e:j=i
  .subst e;have e2:(ay G j m).mem j=m:=cF _ _ _;rw [e2] at hn ⊢;exact hdn hn
  .have e2:(ay G i m).mem j=G.mem j:=dD _ _ e;rw [e2] at hn ⊢;exact h.qY j hj hn
theorem jC.any(h:jC N B D G C g A)(hi:i<3):kj (G.mem i).d (sY N B D C i):=by
 cases hu:(G.mem i).up with
 | none=>exact h.qY i hi hu
 | some u =>
  obtain ⟨hr,cn⟩:=h.up i hi u hu;have hb:=h.b.rep i hi;refine cn.qY ⟨.inl ⟨⟨?_,?_⟩,?_⟩,?_,?_,?_⟩
  .rw [hr]
  .rw [hr]
  .rw [hr]
  .rw [hr];exact hb.len
  .rw [hr];exact hb.term
  .rw [hr];exact h.data i hi
theorem jC.w(h:jC N B D G C g A)(hi:i<3):fo (G.mem i).d:=(h.any hi).1
theorem jC.lose(h:jC N B D G C g A)(hi:i<3){d}(hq:d.queue=(G.mem i).d.queue)(hf:d.files=(G.mem i).d.files):jC N B D (ay G i { G.mem i with d:=d }) C g A :=
 h.R2 hi (λu hu=>⟨(h.up i hi u hu).1,(h.up i hi u hu).2.frame hq hf⟩) λhn=>(h.qY i hi hn).frame hq hf
theorem jC.Ka(h:jC N B D G C g A)(hi:i<3)(keep):jC N B D (ay G i ⟨dj (G.mem i).d keep,none⟩) C g A :=
 h.R2 hi (λu hu=>by cases hu) λ_=>(h.any hi).ev (Pb (h.w hi) keep) λF=>Kb (h.w hi) keep F
theorem jC.set(h:jC N B D G C g A)(hN:N<=fq)(hB:B<=B')(hi:i<3){r send n}(f:kP C g A i r send g' n)(hw:r.bq)(hid:r.id=i)(hrb:oL fq B' r)(hmb:∀ a∈send,sW fq B' a)(hd:∀ x∈r.log,x.data.size<=D)(aKm:∀ a∈send,∀ x∈a.ζ,x.data.size<=D){m}(gA:∀ u,m.up=some u->u.r=r/\iR m.d u)(hun:m.up≠none):
  jC fq B' D (ay G i m) (DB C i r (C.sent++send)) g' (ng A i r.term n):=by
 have hs:∀ a∈C.sent,a∈(DB C i r (C.sent++send)).sent:=λa ha=>List.mem_append_left _ ha;have aJz:=f.uQ;refine ⟨Yr h.s hi f hw hid λa ha=>List.mem_append.1 ha,⟨λj hj=>?_,λa ha=>?_⟩,λj hj=>?_,λa ha=>?_,λj hj u hu=>?_,λj hj hn=>?_,λp hp=>(h.aD p hp).keep hs,h.jx,?_⟩
 .by_cases e:j=i
  .subst e;rw [J0];exact hrb
  .rw [Fq _ _ _ e];exact (h.b.rep j hj).more hN hB
 .rcases List.mem_append.1 ha with ha|ha
  .exact (h.b.msg a ha).more hN hB
  .exact hmb a ha
 .by_cases e:j=i
  .subst e;rw [J0];exact hd
  .rw [Fq _ _ _ e];exact h.data j hj
 .rcases List.mem_append.1 ha with ha|ha
  .exact h.mdata a ha
  .exact aKm a ha
 .by_cases e:j=i
  .subst e;have e2:(ay G j m).mem j=m:=cF _ _ _;rw [e2] at hu ⊢;rw [J0];exact gA u hu
  .have e2:(ay G i m).mem j=G.mem j:=dD _ _ e;rw [e2] at hu ⊢;rw [Fq _ _ _ e];exact h.up j hj u hu
 .by_cases e:j=i
  .subst e;have e2:(ay G j m).mem j=m:=cF _ _ _;rw [e2] at hn;exact absurd hn hun
  .have e2:(ay G i m).mem j=G.mem j:=dD _ _ e;rw [e2] at hn ⊢;exact (h.qY j hj hn).mono λt v l a=>(a.more hN hB).keep (by rw [Fq _ _ _ e]) hs
 .obtain ⟨K,t,e,Hu⟩:=h.aQ;exact ⟨K,t,e,aAk aJz Hu⟩
theorem Yo(id:Nat):∀ (l:List aH) (n:pW),(∀ p∈n.aI,Bf C p)->n.aI.length<=500->(∀ a∈l,a∈C.sent/\uH a/\a.ζ.length<=8/\a.src=id/\0<=a.to/\a.to<=2)->id<3->(∀ p∈(n8 id n l).aI,Bf C p)/\(n8 id n l).aI.length<=500
 | [],n,h1,h2,_,_=>⟨h1,h2⟩
 | a :: l,n,h1,h2,h3,hid=>by
  obtain ⟨b1,b2,b3,b4,KN⟩:=h3 a (by simp);have hn:(∀ p∈(o7 n id a.to (bs (j5 a))).1.aI,Bf C p)/\(o7 n id a.to (bs (j5 a))).1.aI.length<=500:=by
   unfold o7;split
   .exact ⟨h1,h2⟩
   split
   .exact ⟨h1,h2⟩
   split
   .exact ⟨h1,h2⟩
   .refine ⟨λp hp=>?_,?_⟩
    .rcases List.mem_append.1 (show p∈n.aI++[_] from hp) with hp|hp
     .exact h1 p hp
     .rw [List.mem_singleton.1 hp];exact ⟨a,b1,b2,b3,by omega,KN,by rw [b4]⟩
    .show (n.aI++[_]).length<=500;rw [List.length_append,List.length_singleton];omega
  exact Yo id l _ hn.1 hn.2 (λb hb=>h3 b (by simp [hb])) hid
theorem bG.do(h:bG N B D G C g A)(hN:N<=fq)(hB:B<=B')(cH:fq*(D+90)<=1048576)(hi:i<3){u}(hu:(G.mem i).up=some u){x}(hx:wM C i x)(hrb:oL fq B' x.1)(hmb:∀ a∈x.2.send,sW fq B' a)(hd:∀ U∈x.1.log,U.data.size<=D)(hg:∀ a∈x.2.send,vX i x.1.log a):eM fq B' D G g A (mA G i u x).1:=by
 obtain ⟨hr,cn⟩:=h.j.up i hi u hu;obtain ⟨hw,hf⟩:=hx.fits h.j.s.m.wf hi;have hid:x.1.id=i:=by rw [hf.id];exact (h.j.s.m.wf.rep i hi).2
 have hok:=hw.ok;have hst:=aAY (d:=(G.mem i).d) (u:=u) (r:=(C.nd i).rep) (r':=x.1) (o:=x.2) (by rw [<-hr];exact cn) hf ⟨by have:=hok.jn;have:=hok.gf;unfold κ;omega,by have:=hok.sJ;have:=hok.sK;unfold κ;omega⟩ (MQ hok.log hok.gf hrb.len hd cH);unfold mA;simp only;obtain ⟨⟨d1,u1,e1⟩,hs⟩:∃ U,ck (G.mem i).d { u with r:=x.1 } x.2=U:=⟨_,rfl⟩;rw [hs] at hst ⊢;simp only;by_cases he:e1=0
 .rw [if_pos he];rcases hst.or with ⟨_,g1,g2⟩|⟨e,_⟩
  .obtain ⟨g',n,f⟩:=hx.Yu h.j.s hi;have hj:=h.j.set hN hB hi f hw hid hrb hmb hd (λa ha U hy=>hd U ((hg a ha).ζ U hy)) (m:=⟨d1,some u1⟩) (λv hv=>by cases hv;exact ⟨g2,g1⟩) (by simp);have F6:=Yo (C:=DB C i x.1 (C.sent++x.2.send)) i x.2.send G.aD hj.aD hj.jx (λa ha=>by
    have tG:=hg a ha;exact ⟨List.mem_append_right _ ha,R5 hok tG,tG.len,tG.src,tG.to⟩) hi
   exact eM.note (G':={ ay G i ⟨d1,some u1⟩ with aD:=n8 i (ay G i ⟨d1,some u1⟩).aD x.2.send }) ⟨hj.s,hj.b,hj.data,hj.mdata,hj.up,hj.qY,F6.1,F6.2,hj.aQ⟩ f.uQ rfl
  .have e:e1=9\/e1=10:=e;omega
 .rw [if_neg he];rcases hst.or with ⟨e,_⟩|⟨_,hdn⟩
  .exact absurd e he
  .have hm:=h.j.more hN hB;refine eM.note (hm.R2 hi (m:=⟨d1,none⟩) (λv hv=>by cases hv) λ_=>hdn.mono λt v l hp=>?_) (lK.refl _ _) rfl;refine ⟨ze.of hx hp,?_⟩;have ho:=hm.b.rep i hi;have Vk:=h.j.data i hi;have gA:=hf.term;have M5:=hrb.term;rcases hp with ⟨⟨a,_⟩,c⟩|⟨⟨a,_⟩,c⟩
   .rw [a,c];exact ⟨ho.len,ho.term,Vk⟩
   .rw [a];rcases c with rfl|⟨_,rfl⟩|rfl
    .exact ⟨ho.len,M5,Vk⟩
    .exact ⟨by rw [List.length_take];have:=ho.len;omega,M5,λU hy=>Vk U (List.mem_of_mem_take hy)⟩
    .exact ⟨hrb.len,M5,hd⟩
theorem oA{id:Int}(h:¬ (id<0\/3<=id)):id.toNat<3:=by omega
theorem bG.tick(h:bG N B D G C g A)(cH:N*(D+90)<=1048576)(id):eM N (B+1) D G g A (r9 G id).1:=by
 have hr:=(eM.refl h).more (Nat.le_refl N) (show B<=B+1 by omega);unfold r9 qF;split
 .exact hr
 rename_i hid;have hi:=oA hid;split
 .exact hr
 rename_i u hu;obtain ⟨e,cn⟩:=h.j.up _ hi u hu;have hw:=(h.j.s.m.wf.rep _ hi).1;have hb:=ZN hw (h.j.b.rep _ hi);rw [e];refine h.do (Nat.le_refl _) (by omega) cH hi hu (.inl rfl) hb.1 hb.2 (by rw [S6];exact h.j.data _ hi) ?_;have:=S4 hw.ok;rw [(h.j.s.m.wf.rep _ hi).2] at this;exact this
theorem bG.A'(h:bG N B D G C g A)(cH:(N+1)*(D+90)<=1048576)(id){data}(Lm:data.size<=D):eM (N+1) B D G g A (iL G id data).1:=by
 have hr:=(eM.refl h).more (Nat.le_succ N) (Int.le_refl B);unfold iL;split
 .exact hr
 rename_i hid;have hi:=oA hid;split
 .exact hr
 rename_i u hu;simp only;split
 .exact hr
 obtain ⟨e,cn⟩:=h.j.up _ hi u hu;have hw:=(h.j.s.m.wf.rep _ hi).1;have hb:=Xx hw (h.j.b.rep _ hi) data;have key:eM (N+1) B D G g A (mA G id.toNat u ((aq u.r data).1,(aq u.r data).2.2.2)).1:=by
  rw [e];refine h.do (Nat.le_succ _) (Int.le_refl _) cH hi hu (.inr (.inr ⟨data,rfl⟩)) hb.1 hb.2 (λU hy=>?_) ?_
  .rcases Xw U hy with a|a
   .exact h.j.data _ hi U a
   .rw [a];exact Lm
  .have:=RT hw data;rw [(h.j.s.m.wf.rep _ hi).2] at this;exact this
 split<;>exact key
theorem bG.aKJ(h:bG N B D G C g A)(cH:N*(D+90)<=1048576){m}(hm:m∈C.sent)(id):eM N B D G g A (qF G id λr=>aU r m).1:=by
 unfold qF;split
 .exact .refl h
 rename_i hid;have hi:=oA hid;split
 .exact .refl h
 rename_i u hu;obtain ⟨e,cn⟩:=h.j.up _ hi u hu;have hw:=(h.j.s.m.wf.rep _ hi).1;have hb:=VP hw (h.j.b.rep _ hi) (h.j.b.msg m hm);have hg:=Lp hw m;rw [e];refine h.do (Nat.le_refl _) (Int.le_refl _) cH hi hu (.inr (.inl ⟨m,hm,rfl⟩)) hb.1 hb.2 (λU hy=>?_) ?_
 .rcases hg.2 U hy with a|a
  .exact h.j.data _ hi U a
  .exact h.j.mdata m hm U a
 .have:=hg.1;rw [(h.j.s.m.wf.rep _ hi).2] at this;exact this
theorem bG.R6(h:bG N B D G C g A){n}(hn:∀ p∈n.aI,p∈G.aD.aI)(hl:n.aI.length<=500):bG N B D { G with aD:=n } C g A :=
 ⟨⟨h.j.s,h.j.b,h.j.data,h.j.mdata,h.j.up,h.j.qY,λp hp=>h.j.aD p (hn p hp),hl,h.j.aQ⟩,h.XR⟩
theorem Nk(n i):(∀ p∈(takeN n i).aI,p∈n.aI)/\(takeN n i).aI.length<=n.aI.length :=
 ⟨λp hp=>List.mem_of_mem_eraseIdx hp,List.length_eraseIdx_le _ _⟩
theorem bG.Mg(h:bG N B D G' C g A)(hc:G'.aQ=G.aQ):eM N B D G g A G':=⟨C,g,A,h,lK.refl _ _,[],by rw [hc];simp⟩
theorem bG.takeN(h:bG N B D G C g A)(i):bG N B D { G with aD:=takeN G.aD i } C g A:=h.R6 (Nk _ _).1 (Nat.le_trans (Nk _ _).2 h.j.jx)
theorem bG.rP(h:bG N B D G C g A)(cH:N*(D+90)<=1048576)(k):eM N B D G g A (me G k).1:=by
 unfold me;split
 .exact .refl h
 split
 .exact .refl h
 rename_i p hp;obtain ⟨m,hm,QZ,hlen,hsrc,hto,rfl⟩:=h.j.aD p (List.mem_of_getElem? hp);have ht:=h.takeN k.toNat;simp only;split
 .exact bG.Mg (G:=G) ht rfl
 .have e:(sB (bs (j5 m)).data.toList).getD Ak=m:=by
   rw [vh,X3 QZ (by omega)];rfl
  rw [e];exact ht.aKJ cH hm m.to
theorem bG.drop(h:bG N B D G C g A)(k):eM N B D G g A (qa G k).1:=by
 unfold qa;split
 .exact .refl h
 .exact bG.Mg (G:=G) (h.takeN _) rfl
theorem bG.double(h:bG N B D G C g A)(k):eM N B D G g A (qZ G k).1:=by
 unfold qZ;split
 .exact .refl h
 split
 .exact .refl h
 split
 .exact .refl h
 .rename_i p hp _;refine bG.Mg (G:=G) (h.R6 (λq hq=>?_) ?_) rfl
  .rcases List.mem_append.1 hq with hq|hq
   .exact hq
   .rw [List.mem_singleton.1 hq];exact List.mem_of_getElem? hp
  .show (G.aD.aI++[p]).length<=500;rw [List.length_append,List.length_singleton];omega
theorem bG.split(h:bG N B D G C g A)(m):eM N B D G g A (J5 G m):=bG.Mg (G:=G) (h.R6 (λ_ hp=>hp) h.j.jx) rfl
theorem bG.VO(h:bG N B D G C g A):eM N B D G g A (mj G):=bG.Mg (G:=G) (h.R6 (λ_ hp=>hp) h.j.jx) rfl
theorem bG.Ka(h:bG N B D G C g A)(id keep):eM N B D G g A (uV G id keep).1:=by
 unfold uV;split
 .exact .refl h
 .rename_i hid;exact eM.note (h.j.Ka (oA hid) keep) (lK.refl _ _) rfl
theorem bG.lose(h:bG N B D G C g A)(id n):eM N B D G g A (j0 G id n).1:=by
 unfold j0;split
 .exact .refl h
 .rename_i hid;exact eM.note (h.j.lose (oA hid) rfl rfl) (lK.refl _ _) rfl
theorem bG.arm(h:bG N B D G C g A)(id n keep):eM N B D G g A (qU G id n keep).1:=by
 unfold qU;split
 .exact .refl h
 .rename_i hid;exact eM.note (h.j.lose (oA hid) rfl rfl) (lK.refl _ _) rfl
theorem jC.aQD(h:jC N B D G C g A)(hi:i<3){d}(hd:kj d (sY N B D C i)):∃ bC g' bK,jC N B D (ay G i ⟨(bM i d).1,(bM i d).2.1⟩) bC g' bK/\lK g A g' bK:=by
 have ho:=RG (id:=i) hd;obtain ⟨⟨d1,aBD,e1⟩,hx⟩:∃ x,bM i d=x:=⟨_,rfl⟩;rw [hx] at ho ⊢;rcases ho.or with ⟨u,a1,a2,a3,a4,a5,a6,a7,a8⟩|⟨a1,a2,a3⟩
 .have a1:aBD=some u:=a1;subst a1;obtain ⟨bC,g',bK,jT⟩:=RP h.s hi a5;rw [<-a4] at jT;refine ⟨bC,g',bK,⟨jT.s,⟨λj hj=>?_,λm hm=>h.b.msg m (by rw [<-jT.sent];exact hm)⟩,λj hj=>?_,λm hm=>h.mdata m (by rw [<-jT.sent];exact hm),λj hj v hv=>?_,λj hj hn=>?_,λp hp=>(h.aD p hp).keep λm hm=>by rw [jT.sent];exact hm,h.jx,?_⟩,jT.uQ⟩
  .by_cases e:j=i
   .subst e;rw [jT.rep,a4];exact a7N a6 a7
   .rw [jT.ne j e];exact h.b.rep j hj
  .by_cases e:j=i
   .subst e;rw [jT.rep];exact a8
   .rw [jT.ne j e];exact h.data j hj
  .by_cases e:j=i
   .subst e;have e2:(ay G j ⟨d1,some u⟩).mem j=⟨d1,some u⟩:=cF _ _ _;rw [e2] at hv ⊢;cases hv;exact ⟨jT.rep.symm,a3⟩
   .have e2:(ay G i ⟨d1,some u⟩).mem j=G.mem j:=dD _ _ e;rw [e2] at hv ⊢;rw [jT.ne j e];exact h.up j hj v hv
  .by_cases e:j=i
   .subst e;have e2:(ay G j ⟨d1,some u⟩).mem j=⟨d1,some u⟩:=cF _ _ _;rw [e2] at hn;cases hn
   .have e2:(ay G i ⟨d1,some u⟩).mem j=G.mem j:=dD _ _ e;rw [e2] at hn ⊢;exact (h.qY j hj hn).mono λt v l a=>a.keep (by rw [jT.ne j e]) λm hm=>by rw [jT.sent];exact hm
  .obtain ⟨K,t,e,Hu⟩:=h.aQ;exact ⟨K,t,e,aAk jT.uQ Hu⟩
 .have a1:aBD=none:=a1;subst a1;exact ⟨C,g,A,h.R2 hi (λv hv=>by cases hv) λ_=>a3,lK.refl _ _⟩
theorem bG.start(h:bG N B D G C g A)(id):eM N B D G g A (nQ G id).1:=by
 unfold nQ;split
 .exact .refl h
 rename_i hid;have hi:=oA hid;split
 .exact eM.note h.j (lK.refl _ _) rfl
 rename_i hn;have hd:kj (dz (G.mem id.toNat).d) (sY N B D C id.toNat):=(h.j.qY _ hi hn).frame rfl rfl;obtain ⟨bC,g',bK,a,b⟩:=h.j.aQD hi hd;exact eM.note a b rfl
theorem a43(cH:N*(D+90)<=1048576):∀ (k:Nat) {G:aa} {C:cJ} {g:fK} {A:Int->Nat->Nat},bG N B D G C g A->eM N B D G g A (rQ k G).1
 | 0,_,_,_,_,h=>.refl h
 | k+1,G,_,_,_,h=>by
  unfold rQ;split
  .exact .refl h
  .exact (h.rP cH 0).then λbC g' bK h'=>a43 cH k h'
theorem bG.settle(h:bG N B D G C g A)(cH:N*(D+90)<=1048576)(id most):eM N (B+1) D G g A (eJ G id most).1:=by
 unfold eJ;exact (h.tick cH id).then λbC g' bK h'=>a43 cH _ h'
theorem Cc(i):∃ u,(lT i).up=some u/\iR (lT i).d u/\u.r=fR i 0 (-1) []/\gl (lT i).d:=by
 have ho:=RG (id:=i) a3t;have hf:=ho.iu aHs;rcases ho.or with ⟨u,a1,a2,a3,a4,a5,a6,a7⟩|⟨a1,a2,a3⟩
 .refine ⟨u,a1,a3,?_,hf.1⟩;rw [a4,a5,a6,a7]
 .have:=hf.2;omega
theorem Uv:bG 0 0 D iU EW LL λ_ _=>0:=by
 refine ⟨⟨aQ0,aHC,λj hj x hx=>(by cases hx),λm hm=>(by cases hm),λi hi u hu=>?_,λi hi hn=>?_,λp hp=>(by cases hp),Nat.zero_le _,[],0,rfl,.inl rfl⟩,λi hi u hu=>?_⟩
 .obtain ⟨v,h1,h2,h3,_⟩:=Cc i;have hu:(lT i).up=some u:=hu;rw [h1] at hu;cases hu;exact ⟨h3,h2⟩
 .obtain ⟨v,h1,_⟩:=Cc i;have hn:(lT i).up=none:=hn;rw [h1] at hn;cases hn
 .obtain ⟨v,h1,h2,h3,_⟩:=Cc i;have hu:(lT i).up=some u:=hu;rw [h1] at hu;cases hu;rw [h3];exact Nat.zero_le _
theorem aAa(h:jC N B D G C g A){t p}(hc:zW g A t p)(hi:i<3)(hp:p<=A t i)(oO:1<=p):dB g t p (tq (G.mem i).d):=by
 have at_:∀ {C:cJ} {g:fK} {A:Int->Nat->Nat},c8 C g A->zW g A t p->p<=A t i->dB g t p (C.nd i).rep.log:=λhs hc hp=>by
  rcases hs.q5 t i p hi oO hp with q|⟨u,q1,bP,gC,jK⟩
  .exact q
  .exact absurd (hs.Qy hc q1 gC) jK
 cases hu:(G.mem i).up with
 | some u =>
  obtain ⟨e,cn⟩:=h.up i hi u hu;rw [aAZ cn,e];exact at_ h.s hc hp
 | none =>
  obtain ⟨t',v,aL6⟩:=ZC (h.qY i hi hu);obtain ⟨bC,g',bK,jT⟩:=RP h.s hi aL6.1;have:=at_ jT.s (hc.ext jT.uQ.ext jT.uQ.a) (Nat.le_trans hp (jT.uQ.a t i));rw [jT.rep] at this;exact (dB.ext jT.uQ.ext hc.1.2.1).1 this
theorem aQU(h:jC N B D G C g A):∃ a b,a<3/\b<3/\a≠b/\∀ i,(i=a\/i=b)->G.aQ.length<=(tq (G.mem i).d).length/\((tq (G.mem i).d).take G.aQ.length).map aS.data=G.aQ:=by
 obtain ⟨K,s,e,hs⟩:=h.aQ;rcases hs with h0|⟨t,p,hc,_,hn,hk⟩
 .refine ⟨0,1,by decide,by decide,by decide,λi _=>?_⟩;have:K=[]:=List.eq_nil_of_length_eq_zero h0;subst this;rw [e];exact ⟨Nat.zero_le _,rfl⟩
 .obtain ⟨hv,a,b,ha,hb,hab,pa,pb⟩:=hc;refine ⟨a,b,ha,hb,hab,λi hi=>?_⟩;have hst:dB g t p (tq (G.mem i).d):=by
   rcases hi with rfl|rfl
   .exact aAa h ⟨hv,i,b,ha,hb,hab,pa,pb⟩ ha pa hv.1
   .exact aAa h ⟨hv,a,i,ha,hb,hab,pa,pb⟩ hb pb hv.1
  have hst:=hst.less hn;have e1:(tq (G.mem i).d).take K.length=K:=by rw [hst.2,<-hk.2,List.take_length]
  have el:G.aQ.length=K.length:=by rw [e,List.length_map]
  rw [el,e1];exact ⟨hst.1,e.symm⟩
end
section
variable {W w:World}{S:List Own}{Φ:θ}{L:gQ}{G:aa}{i:Nat}
theorem Ji[O Φ]{id}(y:Ctx W w (Ξ L G++S) Φ){K}(hk:∀ w',Ctx W w' (Ξ L G++S) Φ->K (.returned (.int .i64 (mN G id))) w'):
  Γ F.Er #[ε L.gb 0,.int .i64 id] w K:=by
 unfold mN at hk;refine ak (aDG L.gb 0 id (J:=K∘.returned) y λw F y=>γ.intro (λh=>λw F y=>?_) (λh=>?_))
 .rw [if_pos (by simpa using h)] at hk;exact hk w y.left
 .have h:¬ (id<0\/3<=id):=by simpa using h
  rw [if_neg h] at hk;refine ⟨by omega,λw F y=>⟨_,y.get 0 rfl (by rw [Nat.zero_add];exact (ue L G (i:=id.toNat) (k:=3) (by omega) (by decide)).trans rfl),?_⟩⟩;cases hu:(G.mem id.toNat).up with
  | none =>
   rw [hu] at hk;exact γ.intro (λ_=>λw F y=>hk w y.left) (λh=>by cases h)
  | some u =>
   rw [hu] at hk;exact γ.intro (λh=>by cases h) (λ_=>λw F y=>hk w y.left)
theorem Q3(L G F):(Ξ L G++F).Perm (cT L.N G.aD++(ω L.gb (bU L G) :: (uU L G.aQ :: (xR L G++F)))):=by
 have e:Ξ L G++F=ω L.gb (bU L G) :: (cT L.N G.aD++(uU L G.aQ :: (xR L G++F))):=by
  unfold Ξ;simp only [μ,List.cons_append]
 rw [e];exact List.perm_middle.symm
def qv(L:gQ)(fp:Option Addr)(dn:Nat):gQ:={ L with N:=⟨L.N.nb,fp,dn⟩ }
def j7(G:aa)(n:pW):aa:={ G with aD:=n }
theorem Ux(L G fp dn n F):(cT ⟨L.N.nb,fp,dn⟩ n++(ω L.gb (bU L G) :: (uU L G.aQ :: (xR L G++F)))).Perm (Ξ (qv L fp dn) (j7 G n)++F):=(Q3 (qv L fp dn) (j7 G n) F).symm
theorem aOZ(G i a b):ay (ay G i a) i b=ay G i b:=by
 unfold ay;rw [Y1]
def zw(H:aa)(i:Nat)(u:kz)(o:fN):aa × Int :=
 let s:=ck (H.mem i).d u o
 if s.2.2=0 then (ek (j7 (ay H i ⟨s.1,some s.2.1⟩) (n8 i H.aD o.send)),0) else (ek (ay H i ⟨s.1,none⟩),s.2.2)
theorem aHj(G i u x):mA G i u x=zw (ay G i ⟨(G.mem i).d,some { u with r:=x.1 }⟩) i { u with r:=x.1 } x.2:=by
 unfold mA zw;have e:((ay G i ⟨(G.mem i).d,some { u with r:=x.1 }⟩).mem i).d=(G.mem i).d:=by show (put G.mem i _ i).d=_;rw [cF]
 rw [e];simp only [aOZ];rfl
structure a2B(l:List aH):Prop where
 msg:∀ a∈l,uH a/\a.ζ.length<=1000000
theorem a8i(R J D:List Own)(c T):((R++(J++(D++[c])))++T).Perm (J++(D++(c :: (R++T)))):=by
 have e:(R++(J++(D++[c])))++T=R++((J++(D++[c]))++T):=by simp only [μ]
 rw [e];refine (List.perm_append_comm_assoc _ _ _).trans ?_;simp only [μ,List.cons_append,List.nil_append];exact .refl _
theorem Yn(id):∀ (l:List aH) (n:pW),n.aI.length<=500->(n8 id n l).aI.length<=500
 | [],n,h=>h
 | a :: l,n,h=>by
  have hn:(o7 n id a.to (bs (j5 a))).1.aI.length<=500:=by
   unfold o7;split
   .exact h
   split
   .exact h
   split
   .exact h
   .show (n.aI++[_]).length<=500;rw [List.length_append,List.length_singleton];omega
  exact Yn id l _ hn
theorem a7T(G):(ek G).mem=G.mem/\(ek G).aD=G.aD:=by
 unfold ek;have h0:=wA G 0;have h1:=wA (gZ G 0) 1;have h2:=wA (gZ (gZ G 0) 1) 2;exact ⟨h2.1.trans (h1.1.trans h0.1),h2.2.trans (h1.2.trans h0.2)⟩
theorem bf.note(h:bf Φ L G)(cp cc):bf Φ (mc L cp cc) (ek G):=⟨λi hi=>by rw [(a7T G).1];exact h.mem i hi,by rw [(a7T G).2];exact h.jx⟩
end
section
variable {W w:World}{S:List Own}{Φ:θ}{L:gQ}{G:aa}{i:Nat}
theorem aEu[O Φ](hoff:∀ M w,Φ M w->jO M w)(hT:∀ M w,Φ M w->lu M w)(hF:bf Φ L G)(hi:i<3){u}(hu:(G.mem i).up=some u){o p1 p2 c1 c2}(hb:P8 u o)(bp:∀ M w,Φ M w->Δ M w p1 o.ζ)(y:Ctx W w (Ξ L G++S) Φ){K}(h0:∀ P' w',(ck (G.mem i).d u o).2.2=0->(∀ aV:θ,gk aV (L.P i).q (G.mem i).d->rF aV P' ⟨(ck (G.mem i).d u o).1,some (ck (G.mem i).d u o).2.1⟩)->Ctx W w' (Ξ (fS L i P') (ay G i ⟨(ck (G.mem i).d u o).1,some (ck (G.mem i).d u o).2.1⟩)++S) Φ->K (.returned (.int .i64 0)) w')(h1:∀ P' w',(ck (G.mem i).d u o).2.2≠0->(∀ aV:θ,gk aV (L.P i).q (G.mem i).d->rF aV P' ⟨(ck (G.mem i).d u o).1,none⟩)->Ctx W w' (Ξ (fS L i P') (ay G i ⟨(ck (G.mem i).d u o).1,none⟩)++S) Φ->K (.returned (.int .i64 (ck (G.mem i).d u o).2.2)) w'):
  Γ F.QD #[.pointer (some ⟨L.gb,i*4,none⟩),wB o p1 c1 p2 c2] w K:=by
 have hm:=hF.mem i hi;have em:dX (L.P i) (G.mem i)=Θ (L.P i).rb u.r (L.P i).rp (L.P i).rc++(aL (L.P i).x (L.P i).q u.j++(ξ (L.P i).q (G.mem i).d++[aP (L.P i).cb (L.P i).q u.c])):=by unfold dX;rw [hu];rfl
 have F5:(G.mem i).up.isSome=true:=by rw [hu];rfl
 have vo:(bU L G)[i*4+1]? = some (pA (L.P i).x.ax):=by rw [ue L G hi (by decide),F5];rfl
 have iV:(bU L G)[i*4+2]? = some (pA (L.P i).cb):=by rw [ue L G hi (by decide),F5];rfl
 have pm:=LP L G hi S;rw [em] at pm;have ps:=(a8i (Θ (L.P i).rb u.r (L.P i).rp (L.P i).rc) (aL (L.P i).x (L.P i).q u.j) (ξ (L.P i).q (G.mem i).d) (aP (L.P i).cb (L.P i).q u.c) (n6 L G i++S));have mC:(ck (G.mem i).d u o).2.1.r=u.r:=by unfold ck;simp only;split<;>rfl
 refine aQT (gb:=L.gb) (mO:=i*4) (cb:=(L.P i).cb) (cs:=bU L G) (q:=(L.P i).q) (d:=(G.mem i).d) (x:=(L.P i).x) (u:=u) (o:=o) (S:=Θ (L.P i).rb u.r (L.P i).rp (L.P i).rc++(n6 L G i++S)) hoff hT (by rw [Uw];omega) vo iV hm.dq hm.dk (hm.sb u hu) hb bp (y.perm (pm.trans (ps.cons _))) λv p c FX w hsb hq k3 y=>?_;obtain ⟨⟨d1,u1,e1⟩,hs⟩:∃ s,ck (G.mem i).d u o=s:=⟨_,rfl⟩;rw [hs] at hsb hq k3 y h0 h1 mC ⊢;simp only at hsb hq k3 y h0 h1 mC ⊢
 by_cases he:e1=0
 .subst he;rw [if_pos rfl] at y;have hP:∀ aV:θ,gk aV (L.P i).q (G.mem i).d->rF aV ⟨(L.P i).q.mv v,(L.P i).x.mv p c FX,(L.P i).cb,(L.P i).rb,(L.P i).rp,(L.P i).rc⟩ ⟨d1,some u1⟩:=λaV hd=>⟨hq,hd.of k3 v,λu2 h2=>by cases h2;exact hsb⟩;refine h0 _ w rfl hP ?_;have bL:=LN (L:=L) (G:=G) (i:=i) (P:=⟨(L.P i).q.mv v,(L.P i).x.mv p c FX,(L.P i).cb,(L.P i).rb,(L.P i).rp,(L.P i).rc⟩) (m:=⟨d1,some u1⟩) rfl rfl rfl rfl (by rw [F5];rfl) hi
  refine y.perm (List.Perm.trans ?_ (Q2 (L:=L) (G:=G) ⟨(L.P i).q.mv v,(L.P i).x.mv p c FX,(L.P i).cb,(L.P i).rb,(L.P i).rp,(L.P i).rc⟩ ⟨d1,some u1⟩ hi S));rw [<-bL];refine .cons _ ?_;have ps2:=(a8i (Θ (L.P i).rb u.r (L.P i).rp (L.P i).rc) (aL ((L.P i).x.mv p c FX) (L.P i).q u1.j) (ξ ((L.P i).q.mv v) d1) (aP (L.P i).cb (L.P i).q u1.c) (n6 L G i++S)).symm;rw [<-mC] at ps2 ⊢;exact ps2
 .rw [if_neg he] at y;have hP:∀ aV:θ,gk aV (L.P i).q (G.mem i).d->rF aV ⟨(L.P i).q.mv v,(L.P i).x,(L.P i).cb,(L.P i).rb,(L.P i).rp,(L.P i).rc⟩ ⟨d1,none⟩:=λaV hd=>⟨hq,hd.of k3 v,λu2 h2=>by cases h2⟩;refine h1 _ w he hP ?_;have bL:=a4l (L:=L) (G:=G) (i:=i) (P:=⟨(L.P i).q.mv v,(L.P i).x,(L.P i).cb,(L.P i).rb,(L.P i).rp,(L.P i).rc⟩) (d:=d1) rfl hi;have c5:Ctx W w (ω L.gb (wF (bU L G) (i*4)) :: (ξ ((L.P i).q.mv v) d1++(n6 L G i++S))) Φ:=by
   refine y.sub (.cons_cons _ (List.Sublist.trans ?_ (List.sublist_append_right _ _)));exact List.Sublist.append_left (((List.sublist_append_right _ _)).cons _) _
  rw [bL] at c5;exact c5.perm (Q2 (L:=L) (G:=G) ⟨(L.P i).q.mv v,(L.P i).x,(L.P i).cb,(L.P i).rb,(L.P i).rp,(L.P i).rc⟩ ⟨d1,none⟩ hi S)
theorem aPp(id n l a):n8 id n (l++[a])=(o7 (n8 id n l) id a.to (bs (j5 a))).1:=by unfold n8;rw [List.foldl_append];rfl
theorem aEp[O Φ](hoff:∀ M w,Φ M w->jO M w)(hT:∀ M w,Φ M w->lu M w)(hF:bf Φ L G)(hi:i<3){u}(hu:(G.mem i).up=some u){o p1 p2 c1 c2}(hb:P8 u o)(l7:a2B o.send)(hok:∀ j,j<3->∀ v,(G.mem j).up=some v->v.r.bA)(hlen:o.send.length<=1000000)(bp:∀ M w,Φ M w->Δ M w p1 o.ζ)(W0:∀ M w,Φ M w->Δ M w p2 o.send)(y:Ctx W w (Ξ L G++S) Φ){K}(hk:∀ L' w',L'.gb=L.gb->(∀ aV:θ,bf aV L G->bf aV L' (zw G i u o).1)->Ctx W w' (Ξ L' (zw G i u o).1++S) Φ->K (.returned (.int .i64 (zw G i u o).2)) w'):
  Γ F.LW #[ε L.gb 0,.int .i64 (i:Int),wB o p1 c1 p2 c2] w K:=by
 obtain ⟨pb,po,a8f,Hr,cp⟩:=y.RQ (W0 _ _ y.cy);obtain ⟨Ψ,nF⟩:∃ Ψ:θ,Ψ=λM w=>Φ M w/\rH pb po a8f o.send M w:=⟨_,rfl⟩
 haveI:O Ψ:=by rw [nF];infer_instance
 have hw1:∀ M w,Ψ M w->Φ M w:=by rw [nF];exact λM w h=>h.1
 have dw:∀ M w,Ψ M w->rH pb po a8f o.send M w:=by rw [nF];exact λM w h=>h.2
 rw [<-nF] at cp;have a5Y:∀ (az:gQ) (av:aa),av.mem=G.mem\/(∃ m:rG,av.mem=(ay G i m).mem/\∀ v,m.up=some v->v.r=u.r)->∀ j,j<3->∀ v,(av.mem j).up=some v->v.r.bA:=λaz av h j hj v hv=>by
  rcases h with e|⟨m,e,hr⟩
  .rw [e] at hv;exact hok j hj v hv
  .rw [e] at hv;by_cases hij:j=i
   .subst hij;have e2:(ay G j m).mem j=m:=cF _ _ _;rw [e2] at hv;rw [hr v hv];exact hok j hj u hu
   .have e2:(ay G i m).mem j=G.mem j:=dD _ _ hij;rw [e2] at hv;exact hok j hj v hv
 have mC:(ck (G.mem i).d u o).2.1.r=u.r:=by unfold ck;simp only;split<;>rfl
 refine ak (aDC L.gb 0 (i:Int) o.save o.term o.ρ o.src p1 o.ζ.length c1 p2 o.send.length c2 (J:=K∘.returned) cp λ_=>?_);refine ⟨[],lE,δ,λw F y=>(Ctx.right y).weak λ_ _ _=>trivial,by omega,λw F y=>?_⟩;rw [Nat.zero_add,Int.toNat_natCast];rw [μ] at y;refine aEu (L:=L) (G:=G) (i:=i) (S:=S++F) (λM w h=>hoff M w (hw1 M w h)) (λM w h=>hT M w (hw1 M w h)) (hF.weak hw1) hi hu hb (λM w h=>bp M w (hw1 M w h)) y (λP' w he hP y=>?_) (λP' w he hP y=>?_)
 rotate_left 1
 ·-- storing fails
  have UY:zw G i u o=(ek (ay G i ⟨(ck (G.mem i).d u o).1,none⟩),(ck (G.mem i).d u o).2.2):=by unfold zw;simp only;rw [if_neg he]
  rw [UY] at hk;refine ⟨_,rfl,Ξ (fS L i P') (ay G i ⟨(ck (G.mem i).d u o).1,none⟩)++S,Ψ,δ,by rw [μ];exact y,γ.intro (λh=>absurd (aN h) he) (λ_=>λw F y=>?_)⟩;rw [μ] at y;refine Sq (L:=fS L i P') (a5Y (fS L i P') _ (.inr ⟨_,rfl,λv hv=>by cases hv⟩)) y λcp cc w y=>⟨rfl,Ξ (mc (fS L i P') cp cc) (ek (ay G i ⟨(ck (G.mem i).d u o).1,none⟩))++S,Ψ,δ,by rw [μ];exact y,λw F y=>?_⟩;exact hk (mc (fS L i P') cp cc) w rfl (λaV h=>bf.note (h.put (hP aV (h.mem i hi).dk)) cp cc) (y.left.weak hw1)
 ·-- the messages are sent
  obtain ⟨az,iI⟩:∃ az,fS L i P'=az:=⟨_,rfl⟩;obtain ⟨av,wu⟩:∃ av,ay G i ⟨(ck (G.mem i).d u o).1,some (ck (G.mem i).d u o).2.1⟩=av:=⟨_,rfl⟩;have tD:∀ aV:θ,bf aV L G->bf aV az av:=λaV h=>by rw [<-iI,<-wu];exact h.put (hP aV (h.mem i hi).dk)
  have hgb:az.gb=L.gb:=by rw [<-iI];rfl
  have aKu:av.aD=G.aD:=by rw [<-wu];rfl
  have UY:zw G i u o=(ek (j7 av (n8 i av.aD o.send)),0):=by unfold zw;simp only;rw [if_pos he,wu,aKu]
  rw [iI,wu] at y;rw [UY] at hk;have aKn:∀ j,j<3->∀ v,(av.mem j).up=some v->v.r.bA:=a5Y az av (.inr ⟨⟨(ck (G.mem i).d u o).1,some (ck (G.mem i).d u o).2.1⟩,by rw [<-wu],λv hv=>by cases hv;exact mC⟩);refine ⟨0,rfl,Ξ az av++S,Ψ,δ,by rw [μ];exact y,γ.intro (λ_=>?_) (λh=>absurd rfl (Λ h))⟩;refine fD (λfH R' aV bY=>∃ (j:Nat) (fp:Option Addr) (dn:Nat),fH=j/\j<=o.send.length/\bY=o.send.length - j/\aV=Ψ/\R'=Ξ (qv az fp dn) (j7 av (n8 i av.aD (o.send.take j)))++S) ⟨⟨_,Ψ,_,δ,λw G y=>y,0,az.N.fp,az.N.dn,rfl,Nat.zero_le _,rfl,rfl,by rw [List.take_zero];rfl⟩,?_⟩
  rintro fH aW aV bY _ ⟨j,fp,dn,rfl,hj,rfl,rfl,rfl⟩;refine γ.intro (λhlt=>?_) (λhge=>λw F y=>?_)
  .have hlt:j<o.send.length:=by have:=aN hlt;omega
   obtain ⟨mp,a6x,hp,gx,uk,hmo⟩:=aOE (dw _ _ y.cy) hlt;have a5X:=l7.msg _ (List.getElem_mem hlt);refine ⟨by omega,eu pb po (Hr (by omega)) λw F y=>⟨_,_,_,_,_,_,_,_,mp,_,a6x,by rw [Int.toNat_natCast];exact aOF (dw _ _ y.cy) hlt hp,λ_=>?_⟩⟩;obtain ⟨n0,hn0⟩:∃ n0,n8 i av.aD (o.send.take j)=n0:=⟨_,rfl⟩;rw [hn0] at y ⊢;have hl0:n0.aI.length<=500:=by rw [<-hn0];exact Yn i _ _ (tD Φ hF).jx
   have Iy:∀ Y:List Own,List.Sublist [ω az.gb (bU (qv az fp dn) (j7 av n0))] (Ξ (qv az fp dn) (j7 av n0)++Y):=λY=>.cons_cons _ (List.nil_sublist _);refine ⟨[ω az.gb (bU (qv az fp dn) (j7 av n0))],lE,δ,λw G y=>dS y (Iy S),some ⟨az.N.nb,0,none⟩,λw G y=>⟨_,by rw [<-hgb];exact y.get 0 rfl rfl,rfl⟩,λw F y=>?_⟩;refine (a0m (Φ:=aV) (m:=o.send[j]) (p:=mp) (c:=a6x) (λM w h=>hT M w (hw1 M w h)) (λM w h=>aOG (dw M w h) hlt hp) a5X.1 a5X.2).use y λw y=>⟨_,rfl,_,aV,δ,y,λw G y=>dS y (Iy S),λw F y=>?_⟩
   rw [μ] at y;refine aFN (N:=⟨az.N.nb,fp,dn⟩) (n:=n0) hl0 (y.perm (Q3 (qv az fp dn) (j7 av n0) (S++F))) λUq Um w y=>⟨_,rfl,Ξ (qv az Uq Um) (j7 av (o7 n0 i o.send[j].to (bs (j5 o.send[j]))).1)++S,aV,δ,by
    rw [μ];exact y.perm (Ux (qv az fp dn) (j7 av n0) Uq Um (o7 n0 i o.send[j].to (bs (j5 o.send[j]))).1 (S++F)),by unfold κ;omega,_,aV,_,δ,λw G y=>y,⟨j+1,Uq,Um,by omega,by omega,rfl,rfl,by rw [List.take_succ_eq_append_getElem hlt,aPp,hn0]⟩,by omega⟩
  .have Va:j=o.send.length:=by have:=Λ hge;omega
   subst Va;rw [List.take_length,μ] at y;rw [<-hgb];refine Sq (L:=qv az fp dn) (G:=j7 av (n8 i av.aD o.send)) aKn y λcp cc w y=>⟨rfl,Ξ (mc (qv az fp dn) cp cc) (ek (j7 av (n8 i av.aD o.send)))++S,aV,δ,by rw [μ];exact y,λw F y=>?_⟩;refine hk (mc (qv az fp dn) cp cc) w hgb (λaV h=>bf.note (L:=qv az fp dn) (G:=j7 av (n8 i av.aD o.send)) ⟨(tD aV h).mem,Yn i _ _ (tD aV h).jx⟩ cp cc) (y.left.weak hw1)
end
section
variable {W w:World}{S:List Own}{Φ:θ}{L:gQ}{G:aa}{i:Nat}
theorem Rd(L G i u A F):r5 L G i u (A++F)=r5 L G i u A++F:=by
 have e:∀ (a:Own) (X R A F:List Own),a :: (X++(R++(A++F)))=(a :: (X++(R++A)))++F:=by intros;simp only [μ,List.cons_append]
 exact e _ _ _ _ _
theorem a9S(hi:i<3){u}(hu:(G.mem i).up=some u)(r p c F):
  (Θ (L.P i).rb r p c++r5 L G i u F).Perm (Ξ (fS L i { L.P i with rp:=p,rc:=c }) (ay G i ⟨(G.mem i).d,some { u with r:=r }⟩)++F):=by
 refine List.Perm.trans ?_ (Q2 (L:=L) (G:=G) { L.P i with rp:=p,rc:=c } ⟨(G.mem i).d,some { u with r:=r }⟩ hi F);have bL:=LN (L:=L) (G:=G) (i:=i) (P:={ L.P i with rp:=p,rc:=c }) (m:=⟨(G.mem i).d,some { u with r:=r }⟩) rfl rfl rfl rfl (by rw [hu];rfl) hi;rw [<-bL];refine List.perm_middle.trans (.cons _ ?_);show (Θ (L.P i).rb r p c++((aL (L.P i).x (L.P i).q u.j++(ξ (L.P i).q (G.mem i).d++[aP (L.P i).cb (L.P i).q u.c]))++(n6 L G i++F))).Perm ((Θ (L.P i).rb r p c++(aL (L.P i).x (L.P i).q u.j++(ξ (L.P i).q (G.mem i).d++[aP (L.P i).cb (L.P i).q u.c])))++(n6 L G i++F))
 rw [μ (Θ (L.P i).rb r p c)]
structure yK(u:kz)(x:aG × fN):Prop where
 J8:P8 { u with r:=x.1 } x.2
 snd:a2B x.2.send
 len:x.2.send.length<=1000000
 ok:x.1.bA
def oG(G:aa):Prop:=∀ j,j<3->∀ v,(G.mem j).up=some v->v.r.bA
theorem oG.put(h:oG G){m}(hm:∀ v,m.up=some v->v.r.bA):oG (ay G i m):=λj hj v hv=>by
 by_cases e:j=i
 .subst e;have e2:(ay G j m).mem j=m:=cF _ _ _;rw [e2] at hv;exact hm v hv
 .have e2:(ay G i m).mem j=G.mem j:=dD _ _ e;rw [e2] at hv;exact h j hj v hv
theorem a18[O Φ](hoff:∀ M w,Φ M w->jO M w)(hT:∀ M w,Φ M w->lu M w)(hF:bf Φ L G)(hi:i<3){u}(hu:(G.mem i).up=some u)(x)(hx:yK u x)(hok:oG G){q1 bP c1 c2 p c}(y:Ctx W w (Θ (L.P i).rb x.1 p c++r5 L G i u S) (zc Φ q1 x.2.ζ bP x.2.send)){K}(hk:∀ L' w',L'.gb=L.gb->(∀ aV:θ,bf aV L G->bf aV L' (mA G i u x).1)->Ctx W w' (Ξ L' (mA G i u x).1++S) Φ->K (.returned (.int .i64 (mA G i u x).2)) w'):
  Γ F.LW #[ε L.gb 0,.int .i64 (i:Int),wB x.2 q1 c1 bP c2] w K:=by
 have hw1:∀ M w,zc Φ q1 x.2.ζ bP x.2.send M w->Φ M w:=λM w h=>h.1;have hput:∀ aV:θ,bf aV L G->bf aV (fS L i { L.P i with rp:=p,rc:=c }) (ay G i ⟨(G.mem i).d,some { u with r:=x.1 }⟩):=λaV h=>h.put ⟨(h.mem i hi).dq,(h.mem i hi).dk,λv hv=>by cases hv;exact (h.mem i hi).sb u hu⟩;have bF:((ay G i ⟨(G.mem i).d,some { u with r:=x.1 }⟩).mem i).up=some { u with r:=x.1 }:=by show (put G.mem i _ i).up=_;rw [cF]
 rw [aHj] at hk;refine aEp (L:=fS L i { L.P i with rp:=p,rc:=c }) (G:=ay G i ⟨(G.mem i).d,some { u with r:=x.1 }⟩) (i:=i) (S:=S) (λM w h=>hoff M w (hw1 M w h)) (λM w h=>hT M w (hw1 M w h)) ((hput Φ hF).weak hw1) hi bF hx.J8 hx.snd (hok.put λv hv=>by cases hv;exact hx.ok) hx.len (λM w h=>h.2.1) (λM w h=>h.2.2) (y.perm (a9S hi hu x.1 p c S)) λL' w hgb hg y=>?_;exact hk L' w hgb (λaV h=>hg aV (hput aV h)) (y.weak hw1)
theorem a19[O Φ](hoff:∀ M w,Φ M w->jO M w)(hT:∀ M w,Φ M w->lu M w)(hF:bf Φ L G)(hok:oG G){id fF fC f Z}(hx:∀ u,¬ (id<0\/3<=id)->(G.mem id.toNat).up=some u->yK u (f u.r))(hf:nx prog fF=true)(Lq:∀ u,¬ (id<0\/3<=id)->(G.mem id.toNat).up=some u->∀ {W w:World} {T:List Own} {b:Nat} {p:Option Addr} {c:Nat} {K:Dn},Ctx W w (Θ b u.r p c++(Z++T)) Φ->pX W (Z++T) Φ b (f u.r).1 (f u.r).2 (λv w=>K (.returned v) w)->Calls prog fF (Array.mk (.pointer (some ⟨b,0,none⟩) :: fC.toList)) w K)(y:Ctx W w (Ξ L G++(Z++S)) Φ){K}(hk:∀ L' w',L'.gb=L.gb->(∀ aV:θ,bf aV L G->bf aV L' (qF G id f).1)->Ctx W w' (Ξ L' (qF G id f).1++(Z++S)) Φ->K (.returned (.int .i64 (qF G id f).2)) w'):
  Γ F.Q8 #[ε L.gb 0,.int .i64 id,.func (.func fF) #[] fC] w K:=by
 unfold qF at hk;refine ak (aDF L.gb 0 id fF fC (J:=K∘.returned) y λw F y=>?_);rw [μ] at y;refine Ji y λw y=>⟨_,rfl,Ξ L G++(Z++S),Φ,δ,by rw [μ];exact y,?_⟩;unfold mN;by_cases hid:id<0\/3<=id
 .rw [if_pos hid] at hk ⊢;exact γ.intro (λ_=>λw F y=>hk L w rfl (λ_ h=>h) y.left) (λh=>absurd (Λ h) (by decide))
 rw [if_neg hid] at hk ⊢;cases hu:(G.mem id.toNat).up with
 | none =>
  rw [hu] at hk;exact γ.intro (λ_=>λw F y=>hk L w rfl (λ_ h=>h) y.left) (λh=>absurd (Λ h) (by decide))
 | some u =>
  rw [hu] at hk;simp only at hk;have hi:id.toNat<3:=by omega
  obtain ⟨i,rfl⟩:∃ i:Nat,id=i:=⟨id.toNat,by omega⟩;rw [Int.toNat_natCast] at hu hi hk ⊢;refine γ.intro (λh=>absurd rfl (aN h)) (λ_=>⟨by omega,λw F y=>⟨some ⟨(L.P i).rb,0,none⟩,y.get 0 rfl (by rw [Nat.zero_add,ue L G hi (by decide),hu];rfl),λw F y=>⟨hf,?_⟩⟩⟩);rw [μ] at y;have a8p:∀ F:List Own,(r5 L G i u ((Z++S)++F)).Perm (Z++r5 L G i u (S++F)):=λF=>by
   show (ω L.gb (bU L G) :: (_++(n6 L G i++((Z++S)++F)))).Perm _;have e1:ω L.gb (bU L G) :: ((aL (L.P i).x (L.P i).q u.j++(ξ (L.P i).q (G.mem i).d++[aP (L.P i).cb (L.P i).q u.c]))++(n6 L G i++((Z++S)++F)))=(ω L.gb (bU L G) :: ((aL (L.P i).x (L.P i).q u.j++(ξ (L.P i).q (G.mem i).d++[aP (L.P i).cb (L.P i).q u.c]))++n6 L G i))++(Z++(S++F)):=by simp only [μ,List.cons_append]
   rw [e1];refine (List.perm_append_comm_assoc _ _ _).trans ?_;simp only [μ,List.cons_append];exact .refl _
  have c1:Ctx W w (Θ (L.P i).rb u.r (L.P i).rp (L.P i).rc++(Z++r5 L G i u (S++F))) Φ:=y.perm ((Eo hi hu ((Z++S)++F)).trans ((a8p F).append_left _));refine Lq u hid (by rw [Int.toNat_natCast];exact hu) c1 λp' c' q1 c1 bP c2 w _ _ _ _ y=>?_;have c2:Ctx W w (Θ (L.P i).rb (f u.r).1 p' c'++r5 L G i u ((Z++S)++F)) (zc Φ q1 (f u.r).2.ζ bP (f u.r).2.send):=y.perm ((a8p F).symm.append_left _);have bz:∀ F:List Own,Θ (L.P i).rb (f u.r).1 p' c'++r5 L G i u ((Z++S)++F)=(Θ (L.P i).rb (f u.r).1 p' c'++r5 L G i u (Z++S))++F:=λF=>by
   have eX:r5 L G i u ((Z++S)++F)=r5 L G i u (Z++S)++F:=Rd _ _ _ _ _ _;rw [eX,<-μ (Θ _ _ _ _)]
  refine ⟨_,_,_,_,_,_,_,_,_,_,rfl,Θ (L.P i).rb (f u.r).1 p' c'++r5 L G i u (Z++S),_,δ,by rw [<-bz];exact c2,λw F y=>?_⟩;rw [<-bz] at y;refine a18 hoff hT hF hi hu (f u.r) (hx u hid (by rw [Int.toNat_natCast];exact hu)) hok (S:=(Z++S)++F) y λL' w hgb hg y=>⟨_,rfl,Ξ L' (mA G i u (f u.r)).1++(Z++S),Φ,δ,by rw [μ];exact y,λw F y=>hk L' w hgb hg y.left⟩
end
section
variable {W w:World}{S:List Own}{Φ:θ}{L:gQ}{G:aa}{i:Nat}
theorem a17[O Φ](hoff:∀ M w,Φ M w->jO M w)(hT:∀ M w,Φ M w->lu M w)(hF:bf Φ L G)(hok:oG G){id}(hx:∀ u:kz,¬ (id<0\/3<=id)->(G.mem id.toNat).up=some u->yK u (cr u.r))(y:Ctx W w (Ξ L G++S) Φ){K}(hk:∀ L' w',L'.gb=L.gb->(∀ aV:θ,bf aV L G->bf aV L' (r9 G id).1)->Ctx W w' (Ξ L' (r9 G id).1++S) Φ->K (.returned (.int .i64 (r9 G id).2)) w'):
  Γ F.Q7 #[ε L.gb 0,.int .i64 id] w K:=by
 refine ak (aDA L.gb 0 id (J:=K∘.returned) y λw Y y=>?_);rw [μ] at y;refine a19 (Z:=[]) (fF:=F.YR) (fC:=#[]) (f:=cr) hoff hT hF hok hx (by kernel_rfl) (λu hid hu {_ _ _ _ _ _ _} y hK=>aGI y (hok _ (by omega) u hu) hK) y λL' w hgb hg y=>⟨_,rfl,Ξ L' (r9 G id).1++S,Φ,δ,by rw [μ];exact y,λw Y y=>hk L' w hgb hg y.left⟩
theorem OY[O Φ](hoff:∀ M w,Φ M w->jO M w)(hT:∀ M w,Φ M w->lu M w)(hF:bf Φ L G)(hok:oG G){id data}(hx:∀ u:kz,¬ (id<0\/3<=id)->(G.mem id.toNat).up=some u->(u.r.role=2->1<=u.r.term)/\yK u ((aq u.r data).1,(aq u.r data).2.2.2))(hsame:∀ u:kz,(aq u.r data).2.2.1≠0->(aq u.r data).1=u.r)(y:Ctx W w (Ξ L G++S) Φ){K}(hk:∀ L' w',L'.gb=L.gb->(∀ aV:θ,bf aV L G->bf aV L' (iL G id data).1)->Ctx W w' (Ξ L' (iL G id data).1++S) Φ->K (.returned (.tuple #[.int .i64 (iL G id data).2.1,.int .i64 (iL G id data).2.2])) w'):
  Γ F.C8 #[ε L.gb 0,.int .i64 id,.string data] w K:=by
 unfold iL at hk;refine ak (aD2 L.gb 0 id data (J:=K∘.returned) y λw Y y=>?_);rw [μ] at y;refine Ji y λw y=>⟨_,rfl,Ξ L G++S,Φ,δ,by rw [μ];exact y,?_⟩;unfold mN;by_cases hid:id<0\/3<=id
 .rw [if_pos hid] at hk ⊢;exact γ.intro (λ_=>λw Y y=>hk L w rfl (λ_ h=>h) y.left) (λh=>absurd (Λ h) (by decide))
 rw [if_neg hid] at hk ⊢;cases hu:(G.mem id.toNat).up with
 | none =>
  rw [hu] at hk;exact γ.intro (λ_=>λw Y y=>hk L w rfl (λ_ h=>h) y.left) (λh=>absurd (Λ h) (by decide))
 | some u =>
  rw [hu] at hk;simp only at hk;have hi:id.toNat<3:=by omega
  obtain ⟨i,rfl⟩:∃ i:Nat,id=i:=⟨id.toNat,by omega⟩;obtain ⟨hx1,hx2⟩:=hx u hid hu;rw [Int.toNat_natCast] at hu hi hk ⊢;refine γ.intro (λh=>absurd rfl (aN h)) (λ_=>⟨by omega,λw Y y=>⟨some ⟨(L.P i).rb,0,none⟩,y.get 0 rfl (by rw [Nat.zero_add,ue L G hi (by decide),hu];rfl),λw Y y=>?_⟩⟩);rw [μ] at y;refine aFY (y.perm (Eo hi hu (S++Y))) (hok i hi u hu) hx1 data λp' c' q1 c1 bP c2 w _ _ _ _ y=>?_;obtain ⟨P,hP⟩:∃ P,aq u.r data=P:=⟨_,rfl⟩
  have F5:=hsame u;rw [hP] at y hk hx2 F5 ⊢;refine ⟨_,_,_,_,_,_,_,_,_,_,_,_,rfl,Θ (L.P i).rb P.1 p' c'++r5 L G i u S,_,δ,by rw [μ,<-Rd];exact y,λ_=>γ.intro (λh=>λw Y y=>?_) (λh=>γ.intro (λ_=>λw Y y=>?_) (λh2=>absurd (Decidable.not_not.1 (Λ h2)) (Λ h) ))⟩
  .have h0:P.2.2.1=0:=aN h;rw [if_neg (by simp [h0])] at hk;rw [μ,<-Rd] at y;refine a18 hoff hT hF hi hu (P.1,P.2.2.2) hx2 hok (S:=S++Y) y λL' w hgb hg y=>⟨_,rfl,Ξ L' (mA G i u (P.1,P.2.2.2)).1++S,Φ,δ,by rw [μ];exact y,γ.intro (λh=>λw Y y=>?_) (λh=>λw Y y=>?_)⟩
   .rw [if_pos (aN h)] at hk;exact hk L' w hgb hg y.left
   .rw [if_neg (Λ h)] at hk;exact hk L' w hgb hg y.left
  .have h0:P.2.2.1≠0:=Λ h;rw [if_pos h0] at hk;rw [μ,<-Rd,F5 h0] at y;have c2:=(y.perm (a9S hi hu u.r p' c' (S++Y))).weak (Ψ:=Φ) λM w h=>h.1;have e1:ay G i ⟨(G.mem i).d,some { u with r:=u.r }⟩=G:=by
    unfold ay;have:(⟨(G.mem i).d,some { u with r:=u.r }⟩:rG)=G.mem i:=by rw [<-hu]
    rw [this,Y0]
   rw [e1] at c2;refine hk (fS L i { L.P i with rp:=p',rc:=c' }) w rfl (λaV h=>?_) (by rw [<-μ] at c2;exact c2.left);have:=h.put (i:=i) (P:={ L.P i with rp:=p',rc:=c' }) (m:=⟨(G.mem i).d,some { u with r:=u.r }⟩) ⟨(h.mem i hi).dq,(h.mem i hi).dk,λv hv=>by cases hv;exact (h.mem i hi).sb u hu⟩;rw [e1] at this;exact this
theorem aEy[O Φ](hN:∀ M w,Φ M w->jt M w){k p m}(hl:p.body.data.toList.length<=1000000)(hm:sB p.body.data.toList=some m)(hmo:m.bA){b r}(hr:r.bA){rp rc T}(y:Ctx W w (Θ b r rp rc++([.blk k (ic p) 100]++T)) Φ){K}(hK:pX W ([.blk k (ic p) 100]++T) Φ b (aU r m).1 (aU r m).2 λv w=>K (.returned v) w):
  Γ F.U' #[ε b 0,ε k 0] w K:=by
 refine ak (aCu b 0 k 0 (J:=K∘.returned) y λ_ w Y y=>⟨p.body,y.get 2 rfl rfl,λw Y y=>?_⟩);have eb:p.body=bs p.body.data.toList:=(aGw _).symm;rw [eb];refine aG6 hN p.body.data.toList hl y (λw h=>by rw [hm] at h;cases h) (λm2 q c w h dw hlen F4 Vt y=>?_);rw [hm] at h;cases h;obtain ⟨Ψ,nF⟩:∃ Ψ:θ,Ψ=λM w=>Φ M w/\Δ M w q m.ζ:=⟨_,rfl⟩
 haveI:O Ψ:=by rw [nF];infer_instance
 have hw1:∀ M w,Ψ M w->Φ M w:=by rw [nF];exact λM w h=>h.1
 have dw:∀ M w,Ψ M w->Δ M w q m.ζ:=by rw [nF];exact λM w h=>h.2
 rw [<-nF] at y;refine ⟨_,_,_,_,_,_,_,_,_,_,_,_,rfl,Θ b r rp rc++([.blk k (ic p) 100]++T),Ψ,δ,y,λ_ w Y y=>?_⟩;rw [μ] at y;refine aEz y hr m hmo q c dw F4 Vt λp' c' q1 c1 bP c2 w b1 b2 b3 b4 y=>⟨_,_,_,_,_,_,_,_,_,_,rfl,Θ b (aU r m).1 p' c'++([.blk k (ic p) 100]++T),zc Ψ q1 (aU r m).2.ζ bP (aU r m).2.send,δ,by rw [μ];exact y,λw Y y=>?_⟩;exact hK p' c' q1 c1 bP c2 w b1 b2 b3 b4 (y.left.weak λM w h=>⟨hw1 M w h.1,h.2⟩)
structure TE(G:aa)(p:rI)(m:aH):Prop where
 read:sB p.body.data.toList=some m
 ok:m.bA
 len:p.body.data.toList.length<=1000000
 Nn:∀ u:kz,¬ (p.to<0\/3<=p.to)->(G.mem p.to.toNat).up=some u->yK u (aU u.r m)
theorem aHf{k}(h:iM G.aD k=none):me G k=(G,4):=by
 unfold iM at h;unfold me;split at h
 .rename_i hk;rw [if_pos hk]
 .rename_i hk;rw [if_neg hk,h]
theorem a3l{k p}(h:iM G.aD k=some p):me G k=if pz G.aD.split p.src p.to=false then (j7 G (takeN G.aD k.toNat),10) else qF (j7 G (takeN G.aD k.toNat)) p.to λr=>aU r ((sB p.body.data.toList).getD Ak):=by
 unfold iM at h;unfold me;split at h
 .cases h
 .rename_i hk;rw [if_neg hk,h];rfl
theorem a0z[O Φ](hoff:∀ M w,Φ M w->jO M w)(hN:∀ M w,Φ M w->jt M w)(hF:bf Φ L G)(hok:oG G){k}(hpk:∀ p,iM G.aD k=some p->∃ m,TE G p m)(y:Ctx W w (Ξ L G++S) Φ){K}(hk:∀ L' w',L'.gb=L.gb->(∀ aV:θ,bf aV L G->bf aV L' (me G k).1)->Ctx W w' (Ξ L' (me G k).1++S) Φ->K (.returned (.int .i64 (me G k).2)) w'):
  Γ F.Ep #[ε L.gb 0,.int .i64 k] w K:=by
 have hnb:(bU L G)[12]? = some (ε L.N.nb 0):=rfl;refine ak (aCv L.gb 0 k (J:=K∘.returned) y λw Y y=>⟨_,y.get 0 rfl hnb,λw Y y=>?_⟩);rw [μ] at y;have hgt:∀ aV:θ,bf aV L G->bf aV L (j7 G (takeN G.aD k.toNat)):=λaV h=>⟨h.mem,Nat.le_trans (Nk _ _).2 h.jx⟩;have back:∀ {w:World} {n:pW} {Y:List Own},Ctx W w (cT L.N n++(ω L.gb (bU L G) :: (uU L G.aQ :: (xR L G++Y)))) Φ->Ctx W w (Ξ L (j7 G n)++Y) Φ:=fun {w n Y} c=>c.perm (Ux L G L.N.fp L.N.dn n Y)
 refine aFI (N:=L.N) (n:=G.aD) hF.jx (y.perm (Q3 L G (S++Y))) (λw ht y=>?_) (λp w ht hh y=>?_) (λp w ht hh y=>?_)
 .have hd:=aHf (G:=G) ht;refine ⟨_,_,_,_,rfl,Ξ L G++S,Φ,δ,by rw [μ];exact back y,λb w Y y=>⟨y.can 0 rfl (by show 0+3<=3;omega),λw' hw'=>⟨.blk b (ic N6) 100 :: (Ξ L G++S),Φ,δ,y.pO 0 hw' rfl,γ.intro (λ_=>λw Y y=>?_) (λh=>absurd (Λ h) (by decide))⟩⟩⟩;rw [hd] at hk;exact hk L w rfl (λ_ h=>h) (Ctx.drop1 y.left)
 .have hd:=a3l (G:=G) ht;rw [if_pos hh] at hd;refine ⟨_,_,_,_,rfl,Ξ L (j7 G (takeN G.aD k.toNat))++S,Φ,δ,by rw [μ];exact back y,λb w Y y=>⟨y.can 0 rfl (by show 0+3<=3;omega),λw' hw'=>⟨.blk b (ic N6) 100 :: (Ξ L (j7 G (takeN G.aD k.toNat))++S),Φ,δ,y.pO 0 hw' rfl,γ.intro (λ_=>λw Y y=>?_) (λh=>absurd (Λ h) (by decide))⟩⟩⟩;rw [hd] at hk;exact hk L w rfl hgt (Ctx.drop1 y.left)
 .have hd:=a3l (G:=G) ht;obtain ⟨m,hm⟩:=hpk p ht;rw [if_neg (by rw [hh];simp),hm.read] at hd;rw [hd] at hk;refine ⟨_,_,_,_,rfl,Ξ L (j7 G (takeN G.aD k.toNat))++S,Φ,δ,by rw [μ];exact back y,λb w Y y=>⟨y.can 0 rfl (by show 0+3<=3;omega),λw' hw'=>⟨.blk b (ic p) 100 :: (Ξ L (j7 G (takeN G.aD k.toNat))++S),Φ,δ,y.pO 0 hw' rfl,γ.intro (λh=>absurd rfl (aN h)) (λ_=>λw Y y=>⟨p.to,y.get 0 rfl rfl,λw Y y=>?_⟩)⟩⟩⟩
  have c1:Ctx W w (Ξ L (j7 G (takeN G.aD k.toNat))++([.blk b (ic p) 100]++(S++Y))) Φ:=y.perm (by
   rw [List.cons_append,μ];exact List.perm_append_comm_assoc [Own.blk b (ic p) 100] (Ξ L (j7 G (takeN G.aD k.toNat))) (S++Y))
  refine a19 (L:=L) (G:=j7 G (takeN G.aD k.toNat)) (Z:=[.blk b (ic p) 100]) (fF:=F.U') (fC:=#[ε b 0]) (f:=λr=>aU r ((some m).getD Ak)) hoff (λM w h=>(hN M w h).1) (hgt Φ hF) hok (λu h1 h2=>hm.Nn u h1 h2) (by kernel_rfl) (λu h1 h2 {_ _ _ _ _ _ _} y hK=>aEy hN hm.len hm.read hm.ok (hok _ (by omega) u h2) y hK) c1 λL' w hgb hg y=>⟨_,rfl,Ξ L' (qF (j7 G (takeN G.aD k.toNat)) p.to λr=>aU r ((some m).getD Ak)).1++S,Φ,δ,?_,λw Y y=>hk L' w hgb (λaV h=>hg aV (hgt aV h)) y.left⟩
  rw [μ];exact Ctx.drop1 (y.perm (List.perm_append_comm_assoc (Ξ L' _) [Own.blk b (ic p) 100] (S++Y)))
end
def FM(G:aa)(id:Int)(m:Nat->rG)(n:Nat->Int):aa × Int:=if id<0\/3<=id then (G,1) else (ek (ay G id.toNat (m id.toNat)),n id.toNat)
section
variable {W w:World}{S:List Own}{Φ:θ}{L:gQ}{G:aa}{i:Nat}
theorem OX[O Φ](hF:bf Φ L G){id:Int}{fF fC Z m' n}(hf:nx prog fF=true)(hok:∀ i:Nat,id=i->i<3->oG (ay G i (m' i)))(Lq:∀ i:Nat,id=i->i<3->∀ {w:World} {T:List Own} {K:Dn},Ctx W w (ω L.gb (bU L G) :: (dX (L.P i) (G.mem i)++(Z++T))) Φ ->
   (∀ P' Ψ w',O Ψ->(∀ M w,Ψ M w->Φ M w)->rF Ψ P' (m' i)->Ctx W w' (ω L.gb (bU (fS L i P') (ay G i (m' i))) :: (dX P' (m' i)++(Z++T))) Ψ->K (.returned (.int .i64 (n i))) w')->Calls prog fF (Array.mk (.pointer (some ⟨L.gb,i*4,none⟩) :: fC.toList)) w K)(y:Ctx W w (Ξ L G++(Z++S)) Φ){K}(hk:∀ L' Ψ w',L'.gb=L.gb->O Ψ->(∀ M w,Ψ M w->Φ M w)->bf Ψ L' (FM G id m' n).1->Ctx W w' (Ξ L' (FM G id m' n).1++(Z++S)) Ψ->K (.returned (.int .i64 (FM G id m' n).2)) w'):
  Γ F.HR #[ε L.gb 0,.int .i64 id,.func (.func fF) #[] fC] w K:=by
 unfold FM at hk;refine ak (aDD L.gb 0 id fF fC (J:=K∘.returned) y λw Y y=>?_);rw [μ] at y;refine Ji y λw y=>⟨_,rfl,Ξ L G++(Z++S),Φ,δ,by rw [μ];exact y,?_⟩;by_cases hid:id<0\/3<=id
 .have e1:mN G id=1:=by unfold mN;rw [if_pos hid]
  rw [if_pos hid] at hk;rw [e1];exact γ.intro (λ_=>λw Y y=>hk L Φ w rfl δ (λ_ _ h=>h) hF y.left) (λh=>absurd rfl (Λ h))
 have e1:mN G id≠1:=by unfold mN;rw [if_neg hid];split<;>decide
 rw [if_neg hid] at hk;refine γ.intro (λh=>absurd (aN h) e1) (λ_=>⟨by omega,λw Y y=>⟨hf,?_⟩⟩);obtain ⟨i,rfl⟩:∃ i:Nat,id=i:=⟨id.toNat,by omega⟩;have hi:i<3:=by omega
 rw [Int.toNat_natCast] at hk ⊢;rw [Nat.zero_add];have Ii:∀ (A:gQ) (P:sX) (m:rG),(ω L.gb (bU A (ay G i m)) :: (dX P m++(n6 L G i++((Z++S)++Y)))).Perm (ω L.gb (bU A (ay G i m)) :: (dX P m++(Z++(n6 L G i++(S++Y))))):=λA P m=>by
  refine .cons _ (.append_left _ ?_);rw [μ];exact List.perm_append_comm_assoc _ _ _
 have c1:Ctx W w (ω L.gb (bU L G) :: (dX (L.P i) (G.mem i)++(Z++(n6 L G i++(S++Y))))) Φ:=by
  rw [μ] at y;refine y.perm ((LP L G hi ((Z++S)++Y)).trans (.cons _ (.append_left _ ?_)));rw [μ];exact List.perm_append_comm_assoc _ _ _
 refine Lq i rfl hi c1 λP' Ψ w hst hw hP y=>?_
 haveI:=hst
 have c2:Ctx W w (Ξ (fS L i P') (ay G i (m' i))++((Z++S)++Y)) Ψ:=(y.perm (Ii _ _ _).symm).perm (Q2 (L:=L) (G:=G) P' (m' i) hi ((Z++S)++Y));refine ⟨_,rfl,Ξ (fS L i P') (ay G i (m' i))++(Z++S),Ψ,hst,by rw [μ];exact c2,λw Y y=>?_⟩;rw [μ] at y;refine Sq (L:=fS L i P') (hok i rfl hi) y λcp cc w y=>⟨rfl,Ξ (mc (fS L i P') cp cc) (ek (ay G i (m' i)))++(Z++S),Ψ,hst,by rw [μ];exact y,λw Y y=>?_⟩;exact hk (mc (fS L i P') cp cc) Ψ w rfl hst hw (bf.note ((hF.weak hw).put hP) cp cc) y.left
theorem aN2(P:sX)(m:rG)(T:List Own):(dX P m++T).Perm (ξ P.q m.d++((match m.up with|none=>[]|some u=>Θ P.rb u.r P.rp P.rc++(aL P.x P.q u.j++[aP P.cb P.q u.c]))++T)):=by
 unfold dX;cases hu:m.up with
 | none=>exact .refl _
 | some u =>
  show ((Θ P.rb u.r P.rp P.rc++(aL P.x P.q u.j++(ξ P.q m.d++[aP P.cb P.q u.c])))++T).Perm (ξ P.q m.d++((Θ P.rb u.r P.rp P.rc++(aL P.x P.q u.j++[aP P.cb P.q u.c]))++T));have e1:(Θ P.rb u.r P.rp P.rc++(aL P.x P.q u.j++(ξ P.q m.d++[aP P.cb P.q u.c])))++T=(Θ P.rb u.r P.rp P.rc++aL P.x P.q u.j)++(ξ P.q m.d++([aP P.cb P.q u.c]++T)):=by simp only [μ]
  have e2:(Θ P.rb u.r P.rp P.rc++(aL P.x P.q u.j++[aP P.cb P.q u.c]))++T=(Θ P.rb u.r P.rp P.rc++aL P.x P.q u.j)++([aP P.cb P.q u.c]++T):=by simp only [μ]
  rw [e1,e2];exact List.perm_append_comm_assoc _ _ _
def FN(P:sX)(m:rG):List Own:=match m.up with
 | none=>[]
 | some u=>Θ P.rb u.r P.rp P.rc++(aL P.x P.q u.j++[aP P.cb P.q u.c])
theorem Kh(P m gb cs X Y):((ω gb cs :: (dX P m++X))++Y).Perm (ξ P.q m.d++(ω gb cs :: (FN P m++(X++Y)))):=by
 rw [List.cons_append,μ];exact ((aN2 P m (X++Y)).cons _).trans List.perm_middle.symm
theorem aN1(P m q d)(hq:q.db=P.q.db):FN { P with q:=q } { m with d:=d }=FN P m:=by
 unfold FN;cases m.up with
 | none=>rfl
 | some u=>simp only [aL,nG,aP,a3b,hq]
theorem a3s(P m q d)(hq:q.db=P.q.db)(gb cs X Y):(ξ q d++(ω gb cs :: (FN P m++(X++Y)))).Perm ((ω gb cs :: (dX { P with q:=q } { m with d:=d }++X))++Y):=by
 have h:=(Kh { P with q:=q } { m with d:=d } gb cs X Y).symm;rw [aN1 P m q d hq] at h;exact h
theorem a4k(P q d)(hi:i<3)(hP:P=L.P i)(hq:q.db=P.q.db):bU L G=bU (fS L i { P with q:=q }) (ay G i { G.mem i with d:=d }):=by
 subst hP;exact LN hq rfl rfl rfl rfl hi
theorem aF8[O Φ](hF:bf Φ L G)(hi:i<3){k n}(hn:κ n){T}(y:Ctx W w (ω L.gb (bU L G) :: (dX (L.P i) (G.mem i)++([Own.blk k [.int .i64 n] 3]++T))) Φ){K}(hk:∀ P' Ψ w',O Ψ->(∀ M w,Ψ M w->Φ M w)->rF Ψ P' { G.mem i with d:=k5 (G.mem i).d n }->Ctx W w' (ω L.gb (bU (fS L i P') (ay G i { G.mem i with d:=k5 (G.mem i).d n })) :: (dX P' { G.mem i with d:=k5 (G.mem i).d n }++([Own.blk k [.int .i64 n] 3]++T))) Ψ->K (.returned (.int .i64 0)) w'):
  Γ F.V0 #[.pointer (some ⟨L.gb,i*4,none⟩),ε k 0] w K:=by
 have hm:=hF.mem i hi;have h0:(bU L G)[i*4]? = some (.pointer (some ⟨(L.P i).q.db,0,none⟩)):=ue L G hi (k:=0) (by decide);refine ak (aCz L.gb (i*4) k 0 (J:=K∘.returned) y ⟨[ω L.gb (bU L G),.blk k [.int .i64 n] 3],lE,δ,λw Y y=>dS y (.cons_cons _ ((List.sublist_append_left _ _).trans (List.sublist_append_right _ _))),n,λw Y y=>⟨_,y.get 1 rfl rfl,rfl⟩,some ⟨(L.P i).q.db,0,none⟩,λw Y y=>⟨_,y.get 0 rfl h0,rfl⟩,λw Y y=>?_⟩)
 refine a1H hm.dq hn (y.perm (Kh _ _ _ _ _ _)) λw hq y=>⟨rfl,_,Φ,δ,y.perm (a3s (L.P i) (G.mem i) (L.P i).q (k5 (G.mem i).d n) rfl L.gb (bU L G) _ Y),λw Y y=>?_⟩;have bL:=a4k (L:=L) (G:=G) (i:=i) (L.P i) (L.P i).q (k5 (G.mem i).d n) hi rfl rfl;rw [bL] at y;exact hk _ Φ w δ (λ_ _ h=>h) ⟨hq,⟨hm.dk.le,hm.dk.sl⟩,hm.sb⟩ y.left
theorem aCS[O Φ](hF:bf Φ L G)(hi:i<3){k k2 n}(hn:κ n){p c l}(hl:l.length<=1000000)(bp:∀ M w,Φ M w->Δ M w p l){T}(y:Ctx W w (ω L.gb (bU L G) :: (dX (L.P i) (G.mem i)++([Own.blk k2 [.slice p l.length c] 30,.blk k [.int .i64 n] 3]++T))) Φ){K}(hk:∀ P' Ψ w',O Ψ->(∀ M w,Ψ M w->Φ M w)->rF Ψ P' { G.mem i with d:=jR (G.mem i).d n l }->Ctx W w' (ω L.gb (bU (fS L i P') (ay G i { G.mem i with d:=jR (G.mem i).d n l })) :: (dX P' { G.mem i with d:=jR (G.mem i).d n l }++([Own.blk k2 [.slice p l.length c] 30,.blk k [.int .i64 n] 3]++T))) Ψ->K (.returned (.int .i64 0)) w'):
  Γ F.Uy #[.pointer (some ⟨L.gb,i*4,none⟩),ε k 0,ε k2 0] w K:=by
 have hm:=hF.mem i hi;have h0:(bU L G)[i*4]? = some (.pointer (some ⟨(L.P i).q.db,0,none⟩)):=ue L G hi (k:=0) (by decide);refine ak (aCp L.gb (i*4) k 0 k2 0 (J:=K∘.returned) y ⟨[ω L.gb (bU L G),.blk k2 [.slice p l.length c] 30,.blk k [.int .i64 n] 3],lE,δ,λw Y y=>dS y (.cons_cons _ ((List.sublist_append_left _ _).trans (List.sublist_append_right _ _))),n,λw Y y=>⟨_,y.get 2 rfl rfl,rfl⟩,p,l.length,c,λw Y y=>⟨_,_,_,y.get 1 rfl rfl,rfl⟩,some ⟨(L.P i).q.db,0,none⟩,λw Y y=>⟨_,y.get 0 rfl h0,rfl⟩,λw Y y=>?_⟩)
 refine a0l hm.dq hn hl bp (y.perm (Kh _ _ _ _ _ _)) λp' c' w hq y=>?_;obtain ⟨q1,hq1⟩:∃ q1:ld,q1={ (L.P i).q with kp:=p',kc:=c' }:=⟨_,rfl⟩;have hdb:q1.db=(L.P i).q.db:=by rw [hq1]
 rw [<-hq1] at hq y;obtain ⟨Ψ,nF⟩:∃ Ψ:θ,Ψ=λM w=>Φ M w/\C0 q1 (jR (G.mem i).d n l) M w:=⟨_,rfl⟩
 haveI:O Ψ:=by rw [nF];infer_instance
 have hw1:∀ M w,Ψ M w->Φ M w:=by rw [nF];exact λM w h=>h.1
 have dw:∀ M w,Ψ M w->C0 q1 (jR (G.mem i).d n l) M w:=by rw [nF];exact λM w h=>h.2
 rw [<-nF] at y;refine ⟨rfl,_,Ψ,δ,y.perm (a3s (L.P i) (G.mem i) q1 (jR (G.mem i).d n l) hdb L.gb (bU L G) _ Y),λw Y y=>?_⟩;have bL:=a4k (L:=L) (G:=G) (i:=i) (L.P i) q1 (jR (G.mem i).d n l) hi rfl hdb;rw [bL] at y;exact hk { L.P i with q:=q1 } Ψ w δ hw1 ⟨hq,⟨hl,dw⟩,hm.sb⟩ y.left
theorem aEf[O Φ](hF:bf Φ L G)(hi:i<3){k p c l}(hl:l.length<=1000000)(bp:∀ M w,Φ M w->Δ M w p l){T}(y:Ctx W w (ω L.gb (bU L G) :: (dX (L.P i) (G.mem i)++([Own.blk k [.slice p l.length c] 30]++T))) Φ){K}(hk:∀ P' Ψ w',O Ψ->(∀ M w,Ψ M w->Φ M w)->rF Ψ P' ⟨dj (G.mem i).d l,none⟩->Ctx W w' (ω L.gb (bU (fS L i P') (ay G i ⟨dj (G.mem i).d l,none⟩)) :: (dX P' ⟨dj (G.mem i).d l,none⟩++([Own.blk k [.slice p l.length c] 30]++T))) Ψ->K (.returned (.int .i64 0)) w'):
  Γ F.Uz #[.pointer (some ⟨L.gb,i*4,none⟩),ε k 0] w K:=by
 have hm:=hF.mem i hi;have h0:(bU L G)[i*4]? = some (.pointer (some ⟨(L.P i).q.db,0,none⟩)):=ue L G hi (k:=0) (by decide);refine ak (aCs L.gb (i*4) k 0 (J:=K∘.returned) y ⟨[ω L.gb (bU L G),.blk k [.slice p l.length c] 30],lE,δ,λw Y y=>dS y (.cons_cons _ ((List.sublist_append_left _ _).trans (List.sublist_append_right _ _))),p,l.length,c,λw Y y=>⟨_,_,_,y.get 1 rfl rfl,rfl⟩,some ⟨(L.P i).q.db,0,none⟩,λw Y y=>⟨_,y.get 0 rfl h0,rfl⟩,λw Y y=>?_⟩)
 refine OU hm.dq hl bp (y.perm (Kh _ _ _ _ _ _)) λu w hq y=>?_;have c1:Ctx W w (ω L.gb (bU L G) :: ((ξ ((L.P i).q.mv u) (dj (G.mem i).d l)++([Own.blk k [.slice p l.length c] 30]++T))++Y)) Φ:=by
  have c2:=y.perm (List.perm_middle (a:=ω L.gb (bU L G)));refine c2.sub (.cons_cons _ ?_);rw [μ];exact List.Sublist.append_left (List.sublist_append_right _ _) _
 refine ⟨rfl,ω L.gb (bU L G) :: (ξ ((L.P i).q.mv u) (dj (G.mem i).d l)++([Own.blk k [.slice p l.length c] 30]++T)),Φ,δ,c1,λw Y y=>?_⟩;refine ZB (by rw [Uw];omega) y λw y=>⟨rfl,ω L.gb (wF (bU L G) (i*4)) :: (ξ ((L.P i).q.mv u) (dj (G.mem i).d l)++([Own.blk k [.slice p l.length c] 30]++T)),Φ,δ,y,λw Y y=>?_⟩;have bL:=a4l (L:=L) (G:=G) (i:=i) (P:={ L.P i with q:=(L.P i).q.mv u }) (d:=dj (G.mem i).d l) rfl hi
 rw [bL] at y;exact hk { L.P i with q:=(L.P i).q.mv u } Φ w δ (λ_ _ h=>h) ⟨hq,hm.dk.of (PZ _ _) u,λv hv=>by cases hv⟩ y.left
def qE(i:Nat)(m:rG):rG:=match m.up with
 | some _=>m
 | none=>⟨(bM i (dz m.d)).1,(bM i (dz m.d)).2.1⟩
def tj(i:Nat)(m:rG):Int:=match m.up with
 | some _=>7
 | none=>(bM i (dz m.d)).2.2
theorem aGE[O Φ](hoff:∀ M w,Φ M w->jO M w)(hN:∀ M w,Φ M w->jt M w)(hF:bf Φ L G)(hi:i<3){k}(VX:∀ up,(bM i (dz (G.mem i).d)).2.1=some up->Gc i up)(hne:∀ up,(bM i (dz (G.mem i).d)).2.1=some up->(bM i (dz (G.mem i).d)).2.2=0){T}(y:Ctx W w (ω L.gb (bU L G) :: (dX (L.P i) (G.mem i)++([Own.blk k [.int .i64 (i:Int)] 3]++T))) Φ){K}(hk:∀ P' Ψ w',O Ψ->(∀ M w,Ψ M w->Φ M w)->rF Ψ P' (qE i (G.mem i))->Ctx W w' (ω L.gb (bU (fS L i P') (ay G i (qE i (G.mem i)))) :: (dX P' (qE i (G.mem i))++([Own.blk k [.int .i64 (i:Int)] 3]++T))) Ψ->K (.returned (.int .i64 (tj i (G.mem i)))) w'):
  Γ F.V1 #[.pointer (some ⟨L.gb,i*4,none⟩),ε k 0] w K:=by
 have hm:=hF.mem i hi;have h0:(bU L G)[i*4]? = some (.pointer (some ⟨(L.P i).q.db,0,none⟩)):=ue L G hi (k:=0) (by decide);have h3:(bU L G)[i*4+3]? = some (.pointer (ia (G.mem i).up.isSome (L.P i).rb)):=ue L G hi (k:=3) (by decide);refine ak (aD6 L.gb (i*4) k 0 (J:=K∘.returned) y λw Y y=>⟨_,y.get 0 rfl h3,?_⟩);cases hu:(G.mem i).up with
 | some u =>
  have e1:qE i (G.mem i)=G.mem i:=by unfold qE;rw [hu]
  have e2:tj i (G.mem i)=7:=by unfold tj;rw [hu]
  rw [e1,e2] at hk;refine γ.intro (λ_=>λw Y y=>?_) (λh=>by cases h);have bL:=LN (L:=L) (G:=G) (i:=i) (P:=L.P i) (m:=G.mem i) rfl rfl rfl rfl rfl hi;rw [bL] at y;exact hk (L.P i) Φ w δ (λ_ _ h=>h) hm y.left
 | none =>
  have e1:qE i (G.mem i)=⟨(bM i (dz (G.mem i).d)).1,(bM i (dz (G.mem i).d)).2.1⟩:=by unfold qE;rw [hu]
  have e2:tj i (G.mem i)=(bM i (dz (G.mem i).d)).2.2:=by unfold tj;rw [hu]
  rw [e1,e2] at hk;refine γ.intro (λh=>by cases h) (λ_=>λw Y y=>⟨_,y.get 0 rfl h0,λw Y y=>?_⟩);have em:dX (L.P i) (G.mem i)=ξ (L.P i).q (G.mem i).d:=by unfold dX;rw [hu]
  rw [em] at y;have pd:∀ (q:ld) (d:b7) (Y:List Own),((ω L.gb (bU L G) :: (ξ q d++([Own.blk k [.int .i64 (i:Int)] 3]++T)))++Y).Perm (ξ q d++(ω L.gb (bU L G) :: (([Own.blk k [.int .i64 (i:Int)] 3]++T)++Y))):=λq d Y=>by
   rw [List.cons_append,μ];exact List.perm_middle.symm
  refine a2D hm.dq (y.perm (pd _ _ _)) λw hq y=>⟨rfl,ω L.gb (bU L G) :: (ξ (L.P i).q (dz (G.mem i).d)++([Own.blk k [.int .i64 (i:Int)] 3]++T)),Φ,δ,y.perm (pd _ _ _).symm,λw Y y=>⟨(i:Int),?_,λw Y y=>?_⟩⟩
  .exact (y.perm (pd _ _ _)).get 5 rfl rfl
  .have lS:gk Φ (L.P i).q (dz (G.mem i).d):=⟨hm.dk.le,hm.dk.sl⟩;rw [List.cons_append,μ] at y;refine a7h (id:=i) hoff hN h0 (by rw [Uw];omega) hq lS VX y (λu w ho he hq1 k3 y=>?_) (λu x cb rb rp rc up w ho he hsb hq1 k3 y=>?_)
   .refine ⟨_,rfl,ω L.gb (bU L G) :: (ξ ((L.P i).q.mv u) (bM i (dz (G.mem i).d)).1++([Own.blk k [.int .i64 (i:Int)] 3]++T)),Φ,δ,by rw [List.cons_append,μ];exact y,λw Y y=>?_⟩;have bL:=LN (L:=L) (G:=G) (i:=i) (P:={ L.P i with q:=(L.P i).q.mv u }) (m:=⟨(bM i (dz (G.mem i).d)).1,none⟩) rfl rfl rfl rfl (by rw [hu]) hi;rw [ho] at hk;rw [bL] at y;exact hk { L.P i with q:=(L.P i).q.mv u } Φ w δ (λ_ _ h=>h) ⟨hq1,lS.of k3 u,λv hv=>by cases hv⟩ y.left
   .rw [ho,he] at hk;obtain ⟨P',VB⟩:∃ P':sX,P'=⟨(L.P i).q.mv u,x,cb,rb,rp,rc⟩:=⟨_,rfl⟩;have bL:=aJi (L:=L) (G:=G) (i:=i) (P:=⟨(L.P i).q.mv u,x,cb,rb,rp,rc⟩) (d:=(bM i (dz (G.mem i).d)).1) (u:=up) rfl hi;have bz:(bM i (dz (G.mem i).d)).2.2=0:=he;have c5:Ctx W w ((ω L.gb (bU (fS L i ⟨(L.P i).q.mv u,x,cb,rb,rp,rc⟩) (ay G i ⟨(bM i (dz (G.mem i).d)).1,some up⟩)) :: (dX ⟨(L.P i).q.mv u,x,cb,rb,rp,rc⟩ ⟨(bM i (dz (G.mem i).d)).1,some up⟩++([Own.blk k [.int .i64 (i:Int)] 3]++T)))++Y) Φ:=by
     rw [<-bL];refine y.perm (.cons _ ?_);show (Θ rb up.r rp rc++(aL x (L.P i).q up.j++([aP cb (L.P i).q up.c]++(ξ ((L.P i).q.mv u) (bM i (dz (G.mem i).d)).1++(([Own.blk k [.int .i64 (i:Int)] 3]++T)++Y))))).Perm (((Θ rb up.r rp rc++(aL x ((L.P i).q.mv u) up.j++(ξ ((L.P i).q.mv u) (bM i (dz (G.mem i).d)).1++[aP cb ((L.P i).q.mv u) up.c])))++([Own.blk k [.int .i64 (i:Int)] 3]++T))++Y);rw [μ (Θ rb up.r rp rc++_),μ (Θ rb up.r rp rc),μ (aL x _ up.j),μ (ξ _ _)]
     exact .append_left _ (.append_left _ (List.perm_append_comm_assoc _ _ _))
    refine ⟨0,rfl,_,Φ,δ,c5,λw Y y=>?_⟩;exact hk ⟨(L.P i).q.mv u,x,cb,rb,rp,rc⟩ Φ w δ (λ_ _ h=>h) ⟨hq1,lS.of k3 u,λv hv=>by cases hv;exact hsb⟩ y.left
end
structure ot where
 kind:Int
 id:Int
 n:Int
 data:ByteArray
 keep:List Int
def FY(G:aa)(o:ot)(i k:Int):aa × Int × Int :=
 if k=0 then ((r9 G o.id).1,0,(r9 G o.id).2) else
 if k=1 then iL G o.id o.data else
 if k=2\/k=3\/k=4 then ((me G i).1,0,(me G i).2) else
 if k=5 then ((qa G i).1,0,(qa G i).2) else
 if k=6 then ((qZ G i).1,0,(qZ G i).2) else
 if k=7 then (J5 G o.n,0,0) else
 if k=8 then (mj G,0,0) else
 if k=9 then ((uV G o.id o.keep).1,0,(uV G o.id o.keep).2) else
 if k=10 then ((nQ G o.id).1,0,(nQ G o.id).2) else
 if k=11 then ((j0 G o.id o.n).1,0,(j0 G o.id o.n).2) else
 if k=12 then ((qU G o.id o.n o.keep).1,0,(qU G o.id o.n o.keep).2) else
 ((eJ G o.id (iA o.n 100)).1,((eJ G o.id (iA o.n 100)).2:Int),0)
def vD(G:aa)(o:ot):aa × Int × Int:=FY G o (iA o.n G.aD.aI.length) (iA o.kind 14)
section
variable {N fq D:Nat}{B B':Int}{G G':aa}{C bC:cJ}{g g':fK}{A bK:Int->Nat->Nat}{i:Nat}
theorem bG.op(h:bG N B D G C g A)(cH:(N+1)*(D+90)<=1048576)(o)(hd:o.data.size<=D):eM (N+1) (B+1) D G g A (vD G o).1:=by
 have Ev:N*(D+90)<=1048576:=Nat.le_trans (Nat.mul_le_mul_right _ (Nat.le_succ N)) cH;have up:∀ {G'},eM N B D G g A G'->eM (N+1) (B+1) D G g A G':=λh=>h.more (Nat.le_succ N) (by omega);have aBE:∀ {G'},eM N (B+1) D G g A G'->eM (N+1) (B+1) D G g A G':=λh=>h.more (Nat.le_succ N) (Int.le_refl _);unfold vD;generalize iA o.n (G.aD.aI.length:Int)=i;generalize iA o.kind 14=k;unfold FY;by_cases e0:k=0
 .rw [if_pos e0];exact aBE (h.tick Ev _)
 rw [if_neg e0];by_cases e1:k=1
 .rw [if_pos e1];exact (h.A' cH _ hd).more (Nat.le_refl _) (by omega)
 rw [if_neg e1];by_cases e2:k=2\/k=3\/k=4
 .rw [if_pos e2];exact up (h.rP Ev _)
 rw [if_neg e2];by_cases bI:k=5
 .rw [if_pos bI];exact up (h.drop _)
 rw [if_neg bI];by_cases bL:k=6
 .rw [if_pos bL];exact up (h.double _)
 rw [if_neg bL];by_cases bz:k=7
 .rw [if_pos bz];exact up (h.split _)
 rw [if_neg bz];by_cases eX:k=8
 .rw [if_pos eX];exact up h.VO
 rw [if_neg eX];by_cases iT:k=9
 .rw [if_pos iT];exact up (h.Ka _ _)
 rw [if_neg iT];by_cases nB:k=10
 .rw [if_pos nB];exact up (h.start _)
 rw [if_neg nB];by_cases mg:k=11
 .rw [if_pos mg];exact up (h.lose _ _)
 rw [if_neg mg];by_cases p8:k=12
 .rw [if_pos p8];exact up (h.arm _ _ _)
 rw [if_neg p8];exact aBE (h.settle Ev _ _)
theorem aQE(h:jC N B D G C g A)(hi:i<3){Q d}(hd:kj d Q)(hh:gl d):∃ u,bM i d=((bM i d).1,some u,0)/\iR (bM i d).1 u/\gl (bM i d).1/\u.r=fR i u.r.term u.r.ρ u.r.log/\Q u.r.term u.r.ρ u.r.log:=by
 have ho:=RG (id:=i) hd;obtain ⟨f1,f2⟩:=ho.iu hh;rcases ho.or with ⟨u,a1,a2,a3,a4,a5⟩|⟨_,a2,_⟩
 .exact ⟨u,by rw [<-a1,<-a2],a3,f1,a4,a5⟩
 .omega
end
section
variable {W w:World}{S:List Own}{Φ:θ}{L:gQ}{G:aa}{i:Nat}
theorem oG.a3p(h:oG G)(hi:i<3)(d):oG (ay G i { G.mem i with d:=d }):=h.put λv hv=>h i hi v hv
theorem PK[O Φ]{a w Y}(y:Ctx W w ((a++(Ξ L G++S))++Y) Φ):Ctx W w (Ξ L G++(a++(S++Y))) Φ:=by
 refine y.perm ?_;rw [μ,μ];exact List.perm_append_comm_assoc _ _ _
theorem PL[O Φ]{a w L' G' Y}(y:Ctx W w (Ξ L' G'++(a++(S++Y))) Φ):Ctx W w ((Ξ L' G'++S)++Y) Φ:=by
 rw [μ];exact y.sub (List.Sublist.append_left (List.sublist_append_right _ _) _)
theorem a11[O Φ](hF:bf Φ L G)(hok:oG G){id n}(hn:κ n)(y:Ctx W w (Ξ L G++S) Φ){K}(hk:∀ L' Ψ w',L'.gb=L.gb->O Ψ->(∀ M w,Ψ M w->Φ M w)->bf Ψ L' (j0 G id n).1->Ctx W w' (Ξ L' (j0 G id n).1++S) Ψ->K (.returned (.int .i64 (j0 G id n).2)) w'):
  Γ F.HO #[ε L.gb 0,.int .i64 id,.int .i64 n] w K:=by
 refine ak (aD0 L.gb 0 id n (J:=K∘.returned) y λk w Y y=>?_);refine OX (Z:=[Own.blk k [.int .i64 n] 3]) (fF:=F.V0) (fC:=#[ε k 0]) (m':=λi=>{ G.mem i with d:=k5 (G.mem i).d n }) (n:=λ_=>0) hF (by kernel_rfl) (λi _ hi=>hok.a3p hi _) (λi _ hi {w T K} y hk=>aF8 hF hi hn y hk) (PK (a:=[Own.blk k [.int .i64 n] 3]) y) λL' Ψ w hgb hst hw hg y=>?_
 haveI:=hst
 exact ⟨_,rfl,Ξ L' (j0 G id n).1++S,Ψ,hst,PL y,λw Y y=>hk L' Ψ w hgb hst hw hg y.left⟩
theorem a0x[O Φ](hF:bf Φ L G)(hok:oG G){id n}(hn:κ n){p c l}(hl:l.length<=1000000)(bp:∀ M w,Φ M w->Δ M w p l)(y:Ctx W w (Ξ L G++S) Φ){K}(hk:∀ L' Ψ w',L'.gb=L.gb->O Ψ->(∀ M w,Ψ M w->Φ M w)->bf Ψ L' (qU G id n l).1->Ctx W w' (Ξ L' (qU G id n l).1++S) Ψ->K (.returned (.int .i64 (qU G id n l).2)) w'):
  Γ F.HM #[ε L.gb 0,.int .i64 id,.int .i64 n,.slice p l.length c] w K:=by
 refine ak (aCq L.gb 0 id n p l.length c (J:=K∘.returned) y λk k2 w Y y=>?_);refine OX (Z:=[Own.blk k2 [.slice p l.length c] 30,Own.blk k [.int .i64 n] 3]) (fF:=F.Uy) (fC:=#[ε k 0,ε k2 0]) (m':=λi=>{ G.mem i with d:=jR (G.mem i).d n l }) (n:=λ_=>0) hF (by kernel_rfl) (λi _ hi=>hok.a3p hi _) (λi _ hi {w T K} y hk=>aCS hF hi hn hl bp y hk) (PK (a:=[Own.blk k2 [.slice p l.length c] 30,Own.blk k [.int .i64 n] 3]) y) λL' Ψ w hgb hst hw hg y=>?_
 haveI:=hst
 exact ⟨_,rfl,Ξ L' (qU G id n l).1++S,Ψ,hst,PL y,λw Y y=>hk L' Ψ w hgb hst hw hg y.left⟩
theorem aEo[O Φ](hF:bf Φ L G)(hok:oG G){id p c l}(hl:l.length<=1000000)(bp:∀ M w,Φ M w->Δ M w p l)(y:Ctx W w (Ξ L G++S) Φ){K}(hk:∀ L' Ψ w',L'.gb=L.gb->O Ψ->(∀ M w,Ψ M w->Φ M w)->bf Ψ L' (uV G id l).1->Ctx W w' (Ξ L' (uV G id l).1++S) Ψ->K (.returned (.int .i64 (uV G id l).2)) w'):
  Γ F.LQ #[ε L.gb 0,.int .i64 id,.slice p l.length c] w K:=by
 refine ak (aCt L.gb 0 id p l.length c (J:=K∘.returned) y λk w Y y=>?_);refine OX (Z:=[Own.blk k [.slice p l.length c] 30]) (fF:=F.Uz) (fC:=#[ε k 0]) (m':=λi=>⟨dj (G.mem i).d l,none⟩) (n:=λ_=>0) hF (by kernel_rfl) (λi _ hi=>hok.put λv hv=>by cases hv) (λi _ hi {w T K} y hk=>aEf hF hi hl bp y hk) (PK (a:=[Own.blk k [.slice p l.length c] 30]) y) λL' Ψ w hgb hst hw hg y=>?_
 haveI:=hst
 exact ⟨_,rfl,Ξ L' (uV G id l).1++S,Ψ,hst,PL y,λw Y y=>hk L' Ψ w hgb hst hw hg y.left⟩
theorem aQC(G id):nQ G id=FM G id (λi=>qE i (G.mem i)) (λi=>tj i (G.mem i)):=by
 unfold nQ FM;split
 .rfl
 .cases hu:(G.mem id.toNat).up with
  | none =>
   have e1:qE id.toNat (G.mem id.toNat)=⟨(bM id.toNat (dz (G.mem id.toNat).d)).1,(bM id.toNat (dz (G.mem id.toNat).d)).2.1⟩:=by unfold qE;rw [hu]
   have e2:tj id.toNat (G.mem id.toNat)=(bM id.toNat (dz (G.mem id.toNat).d)).2.2:=by unfold tj;rw [hu]
   show _=(ek (ay G id.toNat (qE id.toNat (G.mem id.toNat))),tj id.toNat (G.mem id.toNat));rw [e1,e2]
  | some u =>
   have e1:qE id.toNat (G.mem id.toNat)=G.mem id.toNat:=by unfold qE;rw [hu]
   have e2:tj id.toNat (G.mem id.toNat)=7:=by unfold tj;rw [hu]
   have bI:ay G id.toNat (G.mem id.toNat)=G:=by unfold ay;rw [Y0]
   show _=(ek (ay G id.toNat (qE id.toNat (G.mem id.toNat))),tj id.toNat (G.mem id.toNat));rw [e1,e2,bI]
structure a2C(G:aa)(i:Nat):Prop where
 good:∀ up,(bM i (dz (G.mem i).d)).2.1=some up->Gc i up
 iu:∀ up,(bM i (dz (G.mem i).d)).2.1=some up->(bM i (dz (G.mem i).d)).2.2=0
 ok:∀ up,(bM i (dz (G.mem i).d)).2.1=some up->up.r.bA
theorem a16[O Φ](hoff:∀ M w,Φ M w->jO M w)(hN:∀ M w,Φ M w->jt M w)(hF:bf Φ L G)(hok:oG G){id}(hs:∀ i,i<3->a2C G i)(y:Ctx W w (Ξ L G++S) Φ){K}(hk:∀ L' Ψ w',L'.gb=L.gb->O Ψ->(∀ M w,Ψ M w->Φ M w)->bf Ψ L' (nQ G id).1->Ctx W w' (Ξ L' (nQ G id).1++S) Ψ->K (.returned (.int .i64 (nQ G id).2)) w'):
  Γ F.HP #[ε L.gb 0,.int .i64 id] w K:=by
 rw [aQC] at hk;refine ak (aD7 L.gb 0 id (J:=K∘.returned) y λk w Y y=>⟨id,y.get 0 rfl rfl,λw Y y=>?_⟩);refine OX (Z:=[Own.blk k [.int .i64 id] 3]) (fF:=F.V1) (fC:=#[ε k 0]) (m':=λi=>qE i (G.mem i)) (n:=λi=>tj i (G.mem i)) hF (by kernel_rfl) (λi _ hi=>hok.put λv hv=>?_) (λi e hi {w T K} y hk=>by subst e;exact aGE hoff hN hF hi (hs i hi).good (hs i hi).iu y hk) (PK (a:=[Own.blk k [.int .i64 id] 3]) y) λL' Ψ w hgb hst hw hg y=>?_
 .unfold qE at hv;cases hu:(G.mem i).up with
  | some u=>rw [hu] at hv;exact hok i hi v (by first|exact hv|(rw [<-hv,hu]))
  | none=>rw [hu] at hv;exact (hs i hi).ok v hv
 .haveI:=hst
  exact ⟨_,rfl,Ξ L' (FM G id (λi=>qE i (G.mem i)) (λi=>tj i (G.mem i))).1++S,Ψ,hst,PL y,λw Y y=>hk L' Ψ w hgb hst hw hg y.left⟩
theorem LO:(bU L G)[12]? = some (ε L.N.nb 0):=rfl
theorem Md[O Φ]{w Y}(y:Ctx W w ((Ξ L G++S)++Y) Φ):Ctx W w (cT L.N G.aD++(ω L.gb (bU L G) :: (uU L G.aQ :: (xR L G++(S++Y))))) Φ:=by
 rw [μ] at y;exact y.perm (Q3 L G (S++Y))
theorem Ck[O Φ]{w fp dn n Y}(y:Ctx W w (cT ⟨L.N.nb,fp,dn⟩ n++(ω L.gb (bU L G) :: (uU L G.aQ :: (xR L G++(S++Y))))) Φ):Ctx W w ((Ξ (qv L fp dn) (j7 G n)++S)++Y) Φ:=by
 rw [μ];exact y.perm (Ux L G fp dn n (S++Y))
theorem aHp{k}(h:iM G.aD k=none):qa G k=(G,4):=by
 unfold qa;rw [if_pos (aQf h)]
theorem aHq{k p}(h:iM G.aD k=some p):qa G k=(j7 G (takeN G.aD k.toNat),0):=by
 obtain ⟨h1,h2,_⟩:=aAp h;unfold qa;rw [if_neg (by omega)];rfl
theorem aEr[O Φ](hF:bf Φ L G){k}(y:Ctx W w (Ξ L G++S) Φ){K}(hk:∀ w',(∀ aV:θ,bf aV L G->bf aV L (qa G k).1)->Ctx W w' (Ξ L (qa G k).1++S) Φ->K (.returned (.int .i64 (qa G k).2)) w'):
  Γ F.LS #[ε L.gb 0,.int .i64 k] w K:=by
 refine ak (aCx L.gb 0 k (J:=K∘.returned) y λw Y y=>⟨_,y.get 0 rfl LO,λw Y y=>?_⟩);refine aFK (N:=L.N) (n:=G.aD) hF.jx (Md y) (λw ht y=>?_) (λp w ht y=>?_)
 .rw [aHp ht] at hk;exact ⟨4,rfl,Ξ L G++S,Φ,δ,Ck y,λw Y y=>hk w (λ_ h=>h) y.left⟩
 .rw [aHq ht] at hk;exact ⟨0,rfl,Ξ L (j7 G (takeN G.aD k.toNat))++S,Φ,δ,Ck y,λw Y y=>hk w (λaV h=>⟨h.mem,Nat.le_trans (Nk _ _).2 h.jx⟩) y.left⟩
theorem aEt[O Φ]{m}(y:Ctx W w (Ξ L G++S) Φ){K}(hk:∀ w',(∀ aV:θ,bf aV L G->bf aV L (J5 G m))->Ctx W w' (Ξ L (J5 G m)++S) Φ->K (.returned (.tuple #[])) w'):
  Γ F.LU #[ε L.gb 0,.int .i64 m] w K:=by
 refine ak (aD5 L.gb 0 m (J:=K∘.returned) y λw Y y=>⟨_,y.get 0 rfl LO,λw Y y=>?_⟩);exact aFO (N:=L.N) (n:=G.aD) (Md y) λw y=>⟨rfl,Ξ L (J5 G m)++S,Φ,δ,Ck y,λw Y y=>hk w (λaV h=>⟨h.mem,h.jx⟩) y.left⟩
theorem a10[O Φ](y:Ctx W w (Ξ L G++S) Φ){K}(hk:∀ w',(∀ aV:θ,bf aV L G->bf aV L (mj G))->Ctx W w' (Ξ L (mj G)++S) Φ->K (.returned (.tuple #[])) w'):
  Γ F.HN #[ε L.gb 0] w K:=by
 refine ak (aCy L.gb 0 (J:=K∘.returned) y λw Y y=>⟨_,y.get 0 rfl LO,λw Y y=>?_⟩);exact aFL (N:=L.N) (n:=G.aD) (Md y) λw y=>⟨rfl,Ξ L (mj G)++S,Φ,δ,Ck y,λw Y y=>hk w (λaV h=>⟨h.mem,h.jx⟩) y.left⟩
theorem a14[O Φ](y:Ctx W w (Ξ L G++S) Φ){K}(hk:∀ w',Ctx W w' (Ξ L G++S) Φ->K (.returned (.int .i64 (G.aD.aI.length:Int))) w'):
  Γ F.Q5 #[ε L.gb 0] w K:=by
 refine ak (aD1 L.gb 0 (J:=K∘.returned) y λw Y y=>⟨_,y.get 0 rfl LO,λw Y y=>?_⟩);exact aFH (N:=L.N) (n:=G.aD) (Md y) λw y=>⟨_,rfl,Ξ L G++S,Φ,δ,Ck y,λw Y y=>hk w y.left⟩
theorem aEs[O Φ](hoff:∀ M w,Φ M w->jO M w)(hN:∀ M w,Φ M w->jt M w)(hF:bf Φ L G)(hok:oG G){id most}(QY:κ most)(hx:∀ u,¬ (id<0\/3<=id)->(G.mem id.toNat).up=some u->yK u (cr u.r))(Q:aa->Prop)(hQ:∀ G,Q G->oG G/\∀ p,iM G.aD 0=some p->∃ m,TE G p m)(hnext:∀ G,Q G->Q (me G 0).1)(h0:Q (r9 G id).1)(y:Ctx W w (Ξ L G++S) Φ){K}(hk:∀ L' w',L'.gb=L.gb->(∀ aV:θ,bf aV L G->bf aV L' (eJ G id most).1)->Ctx W w' (Ξ L' (eJ G id most).1++S) Φ->K (.returned (.int .i64 ((eJ G id most).2:Int))) w'):
  Γ F.wo #[ε L.gb 0,.int .i64 id,.int .i64 most] w K:=by
 refine ak (aD4 L.gb 0 id most (J:=K∘.returned) y λw Y y=>?_);rw [μ] at y;refine a17 hoff (λM w h=>(hN M w h).1) hF hok hx y λaz w VV hg1 y=>⟨_,rfl,Ξ az (r9 G id).1++S,Φ,δ,by rw [μ];exact y,?_⟩;refine fD (λfH R' Ψ bY=>∃ (j:Nat) (L':gQ) (G':aa),fH=j/\Ψ=Φ/\L'.gb=L.gb/\Q G'/\(∀ aV:θ,bf aV L G->bf aV L' G')/\R'=Ξ L' G'++S/\j<=most.toNat/\bY=most.toNat - j/\(rQ (most.toNat - j) G').1=(eJ G id most).1/\(rQ (most.toNat - j) G').2+j=(eJ G id most).2) ⟨⟨_,Φ,_,δ,λw G y=>y,0,az,(r9 G id).1,rfl,rfl,VV,h0,hg1,rfl,Nat.zero_le _,rfl,rfl,rfl⟩,?_⟩
 rintro fH R' Ψ bY _ ⟨j,L',G',rfl,rfl,hgb,hq,hg,rfl,hj,rfl,e1,e2⟩;obtain ⟨ho,hp⟩:=hQ G' hq;refine γ.intro (λhlt=>λw Y y=>?_) (λhge=>λw Y y=>?_)
 .have hlt:(j:Int)<most:=aN hlt;have hs:most.toNat - j=(most.toNat - (j+1))+1:=by omega
  rw [hs] at e1 e2;unfold rQ at e1 e2;rw [μ] at y;rw [<-hgb];refine a14 y λw y=>⟨_,rfl,Ξ L' G'++S,Ψ,δ,by rw [μ];exact y,γ.intro (λhpos=>λw Y y=>?_) (λhpos=>λw Y y=>?_)⟩
  .have hne:¬ G'.aD.aI=[]:=λe=>by
    have:=aN hpos;rw [e] at this;simp at this
   rw [if_neg hne] at e1 e2;rw [μ] at y;refine a0z hoff hN (hg Ψ hF) ho hp y λoq w F0 qg y=>⟨_,rfl,Ξ oq (me G' 0).1++S,Ψ,δ,by rw [μ];exact y,by unfold κ at *;omega,_,Ψ,_,δ,λw G y=>y,⟨j+1,oq,(me G' 0).1,by omega,rfl,F0,hnext G' hq,λaV h=>qg aV (hg aV h),rfl,by omega,rfl,e1,by simp only at e2;omega⟩,by omega⟩
  .have aKR:G'.aD.aI=[]:=by
    have:=Λ hpos;exact List.eq_nil_of_length_eq_zero (by omega)
   rw [if_pos aKR] at e1 e2;have:=hk L' w hgb (λaV h=>by rw [<-e1];exact hg aV h) (by rw [<-e1];exact y.left);rw [<-e2] at this;simp only [Nat.zero_add] at this;exact this
 .have Va:most.toNat - j=0:=by have:=Λ hge;omega
  rw [Va] at e1 e2;unfold rQ at e1 e2;have:=hk L' w hgb (λaV h=>by rw [<-e1];exact hg aV h) (by rw [<-e1];exact y.left);rw [<-e2] at this;simp only [Nat.zero_add] at this;exact this
end
section
variable {W w:World}{S:List Own}{Φ:θ}{L:gQ}{G:aa}{i:Nat}
def Fx(G:aa)(id:Int):Bool:=decide (mN G id=0)
theorem Sr[O Φ]{id}(y:Ctx W w (Ξ L G++S) Φ){K}(hk:∀ w',Ctx W w' (Ξ L G++S) Φ->K (.returned (.bool (Fx G id))) w'):
  Γ F.LV #[ε L.gb 0,.int .i64 id] w K:=by
 refine ak (aDB L.gb 0 id (J:=K∘.returned) y λw Y y=>?_);rw [μ] at y;exact Ji y λw y=>⟨_,rfl,Ξ L G++S,Φ,δ,by rw [μ];exact y,λw Y y=>hk w y.left⟩
theorem aBF{id}(h:(!Fx G id)=true):id<0\/3<=id\/(G.mem id.toNat).up=none:=by
 unfold Fx mN at h;by_cases hid:id<0\/3<=id
 .omega
 .rw [if_neg hid] at h;cases hu:(G.mem id.toNat).up with
  | none=>exact .inr (.inr rfl)
  | some u=>rw [hu] at h;simp at h
theorem aBH{id}(h:(!Fx G id)=false):¬ (id<0\/3<=id)/\∃ u,(G.mem id.toNat).up=some u:=by
 unfold Fx mN at h;by_cases hid:id<0\/3<=id
 .rw [if_pos hid] at h;simp at h
 .rw [if_neg hid] at h;cases hu:(G.mem id.toNat).up with
  | none=>rw [hu] at h;simp at h
  | some u=>exact ⟨hid,u,rfl⟩
theorem aGA[O Φ]{b r p c}(y:Ctx W w (Θ b r p c++S) Φ){K}(hK:∀ w',Ctx W w' (Θ b r p c++S) Φ->K (.returned (.int .i64 r.role)) w'):
  Γ F.Re #[ε b 0] w K :=
 (aGB (Ez y)).mono λe w' ⟨h1,h2⟩=>by subst h2;rw [h1];exact hK _ y
theorem a15[O Φ]{id}(y:Ctx W w (Ξ L G++S) Φ){K}(hk:∀ w',Ctx W w' (Ξ L G++S) Φ->K (.returned (.int .i64 (D8 G id))) w'):
  Γ F.Q6 #[ε L.gb 0,.int .i64 id] w K:=by
 refine ak (aD3 L.gb 0 id (J:=K∘.returned) y λw Y y=>?_);rw [μ] at y;refine Sr y λw y=>⟨_,rfl,Ξ L G++S,Φ,δ,by rw [μ];exact y,γ.intro (λh=>λw Y y=>?_) (λh=>?_)⟩
 .have e:D8 G id = -1:=by
   unfold D8;rcases aBF h with h|h|h
   .rw [if_pos (.inl h)]
   .rw [if_pos (.inr h)]
   .split
    .rfl
    .rw [h]
  rw [e] at hk;exact hk w y.left
 .obtain ⟨hid,u,hu⟩:=aBH h;have e:D8 G id=u.r.role:=by unfold D8;rw [if_neg hid,hu]
  rw [e] at hk;obtain ⟨i,rfl⟩:∃ i:Nat,id=i:=⟨id.toNat,by omega⟩;have hi:i<3:=by omega
  rw [Int.toNat_natCast] at hu ⊢;refine ⟨by omega,λw Y y=>⟨some ⟨(L.P i).rb,0,none⟩,y.get 0 rfl (by rw [Nat.zero_add,ue L G hi (by decide),hu];rfl),λw Y y=>?_⟩⟩;rw [μ] at y;exact aGA (y.perm (Eo hi hu (S++Y))) λw y=>⟨_,rfl,Ξ L G++S,Φ,δ,by rw [μ];exact y.perm (Eo hi hu (S++Y)).symm,λw Y y=>hk w y.left⟩
theorem aEw[O Φ]{id}(y:Ctx W w (Ξ L G++S) Φ){K}(hk:∀ w',Ctx W w' (Ξ L G++S) Φ->K (.returned (.int .i64 (DG G id))) w'):
  Γ F.V2 #[ε L.gb 0,.int .i64 id] w K:=by
 refine ak (aD9 L.gb 0 id (J:=K∘.returned) y λw Y y=>?_);rw [μ] at y;refine Sr y λw y=>⟨_,rfl,Ξ L G++S,Φ,δ,by rw [μ];exact y,γ.intro (λh=>λw Y y=>?_) (λh=>?_)⟩
 .have e:DG G id=0:=by
   unfold DG;rcases aBF h with h|h|h
   .rw [if_pos (.inl h)]
   .rw [if_pos (.inr h)]
   .split
    .rfl
    .rw [h]
  rw [e] at hk;exact hk w y.left
 .obtain ⟨hid,u,hu⟩:=aBH h;have e:DG G id=u.r.term:=by unfold DG;rw [if_neg hid,hu]
  rw [e] at hk;obtain ⟨i,rfl⟩:∃ i:Nat,id=i:=⟨id.toNat,by omega⟩;have hi:i<3:=by omega
  rw [Int.toNat_natCast] at hu ⊢;refine ⟨by omega,λw Y y=>⟨some ⟨(L.P i).rb,0,none⟩,y.get 0 rfl (by rw [Nat.zero_add,ue L G hi (by decide),hu];rfl),λw Y y=>?_⟩⟩;rw [μ] at y;exact aEx (y.perm (Eo hi hu (S++Y))) λw y=>⟨_,_,rfl,Ξ L G++S,Φ,δ,by rw [μ];exact y.perm (Eo hi hu (S++Y)).symm,λw Y y=>hk w y.left⟩
theorem aHo{k}(h:iM G.aD k=none):qZ G k=(G,4):=by
 unfold iM at h;unfold qZ;split at h
 .rename_i hk;rw [if_pos hk]
 .rename_i hk;rw [if_neg hk,h]
theorem a3y{k p}(h:iM G.aD k=some p):qZ G k=if 500<=G.aD.aI.length then (G,6) else (j7 G { G.aD with aI:=G.aD.aI++[p] },0):=by
 unfold iM at h;unfold qZ;split at h
 .cases h
 .rename_i hk;rw [if_neg hk,h];rfl
theorem aEq[O Φ](hF:bf Φ L G){k}(y:Ctx W w (Ξ L G++S) Φ){K}(hk:∀ L' w',L'.gb=L.gb->(∀ aV:θ,bf aV L G->bf aV L' (qZ G k).1)->Ctx W w' (Ξ L' (qZ G k).1++S) Φ->K (.returned (.int .i64 (qZ G k).2)) w'):
  Γ F.LR #[ε L.gb 0,.int .i64 k] w K:=by
 refine ak (aCw L.gb 0 k (J:=K∘.returned) y λw Y y=>⟨_,y.get 0 rfl LO,λw Y y=>?_⟩);refine aFJ (N:=L.N) (n:=G.aD) hF.jx (Md y) (λw ht y=>?_) (λp w ht h5 y=>?_) (λp fp dn w ht h5 y=>?_)
 .rw [aHo ht] at hk;exact ⟨4,rfl,Ξ L G++S,Φ,δ,Ck y,λw Y y=>hk L w rfl (λ_ h=>h) y.left⟩
 .rw [a3y ht,if_pos h5] at hk;exact ⟨6,rfl,Ξ L G++S,Φ,δ,Ck y,λw Y y=>hk L w rfl (λ_ h=>h) y.left⟩
 .rw [a3y ht,if_neg h5] at hk;exact ⟨0,rfl,Ξ (qv L fp dn) (j7 G { G.aD with aI:=G.aD.aI++[p] })++S,Φ,δ,Ck y,λw Y y=>hk (qv L fp dn) w rfl (λaV h=>⟨h.mem,by show (G.aD.aI++[p]).length<=500;rw [List.length_append,List.length_singleton];omega⟩) y.left⟩
end
end Go.Proofs.YtcmgeboolmmdkaaGreatDoor
end

