/-
 A member that starts again from what a failed store may have left: the cluster stays safe;in plain Lean.
-/
import Derived.Test.YtnlkemjhgdbfkaaGreatDoorCh11
import Derived.Test.YtnlkemjhgdbfkaaGreatDoorCh10
import Derived.Shelf.SlMaps.Clone
import Derived.Test.YtnlkemjhgdbfkaaGreatDoorRows
open Go.Proofs.Tryz
set_option linter.unusedVariables false
set_option linter.unusedSimpArgs false
section
namespace Go.Proofs.YtnlkemjhgdbfkaaGreatDoor
open Go.Vc
theorem aLP {r x}:(BF r x).2.src=x.2.src:=by unfold BF;split<;>rfl
theorem aIr (r m):(dG r m).2.src=0:=by unfold dG;split<;>rfl
theorem aEi (r m):(cU r m).2.src=0:=by
 unfold cU
 split
 .rfl
 .simp only;split<;>rfl
theorem RT (r m):(aW r m).2.src=0:=by
 unfold aW
 split
 .rfl
 .simp only
  split
  .rfl
  .split<;>rfl
def O2 (r:dX) (m:bR):dX:=if r.term<m.term then upR r m else r
structure aNg (r:dX) (m:bR):Prop where
 right:m.sL r.id
 kind:m.kind=2
 term:m.term=(O2 r m).term
 t:(cX r m).1.term=(O2 r m).term
 v:(cX r m).1.aQ=(O2 r m).aQ
 ix:m.index.toNat<=r.log.length
 prev:bG r.log m.index.toNat=m.prev
 agr:agree (r.log.drop m.index.toNat) m.aF<m.aF.length
 src:(cX r m).2.src=((m.index.toNat+agree (r.log.drop m.index.toNat) m.aF+1:Nat):Int)
theorem aIs {r m} (h:0<(cX r m).2.src):aNg r m:=by
 cases hy:iT r.id m with
 | false=>rw [wW hy] at h;cases h
 | true =>
  have hm:=mH.1 hy
  have pX:(O2 r m).log=r.log:=by unfold O2;split<;>rfl
  have hmt:m.term<=(O2 r m).term:=by
   unfold O2
   split
   .exact Int.le_refl _
   .omega
  have e0:cX r m=BF r (dJ (O2 r m) m):=pF hy
  have e1:(cX r m).2.src=(dJ (O2 r m) m).2.src:=by rw [e0,aLP]
  have e2:(cX r m).1=(dJ (O2 r m) m).1:=by rw [e0,AH]
  rw [e1] at h
  have hk:m.kind=2:=Decidable.byContradiction λhk=>by
   unfold dJ at h
   split at h
   .rw [aIr] at h;cases h
   split at h
   .rw [aEi] at h;cases h
   .first
     | (rw [if_neg hk,RT] at h;cases h)
     | (rw [RT] at h;cases h)
  have e3:dJ (O2 r m) m=b8 (O2 r m) m:=by unfold dJ;rw [if_neg (by rw [hk];decide),if_neg (by rw [hk];decide),if_pos hk]
  rw [e3] at h e1 e2
  have hmu:=VN (O2 r m) m
  have ht:(cX r m).1.term=(O2 r m).term:=by rw [e2];exact hmu.term
  have hv:(cX r m).1.aQ=(O2 r m).aQ:=by rw [e2];exact hmu.aQ
  unfold b8 at h e1
  split at h
  .cases h
  rename_i h1
  rw [if_neg h1] at e1
  split at h
  .cases h
  rename_i h2
  rw [if_neg h2] at e1
  simp only at h e1
  split at h
  .cases h
  rename_i h3
  rw [if_neg h3] at e1
  simp only [Bool.or_eq_true,decide_eq_true_eq,not_or] at h3
  obtain ⟨h4,h5⟩:=h3
  have h5:=Decidable.of_not_not h5
  split at h
  rotate_left 1
  .cases h
  rename_i h6
  rw [if_pos h6] at e1
  split at h
  .cases h
  rename_i h7
  rw [if_neg h7] at e1
  simp only at e1
  rw [pX] at h4 h5 h6 e1
  exact ⟨hm,hk,by omega,ht,hv,by omega,h5,h6,e1⟩
theorem aCj {C i m} (hid:(C.nd i).rep.id=i):a0A C i (O2 (C.nd i).rep m):=by
 unfold O2
 split
 .rename_i hlt
  exact ⟨by show _<=m.term;omega,.inr rfl,rfl,λhr=>absurd rfl hr,rfl,hid⟩
 .exact ⟨Int.le_refl _,.inl ⟨rfl,rfl⟩,rfl,λ_=>rfl,rfl,hid⟩
theorem a7D {C g i r} (up:(C.nd i).rep.term<=r.term) (hv:(r.term=(C.nd i).rep.term/\r.aQ=(C.nd i).rep.aQ)\/((C.nd i).rep.term<r.term/\r.aQ = -1)) (h0:r.role=0) (pX:qV g.LL r.log):zI C g i r [] (g.aQ i r) :=
 ⟨rfl,up,λe hne=>by
  rcases hv with ⟨_,b⟩|⟨a,_⟩
  .exact b
  .omega,λm hm=>(by cases hm),λt=>.inl rfl,Ext.refl _,λt=>.inl rfl,λhr=>by omega,λhr=>by omega,pX,λm hm=>(by cases hm)⟩
theorem aVU {C g A} (h:l9 C g A) {i} (hi:i<3) {t v} (up:(C.nd i).rep.term<=t) (hv:(t=(C.nd i).rep.term/\v=(C.nd i).rep.aQ)\/((C.nd i).rep.term<t/\v = -1)):
  yM C g A i (dR i t v (C.nd i).rep.log) [] (g.aQ i (dR i t v (C.nd i).rep.log)) (A t i) :=
 nZ h hi (a7D up hv rfl (h.m.log i hi)) rfl rfl rfl (λhr=>absurd (show (0:Int)=1 from hr) (by decide)) (λhr=>absurd (show (0:Int)=2 from hr) (by decide)) (hv.imp id λh=>h.2)
  (λhr=>absurd (show (0:Int)=2 from hr) (by decide)) (λm hm=>by cases hm) (λm hm=>by cases hm) (λm hm=>by cases hm) (.inl rfl)
theorem aVV {C g A} (h:l9 C g A) {i} (hi:i<3) {m} (hmem:m∈C.sent) (hs:aNg (C.nd i).rep m):
  yM C g A i (dR i (O2 (C.nd i).rep m).term (O2 (C.nd i).rep m).aQ ((C.nd i).rep.log.take (m.index.toNat+agree ((C.nd i).rep.log.drop m.index.toNat) m.aF))) [] (g.aQ i (dR i (O2 (C.nd i).rep m).term (O2 (C.nd i).rep m).aQ ((C.nd i).rep.log.take (m.index.toNat+agree ((C.nd i).rep.log.drop m.index.toNat) m.aF)))) (A (O2 (C.nd i).rep m).term i):=by
 obtain ⟨hw,hid⟩:=h.m.wf.rep i hi
 have u:=aCj (C:=C) (i:=i) (m:=m) hid
 obtain ⟨r1,IC⟩:∃ r1,O2 (C.nd i).rep m=r1:=⟨_,rfl⟩
 have hmt:=hs.term
 rw [IC] at u hmt ⊢
 obtain ⟨old,hold⟩:∃ l,(C.nd i).rep.log=l:=⟨_,rfl⟩
 obtain ⟨k,hk⟩:∃ k,m.index.toNat+agree ((C.nd i).rep.log.drop m.index.toNat) m.aF=k:=⟨_,rfl⟩
 have hag:=hs.agr
 have hix:=hs.ix
 have hpv:=hs.prev
 rw [hk]
 rw [hold] at hag hix hpv hk ⊢
 obtain ⟨a1,a2,a3,a4⟩:=h.m.app m hmem hs.kind
 rw [hmt] at a2 a3 a4
 have hpl:qV g.LL old:=by rw [<-hold];exact h.m.log i hi
 have hpM:=h.m.ll r1.term
 have hv:(r1.term=(C.nd i).rep.term/\r1.aQ=(C.nd i).rep.aQ)\/((C.nd i).rep.term<r1.term/\r1.aQ = -1):=by
  rw [<-IC]
  unfold O2
  split
  .exact .inr ⟨by assumption,rfl⟩
  .exact .inl ⟨rfl,rfl⟩
 obtain ⟨r,hr⟩:∃ r,dR i r1.term r1.aQ (old.take k)=r:=⟨_,rfl⟩
 have e1:r.term=r1.term:=by rw [<-hr];rfl
 have e2:r.aQ=r1.aQ:=by rw [<-hr];rfl
 have e3:r.role=0:=by rw [<-hr];rfl
 have e4:r.log=old.take k:=by rw [<-hr];rfl
 have e5:r.aE=0:=by rw [<-hr];rfl
 rw [hr]
 have fm:zI C g i r [] (g.aQ i r):=a7D (by rw [e1];exact u.up) (by rw [e1,e2];exact hv) e3 (by rw [e4];exact a3a hpl k)
 rw [<-e1]
 have IV:∀ c:Nat,r.aQ=c->g.V r.term i=c:=λc hc=>by
  rw [e2] at hc
  rw [e1]
  rcases hv with ⟨a,b⟩|⟨_,b⟩
  .rw [a,h.m.now i hi,<-b];exact hc
  .omega
 have hka:k<=old.length:=by
  rw [<-hk]
  rcases Nat.eq_zero_or_pos (agree (old.drop m.index.toNat) m.aF) with e|e
  .omega
  .obtain ⟨q,_⟩:=v7 (old.drop m.index.toNat) m.aF (agree (old.drop m.index.toNat) m.aF - 1) (by omega)
   rw [List.length_drop] at q
   omega
 have p2:∀ p,p<=old.length->p<=(g.LL r1.term).length->old.take p=(g.LL r1.term).take p->p<=k:=λp hp1 hp2 hp3=>Decidable.byContradiction λhn=>by
  have hq:k<old.length:=by omega
  rw [<-hk] at hq hn
  obtain ⟨x,hx⟩:∃ x,old[m.index.toNat+agree (old.drop m.index.toNat) m.aF]? = some x:=⟨_,List.getElem?_eq_getElem hq⟩
  obtain ⟨y,hy⟩:∃ y,m.aF[agree (old.drop m.index.toNat) m.aF]? = some y:=⟨_,List.getElem?_eq_getElem hag⟩
  have hne:=U8 _ _ hag x y (by rw [List.getElem?_drop];exact hx) hy
  have hy2:(g.LL r1.term)[m.index.toNat+agree (old.drop m.index.toNat) m.aF]? = some y:=by
   have h9:((List.drop m.index.toNat (g.LL r1.term)).take m.aF.length)[agree (old.drop m.index.toNat) m.aF]? = some y:=by rw [<-a3];exact hy
   rw [List.getElem?_take_of_lt hag,List.getElem?_drop] at h9
   exact h9
  have:=congrArg (λl=>l[m.index.toNat+agree (old.drop m.index.toNat) m.aF]?) hp3
  simp only [List.getElem?_take_of_lt (show m.index.toNat+agree (old.drop m.index.toNat) m.aF<p by omega)] at this
  rw [hx,hy2] at this
  cases this
  exact hne rfl
 have hup:=u.up
 have keep:∀ {t p},gH g t p old->p<=(g.LL r1.term).length->old.take p=(g.LL r1.term).take p->gH g t p r.log:=λq hpl e=>by
  have z:=p2 _ q.1 hpl e
  rw [e4]
  exact ⟨by rw [List.length_take];omega,by rw [List.take_take,Nat.min_eq_left z];exact q.2⟩
 refine ⟨fm,K6 rfl,h.VA,Nat.le_refl _,h.a1 _ _,λh0=>by omega,λt p hp1 hp=>?_,λw hu eE=>absurd hu eE,λt p _ hv hlt=>?_,λv hv hk0=>(by cases hv),λh0=>by omega,λh0=>by omega,λh0=>by omega,
  λc _ _ _ _ hv hV=>absurd (IV c hv) hV,λc _ _ hv=>.inl (IV c hv),λh0=>by omega,λv hv _ _=>(by cases hv),λv hv hk0=>(by cases hv),by rw [e5];exact .inl rfl⟩
 .rw [EL] at hp
  have hia:=h.ia t i p hi hp1 hp
  rw [hold] at hia
  rcases hia with q|⟨w,q1,q2,q3,q4⟩
  .have hta:=h.a2 t i hi (by omega)
   have hpA:=h.a1 t i
   by_cases hM:gH g t p (g.LL r1.term)
   .exact .inl (keep q hM.1 (q.2.trans hM.2.symm))
   .by_cases ht:t=r1.term
    .subst ht
     exact absurd ⟨by omega,rfl⟩ hM
    .have hl:g.ld r1.term ≠ -1:=λhl=>by
      have h0:=h.m.none _ hl
      rw [h0] at a2
      simp at a2
      rw [a2.2] at hag
      simp at hag
     exact .inr ⟨r1.term,by omega,by omega,hl,hM⟩
  .exact .inr ⟨w,q1,by omega,q3,q4⟩
 .have:=hv.2.1
  have e:(g.aQ i r).LL=g.LL:=rfl
  rw [e] at this
  omega
def Hap (C:Cl) (i:Nat) (x:dX × lT):Prop:=x=eG (C.nd i).rep\/(∃ m∈C.sent,x=cX (C.nd i).rep m)\/∃ data,x=((aK (C.nd i).rep data).1,(aK (C.nd i).rep data).2.2.2)
def a4M (C:Cl) (i:Nat) (t v:Int) (l:List bQ):Prop :=
 ((t=(C.nd i).rep.term/\v=(C.nd i).rep.aQ)/\l=(C.nd i).rep.log) \/
  ∃ x,Hap C i x/\(t=x.1.term/\v=x.1.aQ)/\(l=(C.nd i).rep.log\/(0<x.2.src/\l=(C.nd i).rep.log.take (min (x.2.src - 1) ((C.nd i).rep.log.length:Int)).toNat)\/l=x.1.log)
theorem Hap.fits {C} (hw:C.Wf) {i} (hi:i<3) {x} (h:Hap C i x):x.1.Wf/\Fits (C.nd i).rep x.1 x.2:=by
 have hr:=(hw.rep i hi).1
 rcases h with rfl|⟨m,_,rfl⟩|⟨data,rfl⟩
 .exact a4E hr
 .exact X3 hr
 .exact yL hr data
theorem Hap.aQi {C g A} (h:l9 C g A) {i} (hi:i<3) {x} (hx:Hap C i x):∃ g' n,yM C g A i x.1 x.2.send g' n:=by
 rcases hx with rfl|⟨m,hm,rfl⟩|⟨data,rfl⟩
 .exact aQb h hi
 .exact aQh h hi hm
 .exact aQc h hi data
def VR (C:Cl) (i:Nat) (r:dX) (s:List bR):Cl:=⟨put C.nd i (aCc (C.nd i) r),s⟩
theorem aQj {C g g' A} (h:l9 C g A) {i n} (hi:i<3) {r send s} (f:yM C g A i r send g' n) (hw:r.Wf) (hid:r.id=i) (hs:∀ m∈s,m∈C.sent\/m∈send):l9 (VR C i r s) g' (EK A i r.term n):=by
 have hh:=aLF h.m.wf hi hw hid
 exact h.node hi f ⟨hh.rep,hh.WO,hh.stop,Nat.zero_le _⟩ (by show (put C.nd i _ i).rep=r;rw [cZ];rfl) (λj hj=>gN _ _ hj) hs
theorem K7 (C i r s):((VR C i r s).nd i).rep=r:=by
 show (put C.nd i _ i).rep=r
 rw [cZ]
 rfl
theorem EN (C) {i j} (r s) (h:j≠i):(VR C i r s).nd j=C.nd j:=gN _ _ h
theorem Aft.trans' {g g1 g2 A A1 A2} (h:Aft g A g1 A1) (h2:Aft g1 A1 g2 A2):Aft g A g2 A2:=by
 obtain ⟨a1,a2,a3⟩:=h
 obtain ⟨b1,b2,b3⟩:=h2
 refine ⟨λt=>?_,λt ht=>?_,λt j=>Nat.le_trans (a3 t j) (b3 t j)⟩
 .obtain ⟨s,hs⟩:=a1 t
  obtain ⟨s2,hs2⟩:=b1 t
  exact ⟨s++s2,by rw [hs2,hs,b9]⟩
 .have:=a2 t ht
  rw [b2 t (by rw [this];exact ht),this]
structure a0B (C:Cl) (g:Gh) (A:Int->Nat->Nat) (i:Nat) (r:dX) (C':Cl) (g':Gh) (A':Int->Nat->Nat):Prop where
 s:l9 C' g' A'
 aft:Aft g A g' A'
 rep:(C'.nd i).rep=r
 ne:∀ j,j≠i->C'.nd j=C.nd j
 sent:C'.sent=C.sent
theorem a0C {C g A} (h:l9 C g A) {i} (hi:i<3):a0B C g A i (dR i (C.nd i).rep.term (C.nd i).rep.aQ (C.nd i).rep.log) (EF C i) g A:=by
 obtain ⟨h1,h2,h3⟩:=h.m.wf.WO i hi
 refine ⟨h.start hi,Aft.refl _ _,?_,λj hj=>gN _ _ hj,rfl⟩
 show (put C.nd i _ i).rep=_
 rw [cZ]
 show dR i (C.nd i).F4 (C.nd i).VL (C.nd i).a0q=_
 rw [h1,h2,h3]
theorem a7E {C g g' A} (h:l9 C g A) {i n} (hi:i<3) {t v l} (f:yM C g A i (dR i t v l) [] g' n) (hw:(dR i t v l).Wf):∃ C' g' A',a0B C g A i (dR i t v l) C' g' A' :=
 ⟨_,_,_,aQj h hi f hw rfl (s:=C.sent) λm hm=>.inl hm,f.aft,K7 _ _ _ _,λj hj=>EN _ _ _ hj,rfl⟩
theorem aEj {C g A} (h:l9 C g A) {i} (hi:i<3) {x} (hx:Hap C i x):∃ C' g' A',a0B C g A i (dR i x.1.term x.1.aQ x.1.log) C' g' A':=by
 obtain ⟨g',n,f⟩:=hx.aQi h hi
 obtain ⟨hw,hf⟩:=hx.fits h.m.wf hi
 have hid:x.1.id=i:=by rw [hf.id];exact (h.m.wf.rep i hi).2
 have h1:=aQj h hi f hw hid (s:=C.sent) λm hm=>.inl hm
 have b:=a0C h1 hi
 rw [K7] at b
 exact ⟨_,_,_,b.s,f.aft.trans' b.aft,b.rep,λj hj=>by rw [b.ne j hj,EN _ _ _ hj],b.sent⟩
theorem K8 {C g A} (h:l9 C g A) {i} (hi:i<3) {t v l} (hp:a4M C i t v l):∃ C' g' A',a0B C g A i (dR i t v l) C' g' A':=by
 have old:∃ C' g' A',a0B C g A i (dR i (C.nd i).rep.term (C.nd i).rep.aQ (C.nd i).rep.log) C' g' A':=⟨_,_,_,a0C h hi⟩
 rcases hp with ⟨⟨rfl,rfl⟩,rfl⟩|⟨x,hx,⟨rfl,rfl⟩,hl⟩
 .exact old
 have full:=aEj h hi hx
 obtain ⟨hw,hf⟩:=hx.fits h.m.wf hi
 obtain ⟨hwr,hid⟩:=h.m.wf.rep i hi
 by_cases hs:0<x.2.src
 rotate_left 1
 .have e:=hf.same hs
  rw [e] at full
  rcases hl with rfl|⟨a,_⟩|rfl
  .exact full
  .exact absurd a hs
  .rw [e];exact full
 rcases hx with rfl|⟨m,hm,rfl⟩|⟨data,rfl⟩
 .exfalso
  revert hs
  unfold eG
  split
  .exact λh=>absurd h (Int.lt_irrefl 0)
  split
  .exact λh=>absurd h (Int.lt_irrefl 0)
  .exact λh=>absurd h (Int.lt_irrefl 0)
 .have hS:=aIs hs
  have hv:((O2 (C.nd i).rep m).term=(C.nd i).rep.term/\(O2 (C.nd i).rep m).aQ=(C.nd i).rep.aQ)\/((C.nd i).rep.term<(O2 (C.nd i).rep m).term/\(O2 (C.nd i).rep m).aQ = -1):=by
   unfold O2
   split
   .exact .inr ⟨by assumption,rfl⟩
   .exact .inl ⟨rfl,rfl⟩
  have hup:=(aCj (C:=C) (i:=i) (m:=m) hid).up
  have hxo:=hw.ok
  have e1:=hS.t
  have e2:=hS.v
  have wf:∀ k,(dR i (O2 (C.nd i).rep m).term (O2 (C.nd i).rep m).aQ ((C.nd i).rep.log.take k)).Wf:=λk =>
   aAl (by omega) (by rw [<-e1];exact hxo.mE) (by rw [<-e1];exact hxo.iW) (by rw [<-e2];exact hxo.xZ) (by rw [<-e2];exact hxo.y3) (U0 (VM hwr.ok.log k) hup) (by rw [List.length_take];have:=hwr.ok.len;omega)
  rw [e1,e2] at full ⊢
  rcases hl with rfl|⟨_,rfl⟩|rfl
  .have w:=wf (C.nd i).rep.log.length
   rw [List.take_length] at w
   exact a7E h hi (aVU h hi hup hv) w
  .have e3:=hS.src
   have e4:(min ((cX (C.nd i).rep m).2.src - 1) ((C.nd i).rep.log.length:Int)).toNat=min (m.index.toNat+agree ((C.nd i).rep.log.drop m.index.toNat) m.aF) (C.nd i).rep.log.length:=by rw [e3];omega
   rw [e4]
   have e5:(C.nd i).rep.log.take (min (m.index.toNat+agree ((C.nd i).rep.log.drop m.index.toNat) m.aF) (C.nd i).rep.log.length)=(C.nd i).rep.log.take (m.index.toNat+agree ((C.nd i).rep.log.drop m.index.toNat) m.aF):=by
    rcases Nat.le_total (m.index.toNat+agree ((C.nd i).rep.log.drop m.index.toNat) m.aF) (C.nd i).rep.log.length with a|a
    .rw [Nat.min_eq_left a]
    .rw [Nat.min_eq_right a,List.take_length,List.take_of_length_le a]
   rw [e5]
   exact a7E h hi (aVV h hi hm hS) (wf _)
  .exact full
 .have h0:0<(aK (C.nd i).rep data).2.2.2.src:=hs
  have e:(aK (C.nd i).rep data).1.term=(C.nd i).rep.term/\(aK (C.nd i).rep data).1.aQ=(C.nd i).rep.aQ/\(aK (C.nd i).rep data).2.2.2.src=(((C.nd i).rep.log.length+1:Nat):Int):=by
   revert h0
   unfold aK
   split
   .exact λh=>absurd h (Int.lt_irrefl 0)
   split
   .exact λh=>absurd h (Int.lt_irrefl 0)
   split
   .exact λh=>absurd h (Int.lt_irrefl 0)
   .exact λ_=>⟨rfl,rfl,rfl⟩
  rcases hl with rfl|⟨_,rfl⟩|rfl
  .show ∃ C' g' A',a0B C g A i (dR i (aK (C.nd i).rep data).1.term (aK (C.nd i).rep data).1.aQ _) C' g' A'
   rw [e.1,e.2.1]
   exact old
  .show ∃ C' g' A',a0B C g A i (dR i (aK (C.nd i).rep data).1.term (aK (C.nd i).rep data).1.aQ ((C.nd i).rep.log.take (min ((aK (C.nd i).rep data).2.2.2.src - 1) _).toNat)) C' g' A'
   rw [e.1,e.2.1,e.2.2,List.take_of_length_le (by omega)]
   exact old
  .exact full
theorem a4M.keep {C C' i t v l} (h:a4M C i t v l) (e:(C'.nd i).rep=(C.nd i).rep) (hs:∀ m∈C.sent,m∈C'.sent):a4M C' i t v l:=by
 unfold a4M Hap at *
 rw [e]
 rcases h with h|⟨x,hx,h⟩
 .exact .inl h
 .refine .inr ⟨x,?_,h⟩
  rcases hx with a|⟨m,hm,a⟩|a
  .exact .inl a
  .exact .inr (.inl ⟨m,hs m hm,a⟩)
  .exact .inr (.inr a)
theorem a4M.of {C i x} (hx:Hap C i x) {t v l} (h:aNb (C.nd i).rep x.1 x.2 t v l):a4M C i t v l :=
 h.imp id λh=>⟨x,hx,h⟩
def aNh:Nat->Cl->Cl
 | 0,C=>C
 | n+1,C=>if C.sent.length=0 then C else aNh n (aLG C 0 false)
def qO (r:dX) (m:bR):dX:=if r.term<m.term then upR r m else r
theorem a7F {r m} (hm:m.sL r.id):(cX r m).1=(dJ (qO r m) m).1/\(cX r m).2.send=(dJ (qO r m) m).2.send:=by
 rw [pF (mH.2 hm)]
 exact ⟨AH,a0r⟩
theorem UB (r m):(qO r m).id=r.id/\(qO r m).log=r.log/\(qO r m).aE=r.aE/\(qO r m).next=r.next/\(qO r m).fZ=r.fZ/\(qO r m).cN=r.cN:=by
 unfold qO
 split<;>exact ⟨rfl,rfl,rfl,rfl,rfl,rfl⟩
theorem aEk (r m):(qO r m).term=max r.term m.term:=by
 unfold qO
 split
 .show m.term=_
  omega
 .omega
theorem aCk {r} (h:r.Wf) {m} (hm:m.sL r.id):(qO r m).Wf:=by
 unfold qO
 split
 .rename_i ht
  exact aB9 h hm ht
 .exact h
def aIu (i:Nat) (m:bR):Int:=if m.src=i then m.to else m.src
abbrev apart (i:Nat) (a b:bR):Prop:=¬ ((2<=a.kind ↔ 2<=b.kind)/\aIu i a=aIu i b)
def base (m:bR):Nat:=if m.kind=0\/m.kind=2 then 2 else 1
def ms (r:dX) (j:Nat):Nat:=(r.log.length - r.fZ j)+(r.next j - 1 - r.fZ j)
def wt (i:Nat) (r:dX) (m:bR):Nat:=base m+(if r.role=2/\2<=m.kind then 2*ms r (aIu i m).toNat else 0)
def aVW (f:bR->Nat):List bR->Nat
 | []=>0
 | m :: l=>f m+aVW f l
def mu (i:Nat) (C:Cl):Nat:=(if (C.nd i).rep.role=1 then 2*(4*(C.nd i).rep.log.length+2) else 0)+aVW (wt i (C.nd i).rep) C.sent
theorem aIv {r m} (h:m.kind=0):dJ r m=dG r m:=if_pos h
theorem aIw {r m} (h:m.kind=1):dJ r m=cU r m:=by unfold dJ;rw [if_neg (by omega),if_pos h]
theorem aIx {r m} (h:m.kind=2):dJ r m=b8 r m:=by unfold dJ;rw [if_neg (by omega),if_neg (by omega),if_pos h]
theorem aIy {r m} (h:m.kind=3):dJ r m=aW r m:=by unfold dJ;rw [if_neg (by omega),if_neg (by omega),if_neg (by omega)]
theorem a7G (r m):∃ y,(dG r m).2.send=[⟨1,r.id,m.src,r.term,0,0,0,y,[]⟩]/\(y=true ↔ (m.term=r.term/\(r.aQ = -1\/r.aQ=m.src)/\TF r m=true)):=by
 unfold dG
 split
 .rename_i h
  simp only [Bool.and_eq_true,Bool.or_eq_true,decide_eq_true_eq] at h
  exact ⟨true,rfl,λ_=>⟨h.1.1,h.1.2,h.2⟩,λ_=>rfl⟩
 .rename_i h
  simp only [Bool.and_eq_true,Bool.or_eq_true,decide_eq_true_eq] at h
  exact ⟨false,rfl,λh=>(by cases h),λhh=>absurd ⟨⟨hh.1,hh.2.1⟩,hh.2.2⟩ h⟩
structure RB (N:Nat) (B:Int) (r:dX):Prop where
 nx:r.role=2->∀ f,r.fZ f+1<=r.next f
 len:r.log.length<=N
 term:r.term<=B
def MB (N:Nat) (B:Int) (m:bR):Prop:=m.term<=B/\(m.kind=2->m.index.toNat+m.aF.length<=N)
structure CB (N:Nat) (B:Int) (C:Cl):Prop where
 rep:∀ j,j<3->RB N B (C.nd j).rep
 msg:∀ m∈C.sent,MB N B m
theorem RB.more {N N' B B' r} (h:RB N B r) (h1:N<=N') (h2:B<=B'):RB N' B' r:=⟨h.nx,Nat.le_trans h.len h1,Int.le_trans h.term h2⟩
theorem MB.more {N N' B B' m} (h:MB N B m) (h1:N<=N') (h2:B<=B'):MB N' B' m:=⟨Int.le_trans h.1 h2,λhk=>Nat.le_trans (h.2 hk) h1⟩
theorem CB.more {N N' B B' C} (h:CB N B C) (h1:N<=N') (h2:B<=B'):CB N' B' C:=⟨λj hj=>(h.rep j hj).more h1 h2,λm hm=>(h.msg m hm).more h1 h2⟩
theorem aAB {N B r} (ht:r.term<=B) (hl:r.log.length<=N) {k} (hn:r.next k<=r.log.length+1):MB N B (entriesOf r k):=by
 refine ⟨ht,λ_=>?_⟩
 show (((r.next k - 1:Nat)):Int).toNat+((r.log.drop (r.next k - 1)).take 8).length<=N
 rw [Int.toNat_natCast,List.length_take,List.length_drop]
 omega
theorem aAC {N B r} (ht:r.term<=B) (hl:r.log.length<=N) (hn:∀ k,r.next k<=r.log.length+1):∀ a∈cW r,MB N B a:=λa ha=>by
 unfold cW at ha
 obtain ⟨k,_,rfl⟩:=List.mem_map.1 ha
 exact aAB ht hl (hn k)
theorem K9 {N B m} (h:m.term<=B) (hk:m.kind≠2):MB N B m:=⟨h,λhh=>absurd hh hk⟩
theorem aLQ {N B r m} (h:RB N B r) (hm:m.term<=B):RB N B (qO r m):=by
 unfold qO
 split
 .exact ⟨λhr=>(by cases (show (0:Int)=2 from hr)),h.len,hm⟩
 .exact h
theorem a4N {N B r m} (hw:r.Wf) (h:RB N B r) (hm:MB N B m):RB N B (cX r m).1/\∀ a∈(cX r m).2.send,MB N B a:=by
 cases hy:iT r.id m with
 | false =>
  rw [wW hy]
  exact ⟨h,λa ha=>by cases ha⟩
 | true =>
  have hr:=mH.1 hy
  obtain ⟨e1,e2⟩:=a7F hr
  rw [e1,e2]
  have h1:=aLQ (m:=m) h hm.1
  have hw1:=aCk hw hr
  have IC:m.sL (qO r m).id:=by rw [(UB r m).1];exact hr
  have hle:m.term<=(qO r m).term:=by rw [aEk];omega
  generalize qO r m=r1 at h1 hw1 IC hle
  have hk:=hr.kind
  have a7H:m.kind=0\/m.kind=1\/m.kind=2\/m.kind=3:=by omega
  rcases a7H with hk|hk|hk|hk
  .rw [aIv hk]
   obtain ⟨y,ey,_⟩:=a7G r1 m
   rw [ey]
   refine ⟨?_,λa ha=>?_⟩
   .unfold dG
    split<;>exact ⟨h1.nx,h1.len,h1.term⟩
   .rw [List.mem_singleton.1 ha]
    exact K9 h1.term (show (1:Int)≠2 by decide)
  .rw [aIw hk]
   by_cases hc:(decide (r1.role≠1)||decide (m.term≠r1.term) || !m.yes)=true
   .rw [IA hc]
    exact ⟨h1,λa ha=>by cases ha⟩
   have hc:(decide (r1.role≠1)||decide (m.term≠r1.term) || !m.yes)=false:=by simpa using hc
   by_cases h2:pW (gR r1 m).cN<2
   .rw [CN hc h2]
    exact ⟨⟨h1.nx,h1.len,h1.term⟩,λa ha=>by cases ha⟩
   .rw [y5 hc h2]
    exact ⟨⟨λ_ f=>by show 0+1<=r1.log.length+1;omega,h1.len,h1.term⟩,aAC h1.term h1.len λk=>Nat.le_refl _⟩
  .rw [aIx hk]
   have aVX:=hm.2 hk
   by_cases h2:m.term<r1.term
   .rw [y7 h2]
    exact ⟨h1,λa ha=>by rw [List.mem_singleton.1 ha];exact K9 h1.term (by show (3:Int)≠2;decide)⟩
   by_cases h3:r1.role=2
   .rw [uT h2 h3]
    exact ⟨h1,λa ha=>by cases ha⟩
   by_cases h4:(decide ((r1.log.length:Int)<m.index)||decide (bG r1.log m.index.toNat≠m.prev))=true
   .rw [y9 h2 h3 h4]
    exact ⟨⟨λhr=>(by cases (show (0:Int)=2 from hr)),h1.len,h1.term⟩,λa ha=>by rw [List.mem_singleton.1 ha];exact K9 h1.term (by show (3:Int)≠2;decide)⟩
   have h4:(decide ((r1.log.length:Int)<m.index)||decide (bG r1.log m.index.toNat≠m.prev))=false:=by simpa using h4
   have aG8:m.index.toNat<=r1.log.length:=by
    simp only [Bool.or_eq_false_iff,decide_eq_false_iff_not] at h4
    omega
   by_cases h5:gW r1 m<m.aF.length
   .by_cases h6:m.index.toNat+gW r1 m+1<=r1.aE
    .rw [uV h2 h3 h4 h5 h6]
     exact ⟨⟨λhr=>(by cases (show (0:Int)=2 from hr)),h1.len,h1.term⟩,λa ha=>by cases ha⟩
    .rw [yA h2 h3 h4 h5 h6]
     exact ⟨⟨λhr=>(by cases (show (0:Int)=2 from hr)),by show (r1.log.take (m.index.toNat+gW r1 m)++m.aF.drop (gW r1 m)).length<=N;rw [P5 aG8];exact aVX,h1.term⟩,λa ha=>by rw [List.mem_singleton.1 ha];exact K9 h1.term (by show (3:Int)≠2;decide)⟩
   .rw [uU h2 h3 h4 h5]
    exact ⟨⟨λhr=>(by cases (show (0:Int)=2 from hr)),h1.len,h1.term⟩,λa ha=>by rw [List.mem_singleton.1 ha];exact K9 h1.term (by show (3:Int)≠2;decide)⟩
  .rw [aIy hk]
   by_cases hc:(decide (r1.role≠2)||decide (m.term≠r1.term)||m.yes&&decide ((r1.log.length:Int)<m.index))=true
   .rw [uS hc]
    exact ⟨h1,λa ha=>by cases ha⟩
   have hc:(decide (r1.role≠2)||decide (m.term≠r1.term)||m.yes&&decide ((r1.log.length:Int)<m.index))=false:=by simpa using hc
   have hc2:=hc
   simp only [Bool.or_eq_false_iff,decide_eq_false_iff_not] at hc2
   have cT:r1.role=2:=Decidable.not_not.1 hc2.1.1
   have hwa:=(AG hw1 (m:=m) hr.index.1).1
   cases hyes:m.yes with
   | false =>
    rw [pE hc hyes] at hwa ⊢
    refine ⟨⟨λ_ f=>?_,h1.len,h1.term⟩,λa ha=>?_⟩
    .show r1.fZ f+1<=put r1.next _ _ f
     have:=h1.nx cT f
     unfold put
     split
     .rename_i hf
      rw [hf]
      exact Nat.le_max_left _ _
     .exact this
    .rw [List.mem_singleton.1 ha]
     exact aAB (r:=EX r1 m) h1.term h1.len (hwa.ok.next cT m.src.toNat).2.1
   | true =>
    obtain ⟨a1,a2,a3,a4,a5,a6,a7⟩:=a4j (rY r1 m)
    have hrb:RB N B (bA (rY r1 m)):=by
     refine ⟨λ_ f=>?_,by rw [a2];exact h1.len,by rw [a6];exact h1.term⟩
     rw [a3,a4]
     show put r1.fZ _ _ f+1<=put r1.next _ _ f
     have:=h1.nx cT f
     unfold put
     split
     .exact Nat.le_refl _
     .exact this
    rw [rJ hc hyes] at hwa ⊢
    split
    .rename_i hmo
     rw [if_pos hmo] at hwa
     refine ⟨hrb,λa ha=>?_⟩
     rw [List.mem_singleton.1 ha]
     exact aAB hrb.term hrb.len (hwa.ok.next (by rw [a1];exact cT) _).2.1
    .exact ⟨hrb,λa ha=>by cases ha⟩
theorem a4O {N B r} (hw:r.Wf) (h:RB N B r):RB N (B+1) (eG r).1/\∀ a∈(eG r).2.send,MB N (B+1) a:=by
 by_cases h1:r.role=2
 .rw [JW h1]
  exact ⟨h.more (Nat.le_refl _) (by omega),λa ha=>(aAC h.term h.len (λk=>(hw.ok.next h1 k).2.1) a ha).more (Nat.le_refl _) (by omega)⟩
 by_cases h2:r.term=1099511627776
 .rw [QJ h1 h2]
  exact ⟨h.more (Nat.le_refl _) (by omega),λa ha=>by cases ha⟩
 rw [QK h1 h2]
 have ht:=h.term
 refine ⟨⟨λhr=>(by cases (show (1:Int)=2 from hr)),h.len,by show r.term+1<=_;omega⟩,λa ha=>?_⟩
 obtain ⟨k,_,rfl⟩:=List.mem_map.1 ha
 exact K9 (by show r.term+1<=_;omega) (by show (0:Int)≠2;decide)
theorem a4P {N B r} (hw:r.Wf) (h:RB N B r) (data):RB (N+1) B (aK r data).1/\∀ a∈(aK r data).2.2.2.send,MB (N+1) B a:=by
 have hm:=h.more (Nat.le_succ N) (Int.le_refl B)
 by_cases h1:r.role≠2
 .rw [AB h1]
  exact ⟨hm,λa ha=>by cases ha⟩
 by_cases h2:2000<(data.size:Int)
 .rw [y6 h1 h2]
  exact ⟨hm,λa ha=>by cases ha⟩
 by_cases h3:r.log.length=4000
 .rw [tL h1 h2 h3]
  exact ⟨hm,λa ha=>by cases ha⟩
 rw [E6 h1 h2 h3]
 have hl:(wB r data).log.length=r.log.length+1:=by show (r.log++[_]).length=_;simp
 have hle:=h.len
 have hrb:RB (N+1) B (wB r data):=⟨h.nx,by rw [hl];omega,h.term⟩
 refine ⟨hrb,λa ha=>aAC hrb.term hrb.len (λk=>?_) a ha⟩
 have:=(hw.ok.next (Decidable.not_not.1 h1) k).2.1
 rw [hl]
 show r.next k<=_
 omega
theorem aIz {N B i t v l} (h1:l.length<=N) (h2:t<=B):RB N B (dR i t v l):=⟨λhr=>(by cases (show (0:Int)=2 from hr)),h1,h2⟩
theorem cb0:CB 0 0 cl0:=⟨λj hj=>aIz (Nat.le_refl _) (Int.le_refl _),λm hm=>by cases hm⟩
def aQk (i:Nat) (C:Cl):Cl:=aNh 2000 (aVE C i)
attribute [local irreducible] aQk
end Go.Proofs.YtnlkemjhgdbfkaaGreatDoor
end

section
namespace Go.Proofs.YtnlkemjhgdbfkaaGreatDoor
open Go.Vc
structure WQ (i:Nat) (l:List bQ) (a:bR):Prop where
 ok:a.Ok
 src:a.src=i
 to:0<=a.to/\a.to<=2
 len:a.aF.length<=8
 aF:∀ y∈a.aF,y∈l
theorem aIA {i:Nat} {l} {a:bR} (h:a.Ok) (h1:a.src=i) (h2:0<=a.to/\a.to<=2) (h3:a.aF=[]):WQ i l a:=⟨h,h1,h2,by rw [h3];exact Nat.zero_le _,by rw [h3];intro y hy;cases hy⟩
theorem aIB {r} (h:r.Ok) {k} (hf:Fit r k):WQ r.id r.log (entriesOf r k):=by
 have:=hf.to
 refine ⟨E4 h hf,rfl,⟨by show 0<=(k:Int);omega,by show (k:Int)<=2;omega⟩,?_,λy hy=>?_⟩
 .show ((r.log.drop _).take 8).length<=8
  rw [List.length_take];omega
 .exact List.mem_of_mem_drop (List.mem_of_mem_take hy)
theorem aIC {r} (h:r.Ok) (h2:r.role=2):∀ a∈cW r,WQ r.id r.log a:=λa ha=>by
 unfold cW at ha
 obtain ⟨k,hk,rfl⟩:=List.mem_map.1 ha
 exact aIB h (h.fit h2 ((CM k hk).1))
theorem aAD {r} (h:r.Ok):∀ a∈(eG r).2.send,WQ r.id (eG r).1.log a:=by
 by_cases h1:r.role=2
 .rw [JW h1];exact aIC h h1
 by_cases h2:r.term=1099511627776
 .rw [QJ h1 h2];intro a ha;cases ha
 rw [QK h1 h2]
 intro a ha
 obtain ⟨k,hk,rfl⟩:=List.mem_map.1 ha
 have hk:=(CM k hk).1
 exact aIA (a6D (a9D h h1 h2) k hk) rfl ⟨by show 0<=(k:Int);omega,by show (k:Int)<=2;omega⟩ rfl
theorem aAE {r} (hw:r.Wf) (data):∀ a∈(aK r data).2.2.2.send,WQ r.id (aK r data).1.log a:=by
 have hp:=(yL hw data).1
 by_cases h1:r.role≠2
 .rw [AB h1];intro a ha;cases ha
 by_cases h2:2000<(data.size:Int)
 .rw [y6 h1 h2];intro a ha;cases ha
 by_cases h3:r.log.length=4000
 .rw [tL h1 h2 h3];intro a ha;cases ha
 rw [E6 h1 h2 h3] at hp ⊢
 exact aIC hp.ok (Decidable.not_not.1 h1)
theorem aAF {r} (hw:r.Wf) (m):(∀ a∈(cX r m).2.send,WQ r.id (cX r m).1.log a)/\∀ y∈(cX r m).1.log,y∈r.log\/y∈m.aF:=by
 cases hy:iT r.id m with
 | false =>
  rw [wW hy]
  exact ⟨λa ha=>(by cases ha),λy hy=>.inl hy⟩
 | true =>
  have hr:=mH.1 hy
  obtain ⟨e1,e2⟩:=a7F hr
  rw [e1,e2]
  have hw1:=aCk hw hr
  have hid:=(UB r m).1
  have hlg:=(UB r m).2.1
  have IC:m.sL (qO r m).id:=by rw [hid];exact hr
  rw [<-hid,<-hlg]
  generalize qO r m=r1 at hw1 IC
  have hk:=hr.kind
  have hsrc:0<=m.src/\m.src<=2:=IC.src.2
  have ho:=hw1.ok
  have bare:∀ {l:List bQ} {kind index:Int} {yes:Bool},0<=kind/\kind<=3 -> -1<=index/\index<=8000->WQ r1.id l ⟨kind,r1.id,m.src,r1.term,index,0,0,yes,[]⟩:=λh1 h2=>aIA (E5 ho h1 (by omega) h2 (by decide)) rfl hsrc rfl
  have a7H:m.kind=0\/m.kind=1\/m.kind=2\/m.kind=3:=by omega
  rcases a7H with hk|hk|hk|hk
  .rw [aIv hk]
   obtain ⟨y,ey,_⟩:=a7G r1 m
   rw [ey]
   refine ⟨λa ha=>?_,λz hz=>.inl ?_⟩
   .rw [List.mem_singleton.1 ha]
    exact bare (by decide) (by decide)
   .revert hz
    unfold dG
    split<;>exact id
  .rw [aIw hk]
   by_cases hc:(decide (r1.role≠1)||decide (m.term≠r1.term) || !m.yes)=true
   .rw [IA hc]
    exact ⟨λa ha=>(by cases ha),λy hy=>.inl hy⟩
   have hc:(decide (r1.role≠1)||decide (m.term≠r1.term) || !m.yes)=false:=by simpa using hc
   by_cases h2:pW (gR r1 m).cN<2
   .rw [CN hc h2]
    exact ⟨λa ha=>(by cases ha),λy hy=>.inl hy⟩
   .rw [y5 hc h2]
    exact ⟨aIC (a4i ho m) rfl,λy hy=>.inl hy⟩
  .rw [aIx hk]
   by_cases h2:m.term<r1.term
   .rw [y7 h2]
    exact ⟨λa ha=>by rw [List.mem_singleton.1 ha];exact bare (by decide) (by decide),λy hy=>.inl hy⟩
   by_cases h3:r1.role=2
   .rw [uT h2 h3]
    exact ⟨λa ha=>(by cases ha),λy hy=>.inl hy⟩
   by_cases h4:(decide ((r1.log.length:Int)<m.index)||decide (bG r1.log m.index.toNat≠m.prev))=true
   .rw [y9 h2 h3 h4]
    have:=ho.len
    have:=IC.index.1
    exact ⟨λa ha=>by rw [List.mem_singleton.1 ha];exact bare (by decide) (by omega),λy hy=>.inl hy⟩
   have h4:(decide ((r1.log.length:Int)<m.index)||decide (bG r1.log m.index.toNat≠m.prev))=false:=by simpa using h4
   have ack:∀ {l:List bQ},WQ r1.id l (qE r1 m):=by
    have h5:=IC.fits
    have h6:=IC.index.1
    intro l
    exact bare (kind:=3) (index:=m.index+(m.aF.length:Int)) (yes:=true) (by decide) (by omega)
   by_cases h5:gW r1 m<m.aF.length
   .by_cases h6:m.index.toNat+gW r1 m+1<=r1.aE
    .rw [uV h2 h3 h4 h5 h6]
     exact ⟨λa ha=>(by cases ha),λy hy=>.inl hy⟩
    .rw [yA h2 h3 h4 h5 h6]
     refine ⟨λa ha=>by rw [List.mem_singleton.1 ha];exact ack,λy hy=>?_⟩
     rcases List.mem_append.1 (show y∈r1.log.take _++m.aF.drop _ from hy) with h|h
     .exact .inl (List.mem_of_mem_take h)
     .exact .inr (List.mem_of_mem_drop h)
   .rw [uU h2 h3 h4 h5]
    exact ⟨λa ha=>by rw [List.mem_singleton.1 ha];exact ack,λy hy=>.inl hy⟩
  .rw [aIy hk]
   by_cases hc:(decide (r1.role≠2)||decide (m.term≠r1.term)||m.yes&&decide ((r1.log.length:Int)<m.index))=true
   .rw [uS hc]
    exact ⟨λa ha=>(by cases ha),λy hy=>.inl hy⟩
   have hc:(decide (r1.role≠2)||decide (m.term≠r1.term)||m.yes&&decide ((r1.log.length:Int)<m.index))=false:=by simpa using hc
   have hc2:=hc
   simp only [Bool.or_eq_false_iff,decide_eq_false_iff_not] at hc2
   have cT:r1.role=2:=Decidable.not_not.1 hc2.1.1
   have hwa:=(AG hw1 (m:=m) IC.index.1).1
   cases hyes:m.yes with
   | false =>
    rw [pE hc hyes] at hwa ⊢
    refine ⟨λa ha=>?_,λy hy=>.inl hy⟩
    rw [List.mem_singleton.1 ha]
    exact aIB (r:=EX r1 m) hwa.ok (hwa.ok.fit cT (by omega))
   | true =>
    obtain ⟨a1,a2,a3,a4,a5,a6,a7⟩:=a4j (rY r1 m)
    rw [rJ hc hyes] at hwa ⊢
    split
    .rename_i hmo
     rw [if_pos hmo] at hwa
     refine ⟨λa ha=>?_,λy hy=>.inl (by
      have hy:y∈(bA (rY r1 m)).log:=hy
      rw [a2] at hy
      exact hy)⟩
     rw [List.mem_singleton.1 ha]
     have:=aIB (r:=bA (rY r1 m)) hwa.ok (hwa.ok.fit (by rw [a1];exact cT) (i:=m.src.toNat) (by omega))
     rw [a5] at this
     exact this
    .exact ⟨λa ha=>(by cases ha),λy hy=>.inl (by
      have hy:y∈(bA (rY r1 m)).log:=hy
      rw [a2] at hy
      exact hy)⟩
theorem a0D (r):(eG r).1.log=r.log:=by
 unfold eG
 split
 .rfl
 split
 .rfl
 .rfl
theorem a0E {r data}:∀ y∈(aK r data).1.log,y∈r.log\/y.data=data:=by
 by_cases h1:r.role≠2
 .rw [AB h1];exact λy hy=>.inl hy
 by_cases h2:2000<(data.size:Int)
 .rw [y6 h1 h2];exact λy hy=>.inl hy
 by_cases h3:r.log.length=4000
 .rw [tL h1 h2 h3];exact λy hy=>.inl hy
 rw [E6 h1 h2 h3]
 intro y hy
 rcases List.mem_append.1 (show y∈r.log++[⟨r.term,data⟩] from hy) with h|h
 .exact .inl h
 .rw [List.mem_singleton.1 h];exact .inr rfl
theorem a4Q {r:dX} (hr:r.Ok) {i a} (h:WQ i r.log a):TM a:=by
 refine ⟨λn hn=>?_,λx hx=>?_⟩
 .have ho:=h.ok
  unfold pG at hn
  simp only [List.mem_cons,List.not_mem_nil,or_false] at hn
  rcases hn with rfl|rfl|rfl|rfl|rfl|rfl|rfl|rfl
  .exact ho.kind
  .exact ho.src
  .exact ho.to
  .exact ho.term
  .exact ho.index
  .exact ho.prev
  .exact ho.aE
  .split<;>(unfold aX;decide)
 .have hx:=h.aF x hx
  have h1:=hr.log.lo x hx
  have h2:=hr.log.hi x hx
  have h3:=hr.log.data x hx
  have h4:=hr.iW
  exact ⟨by unfold aX;omega,by omega⟩
theorem a4R {x} (h:aX x.term) (h2:x.data.size<=1000000):(vS x).length<=x.data.size+43:=by
 unfold vS
 rw [fT,rK]
 have h1:=(fU h).2
 have h3:=(E7 (s:=x.data) (by omega)).1
 omega
theorem RU {l t} (hs:kS l t) (ht:t<=1099511627776) {N D} (hl:l.length<=N) (hd:∀ x∈l,x.data.size<=D) (vA:N*(D+90)<=1048576):J8 l:=by
 have hr:∀ x∈l,aX x.term/\x.data.size<=1000000:=λx hx=>by
  have h1:=hs.lo x hx
  have h2:=hs.hi x hx
  have h3:=hs.data x hx
  exact ⟨by unfold aX;omega,by omega⟩
 refine ⟨hr,?_⟩
 have key:∀ k:List bQ,(∀ x∈k,aX x.term/\x.data.size<=1000000)->(∀ x∈k,x.data.size<=D)->(aO (k.map gX)).length<=k.length*(D+90):=by
  intro k
  induction k with
  | nil=>intro _ _;simp [aO]
  | cons x k ih =>
   intro h1 h2
   have h3:=ih (λy hy=>h1 y (by simp [hy])) λy hy=>h2 y (by simp [hy])
   obtain ⟨h4,h5⟩:=h1 x (by simp)
   have h6:=h2 x (by simp)
   have h7:=a4R h4 (by omega)
   have h8:(oC (gX x)).data.toList.length<=(vS x).length+22:=by
    have hb:(gX x).size=(vS x).length:=bJ _
    have:=E7 (s:=gX x) (by rw [hb];omega)
    rw [fT]
    omega
   rw [List.map_cons,yD,List.length_append,List.length_cons,Nat.add_mul]
   omega
 exact Nat.le_trans (key l hr hd) (Nat.le_trans (Nat.mul_le_mul_right _ hl) vA)
def CX (N:Nat) (B:Int) (D:Nat) (C:Cl) (i:Nat) (t v:Int) (l:List bQ):Prop:=a4M C i t v l/\l.length<=N/\t<=B/\∀ x∈l,x.data.size<=D
def VS (C:Cl) (p:NS):Prop:=∃ m∈C.sent,TM m/\m.aF.length<=8/\(0<=m.src/\m.src<=2)/\(0<=m.to/\m.to<=2)/\p=⟨m.src,m.to,bs (rZ m)⟩
structure GJ (N:Nat) (B:Int) (D:Nat) (G:gP) (C:Cl) (g:Gh) (A:Int->Nat->Nat):Prop where
 s:l9 C g A
 b:CB N B C
 data:∀ j,j<3->∀ x∈(C.nd j).rep.log,x.data.size<=D
 mdata:∀ m∈C.sent,∀ x∈m.aF,x.data.size<=D
 up:∀ i,i<3->∀ u,(G.mem i).up=some u->u.r=(C.nd i).rep/\NY (G.mem i).d u
 dn:∀ i,i<3->(G.mem i).up=none->DnI (G.mem i).d (CX N B D C i)
 eX:∀ p∈G.eX.aM,VS C p
 U3:G.eX.aM.length<=500
 fV:∃ (K:List bQ) (t:Int),G.fV=K.map bQ.data/\l8 g A t K K.length
def aVY (G:gP):Prop:=∀ i,i<3->∀ u,(G.mem i).up=some u->u.r.aE<=G.fV.length
structure GI (N:Nat) (B:Int) (D:Nat) (G:gP) (C:Cl) (g:Gh) (A:Int->Nat->Nat):Prop where
 j:GJ N B D G C g A
 aNi:aVY G
def AJ (N:Nat) (B:Int) (D:Nat) (G:gP) (g:Gh) (A:Int->Nat->Nat) (G':gP):Prop:=∃ C' g' A',GI N B D G' C' g' A'/\Aft g A g' A'/\∃ s,G'.fV=G.fV++s
section
variable {N N' D:Nat} {B B':Int} {G G':gP} {C C':Cl} {g g':Gh} {A A':Int->Nat->Nat} {i:Nat}
theorem CX.more {t v l} (h:CX N B D C i t v l) (h1:N<=N') (h2:B<=B'):CX N' B' D C i t v l:=⟨h.1,Nat.le_trans h.2.1 h1,Int.le_trans h.2.2.1 h2,h.2.2.2⟩
theorem CX.keep {t v l} (h:CX N B D C i t v l) (e:(C'.nd i).rep=(C.nd i).rep) (hs:∀ m∈C.sent,m∈C'.sent):CX N B D C' i t v l:=⟨h.1.keep e hs,h.2⟩
theorem VS.keep {p} (h:VS C p) (hs:∀ m∈C.sent,m∈C'.sent):VS C' p:=by
 obtain ⟨m,h1,h2⟩:=h
 exact ⟨m,hs m h1,h2⟩
theorem GJ.more (h:GJ N B D G C g A) (h1:N<=N') (h2:B<=B'):GJ N' B' D G C g A :=
 ⟨h.s,h.b.more h1 h2,h.data,h.mdata,h.up,λi hi hn=>(h.dn i hi hn).mono λt v l a=>a.more h1 h2,h.eX,h.U3,h.fV⟩
theorem GI.more (h:GI N B D G C g A) (h1:N<=N') (h2:B<=B'):GI N' B' D G C g A:=⟨h.j.more h1 h2,h.aNi⟩
theorem AJ.more (h:AJ N B D G g A G') (h1:N<=N') (h2:B<=B'):AJ N' B' D G g A G':=by
 obtain ⟨C',g',A',a,b⟩:=h
 exact ⟨C',g',A',a.more h1 h2,b⟩
theorem AJ.refl (h:GI N B D G C g A):AJ N B D G g A G:=⟨C,g,A,h,Aft.refl _ _,[],by simp⟩
theorem AJ.then (h:AJ N B D G g A G') {G''} (h2:∀ C' g' A',GI N B D G' C' g' A'->AJ N' B' D G' g' A' G''):AJ N' B' D G g A G'':=by
 obtain ⟨C1,g1,A1,a,b,s,e⟩:=h
 obtain ⟨C2,g2,A2,a2,b2,s2,e2⟩:=h2 _ _ _ a
 exact ⟨C2,g2,A2,a2,b.trans' b2,s++s2,by rw [e2,e,b9]⟩
theorem a7I (h:Aft g A g' A') {t l n} (hs:l8 g A t l n):l8 g' A' t l n:=hs.aAw h.ext h.a (Int.le_refl _)
theorem o8 (G i):(iE G i).mem=G.mem/\(iE G i).eX=G.eX:=by
 unfold iE
 split
 .exact ⟨rfl,rfl⟩
 .split<;>exact ⟨rfl,rfl⟩
theorem a4S (h:GJ N B D G C g A) (hi:i<3):GJ N B D (iE G i) C g A/\(∃ s,(iE G i).fV=G.fV++s)/\∀ u,(G.mem i).up=some u->u.r.aE<=(iE G i).fV.length:=by
 unfold iE
 split
 .rename_i hn
  exact ⟨h,⟨[],by simp⟩,λu hu=>by rw [hu] at hn;cases hn⟩
 .rename_i u hu
  obtain ⟨hr,hU⟩:=h.up i hi u hu
  split
  .rename_i hlt
   have hco:=h.s.co i hi
   have hok:=(h.s.m.wf.rep i hi).1.ok
   rw [<-hr] at hco hok
   have rW:=hok.aE
   have hl:((u.r.log.take u.r.aE).map bQ.data).length=u.r.aE:=by rw [List.length_map,List.length_take];omega
   obtain ⟨K,t,e,hs⟩:=h.fV
   have hK:K.length<=u.r.aE:=by rw [e,List.length_map] at hlt;omega
   have hcut:l8 g A u.r.term (u.r.log.take u.r.aE) u.r.aE:=l8.cut hco (Int.le_refl _)
   have hcmp:=h.s.aIq hs hcut hK
   rw [List.take_length] at hcmp
   refine ⟨⟨h.s,h.b,h.data,h.mdata,h.up,h.dn,h.eX,h.U3,u.r.log.take u.r.aE,u.r.term,rfl,by rw [List.length_take,Nat.min_eq_left rW];exact hcut⟩,⟨((u.r.log.take u.r.aE).drop K.length).map bQ.data,?_⟩,λv hv=>?_⟩
   .show (u.r.log.take u.r.aE).map bQ.data=G.fV++_
    rw [e]
    conv=>lhs;rw [<-List.take_append_drop K.length (u.r.log.take u.r.aE),List.map_append]
    rw [<-hcmp]
   .rw [hu] at hv;cases hv
    show u.r.aE<=((u.r.log.take u.r.aE).map bQ.data).length
    omega
  .rename_i hlt
   exact ⟨h,⟨[],by simp⟩,λv hv=>by rw [hu] at hv;cases hv;omega⟩
theorem aCl (h:GJ N B D G C g A):GI N B D (iX G) C g A/\∃ s,(iX G).fV=G.fV++s:=by
 unfold iX
 obtain ⟨h0,⟨s0,e0⟩,n0⟩:=a4S (i:=0) h (by decide)
 obtain ⟨h1,⟨s1,e1⟩,n1⟩:=a4S (i:=1) h0 (by decide)
 obtain ⟨h2,⟨s2,e2⟩,n2⟩:=a4S (i:=2) h1 (by decide)
 have m0:=(o8 G 0).1
 have m1:=(o8 (iE G 0) 1).1
 have m2:=(o8 (iE (iE G 0) 1) 2).1
 have l1:=congrArg List.length e1
 have l2:=congrArg List.length e2
 rw [List.length_append] at l1 l2
 refine ⟨⟨h2,λi hi u hu=>?_⟩,s0++s1++s2,by rw [e2,e1,e0];simp⟩
 rw [m2,m1,m0] at hu
 match i,hi with
 | 0,_=>have:=n0 u hu;omega
 | 1,_=>have:=n1 u (by rw [m0];exact hu);omega
 | 2,_=>exact n2 u (by rw [m1,m0];exact hu)
theorem AJ.note (h:GJ N B D G' C' g' A') (ha:Aft g A g' A') (hc:G'.fV=G.fV):AJ N B D G g A (iX G'):=by
 obtain ⟨a,s,e⟩:=aCl h
 exact ⟨C',g',A',a,ha,s,by rw [e,hc]⟩
theorem GJ.aLR (h:GJ N B D G C g A) (hi:i<3) {m} (hup:∀ u,m.up=some u->u.r=(C.nd i).rep/\NY m.d u) (hdn:m.up=none->DnI m.d (CX N B D C i)):GJ N B D (cV G i m) C g A:=by
 refine ⟨h.s,h.b,h.data,h.mdata,λj hj u hu=>?_,λj hj hn=>?_,h.eX,h.U3,h.fV⟩
 .by_cases e:j=i
  .subst e
   have e2:(cV G j m).mem j=m:=cZ _ _ _
   rw [e2] at hu ⊢
   exact hup u hu
  .have e2:(cV G i m).mem j=G.mem j:=gN _ _ e
   rw [e2] at hu ⊢
   exact h.up j hj u hu
 .by_cases e:j=i
  .subst e
   have e2:(cV G j m).mem j=m:=cZ _ _ _
   rw [e2] at hn ⊢
   exact hdn hn
  .have e2:(cV G i m).mem j=G.mem j:=gN _ _ e
   rw [e2] at hn ⊢
   exact h.dn j hj hn
theorem GJ.any (h:GJ N B D G C g A) (hi:i<3):DnI (G.mem i).d (CX N B D C i):=by
 cases hu:(G.mem i).up with
 | none=>exact h.dn i hi hu
 | some u =>
  obtain ⟨hr,hU⟩:=h.up i hi u hu
  have hb:=h.b.rep i hi
  refine hU.dn ⟨.inl ⟨⟨?_,?_⟩,?_⟩,?_,?_,?_⟩
  .rw [hr]
  .rw [hr]
  .rw [hr]
  .rw [hr];exact hb.len
  .rw [hr];exact hb.term
  .rw [hr];exact h.data i hi
theorem GJ.w (h:GJ N B D G C g A) (hi:i<3):EZ (G.mem i).d:=(h.any hi).1
theorem GJ.lose (h:GJ N B D G C g A) (hi:i<3) {d} (hq:d.queue=(G.mem i).d.queue) (hf:d.files=(G.mem i).d.files):GJ N B D (cV G i { G.mem i with d:=d }) C g A :=
 h.aLR hi (λu hu=>⟨(h.up i hi u hu).1,(h.up i hi u hu).2.frame hq hf⟩) λhn=>(h.dn i hi hn).frame hq hf
theorem GJ.a6Y (h:GJ N B D G C g A) (hi:i<3) (keep):GJ N B D (cV G i ⟨cQ (G.mem i).d keep,none⟩) C g A :=
 h.aLR hi (λu hu=>by cases hu) λ_=>(h.any hi).ev (X0 (h.w hi) keep) λF=>IW (h.w hi) keep F
theorem GJ.set (h:GJ N B D G C g A) (hN:N<=N') (hB:B<=B') (hi:i<3) {r send n} (f:yM C g A i r send g' n) (hw:r.Wf) (hid:r.id=i) (hrb:RB N' B' r) (hmb:∀ a∈send,MB N' B' a) (hd:∀ x∈r.log,x.data.size<=D) (hmd:∀ a∈send,∀ x∈a.aF,x.data.size<=D) {m} (hup:∀ u,m.up=some u->u.r=r/\NY m.d u) (hun:m.up≠none):
  GJ N' B' D (cV G i m) (VR C i r (C.sent++send)) g' (EK A i r.term n):=by
 have hs:∀ a∈C.sent,a∈(VR C i r (C.sent++send)).sent:=λa ha=>List.mem_append_left _ ha
 have aQl:=f.aft
 refine ⟨aQj h.s hi f hw hid λa ha=>List.mem_append.1 ha,⟨λj hj=>?_,λa ha=>?_⟩,λj hj=>?_,λa ha=>?_,λj hj u hu=>?_,λj hj hn=>?_,λp hp=>(h.eX p hp).keep hs,h.U3,?_⟩
 .by_cases e:j=i
  .subst e;rw [K7];exact hrb
  .rw [EN _ _ _ e];exact (h.b.rep j hj).more hN hB
 .rcases List.mem_append.1 ha with ha|ha
  .exact (h.b.msg a ha).more hN hB
  .exact hmb a ha
 .by_cases e:j=i
  .subst e;rw [K7];exact hd
  .rw [EN _ _ _ e];exact h.data j hj
 .rcases List.mem_append.1 ha with ha|ha
  .exact h.mdata a ha
  .exact hmd a ha
 .by_cases e:j=i
  .subst e
   have e2:(cV G j m).mem j=m:=cZ _ _ _
   rw [e2] at hu ⊢
   rw [K7]
   exact hup u hu
  .have e2:(cV G i m).mem j=G.mem j:=gN _ _ e
   rw [e2] at hu ⊢
   rw [EN _ _ _ e]
   exact h.up j hj u hu
 .by_cases e:j=i
  .subst e
   have e2:(cV G j m).mem j=m:=cZ _ _ _
   rw [e2] at hn
   exact absurd hn hun
  .have e2:(cV G i m).mem j=G.mem j:=gN _ _ e
   rw [e2] at hn ⊢
   exact (h.dn j hj hn).mono λt v l a=>(a.more hN hB).keep (by rw [EN _ _ _ e]) hs
 .obtain ⟨K,t,e,hsu⟩:=h.fV
  exact ⟨K,t,e,a7I aQl hsu⟩
theorem a0F (id:Nat):∀ (l:List bR) (n:L7),(∀ p∈n.aM,VS C p)->n.aM.length<=500->(∀ a∈l,a∈C.sent/\TM a/\a.aF.length<=8/\a.src=id/\0<=a.to/\a.to<=2)->id<3->(∀ p∈(lV id n l).aM,VS C p)/\(lV id n l).aM.length<=500
 | [],n,h1,h2,_,_=>⟨h1,h2⟩
 | a :: l,n,h1,h2,h3,hid=>by
  obtain ⟨b1,b2,b3,b4,b5⟩:=h3 a (by simp)
  have hn:(∀ p∈(wC n id a.to (bs (rZ a))).1.aM,VS C p)/\(wC n id a.to (bs (rZ a))).1.aM.length<=500:=by
   unfold wC
   split
   .exact ⟨h1,h2⟩
   split
   .exact ⟨h1,h2⟩
   split
   .exact ⟨h1,h2⟩
   .refine ⟨λp hp=>?_,?_⟩
    .rcases List.mem_append.1 (show p∈n.aM++[_] from hp) with hp|hp
     .exact h1 p hp
     .rw [List.mem_singleton.1 hp]
      exact ⟨a,b1,b2,b3,by omega,b5,by rw [b4]⟩
    .show (n.aM++[_]).length<=500
     rw [List.length_append,List.length_singleton];omega
  exact a0F id l _ hn.1 hn.2 (λb hb=>h3 b (by simp [hb])) hid
theorem GI.do (h:GI N B D G C g A) (hN:N<=N') (hB:B<=B') (vA:N'*(D+90)<=1048576) (hi:i<3) {u} (hu:(G.mem i).up=some u) {x} (hx:Hap C i x) (hrb:RB N' B' x.1) (hmb:∀ a∈x.2.send,MB N' B' a) (hd:∀ y∈x.1.log,y.data.size<=D) (hg:∀ a∈x.2.send,WQ i x.1.log a):AJ N' B' D G g A (doG G i u x).1:=by
 obtain ⟨hr,hU⟩:=h.j.up i hi u hu
 obtain ⟨hw,hf⟩:=hx.fits h.j.s.m.wf hi
 have hid:x.1.id=i:=by rw [hf.id];exact (h.j.s.m.wf.rep i hi).2
 have hok:=hw.ok
 have hst:=a0u (d:=(G.mem i).d) (u:=u) (r:=(C.nd i).rep) (r':=x.1) (o:=x.2) (by rw [<-hr];exact hU) hf ⟨by have:=hok.mE;have:=hok.iW;unfold aX;omega,by have:=hok.xZ;have:=hok.y3;unfold aX;omega⟩ (RU hok.log hok.iW hrb.len hd vA)
 unfold doG
 simp only
 obtain ⟨⟨d1,u1,e1⟩,hs⟩:∃ y,cY (G.mem i).d { u with r:=x.1 } x.2=y:=⟨_,rfl⟩
 rw [hs] at hst ⊢
 simp only
 by_cases he:e1=0
 .rw [if_pos he]
  rcases hst.or with ⟨_,g1,g2⟩|⟨e,_⟩
  .obtain ⟨g',n,f⟩:=hx.aQi h.j.s hi
   have hj:=h.j.set hN hB hi f hw hid hrb hmb hd (λa ha y hy=>hd y ((hg a ha).aF y hy)) (m:=⟨d1,some u1⟩) (λv hv=>by cases hv;exact ⟨g2,g1⟩) (by simp)
   have hsn:=a0F (C:=VR C i x.1 (C.sent++x.2.send)) i x.2.send G.eX hj.eX hj.U3 (λa ha=>by
    have hga:=hg a ha
    exact ⟨List.mem_append_right _ ha,a4Q hok hga,hga.len,hga.src,hga.to⟩) hi
   exact AJ.note (G':={ cV G i ⟨d1,some u1⟩ with eX:=lV i (cV G i ⟨d1,some u1⟩).eX x.2.send }) ⟨hj.s,hj.b,hj.data,hj.mdata,hj.up,hj.dn,hsn.1,hsn.2,hj.fV⟩ f.aft rfl
  .have e:e1=9\/e1=10:=e
   omega
 .rw [if_neg he]
  rcases hst.or with ⟨e,_⟩|⟨_,hdn⟩
  .exact absurd e he
  .have hm:=h.j.more hN hB
   refine AJ.note (hm.aLR hi (m:=⟨d1,none⟩) (λv hv=>by cases hv) λ_=>hdn.mono λt v l hp=>?_) (Aft.refl _ _) rfl
   refine ⟨a4M.of hx hp,?_⟩
   have ho:=hm.b.rep i hi
   have hod:=h.j.data i hi
   have hup:=hf.term
   have hxt:=hrb.term
   rcases hp with ⟨⟨a,_⟩,c⟩|⟨⟨a,_⟩,c⟩
   .rw [a,c];exact ⟨ho.len,ho.term,hod⟩
   .rw [a]
    rcases c with rfl|⟨_,rfl⟩|rfl
    .exact ⟨ho.len,hxt,hod⟩
    .exact ⟨by rw [List.length_take];have:=ho.len;omega,hxt,λy hy=>hod y (List.mem_of_mem_take hy)⟩
    .exact ⟨hrb.len,hxt,hd⟩
theorem M3 {id:Int} (h:¬ (id<0\/3<=id)):id.toNat<3:=by omega
theorem GI.tick (h:GI N B D G C g A) (vA:N*(D+90)<=1048576) (id):AJ N (B+1) D G g A (yF G id).1:=by
 have hr:=(AJ.refl h).more (Nat.le_refl N) (show B<=B+1 by omega)
 unfold yF CS
 split
 .exact hr
 rename_i hid
 have hi:=M3 hid
 split
 .exact hr
 rename_i u hu
 obtain ⟨e,hU⟩:=h.j.up _ hi u hu
 have hw:=(h.j.s.m.wf.rep _ hi).1
 have hb:=a4O hw (h.j.b.rep _ hi)
 rw [e]
 refine h.do (Nat.le_refl _) (by omega) vA hi hu (.inl rfl) hb.1 hb.2 (by rw [a0D];exact h.j.data _ hi) ?_
 have:=aAD hw.ok
 rw [(h.j.s.m.wf.rep _ hi).2] at this
 exact this
theorem GI.a4T (h:GI N B D G C g A) (vA:(N+1)*(D+90)<=1048576) (id) {data} (aID:data.size<=D):AJ (N+1) B D G g A (dN G id data).1:=by
 have hr:=(AJ.refl h).more (Nat.le_succ N) (Int.le_refl B)
 unfold dN
 split
 .exact hr
 rename_i hid
 have hi:=M3 hid
 split
 .exact hr
 rename_i u hu
 simp only
 split
 .exact hr
 obtain ⟨e,hU⟩:=h.j.up _ hi u hu
 have hw:=(h.j.s.m.wf.rep _ hi).1
 have hb:=a4P hw (h.j.b.rep _ hi) data
 have key:AJ (N+1) B D G g A (doG G id.toNat u ((aK u.r data).1,(aK u.r data).2.2.2)).1:=by
  rw [e]
  refine h.do (Nat.le_succ _) (Int.le_refl _) vA hi hu (.inr (.inr ⟨data,rfl⟩)) hb.1 hb.2 (λy hy=>?_) ?_
  .rcases a0E y hy with a|a
   .exact h.j.data _ hi y a
   .rw [a];exact aID
  .have:=aAE hw data
   rw [(h.j.s.m.wf.rep _ hi).2] at this
   exact this
 split<;>exact key
theorem GI.b0W (h:GI N B D G C g A) (vA:N*(D+90)<=1048576) {m} (hm:m∈C.sent) (id):AJ N B D G g A (CS G id λr=>cX r m).1:=by
 unfold CS
 split
 .exact .refl h
 rename_i hid
 have hi:=M3 hid
 split
 .exact .refl h
 rename_i u hu
 obtain ⟨e,hU⟩:=h.j.up _ hi u hu
 have hw:=(h.j.s.m.wf.rep _ hi).1
 have hb:=a4N hw (h.j.b.rep _ hi) (h.j.b.msg m hm)
 have hg:=aAF hw m
 rw [e]
 refine h.do (Nat.le_refl _) (Int.le_refl _) vA hi hu (.inr (.inl ⟨m,hm,rfl⟩)) hb.1 hb.2 (λy hy=>?_) ?_
 .rcases hg.2 y hy with a|a
  .exact h.j.data _ hi y a
  .exact h.j.mdata m hm y a
 .have:=hg.1
  rw [(h.j.s.m.wf.rep _ hi).2] at this
  exact this
theorem GI.aLS (h:GI N B D G C g A) {n} (hn:∀ p∈n.aM,p∈G.eX.aM) (hl:n.aM.length<=500):GI N B D { G with eX:=n } C g A :=
 ⟨⟨h.j.s,h.j.b,h.j.data,h.j.mdata,h.j.up,h.j.dn,λp hp=>h.j.eX p (hn p hp),hl,h.j.fV⟩,h.aNi⟩
theorem RV (n i):(∀ p∈(takeN n i).aM,p∈n.aM)/\(takeN n i).aM.length<=n.aM.length :=
 ⟨λp hp=>List.mem_of_mem_eraseIdx hp,List.length_eraseIdx_le _ _⟩
theorem GI.nxt (h:GI N B D G' C g A) (hc:G'.fV=G.fV):AJ N B D G g A G':=⟨C,g,A,h,Aft.refl _ _,[],by rw [hc];simp⟩
theorem GI.takeN (h:GI N B D G C g A) (i):GI N B D { G with eX:=takeN G.eX i } C g A:=h.aLS (RV _ _).1 (Nat.le_trans (RV _ _).2 h.j.U3)
theorem GI.EG (h:GI N B D G C g A) (vA:N*(D+90)<=1048576) (k):AJ N B D G g A (gF G k).1:=by
 unfold gF
 split
 .exact .refl h
 split
 .exact .refl h
 rename_i p hp
 obtain ⟨m,hm,hmw,hlen,hsrc,hto,rfl⟩:=h.j.eX p (List.mem_of_getElem? hp)
 have ht:=h.takeN k.toNat
 simp only
 split
 .exact GI.nxt (G:=G) ht rfl
 .have e:(AD (bs (rZ m)).data.toList).getD VE=m:=by
   rw [pN,ZT hmw (by omega)]
   rfl
  rw [e]
  exact ht.b0W vA hm m.to
theorem GI.drop (h:GI N B D G C g A) (k):AJ N B D G g A (F0 G k).1:=by
 unfold F0
 split
 .exact .refl h
 .exact GI.nxt (G:=G) (h.takeN _) rfl
theorem GI.double (h:GI N B D G C g A) (k):AJ N B D G g A (pP G k).1:=by
 unfold pP
 split
 .exact .refl h
 split
 .exact .refl h
 split
 .exact .refl h
 .rename_i p hp _
  refine GI.nxt (G:=G) (h.aLS (λq hq=>?_) ?_) rfl
  .rcases List.mem_append.1 hq with hq|hq
   .exact hq
   .rw [List.mem_singleton.1 hq];exact List.mem_of_getElem? hp
  .show (G.eX.aM++[p]).length<=500
   rw [List.length_append,List.length_singleton];omega
theorem GI.split (h:GI N B D G C g A) (m):AJ N B D G g A (TQ G m):=GI.nxt (G:=G) (h.aLS (λ_ hp=>hp) h.j.U3) rfl
theorem GI.b0X (h:GI N B D G C g A):AJ N B D G g A (a2H G):=GI.nxt (G:=G) (h.aLS (λ_ hp=>hp) h.j.U3) rfl
theorem GI.a6Y (h:GI N B D G C g A) (id keep):AJ N B D G g A (E9 G id keep).1:=by
 unfold E9
 split
 .exact .refl h
 .rename_i hid
  exact AJ.note (h.j.a6Y (M3 hid) keep) (Aft.refl _ _) rfl
theorem GI.lose (h:GI N B D G C g A) (id n):AJ N B D G g A (RD G id n).1:=by
 unfold RD
 split
 .exact .refl h
 .rename_i hid
  exact AJ.note (h.j.lose (M3 hid) rfl rfl) (Aft.refl _ _) rfl
theorem GI.arm (h:GI N B D G C g A) (id n keep):AJ N B D G g A (a4t G id n keep).1:=by
 unfold a4t
 split
 .exact .refl h
 .rename_i hid
  exact AJ.note (h.j.lose (M3 hid) rfl rfl) (Aft.refl _ _) rfl
theorem GJ.aQm (h:GJ N B D G C g A) (hi:i<3) {d} (hd:DnI d (CX N B D C i)):∃ C' g' A',GJ N B D (cV G i ⟨(bZ i d).1,(bZ i d).2.1⟩) C' g' A'/\Aft g A g' A':=by
 have ho:=U1 (id:=i) hd
 obtain ⟨⟨d1,uo,e1⟩,hx⟩:∃ x,bZ i d=x:=⟨_,rfl⟩
 rw [hx] at ho ⊢
 rcases ho.or with ⟨u,a1,a2,a3,a4,a5,a6,a7,a8⟩|⟨a1,a2,a3⟩
 .have a1:uo=some u:=a1
  subst a1
  obtain ⟨C',g',A',bk⟩:=K8 h.s hi a5
  rw [<-a4] at bk
  refine ⟨C',g',A',⟨bk.s,⟨λj hj=>?_,λm hm=>h.b.msg m (by rw [<-bk.sent];exact hm)⟩,λj hj=>?_,λm hm=>h.mdata m (by rw [<-bk.sent];exact hm),λj hj v hv=>?_,λj hj hn=>?_,λp hp=>(h.eX p hp).keep λm hm=>by rw [bk.sent];exact hm,h.U3,?_⟩,bk.aft⟩
  .by_cases e:j=i
   .subst e
    rw [bk.rep,a4]
    exact aIz a6 a7
   .rw [bk.ne j e];exact h.b.rep j hj
  .by_cases e:j=i
   .subst e
    rw [bk.rep]
    exact a8
   .rw [bk.ne j e];exact h.data j hj
  .by_cases e:j=i
   .subst e
    have e2:(cV G j ⟨d1,some u⟩).mem j=⟨d1,some u⟩:=cZ _ _ _
    rw [e2] at hv ⊢
    cases hv
    exact ⟨bk.rep.symm,a3⟩
   .have e2:(cV G i ⟨d1,some u⟩).mem j=G.mem j:=gN _ _ e
    rw [e2] at hv ⊢
    rw [bk.ne j e]
    exact h.up j hj v hv
  .by_cases e:j=i
   .subst e
    have e2:(cV G j ⟨d1,some u⟩).mem j=⟨d1,some u⟩:=cZ _ _ _
    rw [e2] at hn
    cases hn
   .have e2:(cV G i ⟨d1,some u⟩).mem j=G.mem j:=gN _ _ e
    rw [e2] at hn ⊢
    exact (h.dn j hj hn).mono λt v l a=>a.keep (by rw [bk.ne j e]) λm hm=>by rw [bk.sent];exact hm
  .obtain ⟨K,t,e,hsu⟩:=h.fV
   exact ⟨K,t,e,a7I bk.aft hsu⟩
 .have a1:uo=none:=a1
  subst a1
  exact ⟨C,g,A,h.aLR hi (λv hv=>by cases hv) λ_=>a3,Aft.refl _ _⟩
theorem GI.start (h:GI N B D G C g A) (id):AJ N B D G g A (BH G id).1:=by
 unfold BH
 split
 .exact .refl h
 rename_i hid
 have hi:=M3 hid
 split
 .exact AJ.note h.j (Aft.refl _ _) rfl
 rename_i hn
 have hd:DnI (eA (G.mem id.toNat).d) (CX N B D C id.toNat):=(h.j.dn _ hi hn).frame rfl rfl
 obtain ⟨C',g',A',a,b⟩:=h.j.aQm hi hd
 exact AJ.note a b rfl
theorem a3e (vA:N*(D+90)<=1048576):∀ (k:Nat) {G:gP} {C:Cl} {g:Gh} {A:Int->Nat->Nat},GI N B D G C g A->AJ N B D G g A (yG k G).1
 | 0,_,_,_,_,h=>.refl h
 | k+1,G,_,_,_,h=>by
  unfold yG
  split
  .exact .refl h
  .exact (h.EG vA 0).then λC' g' A' h'=>a3e vA k h'
theorem GI.settle (h:GI N B D G C g A) (vA:N*(D+90)<=1048576) (id most):AJ N (B+1) D G g A (cE G id most).1:=by
 unfold cE
 exact (h.tick vA id).then λC' g' A' h'=>a3e vA _ h'
theorem EO (i):∃ u,(CT i).up=some u/\NY (CT i).d u/\u.r=dR i 0 (-1) []/\OB (CT i).d:=by
 have ho:=U1 (id:=i) aH9
 have hf:=ho.BG aLe
 rcases ho.or with ⟨u,a1,a2,a3,a4,a5,a6,a7⟩|⟨a1,a2,a3⟩
 .refine ⟨u,a1,a3,?_,hf.1⟩
  rw [a4,a5,a6,a7]
 .have:=hf.2
  omega
theorem aIE:GI 0 0 D J1 cl0 gh0 λ_ _=>0:=by
 refine ⟨⟨aVT,cb0,λj hj x hx=>(by cases hx),λm hm=>(by cases hm),λi hi u hu=>?_,λi hi hn=>?_,λp hp=>(by cases hp),Nat.zero_le _,[],0,rfl,.inl rfl⟩,λi hi u hu=>?_⟩
 .obtain ⟨v,h1,h2,h3,_⟩:=EO i
  have hu:(CT i).up=some u:=hu
  rw [h1] at hu;cases hu
  exact ⟨h3,h2⟩
 .obtain ⟨v,h1,_⟩:=EO i
  have hn:(CT i).up=none:=hn
  rw [h1] at hn;cases hn
 .obtain ⟨v,h1,h2,h3,_⟩:=EO i
  have hu:(CT i).up=some u:=hu
  rw [h1] at hu;cases hu
  rw [h3]
  exact Nat.zero_le _
theorem a0G (h:GJ N B D G C g A) {t p} (hc:EJ g A t p) (hi:i<3) (hp:p<=A t i) (hp1:1<=p):gH g t p (mS (G.mem i).d):=by
 have at_:∀ {C:Cl} {g:Gh} {A:Int->Nat->Nat},l9 C g A->EJ g A t p->p<=A t i->gH g t p (C.nd i).rep.log:=λhs hc hp=>by
  rcases hs.ia t i p hi hp1 hp with q|⟨u,q1,q2,q3,q4⟩
  .exact q
  .exact absurd (hs.UA hc q1 q3) q4
 cases hu:(G.mem i).up with
 | some u =>
  obtain ⟨e,hU⟩:=h.up i hi u hu
  rw [a0v hU,e]
  exact at_ h.s hc hp
 | none =>
  obtain ⟨t',v,hpd⟩:=NZ (h.dn i hi hu)
  obtain ⟨C',g',A',bk⟩:=K8 h.s hi hpd.1
  have:=at_ bk.s (hc.ext bk.aft.ext bk.aft.a) (Nat.le_trans hp (bk.aft.a t i))
  rw [bk.rep] at this
  exact (gH.ext bk.aft.ext hc.1.2.1).1 this
theorem a0H (h:GJ N B D G C g A):∃ a b,a<3/\b<3/\a≠b/\∀ i,(i=a\/i=b)->G.fV.length<=(mS (G.mem i).d).length/\((mS (G.mem i).d).take G.fV.length).map bQ.data=G.fV:=by
 obtain ⟨K,s,e,hs⟩:=h.fV
 rcases hs with h0|⟨t,p,hc,_,hn,hk⟩
 .refine ⟨0,1,by decide,by decide,by decide,λi _=>?_⟩
  have:K=[]:=List.eq_nil_of_length_eq_zero h0
  subst this
  rw [e]
  exact ⟨Nat.zero_le _,rfl⟩
 .obtain ⟨hv,a,b,ha,hb,hab,pa,pb⟩:=hc
  refine ⟨a,b,ha,hb,hab,λi hi=>?_⟩
  have hst:gH g t p (mS (G.mem i).d):=by
   rcases hi with rfl|rfl
   .exact a0G h ⟨hv,i,b,ha,hb,hab,pa,pb⟩ ha pa hv.1
   .exact a0G h ⟨hv,a,i,ha,hb,hab,pa,pb⟩ hb pb hv.1
  have hst:=hst.less hn
  have e1:(mS (G.mem i).d).take K.length=K:=by rw [hst.2,<-hk.2,List.take_length]
  have el:G.fV.length=K.length:=by rw [e,List.length_map]
  rw [el,e1]
  exact ⟨hst.1,e.symm⟩
end
section
variable {W w:World} {S:List Own} {Φ:PW} {L:L9} {G:gP} {i:Nat}
theorem RW [aB Φ] {id} (cx:Ctx W w (cR L G++S) Φ) {K} (hk:∀ w',Ctx W w' (cR L G++S) Φ->K (.returned (.int .i64 (upG G id))) w'):
  aD F.iR #[.pointer (some ⟨L.gb,0,none⟩),.int .i64 id] w K:=by
 unfold upG at hk
 refine fW (KU L.gb 0 id (J:=K∘.returned) cx λw F cx=>Br.intro (λh=>λw F cx=>?_) (λh=>?_))
 .rw [if_pos (by simpa using h)] at hk
  exact hk w cx.left
 .have h:¬ (id<0\/3<=id):=by simpa using h
  rw [if_neg h] at hk
  refine ⟨by omega,λw F cx=>⟨_,cx.get 0 rfl (by rw [Nat.zero_add];exact (CW L G (i:=id.toNat) (k:=3) (by omega) (by decide)).trans rfl),?_⟩⟩
  cases hu:(G.mem id.toNat).up with
  | none =>
   rw [hu] at hk
   exact Br.intro (λ_=>λw F cx=>hk w cx.left) (λh=>by cases h)
  | some u =>
   rw [hu] at hk
   exact Br.intro (λh=>by cases h) (λ_=>λw F cx=>hk w cx.left)
theorem a4U (L G F):(cR L G++F).Perm (fO L.N G.eX++(kG L.gb (kW L G) :: (U2 L G.fV :: (J9 L G++F)))):=by
 have e:cR L G++F=kG L.gb (kW L G) :: (fO L.N G.eX++(U2 L G.fV :: (J9 L G++F))):=by
  unfold cR
  simp only [b9,List.cons_append]
 rw [e]
 exact List.perm_middle.symm
def LB (L:L9) (fp:Option Addr) (fc:Nat):L9:={ L with N:=⟨L.N.nb,fp,fc⟩ }
def pY (G:gP) (n:L7):gP:={ G with eX:=n }
theorem O3 (L G fp fc n F):(fO ⟨L.N.nb,fp,fc⟩ n++(kG L.gb (kW L G) :: (U2 L G.fV :: (J9 L G++F)))).Perm (cR (LB L fp fc) (pY G n)++F):=(a4U (LB L fp fc) (pY G n) F).symm
theorem aEm (G i a b):cV (cV G i a) i b=cV G i b:=by
 unfold cV
 rw [aLE]
def doH (H:gP) (i:Nat) (u:WN) (o:lT):gP × Int :=
 let s:=cY (H.mem i).d u o
 if s.2.2=0 then (iX (pY (cV H i ⟨s.1,some s.2.1⟩) (lV i H.eX o.send)),0) else (iX (cV H i ⟨s.1,none⟩),s.2.2)
theorem aQn (G i u x):doG G i u x=doH (cV G i ⟨(G.mem i).d,some { u with r:=x.1 }⟩) i { u with r:=x.1 } x.2:=by
 unfold doG doH
 have e:((cV G i ⟨(G.mem i).d,some { u with r:=x.1 }⟩).mem i).d=(G.mem i).d:=by show (put G.mem i _ i).d=_;rw [cZ]
 rw [e]
 simp only [aEm]
 rfl
structure aV0 (l:List bR):Prop where
 msg:∀ a∈l,TM a/\a.aF.length<=1000000
theorem aNj (R J D:List Own) (c T):((R++(J++(D++[c])))++T).Perm (J++(D++(c :: (R++T)))):=by
 have e:(R++(J++(D++[c])))++T=R++((J++(D++[c]))++T):=by simp only [b9]
 rw [e]
 refine (List.perm_append_comm_assoc _ _ _).trans ?_
 simp only [b9,List.cons_append,List.nil_append]
 exact .refl _
theorem UC (id):∀ (l:List bR) (n:L7),n.aM.length<=500->(lV id n l).aM.length<=500
 | [],n,h=>h
 | a :: l,n,h=>by
  have hn:(wC n id a.to (bs (rZ a))).1.aM.length<=500:=by
   unfold wC
   split
   .exact h
   split
   .exact h
   split
   .exact h
   .show (n.aM++[_]).length<=500
    rw [List.length_append,List.length_singleton]
    omega
  exact UC id l _ hn
theorem a7J (G):(iX G).mem=G.mem/\(iX G).eX=G.eX:=by
 unfold iX
 have h0:=o8 G 0
 have h1:=o8 (iE G 0) 1
 have h2:=o8 (iE (iE G 0) 1) 2
 exact ⟨h2.1.trans (h1.1.trans h0.1),h2.2.trans (h1.2.trans h0.2)⟩
theorem mT.note (h:mT Φ L G) (cp cc):mT Φ (zH L cp cc) (iX G):=⟨λi hi=>by rw [(a7J G).1];exact h.mem i hi,by rw [(a7J G).2];exact h.U3⟩
end
section
variable {W w:World} {S:List Own} {Φ:PW} {L:L9} {G:gP} {i:Nat}
theorem aAG [aB Φ] (hoff:∀ M w,Φ M w->rM M w) (hT:∀ M w,Φ M w->yB M w) (hF:mT Φ L G) (hi:i<3) {u} (hu:(G.mem i).up=some u) {o p1 p2 c1 c2} (hb:aLI u o) (kZ:∀ M w,Φ M w->Sl M w p1 o.aF) (cx:Ctx W w (cR L G++S) Φ) {K} (h0:∀ P' w',(cY (G.mem i).d u o).2.2=0->(∀ Ξ:PW,J6 Ξ (L.P i).q (G.mem i).d->O0 Ξ P' ⟨(cY (G.mem i).d u o).1,some (cY (G.mem i).d u o).2.1⟩)->Ctx W w' (cR (fL L i P') (cV G i ⟨(cY (G.mem i).d u o).1,some (cY (G.mem i).d u o).2.1⟩)++S) Φ->K (.returned (.int .i64 0)) w') (h1:∀ P' w',(cY (G.mem i).d u o).2.2≠0->(∀ Ξ:PW,J6 Ξ (L.P i).q (G.mem i).d->O0 Ξ P' ⟨(cY (G.mem i).d u o).1,none⟩)->Ctx W w' (cR (fL L i P') (cV G i ⟨(cY (G.mem i).d u o).1,none⟩)++S) Φ->K (.returned (.int .i64 (cY (G.mem i).d u o).2.2)) w'):
  aD F.lJ #[.pointer (some ⟨L.gb,i*4,none⟩),WL o p1 c1 p2 c2] w K:=by
 have hm:=hF.mem i hi
 have em:gY (L.P i) (G.mem i)=aS (L.P i).rb u.r (L.P i).rp (L.P i).rc++(eI (L.P i).x (L.P i).q u.j++(aZ (L.P i).q (G.mem i).d++[eS (L.P i).cb (L.P i).q u.c])):=by unfold gY;rw [hu];rfl
 have hsm:(G.mem i).up.isSome=true:=by rw [hu];rfl
 have hc1:(kW L G)[i*4+1]? = some (pA (L.P i).x.jb):=by rw [CW L G hi (by decide),hsm];rfl
 have hc2:(kW L G)[i*4+2]? = some (pA (L.P i).cb):=by rw [CW L G hi (by decide),hsm];rfl
 have pm:=RN L G hi S
 rw [em] at pm
 have ps:=(aNj (aS (L.P i).rb u.r (L.P i).rp (L.P i).rc) (eI (L.P i).x (L.P i).q u.j) (aZ (L.P i).q (G.mem i).d) (eS (L.P i).cb (L.P i).q u.c) (zG L G i++S))
 have er:(cY (G.mem i).d u o).2.1.r=u.r:=by unfold cY;simp only;split<;>rfl
 refine aEc (gb:=L.gb) (mO:=i*4) (cb:=(L.P i).cb) (cs:=kW L G) (q:=(L.P i).q) (d:=(G.mem i).d) (x:=(L.P i).x) (u:=u) (o:=o) (S:=aS (L.P i).rb u.r (L.P i).rp (L.P i).rc++(zG L G i++S)) hoff hT (by rw [aAs];omega) hc1 hc2 hm.dq hm.dk (hm.sb u hu) hb kZ (cx.perm (pm.trans (ps.cons _))) λv p c oo w hsb hq TY cx=>?_
 obtain ⟨⟨d1,u1,e1⟩,hs⟩:∃ s,cY (G.mem i).d u o=s:=⟨_,rfl⟩
 rw [hs] at hsb hq TY cx h0 h1 er ⊢
 simp only at hsb hq TY cx h0 h1 er ⊢
 by_cases he:e1=0
 .subst he
  rw [if_pos rfl] at cx
  have hP:∀ Ξ:PW,J6 Ξ (L.P i).q (G.mem i).d->O0 Ξ ⟨(L.P i).q.mv v,(L.P i).x.mv p c oo,(L.P i).cb,(L.P i).rb,(L.P i).rp,(L.P i).rc⟩ ⟨d1,some u1⟩:=λΞ hd=>⟨hq,hd.of TY v,λu2 h2=>by cases h2;exact hsb⟩
  refine h0 _ w rfl hP ?_
  have e4:=JA (L:=L) (G:=G) (i:=i) (P:=⟨(L.P i).q.mv v,(L.P i).x.mv p c oo,(L.P i).cb,(L.P i).rb,(L.P i).rp,(L.P i).rc⟩) (m:=⟨d1,some u1⟩) rfl rfl rfl rfl (by rw [hsm];rfl) hi
  refine cx.perm (List.Perm.trans ?_ (X4 (L:=L) (G:=G) ⟨(L.P i).q.mv v,(L.P i).x.mv p c oo,(L.P i).cb,(L.P i).rb,(L.P i).rp,(L.P i).rc⟩ ⟨d1,some u1⟩ hi S))
  rw [<-e4]
  refine .cons _ ?_
  have ps2:=(aNj (aS (L.P i).rb u.r (L.P i).rp (L.P i).rc) (eI ((L.P i).x.mv p c oo) (L.P i).q u1.j) (aZ ((L.P i).q.mv v) d1) (eS (L.P i).cb (L.P i).q u1.c) (zG L G i++S)).symm
  rw [<-er] at ps2 ⊢
  exact ps2
 .rw [if_neg he] at cx
  have hP:∀ Ξ:PW,J6 Ξ (L.P i).q (G.mem i).d->O0 Ξ ⟨(L.P i).q.mv v,(L.P i).x,(L.P i).cb,(L.P i).rb,(L.P i).rp,(L.P i).rc⟩ ⟨d1,none⟩:=λΞ hd=>⟨hq,hd.of TY v,λu2 h2=>by cases h2⟩
  refine h1 _ w he hP ?_
  have e4:=a7w (L:=L) (G:=G) (i:=i) (P:=⟨(L.P i).q.mv v,(L.P i).x,(L.P i).cb,(L.P i).rb,(L.P i).rp,(L.P i).rc⟩) (d:=d1) rfl hi
  have c5:Ctx W w (kG L.gb (F3 (kW L G) (i*4)) :: (aZ ((L.P i).q.mv v) d1++(zG L G i++S))) Φ:=by
   refine cx.sub (.cons_cons _ (List.Sublist.trans ?_ (List.sublist_append_right _ _)))
   exact List.Sublist.append_left (((List.sublist_append_right _ _)).cons _) _
  rw [e4] at c5
  exact c5.perm (X4 (L:=L) (G:=G) ⟨(L.P i).q.mv v,(L.P i).x,(L.P i).cb,(L.P i).rb,(L.P i).rp,(L.P i).rc⟩ ⟨d1,none⟩ hi S)
theorem a7K (id n l a):lV id n (l++[a])=(wC (lV id n l) id a.to (bs (rZ a))).1:=by unfold lV;rw [List.foldl_append];rfl
theorem aLU [aB Φ] (hoff:∀ M w,Φ M w->rM M w) (hT:∀ M w,Φ M w->yB M w) (hF:mT Φ L G) (hi:i<3) {u} (hu:(G.mem i).up=some u) {o p1 p2 c1 c2} (hb:aLI u o) (hsd:aV0 o.send) (hok:∀ j,j<3->∀ v,(G.mem j).up=some v->v.r.Ok) (hlen:o.send.length<=1000000) (kZ:∀ M w,Φ M w->Sl M w p1 o.aF) (aPJ:∀ M w,Φ M w->Sl M w p2 o.send) (cx:Ctx W w (cR L G++S) Φ) {K} (hk:∀ L' w',L'.gb=L.gb->(∀ Ξ:PW,mT Ξ L G->mT Ξ L' (doH G i u o).1)->Ctx W w' (cR L' (doH G i u o).1++S) Φ->K (.returned (.int .i64 (doH G i u o).2)) w'):
  aD F.nC #[.pointer (some ⟨L.gb,0,none⟩),.int .i64 (i:Int),WL o p1 c1 p2 c2] w K:=by
 obtain ⟨pb,po,pcs,hp2,cp⟩:=cx.pin (aPJ _ _ cx.tX)
 obtain ⟨Ψ,hΨ⟩:∃ Ψ:PW,Ψ=λM w=>Φ M w/\Pin pb po pcs o.send M w:=⟨_,rfl⟩
 haveI:aB Ψ:=by rw [hΨ];infer_instance
 have hw1:∀ M w,Ψ M w->Φ M w:=by rw [hΨ];exact λM w h=>h.1
 have zY:∀ M w,Ψ M w->Pin pb po pcs o.send M w:=by rw [hΨ];exact λM w h=>h.2
 rw [<-hΨ] at cp
 have aNk:∀ (L1:L9) (G1:gP),G1.mem=G.mem\/(∃ m:RC,G1.mem=(cV G i m).mem/\∀ v,m.up=some v->v.r=u.r)->∀ j,j<3->∀ v,(G1.mem j).up=some v->v.r.Ok:=λL1 G1 h j hj v hv=>by
  rcases h with e|⟨m,e,hr⟩
  .rw [e] at hv;exact hok j hj v hv
  .rw [e] at hv
   by_cases hij:j=i
   .subst hij
    have e2:(cV G j m).mem j=m:=cZ _ _ _
    rw [e2] at hv
    rw [hr v hv]
    exact hok j hj u hu
   .have e2:(cV G i m).mem j=G.mem j:=gN _ _ hij
    rw [e2] at hv
    exact hok j hj v hv
 have er:(cY (G.mem i).d u o).2.1.r=u.r:=by unfold cY;simp only;split<;>rfl
 refine fW (KV L.gb 0 (i:Int) o.save o.term o.aQ o.src p1 o.aF.length c1 p2 o.send.length c2 (J:=K∘.returned) cp λ_=>?_)
 refine ⟨[],VI,aL,λw F cx=>(Ctx.right cx).weak λ_ _ _=>trivial,by omega,λw F cx=>?_⟩
 rw [Nat.zero_add,Int.toNat_natCast]
 rw [b9] at cx
 refine aAG (L:=L) (G:=G) (i:=i) (S:=S++F) (λM w h=>hoff M w (hw1 M w h)) (λM w h=>hT M w (hw1 M w h)) (hF.weak hw1) hi hu hb (λM w h=>kZ M w (hw1 M w h)) cx (λP' w he hP cx=>?_) (λP' w he hP cx=>?_)
 rotate_left 1
 ·-- storing fails
  have eD:doH G i u o=(iX (cV G i ⟨(cY (G.mem i).d u o).1,none⟩),(cY (G.mem i).d u o).2.2):=by unfold doH;simp only;rw [if_neg he]
  rw [eD] at hk
  refine ⟨_,rfl,cR (fL L i P') (cV G i ⟨(cY (G.mem i).d u o).1,none⟩)++S,Ψ,aL,by rw [b9];exact cx,Br.intro (λh=>absurd (eC h) he) (λ_=>λw F cx=>?_)⟩
  rw [b9] at cx
  refine U5 (L:=fL L i P') (aNk (fL L i P') _ (.inr ⟨_,rfl,λv hv=>by cases hv⟩)) cx λcp cc w cx=>⟨rfl,cR (zH (fL L i P') cp cc) (iX (cV G i ⟨(cY (G.mem i).d u o).1,none⟩))++S,Ψ,aL,by rw [b9];exact cx,λw F cx=>?_⟩
  exact hk (zH (fL L i P') cp cc) w rfl (λΞ h=>mT.note (h.put (hP Ξ (h.mem i hi).dk)) cp cc) (cx.left.weak hw1)
 ·-- the messages are sent
  obtain ⟨L1,L8⟩:∃ L1,fL L i P'=L1:=⟨_,rfl⟩
  obtain ⟨G1,hG1⟩:∃ G1,cV G i ⟨(cY (G.mem i).d u o).1,some (cY (G.mem i).d u o).2.1⟩=G1:=⟨_,rfl⟩
  have hF1:∀ Ξ:PW,mT Ξ L G->mT Ξ L1 G1:=λΞ h=>by rw [<-L8,<-hG1];exact h.put (hP Ξ (h.mem i hi).dk)
  have hgb:L1.gb=L.gb:=by rw [<-L8];rfl
  have b0Y:G1.eX=G.eX:=by rw [<-hG1];rfl
  have eD:doH G i u o=(iX (pY G1 (lV i G1.eX o.send)),0):=by unfold doH;simp only;rw [if_pos he,hG1,b0Y]
  rw [L8,hG1] at cx
  rw [eD] at hk
  have aV1:∀ j,j<3->∀ v,(G1.mem j).up=some v->v.r.Ok:=aNk L1 G1 (.inr ⟨⟨(cY (G.mem i).d u o).1,some (cY (G.mem i).d u o).2.1⟩,by rw [<-hG1],λv hv=>by cases hv;exact er⟩)
  refine ⟨0,rfl,cR L1 G1++S,Ψ,aL,by rw [b9];exact cx,Br.intro (λ_=>?_) (λh=>absurd rfl (cS h))⟩
  refine dF (λnI R' Ξ κ=>∃ (j:Nat) (fp:Option Addr) (fc:Nat),nI=j/\j<=o.send.length/\κ=o.send.length - j/\Ξ=Ψ/\R'=cR (LB L1 fp fc) (pY G1 (lV i G1.eX (o.send.take j)))++S) ⟨⟨_,Ψ,_,aL,λw G cx=>cx,0,L1.N.fp,L1.N.fc,rfl,Nat.zero_le _,rfl,rfl,by rw [List.take_zero];rfl⟩,?_⟩
  rintro nI R1 Ξ κ _ ⟨j,fp,fc,rfl,hj,rfl,rfl,rfl⟩
  refine Br.intro (λhlt=>?_) (λhge=>λw F cx=>?_)
  .have hlt:j<o.send.length:=by have:=eC hlt;omega
   obtain ⟨mp,mc,hp,IC,hr2,hmo⟩:=aLJ (zY _ _ cx.tX) hlt
   have aV2:=hsd.msg _ (List.getElem_mem hlt)
   refine ⟨by omega,aU pb po (hp2 (by omega)) λw F cx=>⟨_,_,_,_,_,_,_,_,mp,_,mc,by rw [Int.toNat_natCast];exact aEe (zY _ _ cx.tX) hlt hp,λ_=>?_⟩⟩
   obtain ⟨n0,hn0⟩:∃ n0,lV i G1.eX (o.send.take j)=n0:=⟨_,rfl⟩
   rw [hn0] at cx ⊢
   have hl0:n0.aM.length<=500:=by rw [<-hn0];exact UC i _ _ (hF1 Φ hF).U3
   have sG:∀ Y:List Own,List.Sublist [kG L1.gb (kW (LB L1 fp fc) (pY G1 n0))] (cR (LB L1 fp fc) (pY G1 n0)++Y):=λY=>.cons_cons _ (List.nil_sublist _)
   refine ⟨[kG L1.gb (kW (LB L1 fp fc) (pY G1 n0))],VI,aL,λw G cx=>bX cx (sG S),some ⟨L1.N.nb,0,none⟩,λw G cx=>⟨_,by rw [<-hgb];exact cx.get 0 rfl rfl,rfl⟩,λw F cx=>?_⟩
   refine (a7h (Φ:=Ξ) (m:=o.send[j]) (p:=mp) (c:=mc) (λM w h=>hT M w (hw1 M w h)) (λM w h=>aEd (zY M w h) hlt hp) aV2.1 aV2.2).use cx λw cx=>⟨_,rfl,_,Ξ,aL,cx,λw G cx=>bX cx (sG S),λw F cx=>?_⟩
   rw [b9] at cx
   refine aDY (N:=⟨L1.N.nb,fp,fc⟩) (n:=n0) hl0 (cx.perm (a4U (LB L1 fp fc) (pY G1 n0) (S++F))) λfp2 fc2 w cx=>⟨_,rfl,cR (LB L1 fp2 fc2) (pY G1 (wC n0 i o.send[j].to (bs (rZ o.send[j]))).1)++S,Ξ,aL,by
    rw [b9]
    exact cx.perm (O3 (LB L1 fp fc) (pY G1 n0) fp2 fc2 (wC n0 i o.send[j].to (bs (rZ o.send[j]))).1 (S++F)),by unfold aX;omega,_,Ξ,_,aL,λw G cx=>cx,⟨j+1,fp2,fc2,by omega,by omega,rfl,rfl,by rw [List.take_succ_eq_append_getElem hlt,a7K,hn0]⟩,by omega⟩
  .have hje:j=o.send.length:=by have:=cS hge;omega
   subst hje
   rw [List.take_length,b9] at cx
   rw [<-hgb]
   refine U5 (L:=LB L1 fp fc) (G:=pY G1 (lV i G1.eX o.send)) aV1 cx λcp cc w cx=>⟨rfl,cR (zH (LB L1 fp fc) cp cc) (iX (pY G1 (lV i G1.eX o.send)))++S,Ξ,aL,by rw [b9];exact cx,λw F cx=>?_⟩
   refine hk (zH (LB L1 fp fc) cp cc) w hgb (λΞ h=>mT.note (L:=LB L1 fp fc) (G:=pY G1 (lV i G1.eX o.send)) ⟨(hF1 Ξ h).mem,UC i _ _ (hF1 Ξ h).U3⟩ cp cc) (cx.left.weak hw1)
end
section
variable {W w:World} {S:List Own} {Φ:PW} {L:L9} {G:gP} {i:Nat}
theorem RX (L G i u A F):LA L G i u (A++F)=LA L G i u A++F:=by
 have e:∀ (a:Own) (X R A F:List Own),a :: (X++(R++(A++F)))=(a :: (X++(R++A)))++F:=by intros;simp only [b9,List.cons_append]
 exact e _ _ _ _ _
theorem a7L (hi:i<3) {u} (hu:(G.mem i).up=some u) (r p c F):
  (aS (L.P i).rb r p c++LA L G i u F).Perm (cR (fL L i { L.P i with rp:=p,rc:=c }) (cV G i ⟨(G.mem i).d,some { u with r:=r }⟩)++F):=by
 refine List.Perm.trans ?_ (X4 (L:=L) (G:=G) { L.P i with rp:=p,rc:=c } ⟨(G.mem i).d,some { u with r:=r }⟩ hi F)
 have e4:=JA (L:=L) (G:=G) (i:=i) (P:={ L.P i with rp:=p,rc:=c }) (m:=⟨(G.mem i).d,some { u with r:=r }⟩) rfl rfl rfl rfl (by rw [hu];rfl) hi
 rw [<-e4]
 refine List.perm_middle.trans (.cons _ ?_)
 show (aS (L.P i).rb r p c++((eI (L.P i).x (L.P i).q u.j++(aZ (L.P i).q (G.mem i).d++[eS (L.P i).cb (L.P i).q u.c]))++(zG L G i++F))).Perm ((aS (L.P i).rb r p c++(eI (L.P i).x (L.P i).q u.j++(aZ (L.P i).q (G.mem i).d++[eS (L.P i).cb (L.P i).q u.c])))++(zG L G i++F))
 rw [b9 (aS (L.P i).rb r p c)]
structure a1O (u:WN) (x:dX × lT):Prop where
 sto:aLI { u with r:=x.1 } x.2
 snd:aV0 x.2.send
 len:x.2.send.length<=1000000
 ok:x.1.Ok
def rQ (G:gP):Prop:=∀ j,j<3->∀ v,(G.mem j).up=some v->v.r.Ok
theorem rQ.put (h:rQ G) {m} (hm:∀ v,m.up=some v->v.r.Ok):rQ (cV G i m):=λj hj v hv=>by
 by_cases e:j=i
 .subst e
  have e2:(cV G j m).mem j=m:=cZ _ _ _
  rw [e2] at hv
  exact hm v hv
 .have e2:(cV G i m).mem j=G.mem j:=gN _ _ e
  rw [e2] at hv
  exact h j hj v hv
theorem VT [aB Φ] (hoff:∀ M w,Φ M w->rM M w) (hT:∀ M w,Φ M w->yB M w) (hF:mT Φ L G) (hi:i<3) {u} (hu:(G.mem i).up=some u) (x) (hx:a1O u x) (hok:rQ G) {q1 q2 c1 c2 p c} (cx:Ctx W w (aS (L.P i).rb x.1 p c++LA L G i u S) (a4g Φ q1 x.2.aF q2 x.2.send)) {K} (hk:∀ L' w',L'.gb=L.gb->(∀ Ξ:PW,mT Ξ L G->mT Ξ L' (doG G i u x).1)->Ctx W w' (cR L' (doG G i u x).1++S) Φ->K (.returned (.int .i64 (doG G i u x).2)) w'):
  aD F.nC #[.pointer (some ⟨L.gb,0,none⟩),.int .i64 (i:Int),WL x.2 q1 c1 q2 c2] w K:=by
 have hw1:∀ M w,a4g Φ q1 x.2.aF q2 x.2.send M w->Φ M w:=λM w h=>h.1
 have hput:∀ Ξ:PW,mT Ξ L G->mT Ξ (fL L i { L.P i with rp:=p,rc:=c }) (cV G i ⟨(G.mem i).d,some { u with r:=x.1 }⟩):=λΞ h=>h.put ⟨(h.mem i hi).dq,(h.mem i hi).dk,λv hv=>by cases hv;exact (h.mem i hi).sb u hu⟩
 have eE:((cV G i ⟨(G.mem i).d,some { u with r:=x.1 }⟩).mem i).up=some { u with r:=x.1 }:=by show (put G.mem i _ i).up=_;rw [cZ]
 rw [aQn] at hk
 refine aLU (L:=fL L i { L.P i with rp:=p,rc:=c }) (G:=cV G i ⟨(G.mem i).d,some { u with r:=x.1 }⟩) (i:=i) (S:=S) (λM w h=>hoff M w (hw1 M w h)) (λM w h=>hT M w (hw1 M w h)) ((hput Φ hF).weak hw1) hi eE hx.sto hx.snd (hok.put λv hv=>by cases hv;exact hx.ok) hx.len (λM w h=>h.2.1) (λM w h=>h.2.2) (cx.perm (a7L hi hu x.1 p c S)) λL' w hgb hg cx=>?_
 exact hk L' w hgb (λΞ h=>hg Ξ (hput Ξ h)) (cx.weak hw1)
theorem a3f [aB Φ] (hoff:∀ M w,Φ M w->rM M w) (hT:∀ M w,Φ M w->yB M w) (hF:mT Φ L G) (hok:rQ G) {id fF fC f Z} (hx:∀ u,¬ (id<0\/3<=id)->(G.mem id.toNat).up=some u->a1O u (f u.r)) (hf:qA prog fF=true) (hfc:∀ u,¬ (id<0\/3<=id)->(G.mem id.toNat).up=some u->∀ {W w:World} {T:List Own} {b:Nat} {p:Option Addr} {c:Nat} {K:EkV},Ctx W w (aS b u.r p c++(Z++T)) Φ->I4 W (Z++T) Φ b (f u.r).1 (f u.r).2 (λv w=>K (.returned v) w)->Calls prog fF (Array.mk (.pointer (some ⟨b,0,none⟩) :: fC.toList)) w K) (cx:Ctx W w (cR L G++(Z++S)) Φ) {K} (hk:∀ L' w',L'.gb=L.gb->(∀ Ξ:PW,mT Ξ L G->mT Ξ L' (CS G id f).1)->Ctx W w' (cR L' (CS G id f).1++(Z++S)) Φ->K (.returned (.int .i64 (CS G id f).2)) w'):
  aD F.nU #[.pointer (some ⟨L.gb,0,none⟩),.int .i64 id,.func (.func fF) #[] fC] w K:=by
 unfold CS at hk
 refine fW (FQ L.gb 0 id fF fC (J:=K∘.returned) cx λw F cx=>?_)
 rw [b9] at cx
 refine RW cx λw cx=>⟨_,rfl,cR L G++(Z++S),Φ,aL,by rw [b9];exact cx,?_⟩
 unfold upG
 by_cases hid:id<0\/3<=id
 .rw [if_pos hid] at hk ⊢
  exact Br.intro (λ_=>λw F cx=>hk L w rfl (λ_ h=>h) cx.left) (λh=>absurd (cS h) (by decide))
 rw [if_neg hid] at hk ⊢
 cases hu:(G.mem id.toNat).up with
 | none =>
  rw [hu] at hk
  exact Br.intro (λ_=>λw F cx=>hk L w rfl (λ_ h=>h) cx.left) (λh=>absurd (cS h) (by decide))
 | some u =>
  rw [hu] at hk
  simp only at hk
  have hi:id.toNat<3:=by omega
  obtain ⟨i,rfl⟩:∃ i:Nat,id=i:=⟨id.toNat,by omega⟩
  rw [Int.toNat_natCast] at hu hi hk ⊢
  refine Br.intro (λh=>absurd rfl (eC h)) (λ_=>⟨by omega,λw F cx=>⟨some ⟨(L.P i).rb,0,none⟩,cx.get 0 rfl (by rw [Nat.zero_add,CW L G hi (by decide),hu];rfl),λw F cx=>⟨hf,?_⟩⟩⟩)
  rw [b9] at cx
  have pq:∀ F:List Own,(LA L G i u ((Z++S)++F)).Perm (Z++LA L G i u (S++F)):=λF=>by
   show (kG L.gb (kW L G) :: (_++(zG L G i++((Z++S)++F)))).Perm _
   have e1:kG L.gb (kW L G) :: ((eI (L.P i).x (L.P i).q u.j++(aZ (L.P i).q (G.mem i).d++[eS (L.P i).cb (L.P i).q u.c]))++(zG L G i++((Z++S)++F)))=(kG L.gb (kW L G) :: ((eI (L.P i).x (L.P i).q u.j++(aZ (L.P i).q (G.mem i).d++[eS (L.P i).cb (L.P i).q u.c]))++zG L G i))++(Z++(S++F)):=by simp only [b9,List.cons_append]
   rw [e1]
   refine (List.perm_append_comm_assoc _ _ _).trans ?_
   simp only [b9,List.cons_append]
   exact .refl _
  have c1:Ctx W w (aS (L.P i).rb u.r (L.P i).rp (L.P i).rc++(Z++LA L G i u (S++F))) Φ:=cx.perm ((O1 hi hu ((Z++S)++F)).trans ((pq F).append_left _))
  refine hfc u hid (by rw [Int.toNat_natCast];exact hu) c1 λp' c' q1 c1 q2 c2 w _ _ _ _ cx=>?_
  have c2:Ctx W w (aS (L.P i).rb (f u.r).1 p' c'++LA L G i u ((Z++S)++F)) (a4g Φ q1 (f u.r).2.aF q2 (f u.r).2.send):=cx.perm ((pq F).symm.append_left _)
  have e5:∀ F:List Own,aS (L.P i).rb (f u.r).1 p' c'++LA L G i u ((Z++S)++F)=(aS (L.P i).rb (f u.r).1 p' c'++LA L G i u (Z++S))++F:=λF=>by
   have e6:LA L G i u ((Z++S)++F)=LA L G i u (Z++S)++F:=RX _ _ _ _ _ _
   rw [e6,<-b9 (aS _ _ _ _)]
  refine ⟨_,_,_,_,_,_,_,_,_,_,rfl,aS (L.P i).rb (f u.r).1 p' c'++LA L G i u (Z++S),_,aL,by rw [<-e5];exact c2,λw F cx=>?_⟩
  rw [<-e5] at cx
  refine VT hoff hT hF hi hu (f u.r) (hx u hid (by rw [Int.toNat_natCast];exact hu)) hok (S:=(Z++S)++F) cx λL' w hgb hg cx=>⟨_,rfl,cR L' (doG G i u (f u.r)).1++(Z++S),Φ,aL,by rw [b9];exact cx,λw F cx=>hk L' w hgb hg cx.left⟩
end
section
variable {W w:World} {S:List Own} {Φ:PW} {L:L9} {G:gP} {i:Nat}
theorem a3g [aB Φ] (hoff:∀ M w,Φ M w->rM M w) (hT:∀ M w,Φ M w->yB M w) (hF:mT Φ L G) (hok:rQ G) {id} (hx:∀ u:WN,¬ (id<0\/3<=id)->(G.mem id.toNat).up=some u->a1O u (eG u.r)) (cx:Ctx W w (cR L G++S) Φ) {K} (hk:∀ L' w',L'.gb=L.gb->(∀ Ξ:PW,mT Ξ L G->mT Ξ L' (yF G id).1)->Ctx W w' (cR L' (yF G id).1++S) Φ->K (.returned (.int .i64 (yF G id).2)) w'):
  aD F.nT #[.pointer (some ⟨L.gb,0,none⟩),.int .i64 id] w K:=by
 refine fW (FO L.gb 0 id (J:=K∘.returned) cx λw Y cx=>?_)
 rw [b9] at cx
 refine a3f (Z:=[]) (fF:=F.nF) (fC:=#[]) (f:=eG) hoff hT hF hok hx (by kernel_rfl) (λu hid hu {_ _ _ _ _ _ _} cx hK=>aG2 cx (hok _ (by omega) u hu) hK) cx λL' w hgb hg cx=>⟨_,rfl,cR L' (yF G id).1++S,Φ,aL,by rw [b9];exact cx,λw Y cx=>hk L' w hgb hg cx.left⟩
theorem EP [aB Φ] (hoff:∀ M w,Φ M w->rM M w) (hT:∀ M w,Φ M w->yB M w) (hF:mT Φ L G) (hok:rQ G) {id data} (hx:∀ u:WN,¬ (id<0\/3<=id)->(G.mem id.toNat).up=some u->(u.r.role=2->1<=u.r.term)/\a1O u ((aK u.r data).1,(aK u.r data).2.2.2)) (hsame:∀ u:WN,(aK u.r data).2.2.1≠0->(aK u.r data).1=u.r) (cx:Ctx W w (cR L G++S) Φ) {K} (hk:∀ L' w',L'.gb=L.gb->(∀ Ξ:PW,mT Ξ L G->mT Ξ L' (dN G id data).1)->Ctx W w' (cR L' (dN G id data).1++S) Φ->K (.returned (.tuple #[.int .i64 (dN G id data).2.1,.int .i64 (dN G id data).2.2])) w'):
  aD F.eM #[.pointer (some ⟨L.gb,0,none⟩),.int .i64 id,.string data] w K:=by
 unfold dN at hk
 refine fW (B5 L.gb 0 id data (J:=K∘.returned) cx λw Y cx=>?_)
 rw [b9] at cx
 refine RW cx λw cx=>⟨_,rfl,cR L G++S,Φ,aL,by rw [b9];exact cx,?_⟩
 unfold upG
 by_cases hid:id<0\/3<=id
 .rw [if_pos hid] at hk ⊢
  exact Br.intro (λ_=>λw Y cx=>hk L w rfl (λ_ h=>h) cx.left) (λh=>absurd (cS h) (by decide))
 rw [if_neg hid] at hk ⊢
 cases hu:(G.mem id.toNat).up with
 | none =>
  rw [hu] at hk
  exact Br.intro (λ_=>λw Y cx=>hk L w rfl (λ_ h=>h) cx.left) (λh=>absurd (cS h) (by decide))
 | some u =>
  rw [hu] at hk
  simp only at hk
  have hi:id.toNat<3:=by omega
  obtain ⟨i,rfl⟩:∃ i:Nat,id=i:=⟨id.toNat,by omega⟩
  obtain ⟨hx1,hx2⟩:=hx u hid hu
  rw [Int.toNat_natCast] at hu hi hk ⊢
  refine Br.intro (λh=>absurd rfl (eC h)) (λ_=>⟨by omega,λw Y cx=>⟨some ⟨(L.P i).rb,0,none⟩,cx.get 0 rfl (by rw [Nat.zero_add,CW L G hi (by decide),hu];rfl),λw Y cx=>?_⟩⟩)
  rw [b9] at cx
  refine a6K (cx.perm (O1 hi hu (S++Y))) (hok i hi u hu) hx1 data λp' c' q1 c1 q2 c2 w _ _ _ _ cx=>?_
  obtain ⟨P,hP⟩:∃ P,aK u.r data=P:=⟨_,rfl⟩
  have hsm:=hsame u
  rw [hP] at cx hk hx2 hsm ⊢
  refine ⟨_,_,_,_,_,_,_,_,_,_,_,_,rfl,aS (L.P i).rb P.1 p' c'++LA L G i u S,_,aL,by rw [b9,<-RX];exact cx,λ_=>Br.intro (λh=>λw Y cx=>?_) (λh=>Br.intro (λ_=>λw Y cx=>?_) (λh2=>absurd (Decidable.not_not.1 (cS h2)) (cS h) ))⟩
  .have h0:P.2.2.1=0:=eC h
   rw [if_neg (by simp [h0])] at hk
   rw [b9,<-RX] at cx
   refine VT hoff hT hF hi hu (P.1,P.2.2.2) hx2 hok (S:=S++Y) cx λL' w hgb hg cx=>⟨_,rfl,cR L' (doG G i u (P.1,P.2.2.2)).1++S,Φ,aL,by rw [b9];exact cx,Br.intro (λh=>λw Y cx=>?_) (λh=>λw Y cx=>?_)⟩
   .rw [if_pos (eC h)] at hk
    exact hk L' w hgb hg cx.left
   .rw [if_neg (cS h)] at hk
    exact hk L' w hgb hg cx.left
  .have h0:P.2.2.1≠0:=cS h
   rw [if_pos h0] at hk
   rw [b9,<-RX,hsm h0] at cx
   have c2:=(cx.perm (a7L hi hu u.r p' c' (S++Y))).weak (Ψ:=Φ) λM w h=>h.1
   have e1:cV G i ⟨(G.mem i).d,some { u with r:=u.r }⟩=G:=by
    unfold cV
    have:(⟨(G.mem i).d,some { u with r:=u.r }⟩:RC)=G.mem i:=by rw [<-hu]
    rw [this,aH3]
   rw [e1] at c2
   refine hk (fL L i { L.P i with rp:=p',rc:=c' }) w rfl (λΞ h=>?_) (by rw [<-b9] at c2;exact c2.left)
   have:=h.put (i:=i) (P:={ L.P i with rp:=p',rc:=c' }) (m:=⟨(G.mem i).d,some { u with r:=u.r }⟩) ⟨(h.mem i hi).dq,(h.mem i hi).dk,λv hv=>by cases hv;exact (h.mem i hi).sb u hu⟩
   rw [e1] at this
   exact this
theorem aEn [aB Φ] (hN:∀ M w,Φ M w->tM M w) {k p m} (hl:p.body.data.toList.length<=1000000) (hm:AD p.body.data.toList=some m) (hmo:m.Ok) {b r} (hr:r.Ok) {rp rc T} (cx:Ctx W w (aS b r rp rc++([.blk k (pI p) 267]++T)) Φ) {K} (hK:I4 W ([.blk k (pI p) 267]++T) Φ b (cX r m).1 (cX r m).2 λv w=>K (.returned v) w):
  aD F.mK #[.pointer (some ⟨b,0,none⟩),.pointer (some ⟨k,0,none⟩)] w K:=by
 refine fW (xY b 0 k 0 (J:=K∘.returned) cx λ_ w Y cx=>⟨p.body,cx.get 2 rfl rfl,λw Y cx=>?_⟩)
 have eb:p.body=bs p.body.data.toList:=(aU8 _).symm
 rw [eb]
 refine aDR hN p.body.data.toList hl cx (λw h=>by rw [hm] at h;cases h) (λm2 q c w h zY hlen hqc hqm cx=>?_)
 rw [hm] at h
 cases h
 obtain ⟨Ψ,hΨ⟩:∃ Ψ:PW,Ψ=λM w=>Φ M w/\Sl M w q m.aF:=⟨_,rfl⟩
 haveI:aB Ψ:=by rw [hΨ];infer_instance
 have hw1:∀ M w,Ψ M w->Φ M w:=by rw [hΨ];exact λM w h=>h.1
 have zY:∀ M w,Ψ M w->Sl M w q m.aF:=by rw [hΨ];exact λM w h=>h.2
 rw [<-hΨ] at cx
 refine ⟨_,_,_,_,_,_,_,_,_,_,_,_,rfl,aS b r rp rc++([.blk k (pI p) 267]++T),Ψ,aL,cx,λ_ w Y cx=>?_⟩
 rw [b9] at cx
 refine aG9 cx hr m hmo q c zY hqc hqm λp' c' q1 c1 q2 c2 w b1 b2 b3 b4 cx=>⟨_,_,_,_,_,_,_,_,_,_,rfl,aS b (cX r m).1 p' c'++([.blk k (pI p) 267]++T),a4g Ψ q1 (cX r m).2.aF q2 (cX r m).2.send,aL,by rw [b9];exact cx,λw Y cx=>?_⟩
 exact hK p' c' q1 c1 q2 c2 w b1 b2 b3 b4 (cx.left.weak λM w h=>⟨hw1 M w h.1,h.2⟩)
structure PkH (G:gP) (p:NS) (m:bR):Prop where
 read:AD p.body.data.toList=some m
 ok:m.Ok
 len:p.body.data.toList.length<=1000000
 trn:∀ u:WN,¬ (p.to<0\/3<=p.to)->(G.mem p.to.toNat).up=some u->a1O u (cX u.r m)
theorem a4V {k} (h:iF G.eX k=none):gF G k=(G,4):=by
 unfold iF at h
 unfold gF
 split at h
 .rename_i hk;rw [if_pos hk]
 .rename_i hk;rw [if_neg hk,h]
theorem RY {k p} (h:iF G.eX k=some p):gF G k=if yE G.eX.split p.src p.to=false then (pY G (takeN G.eX k.toNat),10) else CS (pY G (takeN G.eX k.toNat)) p.to λr=>cX r ((AD p.body.data.toList).getD VE):=by
 unfold iF at h
 unfold gF
 split at h
 .cases h
 .rename_i hk
  rw [if_neg hk,h]
  rfl
theorem RZ [aB Φ] (hoff:∀ M w,Φ M w->rM M w) (hN:∀ M w,Φ M w->tM M w) (hF:mT Φ L G) (hok:rQ G) {k} (hpk:∀ p,iF G.eX k=some p->∃ m,PkH G p m) (cx:Ctx W w (cR L G++S) Φ) {K} (hk:∀ L' w',L'.gb=L.gb->(∀ Ξ:PW,mT Ξ L G->mT Ξ L' (gF G k).1)->Ctx W w' (cR L' (gF G k).1++S) Φ->K (.returned (.int .i64 (gF G k).2)) w'):
  aD F.eP #[.pointer (some ⟨L.gb,0,none⟩),.int .i64 k] w K:=by
 have hnb:(kW L G)[12]? = some (.pointer (some ⟨L.N.nb,0,none⟩)):=rfl
 refine fW (B7 L.gb 0 k (J:=K∘.returned) cx λw Y cx=>⟨_,cx.get 0 rfl hnb,λw Y cx=>?_⟩)
 rw [b9] at cx
 have hgt:∀ Ξ:PW,mT Ξ L G->mT Ξ L (pY G (takeN G.eX k.toNat)):=λΞ h=>⟨h.mem,Nat.le_trans (RV _ _).2 h.U3⟩
 have back:∀ {w:World} {n:L7} {Y:List Own},Ctx W w (fO L.N n++(kG L.gb (kW L G) :: (U2 L G.fV :: (J9 L G++Y)))) Φ->Ctx W w (cR L (pY G n)++Y) Φ:=fun {w n Y} c=>c.perm (O3 L G L.N.fp L.N.fc n Y)
 refine a4C (N:=L.N) (n:=G.eX) hF.U3 (cx.perm (a4U L G (S++Y))) (λw ht cx=>?_) (λp w ht hh cx=>?_) (λp w ht hh cx=>?_)
 .have hd:=a4V (G:=G) ht
  refine ⟨_,_,_,_,rfl,cR L G++S,Φ,aL,by rw [b9];exact back cx,λb w Y cx=>⟨cx.can 0 rfl (by show 0+3<=3;omega),λw' hw'=>⟨.blk b (pI aHZ) 267 :: (cR L G++S),Φ,aL,cx.F6 0 hw' rfl,Br.intro (λ_=>λw Y cx=>?_) (λh=>absurd (cS h) (by decide))⟩⟩⟩
  rw [hd] at hk
  exact hk L w rfl (λ_ h=>h) (Ctx.drop1 cx.left)
 .have hd:=RY (G:=G) ht
  rw [if_pos hh] at hd
  refine ⟨_,_,_,_,rfl,cR L (pY G (takeN G.eX k.toNat))++S,Φ,aL,by rw [b9];exact back cx,λb w Y cx=>⟨cx.can 0 rfl (by show 0+3<=3;omega),λw' hw'=>⟨.blk b (pI aHZ) 267 :: (cR L (pY G (takeN G.eX k.toNat))++S),Φ,aL,cx.F6 0 hw' rfl,Br.intro (λ_=>λw Y cx=>?_) (λh=>absurd (cS h) (by decide))⟩⟩⟩
  rw [hd] at hk
  exact hk L w rfl hgt (Ctx.drop1 cx.left)
 .have hd:=RY (G:=G) ht
  obtain ⟨m,hm⟩:=hpk p ht
  rw [if_neg (by rw [hh];simp),hm.read] at hd
  rw [hd] at hk
  refine ⟨_,_,_,_,rfl,cR L (pY G (takeN G.eX k.toNat))++S,Φ,aL,by rw [b9];exact back cx,λb w Y cx=>⟨cx.can 0 rfl (by show 0+3<=3;omega),λw' hw'=>⟨.blk b (pI p) 267 :: (cR L (pY G (takeN G.eX k.toNat))++S),Φ,aL,cx.F6 0 hw' rfl,Br.intro (λh=>absurd rfl (eC h)) (λ_=>λw Y cx=>⟨p.to,cx.get 0 rfl rfl,λw Y cx=>?_⟩)⟩⟩⟩
  have c1:Ctx W w (cR L (pY G (takeN G.eX k.toNat))++([.blk b (pI p) 267]++(S++Y))) Φ:=cx.perm (by
   rw [List.cons_append,b9]
   exact List.perm_append_comm_assoc [Own.blk b (pI p) 267] (cR L (pY G (takeN G.eX k.toNat))) (S++Y))
  refine a3f (L:=L) (G:=pY G (takeN G.eX k.toNat)) (Z:=[.blk b (pI p) 267]) (fF:=F.mK) (fC:=#[.pointer (some ⟨b,0,none⟩)]) (f:=λr=>cX r ((some m).getD VE)) hoff (λM w h=>(hN M w h).1) (hgt Φ hF) hok (λu h1 h2=>hm.trn u h1 h2) (by kernel_rfl) (λu h1 h2 {_ _ _ _ _ _ _} cx hK=>aEn hN hm.len hm.read hm.ok (hok _ (by omega) u h2) cx hK) c1 λL' w hgb hg cx=>⟨_,rfl,cR L' (CS (pY G (takeN G.eX k.toNat)) p.to λr=>cX r ((some m).getD VE)).1++S,Φ,aL,?_,λw Y cx=>hk L' w hgb (λΞ h=>hg Ξ (hgt Ξ h)) cx.left⟩
  rw [b9]
  exact Ctx.drop1 (cx.perm (List.perm_append_comm_assoc (cR L' _) [Own.blk b (pI p) 267] (S++Y)))
end
def a0I (G:gP) (id:Int) (m:Nat->RC) (n:Nat->Int):gP × Int:=if id<0\/3<=id then (G,1) else (iX (cV G id.toNat (m id.toNat)),n id.toNat)
section
variable {W w:World} {S:List Own} {Φ:PW} {L:L9} {G:gP} {i:Nat}
theorem x5 [aB Φ] (hF:mT Φ L G) {id:Int} {fF fC Z m' n} (hf:qA prog fF=true) (hok:∀ i:Nat,id=i->i<3->rQ (cV G i (m' i))) (hfc:∀ i:Nat,id=i->i<3->∀ {w:World} {T:List Own} {K:EkV},Ctx W w (kG L.gb (kW L G) :: (gY (L.P i) (G.mem i)++(Z++T))) Φ ->
   (∀ P' Ψ w',aB Ψ->(∀ M w,Ψ M w->Φ M w)->O0 Ψ P' (m' i)->Ctx W w' (kG L.gb (kW (fL L i P') (cV G i (m' i))) :: (gY P' (m' i)++(Z++T))) Ψ->K (.returned (.int .i64 (n i))) w')->Calls prog fF (Array.mk (.pointer (some ⟨L.gb,i*4,none⟩) :: fC.toList)) w K) (cx:Ctx W w (cR L G++(Z++S)) Φ) {K} (hk:∀ L' Ψ w',L'.gb=L.gb->aB Ψ->(∀ M w,Ψ M w->Φ M w)->mT Ψ L' (a0I G id m' n).1->Ctx W w' (cR L' (a0I G id m' n).1++(Z++S)) Ψ->K (.returned (.int .i64 (a0I G id m' n).2)) w'):
  aD F.fQ #[.pointer (some ⟨L.gb,0,none⟩),.int .i64 id,.func (.func fF) #[] fC] w K:=by
 unfold a0I at hk
 refine fW (B8 L.gb 0 id fF fC (J:=K∘.returned) cx λw Y cx=>?_)
 rw [b9] at cx
 refine RW cx λw cx=>⟨_,rfl,cR L G++(Z++S),Φ,aL,by rw [b9];exact cx,?_⟩
 by_cases hid:id<0\/3<=id
 .have e1:upG G id=1:=by unfold upG;rw [if_pos hid]
  rw [if_pos hid] at hk
  rw [e1]
  exact Br.intro (λ_=>λw Y cx=>hk L Φ w rfl aL (λ_ _ h=>h) hF cx.left) (λh=>absurd rfl (cS h))
 have e1:upG G id≠1:=by unfold upG;rw [if_neg hid];split<;>decide
 rw [if_neg hid] at hk
 refine Br.intro (λh=>absurd (eC h) e1) (λ_=>⟨by omega,λw Y cx=>⟨hf,?_⟩⟩)
 obtain ⟨i,rfl⟩:∃ i:Nat,id=i:=⟨id.toNat,by omega⟩
 have hi:i<3:=by omega
 rw [Int.toNat_natCast] at hk ⊢
 rw [Nat.zero_add]
 have pz:∀ (A:L9) (P:RM) (m:RC),(kG L.gb (kW A (cV G i m)) :: (gY P m++(zG L G i++((Z++S)++Y)))).Perm (kG L.gb (kW A (cV G i m)) :: (gY P m++(Z++(zG L G i++(S++Y))))):=λA P m=>by
  refine .cons _ (.append_left _ ?_)
  rw [b9]
  exact List.perm_append_comm_assoc _ _ _
 have c1:Ctx W w (kG L.gb (kW L G) :: (gY (L.P i) (G.mem i)++(Z++(zG L G i++(S++Y))))) Φ:=by
  rw [b9] at cx
  refine cx.perm ((RN L G hi ((Z++S)++Y)).trans (.cons _ (.append_left _ ?_)))
  rw [b9]
  exact List.perm_append_comm_assoc _ _ _
 refine hfc i rfl hi c1 λP' Ψ w hst hw hP cx=>?_
 haveI:=hst
 have c2:Ctx W w (cR (fL L i P') (cV G i (m' i))++((Z++S)++Y)) Ψ:=(cx.perm (pz _ _ _).symm).perm (X4 (L:=L) (G:=G) P' (m' i) hi ((Z++S)++Y))
 refine ⟨_,rfl,cR (fL L i P') (cV G i (m' i))++(Z++S),Ψ,hst,by rw [b9];exact c2,λw Y cx=>?_⟩
 rw [b9] at cx
 refine U5 (L:=fL L i P') (hok i rfl hi) cx λcp cc w cx=>⟨rfl,cR (zH (fL L i P') cp cc) (iX (cV G i (m' i)))++(Z++S),Ψ,hst,by rw [b9];exact cx,λw Y cx=>?_⟩
 exact hk (zH (fL L i P') cp cc) Ψ w rfl hst hw (mT.note ((hF.weak hw).put hP) cp cc) cx.left
theorem aIF (P:RM) (m:RC) (T:List Own):(gY P m++T).Perm (aZ P.q m.d++((match m.up with|none=>[]|some u=>aS P.rb u.r P.rp P.rc++(eI P.x P.q u.j++[eS P.cb P.q u.c]))++T)):=by
 unfold gY
 cases hu:m.up with
 | none=>exact .refl _
 | some u =>
  show ((aS P.rb u.r P.rp P.rc++(eI P.x P.q u.j++(aZ P.q m.d++[eS P.cb P.q u.c])))++T).Perm (aZ P.q m.d++((aS P.rb u.r P.rp P.rc++(eI P.x P.q u.j++[eS P.cb P.q u.c]))++T))
  have e1:(aS P.rb u.r P.rp P.rc++(eI P.x P.q u.j++(aZ P.q m.d++[eS P.cb P.q u.c])))++T=(aS P.rb u.r P.rp P.rc++eI P.x P.q u.j)++(aZ P.q m.d++([eS P.cb P.q u.c]++T)):=by simp only [b9]
  have e2:(aS P.rb u.r P.rp P.rc++(eI P.x P.q u.j++[eS P.cb P.q u.c]))++T=(aS P.rb u.r P.rp P.rc++eI P.x P.q u.j)++([eS P.cb P.q u.c]++T):=by simp only [b9]
  rw [e1,e2]
  exact List.perm_append_comm_assoc _ _ _
def aAH (P:RM) (m:RC):List Own:=match m.up with
 | none=>[]
 | some u=>aS P.rb u.r P.rp P.rc++(eI P.x P.q u.j++[eS P.cb P.q u.c])
theorem yO (P m gb cs X Y):((kG gb cs :: (gY P m++X))++Y).Perm (aZ P.q m.d++(kG gb cs :: (aAH P m++(X++Y)))):=by
 rw [List.cons_append,b9]
 exact ((aIF P m (X++Y)).cons _).trans List.perm_middle.symm
theorem aLV (P m q d) (hq:q.db=P.q.db):aAH { P with q:=q } { m with d:=d }=aAH P m:=by
 unfold aAH
 cases m.up with
 | none=>rfl
 | some u=>simp only [eI,joB,eS,clB,hq]
theorem a3h (P m q d) (hq:q.db=P.q.db) (gb cs X Y):(aZ q d++(kG gb cs :: (aAH P m++(X++Y)))).Perm ((kG gb cs :: (gY { P with q:=q } { m with d:=d }++X))++Y):=by
 have h:=(yO { P with q:=q } { m with d:=d } gb cs X Y).symm
 rw [aLV P m q d hq] at h
 exact h
theorem aNm (P q d) (hi:i<3) (hP:P=L.P i) (hq:q.db=P.q.db):kW L G=kW (fL L i { P with q:=q }) (cV G i { G.mem i with d:=d }):=by
 subst hP
 exact JA hq rfl rfl rfl rfl hi
theorem aEo [aB Φ] (hF:mT Φ L G) (hi:i<3) {k n} (hn:aX n) {T} (cx:Ctx W w (kG L.gb (kW L G) :: (gY (L.P i) (G.mem i)++([Own.blk k [.int .i64 n] 3]++T))) Φ) {K} (hk:∀ P' Ψ w',aB Ψ->(∀ M w,Ψ M w->Φ M w)->O0 Ψ P' { G.mem i with d:=nL (G.mem i).d n }->Ctx W w' (kG L.gb (kW (fL L i P') (cV G i { G.mem i with d:=nL (G.mem i).d n })) :: (gY P' { G.mem i with d:=nL (G.mem i).d n }++([Own.blk k [.int .i64 n] 3]++T))) Ψ->K (.returned (.int .i64 0)) w'):
  aD F.pU #[.pointer (some ⟨L.gb,i*4,none⟩),.pointer (some ⟨k,0,none⟩)] w K:=by
 have hm:=hF.mem i hi
 have h0:(kW L G)[i*4]? = some (.pointer (some ⟨(L.P i).q.db,0,none⟩)):=CW L G hi (k:=0) (by decide)
 refine fW (CH L.gb (i*4) k 0 (J:=K∘.returned) cx ⟨[kG L.gb (kW L G),.blk k [.int .i64 n] 3],VI,aL,λw Y cx=>bX cx (.cons_cons _ ((List.sublist_append_left _ _).trans (List.sublist_append_right _ _))),n,λw Y cx=>⟨_,cx.get 1 rfl rfl,rfl⟩,some ⟨(L.P i).q.db,0,none⟩,λw Y cx=>⟨_,cx.get 0 rfl h0,rfl⟩,λw Y cx=>?_⟩)
 refine a69 hm.dq hn (cx.perm (yO _ _ _ _ _ _)) λw hq cx=>⟨rfl,_,Φ,aL,cx.perm (a3h (L.P i) (G.mem i) (L.P i).q (nL (G.mem i).d n) rfl L.gb (kW L G) _ Y),λw Y cx=>?_⟩
 have e4:=aNm (L:=L) (G:=G) (i:=i) (L.P i) (L.P i).q (nL (G.mem i).d n) hi rfl rfl
 rw [e4] at cx
 exact hk _ Φ w aL (λ_ _ h=>h) ⟨hq,⟨hm.dk.le,hm.dk.sl⟩,hm.sb⟩ cx.left
theorem aIG [aB Φ] (hF:mT Φ L G) (hi:i<3) {k k2 n} (hn:aX n) {p c l} (hl:l.length<=1000000) (kZ:∀ M w,Φ M w->Sl M w p l) {T} (cx:Ctx W w (kG L.gb (kW L G) :: (gY (L.P i) (G.mem i)++([Own.blk k2 [.slice p l.length c] 37,.blk k [.int .i64 n] 3]++T))) Φ) {K} (hk:∀ P' Ψ w',aB Ψ->(∀ M w,Ψ M w->Φ M w)->O0 Ψ P' { G.mem i with d:=vU (G.mem i).d n l }->Ctx W w' (kG L.gb (kW (fL L i P') (cV G i { G.mem i with d:=vU (G.mem i).d n l })) :: (gY P' { G.mem i with d:=vU (G.mem i).d n l }++([Own.blk k2 [.slice p l.length c] 37,.blk k [.int .i64 n] 3]++T))) Ψ->K (.returned (.int .i64 0)) w'):
  aD F.r8 #[.pointer (some ⟨L.gb,i*4,none⟩),.pointer (some ⟨k,0,none⟩),.pointer (some ⟨k2,0,none⟩)] w K:=by
 have hm:=hF.mem i hi
 have h0:(kW L G)[i*4]? = some (.pointer (some ⟨(L.P i).q.db,0,none⟩)):=CW L G hi (k:=0) (by decide)
 refine fW (E0 L.gb (i*4) k 0 k2 0 (J:=K∘.returned) cx ⟨[kG L.gb (kW L G),.blk k2 [.slice p l.length c] 37,.blk k [.int .i64 n] 3],VI,aL,λw Y cx=>bX cx (.cons_cons _ ((List.sublist_append_left _ _).trans (List.sublist_append_right _ _))),n,λw Y cx=>⟨_,cx.get 2 rfl rfl,rfl⟩,p,l.length,c,λw Y cx=>⟨_,_,_,cx.get 1 rfl rfl,rfl⟩,some ⟨(L.P i).q.db,0,none⟩,λw Y cx=>⟨_,cx.get 0 rfl h0,rfl⟩,λw Y cx=>?_⟩)
 refine aB0 hm.dq hn hl kZ (cx.perm (yO _ _ _ _ _ _)) λp' c' w hq cx=>?_
 obtain ⟨q1,hq1⟩:∃ q1:DkP,q1={ (L.P i).q with kp:=p',kc:=c' }:=⟨_,rfl⟩
 have hdb:q1.db=(L.P i).q.db:=by rw [hq1]
 rw [<-hq1] at hq cx
 obtain ⟨Ψ,hΨ⟩:∃ Ψ:PW,Ψ=λM w=>Φ M w/\dkF q1 (vU (G.mem i).d n l) M w:=⟨_,rfl⟩
 haveI:aB Ψ:=by rw [hΨ];infer_instance
 have hw1:∀ M w,Ψ M w->Φ M w:=by rw [hΨ];exact λM w h=>h.1
 have zY:∀ M w,Ψ M w->dkF q1 (vU (G.mem i).d n l) M w:=by rw [hΨ];exact λM w h=>h.2
 rw [<-hΨ] at cx
 refine ⟨rfl,_,Ψ,aL,cx.perm (a3h (L.P i) (G.mem i) q1 (vU (G.mem i).d n l) hdb L.gb (kW L G) _ Y),λw Y cx=>?_⟩
 have e4:=aNm (L:=L) (G:=G) (i:=i) (L.P i) q1 (vU (G.mem i).d n l) hi rfl hdb
 rw [e4] at cx
 exact hk { L.P i with q:=q1 } Ψ w aL hw1 ⟨hq,⟨hl,zY⟩,hm.sb⟩ cx.left
theorem aAI [aB Φ] (hF:mT Φ L G) (hi:i<3) {k p c l} (hl:l.length<=1000000) (kZ:∀ M w,Φ M w->Sl M w p l) {T} (cx:Ctx W w (kG L.gb (kW L G) :: (gY (L.P i) (G.mem i)++([Own.blk k [.slice p l.length c] 37]++T))) Φ) {K} (hk:∀ P' Ψ w',aB Ψ->(∀ M w,Ψ M w->Φ M w)->O0 Ψ P' ⟨cQ (G.mem i).d l,none⟩->Ctx W w' (kG L.gb (kW (fL L i P') (cV G i ⟨cQ (G.mem i).d l,none⟩)) :: (gY P' ⟨cQ (G.mem i).d l,none⟩++([Own.blk k [.slice p l.length c] 37]++T))) Ψ->K (.returned (.int .i64 0)) w'):
  aD F.oI #[.pointer (some ⟨L.gb,i*4,none⟩),.pointer (some ⟨k,0,none⟩)] w K:=by
 have hm:=hF.mem i hi
 have h0:(kW L G)[i*4]? = some (.pointer (some ⟨(L.P i).q.db,0,none⟩)):=CW L G hi (k:=0) (by decide)
 refine fW (BA L.gb (i*4) k 0 (J:=K∘.returned) cx ⟨[kG L.gb (kW L G),.blk k [.slice p l.length c] 37],VI,aL,λw Y cx=>bX cx (.cons_cons _ ((List.sublist_append_left _ _).trans (List.sublist_append_right _ _))),p,l.length,c,λw Y cx=>⟨_,_,_,cx.get 1 rfl rfl,rfl⟩,some ⟨(L.P i).q.db,0,none⟩,λw Y cx=>⟨_,cx.get 0 rfl h0,rfl⟩,λw Y cx=>?_⟩)
 refine K0 hm.dq hl kZ (cx.perm (yO _ _ _ _ _ _)) λu w hq cx=>?_
 have c1:Ctx W w (kG L.gb (kW L G) :: ((aZ ((L.P i).q.mv u) (cQ (G.mem i).d l)++([Own.blk k [.slice p l.length c] 37]++T))++Y)) Φ:=by
  have c2:=cx.perm (List.perm_middle (a:=kG L.gb (kW L G)))
  refine c2.sub (.cons_cons _ ?_)
  rw [b9]
  exact List.Sublist.append_left (List.sublist_append_right _ _) _
 refine ⟨rfl,kG L.gb (kW L G) :: (aZ ((L.P i).q.mv u) (cQ (G.mem i).d l)++([Own.blk k [.slice p l.length c] 37]++T)),Φ,aL,c1,λw Y cx=>?_⟩
 refine a0n (by rw [aAs];omega) cx λw cx=>⟨rfl,kG L.gb (F3 (kW L G) (i*4)) :: (aZ ((L.P i).q.mv u) (cQ (G.mem i).d l)++([Own.blk k [.slice p l.length c] 37]++T)),Φ,aL,cx,λw Y cx=>?_⟩
 have e4:=a7w (L:=L) (G:=G) (i:=i) (P:={ L.P i with q:=(L.P i).q.mv u }) (d:=cQ (G.mem i).d l) rfl hi
 rw [e4] at cx
 exact hk { L.P i with q:=(L.P i).q.mv u } Φ w aL (λ_ _ h=>h) ⟨hq,hm.dk.of (EC _ _) u,λv hv=>by cases hv⟩ cx.left
def nN (i:Nat) (m:RC):RC:=match m.up with
 | some _=>m
 | none=>⟨(bZ i (eA m.d)).1,(bZ i (eA m.d)).2.1⟩
def rR (i:Nat) (m:RC):Int:=match m.up with
 | some _=>7
 | none=>(bZ i (eA m.d)).2.2
theorem aAJ [aB Φ] (hoff:∀ M w,Φ M w->rM M w) (hN:∀ M w,Φ M w->tM M w) (hF:mT Φ L G) (hi:i<3) {k} (aH1:∀ up,(bZ i (eA (G.mem i).d)).2.1=some up->aD2 i up) (hne:∀ up,(bZ i (eA (G.mem i).d)).2.1=some up->(bZ i (eA (G.mem i).d)).2.2=0) {T} (cx:Ctx W w (kG L.gb (kW L G) :: (gY (L.P i) (G.mem i)++([Own.blk k [.int .i64 (i:Int)] 3]++T))) Φ) {K} (hk:∀ P' Ψ w',aB Ψ->(∀ M w,Ψ M w->Φ M w)->O0 Ψ P' (nN i (G.mem i))->Ctx W w' (kG L.gb (kW (fL L i P') (cV G i (nN i (G.mem i)))) :: (gY P' (nN i (G.mem i))++([Own.blk k [.int .i64 (i:Int)] 3]++T))) Ψ->K (.returned (.int .i64 (rR i (G.mem i)))) w'):
  aD F.oG #[.pointer (some ⟨L.gb,i*4,none⟩),.pointer (some ⟨k,0,none⟩)] w K:=by
 have hm:=hF.mem i hi
 have h0:(kW L G)[i*4]? = some (.pointer (some ⟨(L.P i).q.db,0,none⟩)):=CW L G hi (k:=0) (by decide)
 have h3:(kW L G)[i*4+3]? = some (.pointer (oA (G.mem i).up.isSome (L.P i).rb)):=CW L G hi (k:=3) (by decide)
 refine fW (B9 L.gb (i*4) k 0 (J:=K∘.returned) cx λw Y cx=>⟨_,cx.get 0 rfl h3,?_⟩)
 cases hu:(G.mem i).up with
 | some u =>
  have e1:nN i (G.mem i)=G.mem i:=by unfold nN;rw [hu]
  have e2:rR i (G.mem i)=7:=by unfold rR;rw [hu]
  rw [e1,e2] at hk
  refine Br.intro (λ_=>λw Y cx=>?_) (λh=>by cases h)
  have e4:=JA (L:=L) (G:=G) (i:=i) (P:=L.P i) (m:=G.mem i) rfl rfl rfl rfl rfl hi
  rw [e4] at cx
  exact hk (L.P i) Φ w aL (λ_ _ h=>h) hm cx.left
 | none =>
  have e1:nN i (G.mem i)=⟨(bZ i (eA (G.mem i).d)).1,(bZ i (eA (G.mem i).d)).2.1⟩:=by unfold nN;rw [hu]
  have e2:rR i (G.mem i)=(bZ i (eA (G.mem i).d)).2.2:=by unfold rR;rw [hu]
  rw [e1,e2] at hk
  refine Br.intro (λh=>by cases h) (λ_=>λw Y cx=>⟨_,cx.get 0 rfl h0,λw Y cx=>?_⟩)
  have em:gY (L.P i) (G.mem i)=aZ (L.P i).q (G.mem i).d:=by unfold gY;rw [hu]
  rw [em] at cx
  have pd:∀ (q:DkP) (d:gZ) (Y:List Own),((kG L.gb (kW L G) :: (aZ q d++([Own.blk k [.int .i64 (i:Int)] 3]++T)))++Y).Perm (aZ q d++(kG L.gb (kW L G) :: (([Own.blk k [.int .i64 (i:Int)] 3]++T)++Y))):=λq d Y=>by
   rw [List.cons_append,b9]
   exact List.perm_middle.symm
  refine a2K hm.dq (cx.perm (pd _ _ _)) λw hq cx=>⟨rfl,kG L.gb (kW L G) :: (aZ (L.P i).q (eA (G.mem i).d)++([Own.blk k [.int .i64 (i:Int)] 3]++T)),Φ,aL,cx.perm (pd _ _ _).symm,λw Y cx=>⟨(i:Int),?_,λw Y cx=>?_⟩⟩
  .exact (cx.perm (pd _ _ _)).get 5 rfl rfl
  .have hk1:J6 Φ (L.P i).q (eA (G.mem i).d):=⟨hm.dk.le,hm.dk.sl⟩
   rw [List.cons_append,b9] at cx
   refine a2X (id:=i) hoff hN h0 (by rw [aAs];omega) hq hk1 aH1 cx (λu w ho he hq1 TY cx=>?_) (λu x cb rb rp rc up w ho he hsb hq1 TY cx=>?_)
   .refine ⟨_,rfl,kG L.gb (kW L G) :: (aZ ((L.P i).q.mv u) (bZ i (eA (G.mem i).d)).1++([Own.blk k [.int .i64 (i:Int)] 3]++T)),Φ,aL,by rw [List.cons_append,b9];exact cx,λw Y cx=>?_⟩
    have e4:=JA (L:=L) (G:=G) (i:=i) (P:={ L.P i with q:=(L.P i).q.mv u }) (m:=⟨(bZ i (eA (G.mem i).d)).1,none⟩) rfl rfl rfl rfl (by rw [hu]) hi
    rw [ho] at hk
    rw [e4] at cx
    exact hk { L.P i with q:=(L.P i).q.mv u } Φ w aL (λ_ _ h=>h) ⟨hq1,hk1.of TY u,λv hv=>by cases hv⟩ cx.left
   .rw [ho,he] at hk
    obtain ⟨P',hP'⟩:∃ P':RM,P'=⟨(L.P i).q.mv u,x,cb,rb,rp,rc⟩:=⟨_,rfl⟩
    have e4:=aP1 (L:=L) (G:=G) (i:=i) (P:=⟨(L.P i).q.mv u,x,cb,rb,rp,rc⟩) (d:=(bZ i (eA (G.mem i).d)).1) (u:=up) rfl hi
    have e5:(bZ i (eA (G.mem i).d)).2.2=0:=he
    have c5:Ctx W w ((kG L.gb (kW (fL L i ⟨(L.P i).q.mv u,x,cb,rb,rp,rc⟩) (cV G i ⟨(bZ i (eA (G.mem i).d)).1,some up⟩)) :: (gY ⟨(L.P i).q.mv u,x,cb,rb,rp,rc⟩ ⟨(bZ i (eA (G.mem i).d)).1,some up⟩++([Own.blk k [.int .i64 (i:Int)] 3]++T)))++Y) Φ:=by
     rw [<-e4]
     refine cx.perm (.cons _ ?_)
     show (aS rb up.r rp rc++(eI x (L.P i).q up.j++([eS cb (L.P i).q up.c]++(aZ ((L.P i).q.mv u) (bZ i (eA (G.mem i).d)).1++(([Own.blk k [.int .i64 (i:Int)] 3]++T)++Y))))).Perm (((aS rb up.r rp rc++(eI x ((L.P i).q.mv u) up.j++(aZ ((L.P i).q.mv u) (bZ i (eA (G.mem i).d)).1++[eS cb ((L.P i).q.mv u) up.c])))++([Own.blk k [.int .i64 (i:Int)] 3]++T))++Y)
     rw [b9 (aS rb up.r rp rc++_),b9 (aS rb up.r rp rc),b9 (eI x _ up.j),b9 (aZ _ _)]
     exact .append_left _ (.append_left _ (List.perm_append_comm_assoc _ _ _))
    refine ⟨0,rfl,_,Φ,aL,c5,λw Y cx=>?_⟩
    exact hk ⟨(L.P i).q.mv u,x,cb,rb,rp,rc⟩ Φ w aL (λ_ _ h=>h) ⟨hq1,hk1.of TY u,λv hv=>by cases hv;exact hsb⟩ cx.left
end
structure OpG where
 kind:Int
 id:Int
 n:Int
 data:ByteArray
 keep:List Int
def opK (G:gP) (o:OpG) (i k:Int):gP × Int × Int :=
 if k=0 then ((yF G o.id).1,0,(yF G o.id).2) else
 if k=1 then dN G o.id o.data else
 if k=2\/k=3\/k=4 then ((gF G i).1,0,(gF G i).2) else
 if k=5 then ((F0 G i).1,0,(F0 G i).2) else
 if k=6 then ((pP G i).1,0,(pP G i).2) else
 if k=7 then (TQ G o.n,0,0) else
 if k=8 then (a2H G,0,0) else
 if k=9 then ((E9 G o.id o.keep).1,0,(E9 G o.id o.keep).2) else
 if k=10 then ((BH G o.id).1,0,(BH G o.id).2) else
 if k=11 then ((RD G o.id o.n).1,0,(RD G o.id o.n).2) else
 if k=12 then ((a4t G o.id o.n o.keep).1,0,(a4t G o.id o.n o.keep).2) else
 ((cE G o.id (oF o.n 100)).1,((cE G o.id (oF o.n 100)).2:Int),0)
def opG (G:gP) (o:OpG):gP × Int × Int:=opK G o (oF o.n G.eX.aM.length) (oF o.kind 14)
section
variable {N N' D:Nat} {B B':Int} {G G':gP} {C C':Cl} {g g':Gh} {A A':Int->Nat->Nat} {i:Nat}
theorem GI.op (h:GI N B D G C g A) (vA:(N+1)*(D+90)<=1048576) (o) (hd:o.data.size<=D):AJ (N+1) (B+1) D G g A (opG G o).1:=by
 have aAK:N*(D+90)<=1048576:=Nat.le_trans (Nat.mul_le_mul_right _ (Nat.le_succ N)) vA
 have up:∀ {G'},AJ N B D G g A G'->AJ (N+1) (B+1) D G g A G':=λh=>h.more (Nat.le_succ N) (by omega)
 have up1:∀ {G'},AJ N (B+1) D G g A G'->AJ (N+1) (B+1) D G g A G':=λh=>h.more (Nat.le_succ N) (Int.le_refl _)
 unfold opG
 generalize oF o.n (G.eX.aM.length:Int)=i
 generalize oF o.kind 14=k
 unfold opK
 by_cases e0:k=0
 .rw [if_pos e0];exact up1 (h.tick aAK _)
 rw [if_neg e0]
 by_cases e1:k=1
 .rw [if_pos e1];exact (h.a4T vA _ hd).more (Nat.le_refl _) (by omega)
 rw [if_neg e1]
 by_cases e2:k=2\/k=3\/k=4
 .rw [if_pos e2];exact up (h.EG aAK _)
 rw [if_neg e2]
 by_cases e3:k=5
 .rw [if_pos e3];exact up (h.drop _)
 rw [if_neg e3]
 by_cases e4:k=6
 .rw [if_pos e4];exact up (h.double _)
 rw [if_neg e4]
 by_cases e5:k=7
 .rw [if_pos e5];exact up (h.split _)
 rw [if_neg e5]
 by_cases e6:k=8
 .rw [if_pos e6];exact up h.b0X
 rw [if_neg e6]
 by_cases e7:k=9
 .rw [if_pos e7];exact up (h.a6Y _ _)
 rw [if_neg e7]
 by_cases e8:k=10
 .rw [if_pos e8];exact up (h.start _)
 rw [if_neg e8]
 by_cases e9:k=11
 .rw [if_pos e9];exact up (h.lose _ _)
 rw [if_neg e9]
 by_cases e10:k=12
 .rw [if_pos e10];exact up (h.arm _ _ _)
 rw [if_neg e10]
 exact up1 (h.settle aAK _ _)
theorem aLX {id r} (h:yH G id=r) (hr:r ≠ -1):¬ (id<0\/3<=id)/\∃ u,(G.mem id.toNat).up=some u/\u.r.role=r/\wD G id=u.r.term:=by
 unfold yH at h
 split at h
 .exact absurd h.symm hr
 rename_i hid
 split at h
 .exact absurd h.symm hr
 .rename_i u hu
  refine ⟨hid,u,hu,h,?_⟩
  unfold wD
  rw [if_neg hid,hu]
theorem aCn (h:GJ N B D G C g A) (hi:i<3) (hr:yH G i=2):g.ld (wD G i)=i:=by
 obtain ⟨_,u,hu,h1,h2⟩:=aLX hr (by decide)
 have e:((i:Nat):Int).toNat=i:=Int.toNat_natCast i
 rw [e] at hu
 obtain ⟨e2,_⟩:=h.up i hi u hu
 rw [h2,e2]
 rw [e2] at h1
 exact (h.s.m.lead i hi h1).1
def vB (g:Gh) (ts ls:List Int):Prop:=ts.length=ls.length/\∀ (k:Nat) (a b:Int),ts[k]? = some a->ls[k]? = some b->g.ld a=b/\b ≠ -1
theorem vB.aft {ts ls} (h:vB g ts ls) (ha:Aft g A g' A'):vB g' ts ls:=⟨h.1,λk a b h1 h2=>by
 obtain ⟨h3,h4⟩:=h.2 k a b h1 h2
 exact ⟨by rw [ha.ld a (by rw [h3];exact h4),h3],h4⟩⟩
theorem vB.snoc {ts ls} (h:vB g ts ls) {t} {l:Nat} (ht:g.ld t=l):vB g (ts++[t]) (ls++[(l:Int)]):=by
 refine ⟨by simp [h.1],λk a b h1 h2=>?_⟩
 have hl:=h.1
 by_cases hk:k<ts.length
 .rw [List.getElem?_append_left hk] at h1
  rw [List.getElem?_append_left (by omega)] at h2
  exact h.2 k a b h1 h2
 .rw [List.getElem?_append_right (by omega)] at h1
  rw [List.getElem?_append_right (by omega)] at h2
  have hk0:k - ts.length=0:=by
   rcases Nat.eq_zero_or_pos (k - ts.length) with e|e
   .exact e
   .rw [List.getElem?_eq_none (by simp;omega)] at h1;cases h1
  rw [hk0] at h1
  rw [show k - ls.length=0 by omega] at h2
  simp only [List.getElem?_cons_zero,Option.some.injEq] at h1 h2
  subst h1 h2
  exact ⟨ht,by omega⟩
theorem vB.nil:vB g [] []:=⟨rfl,λk a b h=>by simp at h⟩
end
section
variable {W w:World} {S:List Own} {Φ:PW} {L:L9} {G:gP} {i:Nat}
theorem rQ.aV4 (h:rQ G) (hi:i<3) (d):rQ (cV G i { G.mem i with d:=d }):=h.put λv hv=>h i hi v hv
theorem a4W [aB Φ] {a w Y} (cx:Ctx W w ((a++(cR L G++S))++Y) Φ):Ctx W w (cR L G++(a++(S++Y))) Φ:=by
 refine cx.perm ?_
 rw [b9,b9]
 exact List.perm_append_comm_assoc _ _ _
theorem X6 [aB Φ] {a w L' G' Y} (cx:Ctx W w (cR L' G'++(a++(S++Y))) Φ):Ctx W w ((cR L' G'++S)++Y) Φ:=by
 rw [b9]
 exact cx.sub (List.Sublist.append_left (List.sublist_append_right _ _) _)
theorem aEp [aB Φ] (hF:mT Φ L G) (hok:rQ G) {id n} (hn:aX n) (cx:Ctx W w (cR L G++S) Φ) {K} (hk:∀ L' Ψ w',L'.gb=L.gb->aB Ψ->(∀ M w,Ψ M w->Φ M w)->mT Ψ L' (RD G id n).1->Ctx W w' (cR L' (RD G id n).1++S) Ψ->K (.returned (.int .i64 (RD G id n).2)) w'):
  aD F.jZ #[.pointer (some ⟨L.gb,0,none⟩),.int .i64 id,.int .i64 n] w K:=by
 refine fW (FL L.gb 0 id n (J:=K∘.returned) cx λk w Y cx=>?_)
 refine x5 (Z:=[Own.blk k [.int .i64 n] 3]) (fF:=F.pU) (fC:=#[.pointer (some ⟨k,0,none⟩)]) (m':=λi=>{ G.mem i with d:=nL (G.mem i).d n }) (n:=λ_=>0) hF (by kernel_rfl) (λi _ hi=>hok.aV4 hi _) (λi _ hi {w T K} cx hk=>aEo hF hi hn cx hk) (a4W (a:=[Own.blk k [.int .i64 n] 3]) cx) λL' Ψ w hgb hst hw hg cx=>?_
 haveI:=hst
 exact ⟨_,rfl,cR L' (RD G id n).1++S,Ψ,hst,X6 cx,λw Y cx=>hk L' Ψ w hgb hst hw hg cx.left⟩
theorem aIH [aB Φ] (hF:mT Φ L G) (hok:rQ G) {id n} (hn:aX n) {p c l} (hl:l.length<=1000000) (kZ:∀ M w,Φ M w->Sl M w p l) (cx:Ctx W w (cR L G++S) Φ) {K} (hk:∀ L' Ψ w',L'.gb=L.gb->aB Ψ->(∀ M w,Ψ M w->Φ M w)->mT Ψ L' (a4t G id n l).1->Ctx W w' (cR L' (a4t G id n l).1++S) Ψ->K (.returned (.int .i64 (a4t G id n l).2)) w'):
  aD F.lY #[.pointer (some ⟨L.gb,0,none⟩),.int .i64 id,.int .i64 n,.slice p l.length c] w K:=by
 refine fW (HL L.gb 0 id n p l.length c (J:=K∘.returned) cx λk k2 w Y cx=>?_)
 refine x5 (Z:=[Own.blk k2 [.slice p l.length c] 37,Own.blk k [.int .i64 n] 3]) (fF:=F.r8) (fC:=#[.pointer (some ⟨k,0,none⟩),.pointer (some ⟨k2,0,none⟩)]) (m':=λi=>{ G.mem i with d:=vU (G.mem i).d n l }) (n:=λ_=>0) hF (by kernel_rfl) (λi _ hi=>hok.aV4 hi _) (λi _ hi {w T K} cx hk=>aIG hF hi hn hl kZ cx hk) (a4W (a:=[Own.blk k2 [.slice p l.length c] 37,Own.blk k [.int .i64 n] 3]) cx) λL' Ψ w hgb hst hw hg cx=>?_
 haveI:=hst
 exact ⟨_,rfl,cR L' (a4t G id n l).1++S,Ψ,hst,X6 cx,λw Y cx=>hk L' Ψ w hgb hst hw hg cx.left⟩
theorem aAL [aB Φ] (hF:mT Φ L G) (hok:rQ G) {id p c l} (hl:l.length<=1000000) (kZ:∀ M w,Φ M w->Sl M w p l) (cx:Ctx W w (cR L G++S) Φ) {K} (hk:∀ L' Ψ w',L'.gb=L.gb->aB Ψ->(∀ M w,Ψ M w->Φ M w)->mT Ψ L' (E9 G id l).1->Ctx W w' (cR L' (E9 G id l).1++S) Ψ->K (.returned (.int .i64 (E9 G id l).2)) w'):
  aD F.jE #[.pointer (some ⟨L.gb,0,none⟩),.int .i64 id,.slice p l.length c] w K:=by
 refine fW (DY L.gb 0 id p l.length c (J:=K∘.returned) cx λk w Y cx=>?_)
 refine x5 (Z:=[Own.blk k [.slice p l.length c] 37]) (fF:=F.oI) (fC:=#[.pointer (some ⟨k,0,none⟩)]) (m':=λi=>⟨cQ (G.mem i).d l,none⟩) (n:=λ_=>0) hF (by kernel_rfl) (λi _ hi=>hok.put λv hv=>by cases hv) (λi _ hi {w T K} cx hk=>aAI hF hi hl kZ cx hk) (a4W (a:=[Own.blk k [.slice p l.length c] 37]) cx) λL' Ψ w hgb hst hw hg cx=>?_
 haveI:=hst
 exact ⟨_,rfl,cR L' (E9 G id l).1++S,Ψ,hst,X6 cx,λw Y cx=>hk L' Ψ w hgb hst hw hg cx.left⟩
theorem a7N (G id):BH G id=a0I G id (λi=>nN i (G.mem i)) (λi=>rR i (G.mem i)):=by
 unfold BH a0I
 split
 .rfl
 .cases hu:(G.mem id.toNat).up with
  | none =>
   have e1:nN id.toNat (G.mem id.toNat)=⟨(bZ id.toNat (eA (G.mem id.toNat).d)).1,(bZ id.toNat (eA (G.mem id.toNat).d)).2.1⟩:=by unfold nN;rw [hu]
   have e2:rR id.toNat (G.mem id.toNat)=(bZ id.toNat (eA (G.mem id.toNat).d)).2.2:=by unfold rR;rw [hu]
   show _=(iX (cV G id.toNat (nN id.toNat (G.mem id.toNat))),rR id.toNat (G.mem id.toNat))
   rw [e1,e2]
  | some u =>
   have e1:nN id.toNat (G.mem id.toNat)=G.mem id.toNat:=by unfold nN;rw [hu]
   have e2:rR id.toNat (G.mem id.toNat)=7:=by unfold rR;rw [hu]
   have e3:cV G id.toNat (G.mem id.toNat)=G:=by unfold cV;rw [aH3]
   show _=(iX (cV G id.toNat (nN id.toNat (G.mem id.toNat))),rR id.toNat (G.mem id.toNat))
   rw [e1,e2,e3]
structure aV5 (G:gP) (i:Nat):Prop where
 good:∀ up,(bZ i (eA (G.mem i).d)).2.1=some up->aD2 i up
 BG:∀ up,(bZ i (eA (G.mem i).d)).2.1=some up->(bZ i (eA (G.mem i).d)).2.2=0
 ok:∀ up,(bZ i (eA (G.mem i).d)).2.1=some up->up.r.Ok
theorem aAM [aB Φ] (hoff:∀ M w,Φ M w->rM M w) (hN:∀ M w,Φ M w->tM M w) (hF:mT Φ L G) (hok:rQ G) {id} (hs:∀ i,i<3->aV5 G i) (cx:Ctx W w (cR L G++S) Φ) {K} (hk:∀ L' Ψ w',L'.gb=L.gb->aB Ψ->(∀ M w,Ψ M w->Φ M w)->mT Ψ L' (BH G id).1->Ctx W w' (cR L' (BH G id).1++S) Ψ->K (.returned (.int .i64 (BH G id).2)) w'):
  aD F.jC #[.pointer (some ⟨L.gb,0,none⟩),.int .i64 id] w K:=by
 rw [a7N] at hk
 refine fW (DW L.gb 0 id (J:=K∘.returned) cx λk w Y cx=>⟨id,cx.get 0 rfl rfl,λw Y cx=>?_⟩)
 refine x5 (Z:=[Own.blk k [.int .i64 id] 3]) (fF:=F.oG) (fC:=#[.pointer (some ⟨k,0,none⟩)]) (m':=λi=>nN i (G.mem i)) (n:=λi=>rR i (G.mem i)) hF (by kernel_rfl) (λi _ hi=>hok.put λv hv=>?_) (λi e hi {w T K} cx hk=>by subst e;exact aAJ hoff hN hF hi (hs i hi).good (hs i hi).BG cx hk) (a4W (a:=[Own.blk k [.int .i64 id] 3]) cx) λL' Ψ w hgb hst hw hg cx=>?_
 .unfold nN at hv
  cases hu:(G.mem i).up with
  | some u=>rw [hu] at hv;exact hok i hi v (by first|exact hv|(rw [<-hv,hu]))
  | none=>rw [hu] at hv;exact (hs i hi).ok v hv
 .haveI:=hst
  exact ⟨_,rfl,cR L' (a0I G id (λi=>nN i (G.mem i)) (λi=>rR i (G.mem i))).1++S,Ψ,hst,X6 cx,λw Y cx=>hk L' Ψ w hgb hst hw hg cx.left⟩
theorem a7O:(kW L G)[12]? = some (.pointer (some ⟨L.N.nb,0,none⟩)):=rfl
theorem a0J [aB Φ] {w Y} (cx:Ctx W w ((cR L G++S)++Y) Φ):Ctx W w (fO L.N G.eX++(kG L.gb (kW L G) :: (U2 L G.fV :: (J9 L G++(S++Y))))) Φ:=by
 rw [b9] at cx
 exact cx.perm (a4U L G (S++Y))
theorem AK [aB Φ] {w fp fc n Y} (cx:Ctx W w (fO ⟨L.N.nb,fp,fc⟩ n++(kG L.gb (kW L G) :: (U2 L G.fV :: (J9 L G++(S++Y))))) Φ):Ctx W w ((cR (LB L fp fc) (pY G n)++S)++Y) Φ:=by
 rw [b9]
 exact cx.perm (O3 L G fp fc n (S++Y))
theorem aEq {k} (h:iF G.eX k=none):F0 G k=(G,4):=by
 unfold F0
 rw [if_pos (aDZ h)]
theorem aEr {k p} (h:iF G.eX k=some p):F0 G k=(pY G (takeN G.eX k.toNat),0):=by
 obtain ⟨h1,h2,_⟩:=a2U h
 unfold F0
 rw [if_neg (by omega)]
 rfl
theorem aEs [aB Φ] (hF:mT Φ L G) {k} (cx:Ctx W w (cR L G++S) Φ) {K} (hk:∀ w',(∀ Ξ:PW,mT Ξ L G->mT Ξ L (F0 G k).1)->Ctx W w' (cR L (F0 G k).1++S) Φ->K (.returned (.int .i64 (F0 G k).2)) w'):
  aD F.kE #[.pointer (some ⟨L.gb,0,none⟩),.int .i64 k] w K:=by
 refine fW (FP L.gb 0 k (J:=K∘.returned) cx λw Y cx=>⟨_,cx.get 0 rfl a7O,λw Y cx=>?_⟩)
 refine aD0 (N:=L.N) (n:=G.eX) hF.U3 (a0J cx) (λw ht cx=>?_) (λp w ht cx=>?_)
 .rw [aEq ht] at hk
  exact ⟨4,rfl,cR L G++S,Φ,aL,AK cx,λw Y cx=>hk w (λ_ h=>h) cx.left⟩
 .rw [aEr ht] at hk
  exact ⟨0,rfl,cR L (pY G (takeN G.eX k.toNat))++S,Φ,aL,AK cx,λw Y cx=>hk w (λΞ h=>⟨h.mem,Nat.le_trans (RV _ _).2 h.U3⟩) cx.left⟩
theorem aAN [aB Φ] {m} (cx:Ctx W w (cR L G++S) Φ) {K} (hk:∀ w',(∀ Ξ:PW,mT Ξ L G->mT Ξ L (TQ G m))->Ctx W w' (cR L (TQ G m)++S) Φ->K (.returned (.tuple #[])) w'):
  aD F.jD #[.pointer (some ⟨L.gb,0,none⟩),.int .i64 m] w K:=by
 refine fW (DX L.gb 0 m (J:=K∘.returned) cx λw Y cx=>⟨_,cx.get 0 rfl a7O,λw Y cx=>?_⟩)
 exact aAb (N:=L.N) (n:=G.eX) (a0J cx) λw cx=>⟨rfl,cR L (TQ G m)++S,Φ,aL,AK cx,λw Y cx=>hk w (λΞ h=>⟨h.mem,h.U3⟩) cx.left⟩
theorem aEt [aB Φ] (cx:Ctx W w (cR L G++S) Φ) {K} (hk:∀ w',(∀ Ξ:PW,mT Ξ L G->mT Ξ L (a2H G))->Ctx W w' (cR L (a2H G)++S) Φ->K (.returned (.tuple #[])) w'):
  aD F.jY #[.pointer (some ⟨L.gb,0,none⟩)] w K:=by
 refine fW (FK L.gb 0 (J:=K∘.returned) cx λw Y cx=>⟨_,cx.get 0 rfl a7O,λw Y cx=>?_⟩)
 exact aD1 (N:=L.N) (n:=G.eX) (a0J cx) λw cx=>⟨rfl,cR L (a2H G)++S,Φ,aL,AK cx,λw Y cx=>hk w (λΞ h=>⟨h.mem,h.U3⟩) cx.left⟩
theorem S0 [aB Φ] (cx:Ctx W w (cR L G++S) Φ) {K} (hk:∀ w',Ctx W w' (cR L G++S) Φ->K (.returned (.int .i64 (G.eX.aM.length:Int))) w'):
  aD F.jW #[.pointer (some ⟨L.gb,0,none⟩)] w K:=by
 refine fW (B6 L.gb 0 (J:=K∘.returned) cx λw Y cx=>⟨_,cx.get 0 rfl a7O,λw Y cx=>?_⟩)
 exact aAc (N:=L.N) (n:=G.eX) (a0J cx) λw cx=>⟨_,rfl,cR L G++S,Φ,aL,AK cx,λw Y cx=>hk w cx.left⟩
theorem a7P [aB Φ] (hoff:∀ M w,Φ M w->rM M w) (hN:∀ M w,Φ M w->tM M w) (hF:mT Φ L G) (hok:rQ G) {id most} (aBV:aX most) (hx:∀ u,¬ (id<0\/3<=id)->(G.mem id.toNat).up=some u->a1O u (eG u.r)) (Q:gP->Prop) (hQ:∀ G,Q G->rQ G/\∀ p,iF G.eX 0=some p->∃ m,PkH G p m) (hnext:∀ G,Q G->Q (gF G 0).1) (h0:Q (yF G id).1) (cx:Ctx W w (cR L G++S) Φ) {K} (hk:∀ L' w',L'.gb=L.gb->(∀ Ξ:PW,mT Ξ L G->mT Ξ L' (cE G id most).1)->Ctx W w' (cR L' (cE G id most).1++S) Φ->K (.returned (.int .i64 ((cE G id most).2:Int))) w'):
  aD F.dP #[.pointer (some ⟨L.gb,0,none⟩),.int .i64 id,.int .i64 most] w K:=by
 refine fW (CE L.gb 0 id most (J:=K∘.returned) cx λw Y cx=>?_)
 rw [b9] at cx
 refine a3g hoff (λM w h=>(hN M w h).1) hF hok hx cx λL1 w aQo hg1 cx=>⟨_,rfl,cR L1 (yF G id).1++S,Φ,aL,by rw [b9];exact cx,?_⟩
 refine dF (λnI R' Ψ κ=>∃ (j:Nat) (L':L9) (G':gP),nI=j/\Ψ=Φ/\L'.gb=L.gb/\Q G'/\(∀ Ξ:PW,mT Ξ L G->mT Ξ L' G')/\R'=cR L' G'++S/\j<=most.toNat/\κ=most.toNat - j/\(yG (most.toNat - j) G').1=(cE G id most).1/\(yG (most.toNat - j) G').2+j=(cE G id most).2) ⟨⟨_,Φ,_,aL,λw G cx=>cx,0,L1,(yF G id).1,rfl,rfl,aQo,h0,hg1,rfl,Nat.zero_le _,rfl,rfl,rfl⟩,?_⟩
 rintro nI R' Ψ κ _ ⟨j,L',G',rfl,rfl,hgb,hq,hg,rfl,hj,rfl,e1,e2⟩
 obtain ⟨ho,hp⟩:=hQ G' hq
 refine Br.intro (λhlt=>λw Y cx=>?_) (λhge=>λw Y cx=>?_)
 .have hlt:(j:Int)<most:=eC hlt
  have hs:most.toNat - j=(most.toNat - (j+1))+1:=by omega
  rw [hs] at e1 e2
  unfold yG at e1 e2
  rw [b9] at cx
  rw [<-hgb]
  refine S0 cx λw cx=>⟨_,rfl,cR L' G'++S,Ψ,aL,by rw [b9];exact cx,Br.intro (λhpos=>λw Y cx=>?_) (λhpos=>λw Y cx=>?_)⟩
  .have hne:¬ G'.eX.aM=[]:=λe=>by
    have:=eC hpos
    rw [e] at this
    simp at this
   rw [if_neg hne] at e1 e2
   rw [b9] at cx
   refine RZ hoff hN (hg Ψ hF) ho hp cx λL2 w aEu hg2 cx=>⟨_,rfl,cR L2 (gF G' 0).1++S,Ψ,aL,by rw [b9];exact cx,by unfold aX at *;omega,_,Ψ,_,aL,λw G cx=>cx,⟨j+1,L2,(gF G' 0).1,by omega,rfl,aEu,hnext G' hq,λΞ h=>hg2 Ξ (hg Ξ h),rfl,by omega,rfl,e1,by simp only at e2;omega⟩,by omega⟩
  .have b03:G'.eX.aM=[]:=by
    have:=cS hpos
    exact List.eq_nil_of_length_eq_zero (by omega)
   rw [if_pos b03] at e1 e2
   have:=hk L' w hgb (λΞ h=>by rw [<-e1];exact hg Ξ h) (by rw [<-e1];exact cx.left)
   rw [<-e2] at this
   simp only [Nat.zero_add] at this
   exact this
 .have hje:most.toNat - j=0:=by have:=cS hge;omega
  rw [hje] at e1 e2
  unfold yG at e1 e2
  have:=hk L' w hgb (λΞ h=>by rw [<-e1];exact hg Ξ h) (by rw [<-e1];exact cx.left)
  rw [<-e2] at this
  simp only [Nat.zero_add] at this
  exact this
end
section
variable {W w:World} {S:List Own} {Φ:PW} {L:L9} {G:gP} {i:Nat}
def upB (G:gP) (id:Int):Bool:=decide (upG G id=0)
theorem a7Q [aB Φ] {id} (cx:Ctx W w (cR L G++S) Φ) {K} (hk:∀ w',Ctx W w' (cR L G++S) Φ->K (.returned (.bool (upB G id))) w'):
  aD F.r5 #[.pointer (some ⟨L.gb,0,none⟩),.int .i64 id] w K:=by
 refine fW (KO L.gb 0 id (J:=K∘.returned) cx λw Y cx=>?_)
 rw [b9] at cx
 exact RW cx λw cx=>⟨_,rfl,cR L G++S,Φ,aL,by rw [b9];exact cx,λw Y cx=>hk w cx.left⟩
theorem aNn {id} (h:(!upB G id)=true):id<0\/3<=id\/(G.mem id.toNat).up=none:=by
 unfold upB upG at h
 by_cases hid:id<0\/3<=id
 .omega
 .rw [if_neg hid] at h
  cases hu:(G.mem id.toNat).up with
  | none=>exact .inr (.inr rfl)
  | some u=>rw [hu] at h;simp at h
theorem aII {id} (h:(!upB G id)=false):¬ (id<0\/3<=id)/\∃ u,(G.mem id.toNat).up=some u:=by
 unfold upB upG at h
 by_cases hid:id<0\/3<=id
 .rw [if_pos hid] at h;simp at h
 .rw [if_neg hid] at h
  cases hu:(G.mem id.toNat).up with
  | none=>rw [hu] at h;simp at h
  | some u=>exact ⟨hid,u,rfl⟩
theorem aEv [aB Φ] {b r p c} (cx:Ctx W w (aS b r p c++S) Φ) {K} (hK:∀ w',Ctx W w' (aS b r p c++S) Φ->K (.returned (.int .i64 r.role)) w'):
  aD F.gL #[.pointer (some ⟨b,0,none⟩)] w K :=
 (aP0 (E3 cx)).mono λe w' ⟨h1,h2⟩=>by subst h2;rw [h1];exact hK _ cx
theorem a3i [aB Φ] {id} (cx:Ctx W w (cR L G++S) Φ) {K} (hk:∀ w',Ctx W w' (cR L G++S) Φ->K (.returned (.int .i64 (yH G id))) w'):
  aD F.nS #[.pointer (some ⟨L.gb,0,none⟩),.int .i64 id] w K:=by
 refine fW (FM L.gb 0 id (J:=K∘.returned) cx λw Y cx=>?_)
 rw [b9] at cx
 refine a7Q cx λw cx=>⟨_,rfl,cR L G++S,Φ,aL,by rw [b9];exact cx,Br.intro (λh=>λw Y cx=>?_) (λh=>?_)⟩
 .have e:yH G id = -1:=by
   unfold yH
   rcases aNn h with h|h|h
   .rw [if_pos (.inl h)]
   .rw [if_pos (.inr h)]
   .split
    .rfl
    .rw [h]
  rw [e] at hk
  exact hk w cx.left
 .obtain ⟨hid,u,hu⟩:=aII h
  have e:yH G id=u.r.role:=by unfold yH;rw [if_neg hid,hu]
  rw [e] at hk
  obtain ⟨i,rfl⟩:∃ i:Nat,id=i:=⟨id.toNat,by omega⟩
  have hi:i<3:=by omega
  rw [Int.toNat_natCast] at hu ⊢
  refine ⟨by omega,λw Y cx=>⟨some ⟨(L.P i).rb,0,none⟩,cx.get 0 rfl (by rw [Nat.zero_add,CW L G hi (by decide),hu];rfl),λw Y cx=>?_⟩⟩
  rw [b9] at cx
  exact aEv (cx.perm (O1 hi hu (S++Y))) λw cx=>⟨_,rfl,cR L G++S,Φ,aL,by rw [b9];exact cx.perm (O1 hi hu (S++Y)).symm,λw Y cx=>hk w cx.left⟩
theorem UD [aB Φ] {id} (cx:Ctx W w (cR L G++S) Φ) {K} (hk:∀ w',Ctx W w' (cR L G++S) Φ->K (.returned (.int .i64 (wD G id))) w'):
  aD F.kD #[.pointer (some ⟨L.gb,0,none⟩),.int .i64 id] w K:=by
 refine fW (FN L.gb 0 id (J:=K∘.returned) cx λw Y cx=>?_)
 rw [b9] at cx
 refine a7Q cx λw cx=>⟨_,rfl,cR L G++S,Φ,aL,by rw [b9];exact cx,Br.intro (λh=>λw Y cx=>?_) (λh=>?_)⟩
 .have e:wD G id=0:=by
   unfold wD
   rcases aNn h with h|h|h
   .rw [if_pos (.inl h)]
   .rw [if_pos (.inr h)]
   .split
    .rfl
    .rw [h]
  rw [e] at hk
  exact hk w cx.left
 .obtain ⟨hid,u,hu⟩:=aII h
  have e:wD G id=u.r.term:=by unfold wD;rw [if_neg hid,hu]
  rw [e] at hk
  obtain ⟨i,rfl⟩:∃ i:Nat,id=i:=⟨id.toNat,by omega⟩
  have hi:i<3:=by omega
  rw [Int.toNat_natCast] at hu ⊢
  refine ⟨by omega,λw Y cx=>⟨some ⟨(L.P i).rb,0,none⟩,cx.get 0 rfl (by rw [Nat.zero_add,CW L G hi (by decide),hu];rfl),λw Y cx=>?_⟩⟩
  rw [b9] at cx
  exact aIe (cx.perm (O1 hi hu (S++Y))) λw cx=>⟨_,_,rfl,cR L G++S,Φ,aL,by rw [b9];exact cx.perm (O1 hi hu (S++Y)).symm,λw Y cx=>hk w cx.left⟩
theorem a7R {k} (h:iF G.eX k=none):pP G k=(G,4):=by
 unfold iF at h
 unfold pP
 split at h
 .rename_i hk;rw [if_pos hk]
 .rename_i hk;rw [if_neg hk,h]
theorem VU {k p} (h:iF G.eX k=some p):pP G k=if 500<=G.eX.aM.length then (G,6) else (pY G { G.eX with aM:=G.eX.aM++[p] },0):=by
 unfold iF at h
 unfold pP
 split at h
 .cases h
 .rename_i hk
  rw [if_neg hk,h]
  rfl
theorem a7S [aB Φ] (hF:mT Φ L G) {k} (cx:Ctx W w (cR L G++S) Φ) {K} (hk:∀ L' w',L'.gb=L.gb->(∀ Ξ:PW,mT Ξ L G->mT Ξ L' (pP G k).1)->Ctx W w' (cR L' (pP G k).1++S) Φ->K (.returned (.int .i64 (pP G k).2)) w'):
  aD F.iP #[.pointer (some ⟨L.gb,0,none⟩),.int .i64 k] w K:=by
 refine fW (CG L.gb 0 k (J:=K∘.returned) cx λw Y cx=>⟨_,cx.get 0 rfl a7O,λw Y cx=>?_⟩)
 refine a7q (N:=L.N) (n:=G.eX) hF.U3 (a0J cx) (λw ht cx=>?_) (λp w ht h5 cx=>?_) (λp fp fc w ht h5 cx=>?_)
 .rw [a7R ht] at hk
  exact ⟨4,rfl,cR L G++S,Φ,aL,AK cx,λw Y cx=>hk L w rfl (λ_ h=>h) cx.left⟩
 .rw [VU ht,if_pos h5] at hk
  exact ⟨6,rfl,cR L G++S,Φ,aL,AK cx,λw Y cx=>hk L w rfl (λ_ h=>h) cx.left⟩
 .rw [VU ht,if_neg h5] at hk
  exact ⟨0,rfl,cR (LB L fp fc) (pY G { G.eX with aM:=G.eX.aM++[p] })++S,Φ,aL,AK cx,λw Y cx=>hk (LB L fp fc) w rfl (λΞ h=>⟨h.mem,by show (G.eX.aM++[p]).length<=500;rw [List.length_append,List.length_singleton];omega⟩) cx.left⟩
end
structure a0K (o:lT):Prop where
 tv:o.save=true\/(o.term=0/\o.aQ=0)
 src:(o.src=0/\o.aF=[])\/(0<o.src/\o.src<=5000)
 U3:o.send.length<=2
theorem aAO {l} (h:l.length<=2):a0K (mW l):=⟨.inr ⟨rfl,rfl⟩,.inl ⟨rfl,rfl⟩,h⟩
theorem JD:a0K kR:=aAO (l:=[]) (Nat.zero_le _)
theorem a0L (m):a0K (mW [m]):=aAO (l:=[m]) (by simp)
theorem aAP (i):(aT i).length=2:=by
 unfold aT
 split
 .rfl
 .split<;>rfl
theorem aNo (r):a0K (mW (cW r)):=aAO (aCb r)
theorem aQp (r):a0K (eG r).2:=by
 unfold eG
 split
 .exact aNo r
 split
 .exact JD
 .exact ⟨.inl rfl,.inl ⟨rfl,rfl⟩,by show ((aT _).map _).length<=2;rw [List.length_map,aAP];exact Nat.le_refl _⟩
theorem aQq {r} (hr:r.Ok) (data):a0K (aK r data).2.2.2:=by
 by_cases h1:r.role≠2
 .rw [AB h1];exact JD
 by_cases h2:2000<(data.size:Int)
 .rw [y6 h1 h2];exact JD
 by_cases h3:r.log.length=4000
 .rw [tL h1 h2 h3];exact JD
 rw [E6 h1 h2 h3]
 have:=hr.len
 exact ⟨.inr ⟨rfl,rfl⟩,.inr ⟨by show 0<((r.log.length+1:Nat):Int);omega,by show ((r.log.length+1:Nat):Int)<=5000;omega⟩,aCb _⟩
theorem UE {r data} (h:(aK r data).2.2.1≠0):(aK r data).1=r:=by
 by_cases h1:r.role≠2
 .rw [AB h1]
 by_cases h2:2000<(data.size:Int)
 .rw [y6 h1 h2]
 by_cases h3:r.log.length=4000
 .rw [tL h1 h2 h3]
 rw [E6 h1 h2 h3] at h
 exact absurd rfl h
theorem aV7 {r x} (h:a0K x.2):a0K (BF r x).2:=by
 unfold BF
 split
 .exact h
 .exact ⟨.inl rfl,h.src,h.U3⟩
theorem aLY {r id m} (hm:m.sL id):a0K (dJ r m).2:=by
 have hk:=hm.kind
 have a7H:m.kind=0\/m.kind=1\/m.kind=2\/m.kind=3:=by omega
 rcases a7H with hk|hk|hk|hk
 .rw [aIv hk]
  unfold dG
  split
  .exact a0L _
  .exact a0L _
 .rw [aIw hk]
  by_cases hc:(decide (r.role≠1)||decide (m.term≠r.term) || !m.yes)=true
  .rw [IA hc];exact JD
  have hc:(decide (r.role≠1)||decide (m.term≠r.term) || !m.yes)=false:=by simpa using hc
  by_cases h2:pW (gR r m).cN<2
  .rw [CN hc h2];exact JD
  .rw [y5 hc h2];exact aNo _
 .rw [aIx hk]
  by_cases h2:m.term<r.term
  .rw [y7 h2];exact a0L _
  by_cases h3:r.role=2
  .rw [uT h2 h3];exact JD
  by_cases h4:(decide ((r.log.length:Int)<m.index)||decide (bG r.log m.index.toNat≠m.prev))=true
  .rw [y9 h2 h3 h4];exact a0L _
  have h4:(decide ((r.log.length:Int)<m.index)||decide (bG r.log m.index.toNat≠m.prev))=false:=by simpa using h4
  by_cases h5:gW r m<m.aF.length
  .by_cases h6:m.index.toNat+gW r m+1<=r.aE
   .rw [uV h2 h3 h4 h5 h6];exact JD
   .rw [yA h2 h3 h4 h5 h6]
    have h7:=hm.fits
    have h8:=hm.index.1
    exact ⟨.inr ⟨rfl,rfl⟩,.inr ⟨by show 0<((m.index.toNat+gW r m+1:Nat):Int);omega,by show ((m.index.toNat+gW r m+1:Nat):Int)<=5000;omega⟩,by show [_].length<=2;simp⟩
  .rw [uU h2 h3 h4 h5];exact a0L _
 .rw [aIy hk]
  by_cases hc:(decide (r.role≠2)||decide (m.term≠r.term)||m.yes&&decide ((r.log.length:Int)<m.index))=true
  .rw [uS hc];exact JD
  have hc:(decide (r.role≠2)||decide (m.term≠r.term)||m.yes&&decide ((r.log.length:Int)<m.index))=false:=by simpa using hc
  cases hyes:m.yes with
  | false=>rw [pE hc hyes];exact a0L _
  | true =>
   rw [rJ hc hyes]
   split
   .exact a0L _
   .exact JD
theorem aQr (r m):a0K (cX r m).2:=by
 cases hy:iT r.id m with
 | false=>rw [wW hy];exact JD
 | true=>rw [pF hy];exact aV7 (aLY (mH.1 hy))
theorem aLZ {x} (h:aX x.term) (h2:x.data.size<=2000):(vS x).length<=2043:=by
 have:=a4R h (show x.data.size<=1000000 by omega)
 omega
theorem a7T:∀ (l:List bQ),(∀ x∈l,aX x.term/\x.data.size<=2000)->(lE l).length<=l.length*2043
 | [],_=>by simp [lE]
 | x :: l,h=>by
  have hx:=h x (by simp)
  have ih:=a7T l λy hy=>h y (by simp [hy])
  have:=aLZ hx.1 hx.2
  rw [NO,List.length_append,List.length_cons,Nat.add_mul]
  omega
theorem a7U:∀ (l:List Int),(∀ n∈l,aX n)->(oD l).length<=l.length*21
 | [],_=>by simp [oD]
 | n :: l,h=>by
  have ih:=a7U l λy hy=>h y (by simp [hy])
  have h1:=(fU (h n (by simp))).2
  rw [NP,List.length_append,fT,List.length_cons,Nat.add_mul]
  omega
theorem aL0 {m} (h:TM m) (hl:m.aF.length<=8) (hd:∀ x∈m.aF,x.data.size<=2000):(rZ m).length<=1000000:=by
 have h1:=a7U (pG m) h.ints
 have h2:=a7T m.aF λx hx=>⟨(h.aF x hx).1,hd x hx⟩
 have h3:=TI (n:=(m.aF.length:Int)) (by unfold aX;omega)
 have e8:(pG m).length=8:=rfl
 have e:(rZ m).length=(oD (pG m)).length+((TH m.aF.length).data.toList.length+(lE m.aF).length):=by
  unfold rZ EY
  simp only [List.length_append]
  omega
 rw [e,fT]
 have:m.aF.length*2043<=8*2043:=Nat.mul_le_mul_right _ hl
 omega
theorem aL1 {m} (h:TM m):m.Ok :=
 ⟨h.ints _ (by simp [pG]),h.ints _ (by simp [pG]),h.ints _ (by simp [pG]),h.ints _ (by simp [pG]),h.ints _ (by simp [pG]),h.ints _ (by simp [pG]),h.ints _ (by simp [pG])⟩
section
variable {N N' D:Nat} {B B':Int} {G G':gP} {C C':Cl} {g g':Gh} {A A':Int->Nat->Nat} {i:Nat}
theorem GI.JE (h:GI N B D G C g A):rQ G:=λj hj v hv=>by
 rw [(h.j.up j hj v hv).1]
 exact (h.j.s.m.wf.rep j hj).1.ok
theorem aEw {a b:List bQ}:(aO (b.map gX)).length<=(aO ((a++b).map gX)).length:=by
 rw [List.map_append,mI,List.length_append]
 omega
theorem GI.trn (h:GI N B D G C g A) (hi:i<3) {u} (hu:(G.mem i).up=some u) {x} (hx:Hap C i x) (hlw:J8 x.1.log) (hg:∀ a∈x.2.send,WQ i x.1.log a) (hb:a0K x.2):a1O u x:=by
 obtain ⟨hr,hU⟩:=h.j.up i hi u hu
 obtain ⟨hw,hf⟩:=hx.fits h.j.s.m.wf hi
 have hok:=hw.ok
 have hin:∀ y∈x.2.aF,y∈x.1.log:=λy hy=>by
  rcases hb.src with ⟨_,e⟩|⟨h0,_⟩
  .rw [e] at hy;cases hy
  .rw [hf.log h0];exact List.mem_append_right _ hy
 have hlen:x.2.aF.length<=x.1.log.length/\(aO (x.2.aF.map gX)).length<=(aO (x.1.log.map gX)).length:=by
  rcases hb.src with ⟨_,e⟩|⟨h0,_⟩
  .rw [e];exact ⟨Nat.zero_le _,by simp [aO]⟩
  .rw [hf.log h0];exact ⟨by rw [List.length_append];omega,aEw⟩
 have h1:=hok.len
 have h2:=hlw.size
 have hjl:u.j.list.length<=1000000:=by
  rw [hU.log,List.length_map,hr]
  have:=(h.j.s.m.wf.rep i hi).1.ok.len
  omega
 have hjf:(aO u.j.list).length<=1000000000:=by
  rw [hU.log]
  have:=hU.lw.size
  omega
 have hjb:=hU.live.bytes
 refine ⟨⟨⟨?_,?_⟩,λy hy=>hlw.aAm y (hin y hy),by omega,by omega,hjf,by show u.j.bytes<=_;omega,hjl⟩,⟨λa ha=>⟨a4Q hok (hg a ha),Nat.le_trans (hg a ha).len (by omega)⟩⟩,Nat.le_trans hb.U3 (by omega),hok⟩
 .rcases hb.tv with hs|⟨e1,e2⟩
  .obtain ⟨e1,e2⟩:=hf.save hs
   rw [e1,e2]
   have:=hok.mE
   have:=hok.iW
   have:=hok.xZ
   have:=hok.y3
   unfold aX
   omega
  .rw [e1,e2];unfold aX;decide
 .have:=hb.src
  unfold aX
  omega
theorem GI.a7V (h:GI N B D G C g A) (vA:N*(D+90)<=1048576) {id:Int} {u} (hid:¬ (id<0\/3<=id)) (hu:(G.mem id.toNat).up=some u):a1O u (eG u.r):=by
 have hi:=M3 hid
 obtain ⟨e,hU⟩:=h.j.up _ hi u hu
 have hw:=(h.j.s.m.wf.rep _ hi).1
 have hb:=a4O hw (h.j.b.rep _ hi)
 have zY:=(a4E hw).1.ok
 rw [e]
 refine h.trn hi hu (.inl rfl) (RU zY.log zY.iW hb.1.len (by rw [a0D];exact h.j.data _ hi) vA) ?_ (aQp _)
 have:=aAD hw.ok
 rw [(h.j.s.m.wf.rep _ hi).2] at this
 exact this
theorem GI.a0M (h:GI N B D G C g A) (vA:(N+1)*(D+90)<=1048576) {id:Int} {data} (aID:data.size<=D) {u} (hid:¬ (id<0\/3<=id)) (hu:(G.mem id.toNat).up=some u):
  (u.r.role=2->1<=u.r.term)/\a1O u ((aK u.r data).1,(aK u.r data).2.2.2):=by
 have hi:=M3 hid
 obtain ⟨e,hU⟩:=h.j.up _ hi u hu
 have hw:=(h.j.s.m.wf.rep _ hi).1
 have hb:=a4P hw (h.j.b.rep _ hi) data
 have zY:=(yL hw data).1.ok
 rw [e]
 refine ⟨λh2=>hw.one (by rw [h2];decide),h.trn hi hu (.inr (.inr ⟨data,rfl⟩)) (RU zY.log zY.iW hb.1.len (λy hy=>?_) vA) ?_ (aQq hw.ok data)⟩
 .rcases a0E y hy with a|a
  .exact h.j.data _ hi y a
  .rw [a];exact aID
 .have:=aAE hw data
  rw [(h.j.s.m.wf.rep _ hi).2] at this
  exact this
theorem GI.aIJ (h:GI N B D G C g A) (vA:N*(D+90)<=1048576) {m} (hm:m∈C.sent) {id:Int} {u} (hid:¬ (id<0\/3<=id)) (hu:(G.mem id.toNat).up=some u):a1O u (cX u.r m):=by
 have hi:=M3 hid
 obtain ⟨e,hU⟩:=h.j.up _ hi u hu
 have hw:=(h.j.s.m.wf.rep _ hi).1
 have hb:=a4N hw (h.j.b.rep _ hi) (h.j.b.msg m hm)
 have hg:=aAF hw m
 have zY:=(X3 (m:=m) hw).1.ok
 rw [e]
 refine h.trn hi hu (.inr (.inl ⟨m,hm,rfl⟩)) (RU zY.log zY.iW hb.1.len (λy hy=>?_) vA) ?_ (aQr _ _)
 .rcases hg.2 y hy with a|a
  .exact h.j.data _ hi y a
  .exact h.j.mdata m hm y a
 .have:=hg.1
  rw [(h.j.s.m.wf.rep _ hi).2] at this
  exact this
theorem GI.pkt (h:GI N B D G C g A) (vA:N*(D+90)<=1048576) (hD:D<=2000) {k p} (ht:iF G.eX k=some p):∃ m,PkH G p m:=by
 obtain ⟨_,_,hp⟩:=a2U ht
 obtain ⟨m,hm,hw,hl,hs,hto,rfl⟩:=h.j.eX p (List.mem_of_getElem? hp)
 refine ⟨m,⟨?_,aL1 hw,?_,λu hid hu=>h.aIJ vA hm hid hu⟩⟩
 .show AD (bs (rZ m)).data.toList=some m
  rw [pN,ZT hw (by omega)]
 .show (bs (rZ m)).data.toList.length<=1000000
  rw [pN]
  exact aL0 hw hl λx hx=>Nat.le_trans (h.j.mdata m hm x hx) hD
theorem aQs {d u} (hi:i<3) (hU:NY d u) (hok:u.r.Ok):aD2 i u:=by
 have hl:∀ s∈u.j.list,∃ x∈u.r.log,s=gX x:=λs hs=>by
  rw [hU.log] at hs
  obtain ⟨x,hx,rfl⟩:=List.mem_map.1 hs
  exact ⟨x,hx,rfl⟩
 refine ⟨aLD (by omega) hok,?_,λs hs=>?_,λs hs=>?_,?_⟩
 .rw [hU.log,List.length_map]
  have:=hok.len
  omega
 .obtain ⟨x,hx,rfl⟩:=hl s hs
  have h1:=hU.lw.aAm x hx
  have:=a4R h1.1 h1.2
  show (bs (vS x)).size<=_
  rw [bJ]
  omega
 .obtain ⟨x,hx,rfl⟩:=hl s hs
  have h1:=hU.lw.aAm x hx
  rw [Y3 h1.1 h1.2]
  exact hok.aF x hx
 .rcases hU.now with ⟨_,e,_⟩|⟨_,e,_⟩
  .rw [e];exact Nat.zero_le _
  .omega
theorem GI.opens (h:GI N B D G C g A) (hi:i<3) {d} (hd:DnI d (CX N B D C i)) {up} (hu:(bZ i d).2.1=some up):(bZ i d).2.2=0/\aD2 i up/\up.r.Ok:=by
 have ho:=U1 (id:=i) hd
 rcases ho.or with ⟨u,a1,a2,a3,a4,a5,a6,a7,a8⟩|⟨a1,_⟩
 .rw [a1] at hu
  cases hu
  obtain ⟨C',g',A',bk⟩:=K8 h.j.s hi a5
  rw [<-a4] at bk
  have hok:up.r.Ok:=by
   rw [<-bk.rep]
   exact (bk.s.m.wf.rep i hi).1.ok
  exact ⟨a2,aQs hi a3 hok,hok⟩
 .rw [a1] at hu;cases hu
theorem GI.sta (h:GI N B D G C g A) (hi:i<3):aV5 G i:=by
 have hd:DnI (eA (G.mem i).d) (CX N B D C i):=(h.j.any hi).frame rfl rfl
 exact ⟨λup hu=>(h.opens hi hd hu).2.1,λup hu=>(h.opens hi hd hu).1,λup hu=>(h.opens hi hd hu).2.2⟩
theorem aL2 {n} (hn:n<3):∀ up,(bZ n nK).2.1=some up->aD2 n up/\up.r.Ok:=λup hu=>by
 have h:GI 0 0 0 J1 cl0 gh0 λ_ _=>0:=aIE
 refine (h.opens (i:=n) hn (aH9.mono λt v l e=>?_) hu).2
 obtain ⟨rfl,rfl,rfl⟩:=e
 exact ⟨.inl ⟨⟨rfl,rfl⟩,rfl⟩,Nat.le_refl _,Int.le_refl _,by simp⟩
end
end Go.Proofs.YtnlkemjhgdbfkaaGreatDoor
end

section
namespace Go.Proofs
open Go.Shelf
def Tryz.aL3:Go.Shelf.Ren:=⟨fun|5=>248|7=>335|n=>n,fun|23=>252|25=>3|3=>322|4=>4|20=>20|n=>n,fun|n=>n⟩
theorem Tryz.mc1:Go.Proofs.SlLaysW.n5 prog Tryz.aL3:={
 mixed:=by kernel_rfl
 f5:=⟨Tryz.f248.name,by decide,func248.trans (congrArg some (by kernel_rfl))⟩
 f7:=func335.trans (congrArg some (by kernel_rfl))
 t4:=underlying4
 a4:=isAgg4
 z4:=sizeOf4
 v4:=zeroValue4
 t20:=underlying20
 a20:=isAgg20
 z20:=sizeOf20
 v20:=zeroValue20
 t23:=underlying252
 a23:=isAgg252
 z23:=sizeOf252
 v23:=zeroValue252 }
def Tryz.aL4:Go.Shelf.Ren:=⟨fun|5=>250|7=>335|n=>n,fun|23=>253|25=>325|3=>4|4=>4|20=>20|n=>n,fun|n=>n⟩
theorem Tryz.mc2:Go.Proofs.SlLaysW.n5 prog Tryz.aL4:={
 mixed:=by kernel_rfl
 f5:=⟨Tryz.f250.name,by decide,func250.trans (congrArg some (by kernel_rfl))⟩
 f7:=func335.trans (congrArg some (by kernel_rfl))
 t4:=underlying4
 a4:=isAgg4
 z4:=sizeOf4
 v4:=zeroValue4
 t20:=underlying20
 a20:=isAgg20
 z20:=sizeOf20
 v20:=zeroValue20
 t23:=underlying253
 a23:=isAgg253
 z23:=sizeOf253
 v23:=zeroValue253 }
end Go.Proofs
end

