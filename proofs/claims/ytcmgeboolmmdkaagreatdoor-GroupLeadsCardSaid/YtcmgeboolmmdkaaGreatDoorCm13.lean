/-
 What the walk of a group needs,out of its invariant;in plain Lean.
-/
import Derived.Test.YtcmgeboolmmdkaaGreatDoorCm12
import Derived.Shelf.SlMaps.Clone
import Derived.Test.YtcmgeboolmmdkaaGreatDoorRows
open Go.Proofs.Tryz
set_option linter.unusedVariables false
set_option linter.unusedSimpArgs false
section
namespace Go.Proofs.YtcmgeboolmmdkaaGreatDoor
open Go.Vc
structure wO(o:fN):Prop where
 aQt:o.save=true\/(o.term=0/\o.ρ=0)
 src:(o.src=0/\o.ζ=[])\/(0<o.src/\o.src<=5000)
 jx:o.send.length<=2
theorem Xb{l}(h:l.length<=2):wO (gL l):=⟨.inr ⟨rfl,rfl⟩,.inl ⟨rfl,rfl⟩,h⟩
theorem xX:wO er:=Xb (l:=[]) (Nat.zero_le _)
theorem Fe(m):wO (gL [m]):=Xb (l:=[m]) (by simp)
theorem aNy(i):(bu i).length=2:=by
 unfold bu;split
 .rfl
 .split<;>rfl
theorem a7p(r):wO (gL (bT r)):=Xb (PC r)
theorem aQi(r):wO (cr r).2:=by
 unfold cr;split
 .exact a7p r
 split
 .exact xX
 .exact ⟨.inl rfl,.inl ⟨rfl,rfl⟩,by show ((bu _).map _).length<=2;rw [List.length_map,aNy];exact Nat.le_refl _⟩
theorem aOM{r}(hr:r.bA)(data):wO (aq r data).2.2.2:=by
 by_cases h1:r.role≠2
 .rw [yx h1];exact xX
 by_cases h2:2000<(data.size:Int)
 .rw [Ay h1 h2];exact xX
 by_cases h3:r.log.length=4000
 .rw [Az h1 h2 h3];exact xX
 rw [yy h1 h2 h3];have:=hr.len;exact ⟨.inr ⟨rfl,rfl⟩,.inr ⟨by show 0<((r.log.length+1:Nat):Int);omega,by show ((r.log.length+1:Nat):Int)<=5000;omega⟩,PC _⟩
theorem RU{r data}(h:(aq r data).2.2.1≠0):(aq r data).1=r:=by
 by_cases h1:r.role≠2
 .rw [yx h1]
 by_cases h2:2000<(data.size:Int)
 .rw [Ay h1 h2]
 by_cases h3:r.log.length=4000
 .rw [Az h1 h2 h3]
 rw [yy h1 h2 h3] at h;exact absurd rfl h
theorem aJS{r x}(h:wO x.2):wO (mD r x).2:=by
 unfold mD;split
 .exact h
 .exact ⟨.inl rfl,h.src,h.jx⟩
theorem aKK{r id m}(hm:m.eO id):wO (cv r m).2:=by
 have hk:=hm.kind;have AD:m.kind=0\/m.kind=1\/m.kind=2\/m.kind=3:=by omega
 rcases AD with hk|hk|hk|hk
 .rw [He hk];unfold cV;split
  .exact Fe _
  .exact Fe _
 .rw [Hf hk];by_cases hc:(decide (r.role≠1)||decide (m.term≠r.term) || !m.yes)=true
  .rw [DN hc];exact xX
  have hc:(decide (r.role≠1)||decide (m.term≠r.term) || !m.yes)=false:=by simpa using hc
  by_cases h2:ni (fU r m).bh<2
  .rw [DL hc h2];exact xX
  .rw [DM hc h2];exact a7p _
 .rw [Ln hk];by_cases h2:m.term<r.term
  .rw [EK h2];exact Fe _
  by_cases h3:r.role=2
  .rw [EI h2 h3];exact xX
  by_cases h4:(decide ((r.log.length:Int)<m.index)||decide (bB r.log m.index.toNat≠m.prev))=true
  .rw [EH h2 h3 h4];exact Fe _
  have h4:(decide ((r.log.length:Int)<m.index)||decide (bB r.log m.index.toNat≠m.prev))=false:=by simpa using h4
  by_cases h5:cS r m<m.ζ.length
  .by_cases h6:m.index.toNat+cS r m+1<=r.υ
   .rw [EG h2 h3 h4 h5 h6];exact xX
   .rw [EJ h2 h3 h4 h5 h6];have h7:=hm.fits;have h8:=hm.index.1;exact ⟨.inr ⟨rfl,rfl⟩,.inr ⟨by show 0<((m.index.toNat+cS r m+1:Nat):Int);omega,by show ((m.index.toNat+cS r m+1:Nat):Int)<=5000;omega⟩,by show [_].length<=2;simp⟩
  .rw [EL h2 h3 h4 h5];exact Fe _
 .rw [Lo hk];by_cases hc:(decide (r.role≠2)||decide (m.term≠r.term)||m.yes&&decide ((r.log.length:Int)<m.index))=true
  .rw [EO hc];exact xX
  have hc:(decide (r.role≠2)||decide (m.term≠r.term)||m.yes&&decide ((r.log.length:Int)<m.index))=false:=by simpa using hc
  cases hyes:m.yes with
  | false=>rw [EM hc hyes];exact Fe _
  | true =>
   rw [EN hc hyes];split
   .exact Fe _
   .exact xX
theorem aKL(r m):wO (aU r m).2:=by
 cases hy:kC r.id m with
 | false=>rw [uj hy];exact xX
 | true=>rw [xA hy];exact aJS (aKK (sE.1 hy))
theorem aP4{x}(h:κ x.term)(h2:x.data.size<=2000):(lD x).length<=2043:=by
 have:=YE h (show x.data.size<=1000000 by omega);omega
theorem a9K:∀ (l:List aS),(∀ x∈l,κ x.term/\x.data.size<=2000)->(kg l).length<=l.length*2043
 | [],_=>by simp [kg]
 | x :: l,h=>by
  have hx:=h x (by simp);have ih:=a9K l λU hy=>h U (by simp [hy]);have:=aP4 hx.1 hx.2;rw [YG,List.length_append,List.length_cons,Nat.add_mul];omega
theorem a7Z:∀ (l:List Int),(∀ n∈l,κ n)->(mw l).length<=l.length*21
 | [],_=>by simp [mw]
 | n :: l,h=>by
  have ih:=a7Z l λU hy=>h U (by simp [hy]);have h1:=(qj (h n (by simp))).2;rw [XU,List.length_append,qq,List.length_cons,Nat.add_mul];omega
theorem aN9{m}(h:uH m)(hl:m.ζ.length<=8)(hd:∀ x∈m.ζ,x.data.size<=2000):(j5 m).length<=1000000:=by
 have h1:=a7Z (iY m) h.ints;have h2:=a9K m.ζ λx hx=>⟨(h.ζ x hx).1,hd x hx⟩;have h3:=X9 (n:=(m.ζ.length:Int)) (by unfold κ;omega);have nB:(iY m).length=8:=rfl;have e:(j5 m).length=(mw (iY m)).length+((vC m.ζ.length).data.toList.length+(kg m.ζ).length):=by
  unfold j5 vq;simp only [List.length_append];omega
 rw [e,qq];have:m.ζ.length*2043<=8*2043:=Nat.mul_le_mul_right _ hl;omega
theorem aNB{m}(h:uH m):m.bA :=
 ⟨h.ints _ (by simp [iY]),h.ints _ (by simp [iY]),h.ints _ (by simp [iY]),h.ints _ (by simp [iY]),h.ints _ (by simp [iY]),h.ints _ (by simp [iY]),h.ints _ (by simp [iY])⟩
section
variable {N fq D:Nat}{B B':Int}{G G':aa}{C bC:cJ}{g g':fK}{A bK:Int->Nat->Nat}{i:Nat}
theorem bG.rN(h:bG N B D G C g A):oG G:=λj hj v hv=>by
 rw [(h.j.up j hj v hv).1];exact (h.j.s.m.wf.rep j hj).1.ok
theorem aJa{a b:List aS}:(aK (b.map dU)).length<=(aK ((a++b).map dU)).length:=by
 rw [List.map_append,yY,List.length_append];omega
theorem bG.Nn(h:bG N B D G C g A)(hi:i<3){u}(hu:(G.mem i).up=some u){x}(hx:wM C i x)(yd:pV x.1.log)(hg:∀ a∈x.2.send,vX i x.1.log a)(hb:wO x.2):yK u x:=by
 obtain ⟨hr,cn⟩:=h.j.up i hi u hu;obtain ⟨hw,hf⟩:=hx.fits h.j.s.m.wf hi;have hok:=hw.ok;have hin:∀ U∈x.2.ζ,U∈x.1.log:=λU hy=>by
  rcases hb.src with ⟨_,e⟩|⟨h0,_⟩
  .rw [e] at hy;cases hy
  .rw [hf.log h0];exact List.mem_append_right _ hy
 have hlen:x.2.ζ.length<=x.1.log.length/\(aK (x.2.ζ.map dU)).length<=(aK (x.1.log.map dU)).length:=by
  rcases hb.src with ⟨_,e⟩|⟨h0,_⟩
  .rw [e];exact ⟨Nat.zero_le _,by simp [aK]⟩
  .rw [hf.log h0];exact ⟨by rw [List.length_append];omega,aJa⟩
 have h1:=hok.len;have h2:=yd.size;have hjl:u.j.list.length<=1000000:=by
  rw [cn.log,List.length_map,hr];have:=(h.j.s.m.wf.rep i hi).1.ok.len;omega
 have aKb:(aK u.j.list).length<=1000000000:=by
  rw [cn.log];have:=cn.lw.size;omega
 have hjb:=cn.live.bytes;refine ⟨⟨⟨?_,?_⟩,λU hy=>yd.Eh U (hin U hy),by omega,by omega,aKb,by show u.j.bytes<=_;omega,hjl⟩,⟨λa ha=>⟨R5 hok (hg a ha),Nat.le_trans (hg a ha).len (by omega)⟩⟩,Nat.le_trans hb.jx (by omega),hok⟩
 .rcases hb.aQt with hs|⟨e1,e2⟩
  .obtain ⟨e1,e2⟩:=hf.save hs;rw [e1,e2];have:=hok.jn;have:=hok.gf;have:=hok.sJ;have:=hok.sK;unfold κ;omega
  .rw [e1,e2];unfold κ;decide
 .have:=hb.src;unfold κ;omega
theorem bG.aB1(h:bG N B D G C g A)(cH:N*(D+90)<=1048576){id:Int}{u}(hid:¬ (id<0\/3<=id))(hu:(G.mem id.toNat).up=some u):yK u (cr u.r):=by
 have hi:=oA hid;obtain ⟨e,cn⟩:=h.j.up _ hi u hu;have hw:=(h.j.s.m.wf.rep _ hi).1;have hb:=ZN hw (h.j.b.rep _ hi);have dw:=(Nl hw).1.ok;rw [e];refine h.Nn hi hu (.inl rfl) (MQ dw.log dw.gf hb.1.len (by rw [S6];exact h.j.data _ hi) cH) ?_ (aQi _);have:=S4 hw.ok;rw [(h.j.s.m.wf.rep _ hi).2] at this;exact this
theorem bG.S8(h:bG N B D G C g A)(cH:(N+1)*(D+90)<=1048576){id:Int}{data}(Lm:data.size<=D){u}(hid:¬ (id<0\/3<=id))(hu:(G.mem id.toNat).up=some u):
  (u.r.role=2->1<=u.r.term)/\yK u ((aq u.r data).1,(aq u.r data).2.2.2):=by
 have hi:=oA hid;obtain ⟨e,cn⟩:=h.j.up _ hi u hu;have hw:=(h.j.s.m.wf.rep _ hi).1;have hb:=Xx hw (h.j.b.rep _ hi) data;have dw:=(Ig hw data).1.ok;rw [e];refine ⟨λh2=>hw.one (by rw [h2];decide),h.Nn hi hu (.inr (.inr ⟨data,rfl⟩)) (MQ dw.log dw.gf hb.1.len (λU hy=>?_) cH) ?_ (aOM hw.ok data)⟩
 .rcases Xw U hy with a|a
  .exact h.j.data _ hi U a
  .rw [a];exact Lm
 .have:=RT hw data;rw [(h.j.s.m.wf.rep _ hi).2] at this;exact this
theorem bG.aQo(h:bG N B D G C g A)(cH:N*(D+90)<=1048576){m}(hm:m∈C.sent){id:Int}{u}(hid:¬ (id<0\/3<=id))(hu:(G.mem id.toNat).up=some u):yK u (aU u.r m):=by
 have hi:=oA hid;obtain ⟨e,cn⟩:=h.j.up _ hi u hu;have hw:=(h.j.s.m.wf.rep _ hi).1;have hb:=VP hw (h.j.b.rep _ hi) (h.j.b.msg m hm);have hg:=Lp hw m;have dw:=(CF (m:=m) hw).1.ok;rw [e];refine h.Nn hi hu (.inr (.inl ⟨m,hm,rfl⟩)) (MQ dw.log dw.gf hb.1.len (λU hy=>?_) cH) ?_ (aKL _ _)
 .rcases hg.2 U hy with a|a
  .exact h.j.data _ hi U a
  .exact h.j.mdata m hm U a
 .have:=hg.1;rw [(h.j.s.m.wf.rep _ hi).2] at this;exact this
theorem bG.pkt(h:bG N B D G C g A)(cH:N*(D+90)<=1048576)(hD:D<=2000){k p}(ht:iM G.aD k=some p):∃ m,TE G p m:=by
 obtain ⟨_,_,hp⟩:=aAp ht;obtain ⟨m,hm,hw,hl,hs,hto,rfl⟩:=h.j.aD p (List.mem_of_getElem? hp);refine ⟨m,⟨?_,aNB hw,?_,λu hid hu=>h.aQo cH hm hid hu⟩⟩
 .show sB (bs (j5 m)).data.toList=some m;rw [vh,X3 hw (by omega)]
 .show (bs (j5 m)).data.toList.length<=1000000;rw [vh];exact aN9 hw hl λx hx=>Nat.le_trans (h.j.mdata m hm x hx) hD
theorem aNs{d u}(hi:i<3)(cn:iR d u)(hok:u.r.bA):Gc i u:=by
 have hl:∀ s∈u.j.list,∃ x∈u.r.log,s=dU x:=λs hs=>by
  rw [cn.log] at hs;obtain ⟨x,hx,rfl⟩:=List.mem_map.1 hs;exact ⟨x,hx,rfl⟩
 refine ⟨aNK (by omega) hok,?_,λs hs=>?_,λs hs=>?_,?_⟩
 .rw [cn.log,List.length_map];have:=hok.len;omega
 .obtain ⟨x,hx,rfl⟩:=hl s hs;have h1:=cn.lw.Eh x hx;have:=YE h1.1 h1.2;show (bs (lD x)).size<=_;rw [dN];omega
 .obtain ⟨x,hx,rfl⟩:=hl s hs;have h1:=cn.lw.Eh x hx;rw [Fk h1.1 h1.2];exact hok.ζ x hx
 .rcases cn.now with ⟨_,e,_⟩|⟨_,e,_⟩
  .rw [e];exact Nat.zero_le _
  .omega
theorem bG.opens(h:bG N B D G C g A)(hi:i<3){d}(hd:kj d (sY N B D C i)){up}(hu:(bM i d).2.1=some up):(bM i d).2.2=0/\Gc i up/\up.r.bA:=by
 have ho:=RG (id:=i) hd;rcases ho.or with ⟨u,a1,a2,a3,a4,a5,a6,a7,a8⟩|⟨a1,_⟩
 .rw [a1] at hu;cases hu;obtain ⟨bC,g',bK,jT⟩:=RP h.j.s hi a5;rw [<-a4] at jT;have hok:up.r.bA:=by
   rw [<-jT.rep];exact (jT.s.m.wf.rep i hi).1.ok
  exact ⟨a2,aNs hi a3 hok,hok⟩
 .rw [a1] at hu;cases hu
theorem bG.aAN(h:bG N B D G C g A)(hi:i<3):a2C G i:=by
 have hd:kj (dz (G.mem i).d) (sY N B D C i):=(h.j.any hi).frame rfl rfl;exact ⟨λup hu=>(h.opens hi hd hu).2.1,λup hu=>(h.opens hi hd hu).1,λup hu=>(h.opens hi hd hu).2.2⟩
theorem aNr{n}(hn:n<3):∀ up,(bM n mB).2.1=some up->Gc n up/\up.r.bA:=λup hu=>by
 have h:bG 0 0 0 iU EW LL λ_ _=>0:=Uv;refine (h.opens (i:=n) hn (a3t.mono λt v l e=>?_) hu).2;obtain ⟨rfl,rfl,rfl⟩:=e;exact ⟨.inl ⟨⟨rfl,rfl⟩,rfl⟩,Nat.le_refl _,Int.le_refl _,by simp⟩
end
end Go.Proofs.YtcmgeboolmmdkaaGreatDoor
end

section
namespace Go.Proofs
open Go.Shelf
def Tryz.aMx:Go.Shelf.Ren:=⟨fun|5=>76|7=>121|n=>n,fun|23=>85|25=>3|3=>119|4=>4|20=>20|n=>n,fun|n=>n⟩
theorem Tryz.aMw:Go.Proofs.SlLaysW.n5 prog Tryz.aMx:={
 mixed:=by kernel_rfl
 f5:=⟨Tryz.f76.name,by decide,func76.trans (congrArg some (by kernel_rfl))⟩
 f7:=func121.trans (congrArg some (by kernel_rfl))
 t4:=underlying4
 a4:=isAgg4
 z4:=sizeOf4
 v4:=zeroValue4
 t20:=underlying20
 a20:=isAgg20
 z20:=sizeOf20
 v20:=zeroValue20
 t23:=underlying85
 a23:=isAgg85
 z23:=sizeOf85
 v23:=zeroValue85 }
def Tryz.aMz:Go.Shelf.Ren:=⟨fun|5=>78|7=>121|n=>n,fun|23=>86|25=>122|3=>4|4=>4|20=>20|n=>n,fun|n=>n⟩
theorem Tryz.aMy:Go.Proofs.SlLaysW.n5 prog Tryz.aMz:={
 mixed:=by kernel_rfl
 f5:=⟨Tryz.f78.name,by decide,func78.trans (congrArg some (by kernel_rfl))⟩
 f7:=func121.trans (congrArg some (by kernel_rfl))
 t4:=underlying4
 a4:=isAgg4
 z4:=sizeOf4
 v4:=zeroValue4
 t20:=underlying20
 a20:=isAgg20
 z20:=sizeOf20
 v20:=zeroValue20
 t23:=underlying86
 a23:=isAgg86
 z23:=sizeOf86
 v23:=zeroValue86 }
end Go.Proofs
end

section
namespace Go.Proofs.YtcmgeboolmmdkaaGreatDoor
open Go.Vc
theorem aQW(M w cs)(x:ByteArray)(h:aB.rep M w cs x):(cs.all λu=>ga u)=true:=by
 obtain ⟨rfl,_⟩:=h;rfl
theorem aQX{W w Q Φ M p n c l}(h:Go.Vc.lZ W Q Φ M w)(hm:Own.buf p n c (bX l) 9 1∈Q)(hok:∀ x∈l,x.size<=maxLen):Δ M w p l :=
 vZ.sl (α:=ByteArray) (D:=[]) (h.parked hm) (L6 hok)
section
variable {W w:World}{S:List Own}{Φ:θ}{L:gQ}{G:aa}{i:Nat}
theorem aEa[O Φ]{q l c2}(c:Ctx W w S Φ)(bp:∀ M w,Φ M w->Δ M w q l)(hlen:l.length<100000000){K}(hk:∀ p cap w',Ctx W w' (.buf p l.length cap (bX l) 9 1 :: S) Φ->K (.returned (.slice p l.length cap)) w'):Γ F.Yy #[.slice q l.length c2] w K:=by
 refine ak (aEF q l.length c2 (J:=K∘.returned) c ?_);refine γ.intro (λh=>λw G y=>?_) (λh=>λk w G y=>?_)
 .have hq:q=none:=by simpa using h
  have hl:l.length=0:=by
   rcases Nat.eq_zero_or_pos l.length with h0|h0
   .exact h0
   .obtain ⟨b,o,hb⟩:=(bp _ _ y.cy).there h0;rw [hq] at hb;cases hb
  have hl':l=[]:=List.eq_nil_of_length_eq_zero hl;subst hl';exact hk none 0 w (y.left.yp 9 1)
 .obtain ⟨p',cap',w',cs,hrun,p5⟩:=Ctx.PY (P:=prog) (ts:=40) (ty:=40) (kb:=#[false,false]) (bytes:=16) (c2:=c2) y (by kernel_rfl) aQW bp hlen (by omega);have hcs:=ZE p5.cy.2;subst hcs;exact ⟨p',l.length,cap',w',hrun,.buf p' l.length cap' (bX l) 9 1 :: S,Φ,δ,p5.fst,λw G y=>hk p' cap' w y.left⟩
theorem a0y[O Φ](hsz:∀ s∈G.aQ,s.size<=maxLen)(hlen:G.aQ.length<100000000)(y:Ctx W w (Ξ L G++S) Φ){K}(hk:∀ p c w',G.aQ.length<=c->Ctx W w' (Ξ L G++S) (λM w=>Φ M w/\Δ M w p G.aQ)->K (.returned (.slice p G.aQ.length c)) w'):
  Γ F.Q4 #[ε L.gb 0] w K:=by
 refine ak (aCr L.gb 0 (J:=K∘.returned) y λw Y y=>⟨L.cp,G.aQ.length,L.cc,y.get 0 rfl (by rfl),λw Y y=>?_⟩);have bO:Ctx W w (S++Y) (Go.Vc.lZ W (Ξ L G) Φ):=Ctx.aside (y.re (μ _ _ _));refine aEa bO (λM w h=>aQX h (n:=G.aQ.length) (c:=L.cc) (by unfold Ξ;simp) hsz) hlen λq cap w y=>?_;obtain ⟨_,HY,hcap2⟩:=y.uS 0 rfl;have ep:Ctx W w (.buf q G.aQ.length cap (bX G.aQ) 9 1 :: (Ξ L G++(S++Y))) Φ:=y.DJ.perm List.perm_middle
 obtain ⟨lQ,hs,_⟩:=Ctx.freeze (α:=ByteArray) ep (L6 hsz);have hst:O (λM w=>Φ M w/\Δ M w q G.aQ):=vv Φ (λM w=>Δ M w q G.aQ);exact ⟨q,_,cap,rfl,Ξ L G++S,λM w=>Φ M w/\Δ M w q G.aQ,hst,e4 (lQ.add hs),λw Y y=>hk q cap w HY y.left⟩
theorem aA4{M w cs}{x:Int × Int}(h:aB.rep M w cs x):cs=[.int .i64 x.1,.int .i64 x.2]/\(κ x.1/\κ x.2):=by
 obtain ⟨_,_,rfl,⟨rfl,h1⟩,rfl,h2⟩:=h;exact ⟨rfl,h1,h2⟩
theorem aPl(M w cs)(x:Int × Int)(h:aB.rep M w cs x):(cs.all λu=>ga u)=true:=by
 rw [(aA4 h).1];rfl
theorem aPk{M w l}(h:∀ x∈l,κ x.1/\κ x.2):dA M w (fI l) l:=by
 refine ⟨DA l,λj hj=>?_⟩;rw [show (aB.ty (Int × Int)).size=2 from rfl,Rs hj];have:=h _ (List.getElem_mem hj);exact ⟨[_],[_],rfl,⟨rfl,this.1⟩,rfl,this.2⟩
theorem aJ9{M w cs l}(h:dA M w cs l):cs=fI l:=by
 apply List.ext_getElem?;intro i;have hl:=h.1;rw [show (aB.ty (Int × Int)).size=2 from rfl] at hl;by_cases hi:i<cs.length
 .have hj:i / 2<l.length:=by omega
  have h1:=(aA4 (h.2 (i / 2) hj)).1;rw [show (aB.ty (Int × Int)).size=2 from rfl,<-Rs hj] at h1;have h2:((cs.drop (i / 2*2)).take 2)[i % 2]? = (((fI l).drop (i / 2*2)).take 2)[i % 2]? := by rw [h1]
  rw [List.getElem?_take_of_lt (by omega),List.getElem?_take_of_lt (by omega),List.getElem?_drop,List.getElem?_drop] at h2
  rwa [show i / 2*2+i % 2=i by omega] at h2
 .rw [List.getElem?_eq_none (by omega),List.getElem?_eq_none (by rw [DA];omega)]
theorem aEZ[O Φ]{q l c2}(c:Ctx W w S Φ)(bp:∀ M w,Φ M w->Δ M w q l)(hlen:l.length<100000000){K}(hk:∀ p cap w',Ctx W w' (.buf p l.length cap (fI l) 122 2 :: S) Φ->K (.returned (.slice p l.length cap)) w'):Γ F.Yw #[.slice q l.length c2] w K:=by
 refine ak (aED q l.length c2 (J:=K∘.returned) c ?_);refine γ.intro (λh=>λw G y=>?_) (λh=>λk w G y=>?_)
 .have hq:q=none:=by simpa using h
  have hl:l.length=0:=by
   rcases Nat.eq_zero_or_pos l.length with h0|h0
   .exact h0
   .obtain ⟨b,o,hb⟩:=(bp _ _ y.cy).there h0;rw [hq] at hb;cases hb
  have hl':l=[]:=List.eq_nil_of_length_eq_zero hl;subst hl';exact hk none 0 w (y.left.yp 122 2)
 .obtain ⟨p',cap',w',cs,hrun,p5⟩:=Ctx.PY (P:=prog) (ts:=87) (ty:=87) (kb:=#[false,false]) (bytes:=16) (c2:=c2) y (by kernel_rfl) aPl bp hlen (by omega);have hcs:=aJ9 p5.cy.2;subst hcs;exact ⟨p',l.length,cap',w',hrun,.buf p' l.length cap' (fI l) 122 2 :: S,Φ,δ,p5.fst,λw G y=>hk p' cap' w y.left⟩
theorem aMs[O Φ]{aJ es cm}(hm:w.heap[aJ]? = some (aZ (Value.int .i64) cP es cm))(y:Ctx W w S Φ){K}(hk:∀ b w',Ctx W w' (.obj b (aZ (Value.int .i64) cP es cm) :: S) Φ->K (.returned (.map (some b))) w'):Γ F.a6u #[.map (some aJ)] w K :=
 (AnyW.maps_Clone Tryz.aMw aJ _ cm w hm).mono λe w' ⟨he,hw⟩=>by rw [he];exact hk _ _ (y.newObj hw)
theorem aMt[O Φ]{sm es cm}(hm:w.heap[sm]? = some (aZ e6 Value.bool es cm))(y:Ctx W w S Φ){K}(hk:∀ b w',Ctx W w' (.obj b (aZ e6 Value.bool es cm) :: S) Φ->K (.returned (.map (some b))) w'):Γ F.a6t #[.map (some sm)] w K :=
 (AnyW.maps_Clone Tryz.aMy sm _ cm w hm).mono λe w' ⟨he,hw⟩=>by rw [he];exact hk _ _ (y.newObj hw)
theorem aEd[O Φ]{q d}(hq:cG q d)(y:Ctx W w (ξ q d++S) Φ){K}(hk:∀ q' w',q'.kp=q.kp->cG q' d->Ctx W w' (ξ q' d++(ξ q d++S)) Φ->K (.returned (ε q'.db 0)) w'):Γ F.Tx #[ε q.db 0] w K:=by
 have aLA:∀ x∈d.queue,κ x.1/\κ x.2:=λx hx=>by have:=hq.range x hx;unfold κ;omega
 have aT9:=hq.ND;refine ak (aCY q.db 0 (J:=K∘.returned) y λw Y y=>⟨_,_,_,_,_,_,_,_,_,_,_,y.oW 0 rfl,λk w Y y=>⟨y.can 0 rfl (by show 0+7<=7;omega),λw' hw'=>?_⟩⟩);have c0:=y.pO 0 hw' rfl;refine ⟨.blk k (dH q d) 89 :: (ξ q d++S),Φ,δ,c0,[.blk q.db (dH q d) 89],lE,δ,λw Y y=>dS y (.cons _ (.cons_cons _ (List.nil_sublist _))),some q.aJ,λw Y y=>⟨_,y.get 0 rfl rfl,rfl⟩,q.eI,d.queue.length,q.bW,λw Y y=>⟨_,_,_,y.get 0 rfl rfl,rfl⟩,some q.sm,λw Y y=>⟨_,y.get 0 rfl rfl,rfl⟩,λw Y y=>?_⟩
 refine aMs (y.own (.obj q.aJ (aZ (Value.int .i64) cP q.cY q.b9)) (by simp [ξ])) y λb1 w y=>⟨_,rfl,.obj b1 (aZ (Value.int .i64) cP q.cY q.b9) :: .blk k (dH q d) 89 :: (ξ q d++S),Φ,δ,y,λw Y y=>dS y (.cons _ (.cons _ (.cons_cons _ (List.nil_sublist _)))),λw Y y=>?_⟩;have aH5:Ctx W w ((.obj b1 (aZ (Value.int .i64) cP q.cY q.b9) :: .blk k (dH q d) 89 :: S)++Y) (Go.Vc.lZ W (ξ q d) Φ):=Ctx.aside (Q:=ξ q d) (y.perm (by
  show ((.obj b1 (aZ (Value.int .i64) cP q.cY q.b9) :: .blk k (dH q d) 89 :: (ξ q d++S))++Y).Perm (ξ q d++((.obj b1 (aZ (Value.int .i64) cP q.cY q.b9) :: .blk k (dH q d) 89 :: S)++Y));have:∀ (a b:Own) (D S Y:List Own),((a :: b :: (D++S))++Y).Perm (D++((a :: b :: S)++Y)):=λa b D S Y=>by
   rw [List.cons_append,List.cons_append,μ];exact (List.perm_append_comm_assoc [a,b] D (S++Y))
  exact this _ _ _ _ _))
 refine aEZ aH5 (λM w h=>vZ.sl (α:=Int × Int) (D:=[]) (h.parked (o:=.buf q.eI d.queue.length q.bW (fI d.queue) 122 2) (by simp [ξ])) (aPk aLA)) (by omega) λp' c' w y=>?_;have c1:Ctx W w ((.buf p' d.queue.length c' (fI d.queue) 122 2 :: .obj b1 (aZ (Value.int .i64) cP q.cY q.b9) :: .blk k (dH q d) 89 :: (ξ q d++S))++Y) Φ:=y.DJ.perm (by
  have:∀ (a b c:Own) (D S Y:List Own),(D++(a :: ((b :: c :: S)++Y))).Perm ((a :: b :: c :: (D++S))++Y):=λa b c D S Y=>by
   have e:(a :: b :: c :: (D++S))++Y=[a,b,c]++(D++(S++Y)):=by simp
   rw [e];exact (List.perm_append_comm_assoc [a,b,c] D (S++Y)).symm
  exact this _ _ _ _ _ _)
 refine ⟨_,_,_,rfl,.buf p' d.queue.length c' (fI d.queue) 122 2 :: .obj b1 (aZ (Value.int .i64) cP q.cY q.b9) :: .blk k (dH q d) 89 :: (ξ q d++S),Φ,δ,c1,λw Y y=>dS y (.cons _ (.cons _ (.cons _ (.cons_cons _ (List.nil_sublist _))))),λw Y y=>?_⟩;refine aMt (y.own (.obj q.sm (aZ e6 Value.bool q.fh q.eU)) (by simp [ξ])) y λb2 w y=>?_
 let X:List Own:=.buf p' d.queue.length c' (fI d.queue) 122 2 :: .obj b1 (aZ (Value.int .i64) cP q.cY q.b9) :: []
 refine ⟨_,rfl,.obj b2 (aZ e6 Value.bool q.fh q.eU) :: .buf p' d.queue.length c' (fI d.queue) 122 2 :: .obj b1 (aZ (Value.int .i64) cP q.cY q.b9) :: .blk k (dH q d) 89 :: (ξ q d++S),Φ,δ,y,λw Y y=>⟨y.can 3 rfl (by show 0+1<=7;omega),λw' hw'=>⟨.obj b2 (aZ e6 Value.bool q.fh q.eU) :: .buf p' d.queue.length c' (fI d.queue) 122 2 :: .obj b1 (aZ (Value.int .i64) cP q.cY q.b9) :: .blk k ((dH q d).set 0 (.map (some b1))) 89 :: (ξ q d++S),Φ,δ,y.put 3 hw' rfl,λw Y y=>⟨y.can 3 rfl (by show 1+1<=7;omega),λw' hw'=>⟨.obj b2 (aZ e6 Value.bool q.fh q.eU) :: .buf p' d.queue.length c' (fI d.queue) 122 2 :: .obj b1 (aZ (Value.int .i64) cP q.cY q.b9) :: .blk k (((dH q d).set 0 (.map (some b1))).set 1 (.slice p' d.queue.length c')) 89 :: (ξ q d++S),Φ,δ,y.put 3 hw' rfl,λw Y y=>⟨y.can 3 rfl (by show 2+1<=7;omega),λw' hw'=>⟨.obj b2 (aZ e6 Value.bool q.fh q.eU) :: .buf p' d.queue.length c' (fI d.queue) 122 2 :: .obj b1 (aZ (Value.int .i64) cP q.cY q.b9) :: .blk k ((((dH q d).set 0 (.map (some b1))).set 1 (.slice p' d.queue.length c')).set 2 (.map (some b2))) 89 :: (ξ q d++S),Φ,δ,y.put 3 hw' rfl,λw Y y=>?_⟩⟩⟩⟩⟩⟩⟩
 refine hk ⟨k,b1,q.cY,q.b9,b2,q.fh,q.eU,p',c',q.kp,q.kc⟩ w rfl ⟨hq.yX,hq.BA,hq.uc,hq.zE,hq.nodup,hq.range,hq.size,hq.lost,hq.eP⟩ ?_;refine (Ctx.left y).perm ?_;have:∀ (a b c e:Own) (D:List Own),(a :: b :: c :: e :: D).Perm ([e,c,a,b]++D):=λa b c e D=>by
  show (a :: b :: c :: e :: D).Perm (e :: c :: a :: b :: D);exact (List.perm_middle (a:=e) (l₁:=[a,b,c]) (l₂:=D)).trans (.cons _ (List.perm_middle (a:=c) (l₁:=[a,b]) (l₂:=D)))
 exact this _ _ _ _ _
def a2E(d:b7):Prop:=∀ j,(ny (yR d) 0).2.1=some j->j.list.length<=1000000/\∀ s∈j.list,s.size<=100000000/\(gV s).bA
theorem aQH{d Q}(h:kj d Q):a2E d:=λj hj=>by
 obtain ⟨hw,H,P,hQ,hC,hL⟩:=h;obtain ⟨c1,c2,c3⟩:=a3f hw;have iI:Bc (yR d) P:=hL.ev (c2 _) (c2 _);have qd:=XX (d:=yR d) (b:=0) (by decide) c1 iI;rcases qd.or with ⟨j',g1,g2,g3,⟨lg,g4,g5,g6⟩,g7,g8⟩|⟨g1,g2,g3⟩
 .rw [g1] at hj;cases hj;have hsz:=g5.size;refine ⟨?_,λs hs=>?_⟩
  .rw [g4];have:=HJ (l:=lg.map dU) λx hx=>by
    have:=yZ hx;omega
   omega
  .rw [g4] at hs;have:=yZ hs;obtain ⟨x,hx,rfl⟩:=List.mem_map.1 hs;have h1:=g5.Eh x hx;refine ⟨by omega,?_⟩;rw [Fk h1.1 h1.2];exact ⟨h1.1,by unfold maxLen;omega⟩
 .rw [g1] at hj;cases hj
theorem a4n(L G)(hi:i<3)(F):(Ξ L G++F).Perm (ξ (L.P i).q (G.mem i).d++(ω L.gb (bU L G) :: (FN (L.P i) (G.mem i)++(n6 L G i++F)))):=by
 have h:=Kh (L.P i) (G.mem i) L.gb (bU L G) (n6 L G i) F;rw [List.cons_append,μ] at h;exact (LP L G hi F).trans h
theorem aEv[O Φ](hoff:∀ M w,Φ M w->jO M w)(hN:∀ M w,Φ M w->jt M w)(hF:bf Φ L G)(hs:∀ i,i<3->a2E (G.mem i).d){id}(y:Ctx W w (Ξ L G++S) Φ){K}(hk:∀ p c w',Ctx W w' (Ξ L G++S) (λM w=>Φ M w/\Δ M w p (DF G id))->K (.returned (.slice p (DF G id).length c)) w'):
  Γ F.HQ #[ε L.gb 0,.int .i64 id] w K:=by
 refine ak (aD8 L.gb 0 id (J:=K∘.returned) y λw Y y=>?_);rw [μ] at y;refine Ji y λw y=>⟨_,rfl,Ξ L G++S,Φ,δ,by rw [μ];exact y,?_⟩;unfold DF at hk;by_cases hid:id<0\/3<=id
 .have e1:mN G id=1:=by unfold mN;rw [if_pos hid]
  rw [if_pos hid] at hk;rw [e1];exact γ.intro (λ_=>λw Y y=>hk none 0 w (y.left.add Δ.nil)) (λh=>absurd rfl (Λ h))
 have e1:mN G id≠1:=by unfold mN;rw [if_neg hid];split<;>decide
 rw [if_neg hid] at hk;refine γ.intro (λh=>absurd (aN h) e1) (λ_=>⟨by omega,λw Y y=>?_⟩);obtain ⟨i,rfl⟩:∃ i:Nat,id=i:=⟨id.toNat,by omega⟩;have hi:i<3:=by omega
 rw [Int.toNat_natCast] at hk ⊢;have hm:=hF.mem i hi;refine ⟨some ⟨(L.P i).q.db,0,none⟩,y.get 0 rfl (by rw [Nat.zero_add];exact ue L G hi (k:=0) (by decide)),λw Y y=>?_⟩;rw [μ] at y;refine aEd hm.dq (y.perm (a4n L G hi (S++Y))) λq w _ hq y=>?_;have pb:∀ (D:List Own) (Y:List Own),(D++(ξ (L.P i).q (G.mem i).d++(ω L.gb (bU L G) :: (FN (L.P i) (G.mem i)++(n6 L G i++(S++Y)))))).Perm ((D++(Ξ L G++S))++Y):=λD Y=>by
  rw [μ,μ];exact .append_left _ (a4n L G hi (S++Y)).symm
 refine ⟨_,rfl,ξ q (G.mem i).d++(Ξ L G++S),Φ,δ,y.perm (pb _ _),λw Y y=>?_⟩;rw [μ] at y;refine a1H hq (n:=0) (by unfold κ;decide) y λw hq y=>⟨rfl,ξ q (k5 (G.mem i).d 0)++(Ξ L G++S),Φ,δ,by rw [μ];exact y,λw Y y=>?_⟩;rw [μ] at y;refine a0l hq (n:=0) (p:=none) (cap:=0) (l:=[]) (by unfold κ;decide) (Nat.zero_le _) (λM w h=>Δ.nil) y λp' c' w hq y=>?_;obtain ⟨q1,hq1⟩:∃ q1:ld,q1={ q with kp:=p',kc:=c' }:=⟨_,rfl⟩
 have hdb:q1.db=q.db:=by rw [hq1]
 rw [<-hq1] at hq y;rw [<-hdb];obtain ⟨Ψ,nF⟩:∃ Ψ:θ,Ψ=λM w=>Φ M w/\C0 q1 (jR (k5 (G.mem i).d 0) 0 []) M w:=⟨_,rfl⟩
 haveI:O Ψ:=by rw [nF];infer_instance
 have hw1:∀ M w,Ψ M w->Φ M w:=by rw [nF];exact λM w h=>h.1
 have dw:∀ M w,Ψ M w->C0 q1 (jR (k5 (G.mem i).d 0) 0 []) M w:=by rw [nF];exact λM w h=>h.2
 rw [<-nF] at y;refine ⟨rfl,ξ q1 (jR (k5 (G.mem i).d 0) 0 [])++(Ξ L G++S),Ψ,δ,by rw [μ];exact y,λw Y y=>?_⟩;rw [μ] at y;refine OU hq (p:=none) (cap:=0) (keep:=[]) (Nat.zero_le _) (λM w h=>Δ.nil) y λu w hq y=>⟨rfl,ξ (q1.mv u) (dj (jR (k5 (G.mem i).d 0) 0 []) [])++(Ξ L G++S),Ψ,δ,by rw [μ];exact y,λw Y y=>?_⟩;rw [μ] at y;have lS:gk Ψ (q1.mv u) (dz (dj (jR (k5 (G.mem i).d 0) 0 []) [])):=by
  have h0:gk Ψ q1 (jR (k5 (G.mem i).d 0) 0 []):=⟨Nat.zero_le _,dw⟩;exact h0.of (by show (dj _ _).keep=_;exact PZ _ _) u
 refine a2D hq y λw hq y=>⟨rfl,ξ (q1.mv u) (dz (dj (jR (k5 (G.mem i).d 0) 0 []) []))++(Ξ L G++S),Ψ,δ,by rw [μ];exact y,λw Y y=>?_⟩;rw [μ] at y;have hcd:dz (dj (jR (k5 (G.mem i).d 0) 0 []) [])=yR (G.mem i).d:=rfl;rw [hcd] at hq lS y;refine a1E hq lS (λM w h=>hoff M w (hw1 M w h)) (λM w h=>hN M w (hw1 M w h)) y (λu2 d' e w ho cX k3 y=>?_) (λu2 x d' j w ho hsb cX k3 y=>?_)
 .have e2:tq (G.mem i).d=[]:=by unfold tq;rw [ho]
  rw [e2] at hk;have hne:=a7f ho;have c1:Ctx W w ((Ξ L G++S)++Y) Ψ:=Ctx.right y;exact ⟨none,e,rfl,Ξ L G++S,Ψ,δ,c1,γ.intro (λ_=>λw Y y=>hk none 0 w ((y.left.weak hw1).add Δ.nil)) (λh=>absurd (Decidable.not_not.1 (Λ h)) hne)⟩
 .have e2:tq (G.mem i).d=j.list.map gV:=by unfold tq;rw [ho]
  rw [e2] at hk;obtain ⟨h1,h2⟩:=hs i hi j (by rw [ho]);have c1:Ctx W w (aL x (q1.mv u) j++((Ξ L G++S)++Y)) Ψ:=y.sub (List.Sublist.append_left (List.sublist_append_right _ _) _);refine ⟨some ⟨x.ax,0,none⟩,0,rfl,aL x (q1.mv u) j++(Ξ L G++S),Ψ,δ,by rw [μ];exact c1,γ.intro (λh=>absurd rfl (aN h)) (λ_=>λw Y y=>?_)⟩;rw [μ] at y;refine a4B (λM w h=>hN M w (hw1 M w h)) hsb h1 (λs hs=>(h2 s hs).1) (λs hs=>(h2 s hs).2) y λp c w y=>⟨_,_,_,rfl,aL x (q1.mv u) j++(Ξ L G++S),_,vv Ψ (λM w=>Δ M w p (j.list.map gV)),by rw [μ];exact y,λw Y y=>?_⟩
  exact hk p c w ((Ctx.right (S:=aL x (q1.mv u) j) (Ctx.left y)).weak λM w h=>⟨hw1 M w h.1,h.2⟩)
abbrev XM:List Value:=[bQ,bQ,bQ,bQ]
def pL(P:Nat->sX)(N:Jq)(j:Nat):List Value :=
 (if 0<j then oR (P 0) true else XM)++((if 1<j then oR (P 1) true else XM)++((if 2<j then oR (P 2) true else XM)++[ε N.nb 0,.slice none 0 0]))
def qB(P:Nat->sX):Nat->List Own
 | 0=>[]
 | j+1=>dX (P j) (lT j)++qB P j
theorem XK(P N j):(pL P N j).length=14:=by
 unfold pL;split<;>split<;>split<;>rfl
theorem a7M(P X){k}:∀ j,j<=k->qB (put P k X) j=qB P j
 | 0,_=>rfl
 | j+1,h=>by
  show dX (put P k X j) (lT j)++qB (put P k X) j=dX (P j) (lT j)++qB P j;rw [dD _ _ (by omega),a7M P X j (by omega)]
theorem aNG(P N){j}(hj:j<3)(X):DK ((pL P N j).set (j*4) (pA X.q.db)) (j*4) X.x.ax X.cb X.rb=pL (put P j X) N (j+1):=by
 match j,hj with
 | 0,_=>rfl
 | 1,_=>rfl
 | 2,_=>rfl
theorem aN0(i):(lT i).up.isSome=true:=by
 obtain ⟨u,h,_⟩:=Cc i;rw [h];rfl
theorem aJh(gb N P):bU ⟨gb,N,none,0,P⟩ iU=pL P N 3:=by
 have e:∀ i,(iU.mem i).up.isSome=true:=aN0;unfold bU;rw [e,e,e];rfl
theorem aOB(a)(D X Y:List Own):(D++((a :: X)++Y)).Perm ((a :: (D++X))++Y):=by
 rw [List.cons_append,List.cons_append,μ];exact List.perm_middle
theorem aNH(P N):pL P N 0=[bQ,bQ,bQ,bQ,bQ,bQ,bQ,bQ,bQ,bQ,bQ,bQ,ε N.nb 0,.slice none 0 0]:=rfl
theorem a13[O Φ](hoff:∀ M w,Φ M w->jO M w)(hN:∀ M w,Φ M w->jt M w)(y:Ctx W w S Φ){K}(hk:∀ L Ψ w',O Ψ->(∀ M w,Ψ M w->Φ M w)->bf Ψ L iU->Ctx W w' (Ξ L iU++S) Ψ->K (.returned (ε L.gb 0)) w'):
  Γ F.Q9 #[] w K:=by
 refine ak (aDI (J:=K∘.returned) y λw Y y=>aFM (S:=S++Y) y λN w y=>⟨_,rfl,cT N ⟨[],0⟩++S,Φ,δ,by rw [μ];exact y,λgb=>?_⟩);refine fD (λfH R' Ψ bY=>∃ (j:Nat) (P:Nat->sX),fH=j/\j<=3/\bY=3 - j/\R'=ω gb (pL P N j) :: (qB P j++(cT N ⟨[],0⟩++S))/\(∀ M w,Ψ M w->Φ M w)/\∀ i,i<j->rF Ψ (P i) (lT i)) ⟨⟨ω gb (pL (λ_=>⟨⟨0,0,[],0,0,[],0,none,0,none,0⟩,⟨0,0,none,0,.obj 0 (.map #[] 0)⟩,0,0,none,0⟩) N 0) :: ([]++(cT N ⟨[],0⟩++S)),Φ,_,δ,λw Y y=>by rw [aNH];exact y,0,_,rfl,Nat.zero_le _,rfl,rfl,λ_ _ h=>h,λi hi=>absurd hi (Nat.not_lt_zero _)⟩,?_⟩
 rintro fH R' Ψ bY hst ⟨j,P,rfl,hj,rfl,rfl,hw,gu⟩;refine γ.intro (λhlt=>?_) (λhge=>λw Y y=>?_)
 .have hlt:j<3:=by have:=aN hlt;omega
  refine ⟨[],lE,δ,λw Y y=>dS y (List.nil_sublist _),λw Y y=>?_⟩;refine aEi y λq w hq y=>?_;obtain ⟨aV,tL⟩:∃ aV:θ,aV=λM w=>Ψ M w/\C0 q mB M w:=⟨_,rfl⟩
  haveI:O aV:=by rw [tL];infer_instance
  have hw1:∀ M w,aV M w->Ψ M w:=by rw [tL];exact λM w h=>h.1
  have dw:∀ M w,aV M w->C0 q mB M w:=by rw [tL];exact λM w h=>h.2
  rw [<-tL] at y;have c1:Ctx W w ((ω gb (pL P N j) :: (ξ q mB++(qB P j++(cT N ⟨[],0⟩++S))))++Y) aV:=y.perm (aOB _ _ _ _);refine ⟨some ⟨q.db,0,none⟩,rfl,ω gb (pL P N j) :: (ξ q mB++(qB P j++(cT N ⟨[],0⟩++S))),aV,δ,c1,λw Y y=>dS y (List.nil_sublist _),by omega,λw Y y=>?_⟩;rw [Int.toNat_natCast,Nat.zero_add];refine ⟨y.can 0 rfl (by rw [XK];omega),λw' hw'=>⟨ω gb ((pL P N j).set (j*4) (pA q.db)) :: (ξ q mB++(qB P j++(cT N ⟨[],0⟩++S))),aV,δ,y.put 0 hw' rfl,by omega,λw Y y=>?_⟩⟩
  have Vz:((pL P N j).set (j*4) (pA q.db))[j*4]? = some (ε q.db 0):=by
   rw [List.getElem?_set_self (by rw [XK];omega)]
  rw [List.cons_append,μ] at y;refine a7h (id:=j) (λM w h=>hoff M w (hw M w (hw1 M w h))) (λM w h=>hN M w (hw M w (hw1 M w h))) Vz (by rw [List.length_set,XK];omega) hq ⟨Nat.zero_le _,dw⟩ (λup hu=>(aNr hlt up hu).1) y (λu w ho he hq1 k3 y=>?_) (λu x cb rb rp rc up w ho he hsb hq1 k3 y=>?_)
  .exfalso;obtain ⟨u',h1,_⟩:=Cc j;have h1:(bM j mB).2.1=some u':=h1;rw [ho] at h1;cases h1
  .have e1:=aNG P N hlt ⟨q.mv u,x,cb,rb,rp,rc⟩;have e1:DK ((pL P N j).set (j*4) (pA q.db)) (j*4) x.ax cb rb=pL (put P j ⟨q.mv u,x,cb,rb,rp,rc⟩) N (j+1):=e1;rw [e1] at y;have em:lT j=⟨(bM j mB).1,some up⟩:=by rw [<-ho];rfl
   have e2:qB (put P j ⟨q.mv u,x,cb,rb,rp,rc⟩) (j+1)=dX ⟨q.mv u,x,cb,rb,rp,rc⟩ ⟨(bM j mB).1,some up⟩++qB P j:=by
    show dX (put P j _ j) (lT j)++qB (put P j _) j=_;rw [cF,a7M P _ j (Nat.le_refl _),em]
   have c2:Ctx W w ((ω gb (pL (put P j ⟨q.mv u,x,cb,rb,rp,rc⟩) N (j+1)) :: (qB (put P j ⟨q.mv u,x,cb,rb,rp,rc⟩) (j+1)++(cT N ⟨[],0⟩++S)))++Y) aV:=by
    rw [e2];refine y.perm (.cons _ ?_);show (Θ rb up.r rp rc++(aL x q up.j++([aP cb q up.c]++(ξ (q.mv u) (bM j mB).1++((qB P j++(cT N ⟨[],0⟩++S))++Y))))).Perm (((Θ rb up.r rp rc++(aL x (q.mv u) up.j++(ξ (q.mv u) (bM j mB).1++[aP cb (q.mv u) up.c])))++qB P j++(cT N ⟨[],0⟩++S))++Y);rw [μ (Θ rb up.r rp rc++_) (qB P j),μ (Θ rb up.r rp rc++_),μ (Θ rb up.r rp rc),μ (aL x _ up.j),μ (ξ _ _)];exact .append_left _ (.append_left _ (List.perm_append_comm_assoc _ _ _))
   refine ⟨0,rfl,ω gb (pL (put P j ⟨q.mv u,x,cb,rb,rp,rc⟩) N (j+1)) :: (qB (put P j ⟨q.mv u,x,cb,rb,rp,rc⟩) (j+1)++(cT N ⟨[],0⟩++S)),aV,δ,c2,by unfold κ;omega,_,aV,_,δ,λw Y y=>y,⟨j+1,_,by omega,by omega,rfl,rfl,λM w h=>hw M w (hw1 M w h),λi hi=>?_⟩,by omega⟩;by_cases e:i=j
   .subst e;rw [cF,em];exact ⟨hq1,⟨by rw [k3];exact Nat.zero_le _,λM w h=>by rw [k3];exact dw M w h⟩,λv hv=>by cases hv;exact hsb⟩
   .rw [dD _ _ e];exact (gu i (by omega)).weak hw1
 .have he:j=3:=by have:=Λ hge;omega
  subst he;refine hk ⟨gb,N,none,0,P⟩ Ψ w hst hw ⟨gu,Nat.zero_le _⟩ ?_;have c1:=(Ctx.left y).yp 9 1;refine c1.perm ?_;unfold Ξ;rw [aJh];show (Own.buf none 0 0 [] 9 1 :: ω gb (pL P N 3) :: ((dX (P 2) (lT 2)++(dX (P 1) (lT 1)++(dX (P 0) (lT 0)++[])))++(cT N ⟨[],0⟩++S))).Perm ((ω gb (pL P N 3) :: (cT N ⟨[],0⟩++(Own.buf none 0 0 [] 9 1 :: (dX (P 0) (lT 0)++(dX (P 1) (lT 1)++dX (P 2) (lT 2))))))++S);have key:∀ (a b:Own) (X Y Z N S:List Own),(a :: b :: ((X++(Y++(Z++[])))++(N++S))).Perm ((b :: (N++(a :: (Z++(Y++X)))))++S):=λa b X Y Z N S=>by
   refine (List.Perm.swap _ _ _).trans ?_;rw [List.append_nil,List.cons_append];refine .cons _ ?_;have e:(N++a :: (Z++(Y++X)))++S=N++((a :: (Z++(Y++X)))++S):=μ _ _ _;rw [e];refine List.Perm.trans ?_ (List.perm_append_comm_assoc (a :: (Z++(Y++X))) N S);rw [List.cons_append];refine .cons _ (.append_right _ ?_);refine (List.perm_append_comm_assoc X Y Z).trans ?_;refine (List.Perm.append_left Y List.perm_append_comm).trans ?_
   exact List.perm_append_comm_assoc Y Z X
  exact key _ _ _ _ _ _ _
end
structure cR where
 r:Nat->aG
 fl:List aH
 sp:Int
 aQ:List ByteArray
def vG(m:aH):rI:=⟨m.src,m.to,bs (j5 m)⟩
def qw(P:cR)(i:Nat):cR:=if P.aQ.length<(P.r i).υ then { P with aQ:=((P.r i).log.take (P.r i).υ).map aS.data } else P
def xW(P:cR):cR:=qw (qw (qw P 0) 1) 2
def LM(sp:Int)(id:Nat)(m:aH):Bool:=(mh id&&(mh m.to&&decide ((id:Int)≠m.to)))&&pz sp id m.to
def B5(sp:Int)(id:Nat)(fl:List aH)(m:aH):List aH:=if (LM sp id m&&decide (fl.length<500))=true then fl++[m] else fl
def zD(sp:Int)(id:Nat)(fl l:List aH):List aH:=l.foldl (B5 sp id) fl
def B0(P:cR)(i:Nat)(x:aG × fN):cR:={ P with r:=put P.r i x.1,fl:=zD P.sp i P.fl x.2.send }
def vj(P:cR)(i:Nat)(x:aG × fN):cR:=xW (B0 P i x)
def jL(P:cR)(i:Nat):cR:=vj P i (cr (P.r i))
def tf(P:cR)(i:Nat)(data:ByteArray):cR:=vj P i ((aq (P.r i) data).1,(aq (P.r i) data).2.2.2)
def qW(P:cR):cR:=match P.fl with
 | []=>P
 | m :: rest=>if pz P.sp m.src m.to=false then { P with fl:=rest } else vj { P with fl:=rest } m.to.toNat (aU (P.r m.to.toNat) m)
def sw:Nat->cR->cR × Nat
 | 0,P=>(P,0)
 | k+1,P=>if P.fl=[] then (P,0) else
  let x:=sw k (qW P)
  (x.1,x.2+1)
def gD(P:cR)(i:Nat)(most:Int):cR × Nat:=sw most.toNat (jL P i)
theorem Me(P i):(qw P i).r=P.r/\(qw P i).fl=P.fl/\(qw P i).sp=P.sp:=by
 unfold qw;split<;>exact ⟨rfl,rfl,rfl⟩
theorem a7S(P):(xW P).r=P.r/\(xW P).fl=P.fl/\(xW P).sp=P.sp:=by
 unfold xW;obtain ⟨a1,a2,a3⟩:=Me P 0;obtain ⟨b1,b2,b3⟩:=Me (qw P 0) 1;obtain ⟨c1,c2,c3⟩:=Me (qw (qw P 0) 1) 2;exact ⟨by rw [c1,b1,a1],by rw [c2,b2,a2],by rw [c3,b3,a3]⟩
theorem a3u(P i x):(vj P i x).r=put P.r i x.1/\(vj P i x).fl=zD P.sp i P.fl x.2.send/\(vj P i x).sp=P.sp:=a7S (B0 P i x)
def RA(r:aG):Node:=⟨r,r.term,r.ρ,r.log,0⟩
def lz(P:cR):cJ:=⟨λj=>RA (P.r j),P.fl⟩
theorem a3c{P Q}(h1:P.r=Q.r)(h2:P.fl=Q.fl):lz P=lz Q:=by unfold lz;rw [h1,h2]
theorem a3e{P}{C:cJ}(h:C.bq)(e:∀ j,P.r j=(C.nd j).rep):(lz P).bq :=
 ⟨λi hi=>by
  show (P.r i).bq/\(P.r i).id=i;rw [e i];exact h.rep i hi,λi hi=>⟨rfl,rfl,rfl⟩,λi hi=>.inl rfl,Nat.zero_le _⟩
theorem a3d(P j r fl):Rv (lz P) j r fl=lz { P with r:=put P.r j r,fl:=fl }:=by
 unfold Rv lz;have:put (λj=>RA (P.r j)) j (CA (RA (P.r j)) r)=λk=>RA (put P.r j r k):=by
  funext k
  by_cases h:k=j
  .subst h;rw [cF,cF];rfl
  .rw [dD _ _ h,dD _ _ h]
 simp only [this]
theorem a7o{i k}(h:k∈bu i):k≠i:=by
 unfold bu at h;split at h
 .simp only [List.mem_cons,List.not_mem_nil,or_false] at h;omega
 split at h
 .simp only [List.mem_cons,List.not_mem_nil,or_false] at h;omega
 .simp only [List.mem_cons,List.not_mem_nil,or_false] at h;omega
def Br(i:Nat)(a:aH):Prop:=a.to≠i
theorem TY(r):∀ a∈bT r,Br r.id a:=λa ha=>by
 unfold bT at ha;obtain ⟨k,hk,rfl⟩:=List.mem_map.1 ha;have:=a7o hk;show ((k:Nat):Int)≠r.id;omega
theorem aQk(r):∀ a∈(cr r).2.send,Br r.id a:=by
 by_cases h1:r.role=2
 .rw [DI h1];exact TY r
 by_cases h2:r.term=1099511627776
 .rw [JB h1 h2];intro a ha;cases ha
 rw [DH h1 h2];intro a ha;obtain ⟨k,hk,rfl⟩:=List.mem_map.1 ha;have:=a7o hk;show ((k:Nat):Int)≠r.id;omega
theorem aOQ(r data):∀ a∈(aq r data).2.2.2.send,Br r.id a:=by
 by_cases h1:r.role≠2
 .rw [yx h1];intro a ha;cases ha
 by_cases h2:2000<(data.size:Int)
 .rw [Ay h1 h2];intro a ha;cases ha
 by_cases h3:r.log.length=4000
 .rw [Az h1 h2 h3];intro a ha;cases ha
 rw [yy h1 h2 h3];exact TY _
theorem aKO(r m):∀ a∈(aU r m).2.send,Br r.id a:=by
 cases hy:kC r.id m with
 | false=>rw [uj hy];intro a ha;cases ha
 | true =>
  have hr:=sE.1 hy;rw [(Hg hr).2];have hid:=(wG r m).1;rw [<-hid] at hr ⊢;generalize af r m=r1 at hr;have hs:=hr.src;have one:∀ {a:aH},a.to=m.src->∀ b∈[a],Br r1.id b:=fun {a} e b hb=>by
   rw [List.mem_singleton.1 hb];show a.to≠_;rw [e];exact hs.1
  have hk:=hr.kind;have AD:m.kind=0\/m.kind=1\/m.kind=2\/m.kind=3:=by omega
  rcases AD with hk|hk|hk|hk
  .rw [He hk];obtain ⟨U,LC,_⟩:=Zq r1 m;rw [LC];exact one rfl
  .rw [Hf hk];by_cases hc:(decide (r1.role≠1)||decide (m.term≠r1.term) || !m.yes)=true
   .rw [DN hc];exact λa ha=>(by cases ha)
   have hc:(decide (r1.role≠1)||decide (m.term≠r1.term) || !m.yes)=false:=by simpa using hc
   by_cases h2:ni (fU r1 m).bh<2
   .rw [DL hc h2];exact λa ha=>(by cases ha)
   .rw [DM hc h2];exact TY (iX r1 m)
  .rw [Ln hk];by_cases h2:m.term<r1.term
   .rw [EK h2];exact one rfl
   by_cases h3:r1.role=2
   .rw [EI h2 h3];exact λa ha=>(by cases ha)
   by_cases h4:(decide ((r1.log.length:Int)<m.index)||decide (bB r1.log m.index.toNat≠m.prev))=true
   .rw [EH h2 h3 h4];exact one rfl
   have h4:(decide ((r1.log.length:Int)<m.index)||decide (bB r1.log m.index.toNat≠m.prev))=false:=by simpa using h4
   by_cases h5:cS r1 m<m.ζ.length
   .by_cases h6:m.index.toNat+cS r1 m+1<=r1.υ
    .rw [EG h2 h3 h4 h5 h6];exact λa ha=>(by cases ha)
    .rw [EJ h2 h3 h4 h5 h6];exact one rfl
   .rw [EL h2 h3 h4 h5];exact one rfl
  .rw [Lo hk];have HC:∀ (r2:aG),∀ b∈[entriesOf r2 m.src.toNat],Br r1.id b:=λr2 b hb=>by
    rw [List.mem_singleton.1 hb];show ((m.src.toNat:Nat):Int)≠_;have:=hs.1;omega
   by_cases hc:(decide (r1.role≠2)||decide (m.term≠r1.term)||m.yes&&decide ((r1.log.length:Int)<m.index))=true
   .rw [EO hc];exact λa ha=>(by cases ha)
   have hc:(decide (r1.role≠2)||decide (m.term≠r1.term)||m.yes&&decide ((r1.log.length:Int)<m.index))=false:=by simpa using hc
   cases hyes:m.yes with
   | false=>rw [EM hc hyes];exact HC _
   | true =>
    rw [EN hc hyes];split
    .exact HC _
    .exact λa ha=>(by cases ha)
theorem a5M{a b}(ha:0<=a/\a<=2)(hb:0<=b/\b<=2):pz 0 a b=true:=by
 unfold pz mh ET;simp;omega
theorem a4h{i a}(hi:i<3)(ha:Br i a)(ht:0<=a.to/\a.to<=2):LM 0 i a=true:=by
 unfold LM;rw [a5M (by omega) ht];have:((i:Nat):Int)≠a.to:=λe=>ha e.symm;unfold mh;simp [this];omega
theorem Ym{sp i}:∀ {l fl:List aH},(∀ a∈l,LM sp i a=true)->fl.length+l.length<=500->zD sp i fl l=fl++l
 | [],fl,_,_=>by simp [zD]
 | a :: l,fl,h,hl=>by
  have e:B5 sp i fl a=fl++[a]:=by
   unfold B5;rw [if_pos (by rw [h a (by simp)];rw [List.length_cons] at hl;simp;omega)]
  show zD sp i (B5 sp i fl a) l=_;rw [e,Ym (λb hb=>h b (by simp [hb])) (by rw [List.length_append,List.length_singleton];rw [List.length_cons] at hl;omega)];simp
theorem aA7{sp i}:∀ {l fl:List aH} {a:aH},a∈zD sp i fl l->a∈fl\/a∈l
 | [],fl,a,h=>.inl h
 | b :: l,fl,a,h=>by
  rcases aA7 (l:=l) (fl:=B5 sp i fl b) h with h|h
  .unfold B5 at h;split at h
   .rcases List.mem_append.1 h with h|h
    .exact .inl h
    .rw [List.mem_singleton.1 h];exact .inr (by simp)
   .exact .inl h
  .exact .inr (by simp [h])
structure P7(G:aa)(P:cR)(C:cJ):Prop where
 r:∀ j,P.r j=(C.nd j).rep
 up:∀ i,i<3->∃ u,(G.mem i).up=some u
 h:∀ i,i<3->gl (G.mem i).d
 fl:G.aD.aI=P.fl.map vG
 sp:G.aD.split=P.sp
 aQ:G.aQ=P.aQ
 ms:∀ m∈P.fl,m∈C.sent/\uH m/\m.ζ.length<=8/\(0<=m.src/\m.src<=2)/\(0<=m.to/\m.to<=2)
theorem aA6(id:Nat):∀ (l:List aH) (n:pW) (fl:List aH),(∀ a∈l,a.src=id)->n.aI=fl.map vG->(n8 id n l).aI=(zD n.split id fl l).map vG/\(n8 id n l).split=n.split
 | [],n,fl,_,h=>⟨h,rfl⟩
 | a :: l,n,fl,hs,h=>by
  have key:(o7 n id a.to (bs (j5 a))).1.aI=(B5 n.split id fl a).map vG/\(o7 n id a.to (bs (j5 a))).1.split=n.split:=by
   have hl:n.aI.length=fl.length:=by rw [h,List.length_map]
   unfold o7 B5 LM;by_cases h1:(mh id&&(mh a.to&&decide ((id:Int)≠a.to)))=false
   .rw [if_pos h1,h1];exact ⟨h,rfl⟩
   rw [if_neg h1];have h1:(mh id&&(mh a.to&&decide ((id:Int)≠a.to)))=true:=by simpa using h1
   by_cases h2:pz n.split id a.to=false
   .rw [if_pos h2,h1,h2];exact ⟨h,rfl⟩
   rw [if_neg h2];have h2:pz n.split id a.to=true:=by simpa using h2
   by_cases h3:500<=n.aI.length
   .rw [if_pos h3,if_neg (by rw [h1,h2];simp;omega)];exact ⟨h,rfl⟩
   .rw [if_neg h3,if_pos (by rw [h1,h2];simp;omega)];refine ⟨?_,rfl⟩;show n.aI++[_]=_;rw [h,List.map_append];have:a.src=id:=hs a (by simp);show _=List.map vG fl++[⟨a.src,a.to,bs (j5 a)⟩];rw [this]
  have h2:=aA6 id l (o7 n id a.to (bs (j5 a))).1 (B5 n.split id fl a) (λb hb=>hs b (by simp [hb])) key.1;rw [key.2] at h2;exact h2
theorem XQ{G P i}(hu:∃ u,(G.mem i).up=some u/\u.r=P.r i)(hc:G.aQ=P.aQ):(gZ G i).aQ=(qw P i).aQ:=by
 obtain ⟨u,hu,hr⟩:=hu;unfold gZ qw;rw [hu];simp only;rw [hr,hc];split
 .rfl
 .exact hc
theorem aNO{G P}(hu:∀ i,i<3->∃ u,(G.mem i).up=some u/\u.r=P.r i)(hc:G.aQ=P.aQ):(ek G).aQ=(xW P).aQ/\(ek G).mem=G.mem/\(ek G).aD=G.aD:=by
 unfold ek xW;obtain ⟨m0,n0⟩:=wA G 0;obtain ⟨m1,n1⟩:=wA (gZ G 0) 1;obtain ⟨m2,n2⟩:=wA (gZ (gZ G 0) 1) 2;have o4:=(Me P 0).1;have p1:=(Me (qw P 0) 1).1;have c0:=XQ (hu 0 (by decide)) hc;have c1:=XQ (G:=gZ G 0) (P:=qw P 0) (i:=1) (by rw [m0,o4];exact hu 1 (by decide)) c0;have c2:=XQ (G:=gZ (gZ G 0) 1) (P:=qw (qw P 0) 1) (i:=2) (by rw [m1,m0,p1,o4];exact hu 2 (by decide)) c1;exact ⟨c2,by rw [m2,m1,m0],by rw [n2,n1,n0]⟩
section
variable {N fq D:Nat}{B B':Int}{G G':aa}{C bC:cJ}{g g':fK}{A bK:Int->Nat->Nat}{i:Nat}{P:cR}
theorem bG.U2(h:bG N B D G C g A)(hs:P7 G P C)(hN:N<=fq)(hB:B<=B')(cH:fq*(D+90)<=1048576)(hi:i<3){u}(hu:(G.mem i).up=some u){x}(hx:wM C i x)(hrb:oL fq B' x.1)(hmb:∀ a∈x.2.send,sW fq B' a)(hd:∀ U∈x.1.log,U.data.size<=D)(hg:∀ a∈x.2.send,vX i x.1.log a):
  ∃ bC g' bK,bG fq B' D (mA G i u x).1 bC g' bK/\P7 (mA G i u x).1 (vj P i x) bC/\(mA G i u x).2=0:=by
 obtain ⟨hr,cn⟩:=h.j.up i hi u hu;obtain ⟨hw,hf⟩:=hx.fits h.j.s.m.wf hi;have hid:x.1.id=i:=by rw [hf.id];exact (h.j.s.m.wf.rep i hi).2
 have hok:=hw.ok;have hst:=aAY (d:=(G.mem i).d) (u:=u) (r:=(C.nd i).rep) (r':=x.1) (o:=x.2) (by rw [<-hr];exact cn) hf ⟨by have:=hok.jn;have:=hok.gf;unfold κ;omega,by have:=hok.sJ;have:=hok.sK;unfold κ;omega⟩ (MQ hok.log hok.gf hrb.len hd cH);have VU:=hst.iu (hs.h i hi);unfold mA;simp only;obtain ⟨⟨d1,u1,e1⟩,hq⟩:∃ U,ck (G.mem i).d { u with r:=x.1 } x.2=U:=⟨_,rfl⟩;rw [hq] at hst VU ⊢;simp only;have he:e1=0:=VU.2
 rw [if_pos he];rcases hst.or with ⟨_,g1,g2⟩|⟨e,_⟩
 rotate_left 1
 .have e:e1=9\/e1=10:=e;omega
 have g2:u1.r=x.1:=g2;obtain ⟨g',n,f⟩:=hx.Yu h.j.s hi;have hj:=h.j.set hN hB hi f hw hid hrb hmb hd (λa ha U hy=>hd U ((hg a ha).ζ U hy)) (m:=⟨d1,some u1⟩) (λv hv=>by cases hv;exact ⟨g2,g1⟩) (by simp);have F6:=Yo (C:=DB C i x.1 (C.sent++x.2.send)) i x.2.send G.aD hj.aD hj.jx (λa ha=>by
  have tG:=hg a ha;exact ⟨List.mem_append_right _ ha,R5 hok tG,tG.len,tG.src,tG.to⟩) hi
 have aKY:=(a7R (G:={ ay G i ⟨d1,some u1⟩ with aD:=n8 i (ay G i ⟨d1,some u1⟩).aD x.2.send }) ⟨hj.s,hj.b,hj.data,hj.mdata,hj.up,hj.qY,F6.1,F6.2,hj.aQ⟩).1;obtain ⟨p1,p2,p3⟩:=a7S (B0 P i x);have gA:∀ k,k<3->∃ v,((ay G i ⟨d1,some u1⟩).mem k).up=some v/\v.r=(B0 P i x).r k:=λk hk=>by
  by_cases e:k=i
  .subst e;refine ⟨u1,by show ((put G.mem k _ k)).up=_;rw [cF],?_⟩;show u1.r=put P.r k x.1 k;rw [cF,g2]
  .obtain ⟨v,hv⟩:=hs.up k hk;refine ⟨v,by show ((put G.mem i _ k)).up=_;rw [dD _ _ e];exact hv,?_⟩;show v.r=put P.r i x.1 k;rw [dD _ _ e,(h.j.up k hk v hv).1,hs.r k]
 obtain ⟨c1,c2,c3⟩:=aNO (G:={ ay G i ⟨d1,some u1⟩ with aD:=n8 i (ay G i ⟨d1,some u1⟩).aD x.2.send }) (P:=B0 P i x) gA hs.aQ;have l7:=aA6 i x.2.send G.aD P.fl (λa ha=>(hg a ha).src) hs.fl;refine ⟨_,_,_,aKY,⟨λj=>?_,λk hk=>?_,λk hk=>?_,?_,?_,c1,λm hm=>?_⟩,rfl⟩
 .show (xW (B0 P i x)).r j=_;rw [p1];show put P.r i x.1 j=((DB C i x.1 (C.sent++x.2.send)).nd j).rep;by_cases e:j=i
  .subst e;rw [cF,J0]
  .rw [dD _ _ e,Fq _ _ _ e,hs.r j]
 .rw [c2];obtain ⟨v,hv,_⟩:=gA k hk;exact ⟨v,hv⟩
 .rw [c2];show gl (put G.mem i _ k).d;by_cases e:k=i
  .subst e;rw [cF];exact VU.1
  .rw [dD _ _ e];exact hs.h k hk
 .rw [c3];show _=(xW (B0 P i x)).fl.map vG;rw [p2];have:=l7.1;rw [hs.sp] at this;exact this
 .rw [c3];show _=(xW (B0 P i x)).sp;rw [p3];exact l7.2.trans hs.sp
 .have hm:m∈(xW (B0 P i x)).fl:=hm;rw [p2] at hm;rcases aA7 hm with hm|hm
  .obtain ⟨a,b⟩:=hs.ms m hm;exact ⟨List.mem_append_left _ a,b⟩
  .have tG:=hg m hm;refine ⟨List.mem_append_right _ hm,R5 hok tG,tG.len,?_,tG.to⟩;rw [tG.src];omega
def cl(N:Nat)(B:Int)(D:Nat)(G:aa)(P:cR):Prop:=∃ C g A,bG N B D G C g A/\P7 G P C
theorem jo(i):((i:Nat):Int).toNat=i:=Int.toNat_natCast i
theorem cl.tick(h:cl N B D G P)(cH:N*(D+90)<=1048576)(hi:i<3):cl N (B+1) D (r9 G i).1 (jL P i):=by
 obtain ⟨C,g,A,h,hs⟩:=h;obtain ⟨u,hu⟩:=hs.up i hi;obtain ⟨e,cn⟩:=h.j.up _ hi u hu;have hw:=(h.j.s.m.wf.rep _ hi).1;have hb:=ZN hw (h.j.b.rep _ hi);unfold r9 qF jL;rw [if_neg (by omega),jo,hu];simp only;rw [hs.r i,e];have hg:=S4 hw.ok;rw [(h.j.s.m.wf.rep _ hi).2] at hg;obtain ⟨bC,g',bK,a,b,_⟩:=h.U2 hs (Nat.le_refl _) (show B<=B+1 by omega) cH hi hu (x:=cr (C.nd i).rep) (.inl rfl) hb.1 hb.2 (by rw [S6];exact h.j.data _ hi) hg
 exact ⟨bC,g',bK,a,b⟩
theorem cl.A'(h:cl N B D G P)(cH:(N+1)*(D+90)<=1048576)(hi:i<3){data}(Lm:data.size<=D)(h0:(aq (P.r i) data).2.2.1=0):
  cl (N+1) B D (iL G i data).1 (tf P i data)/\(iL G i data).2=((aq (P.r i) data).2.1,0):=by
 obtain ⟨C,g,A,h,hs⟩:=h;obtain ⟨u,hu⟩:=hs.up i hi;obtain ⟨e,cn⟩:=h.j.up _ hi u hu;have hw:=(h.j.s.m.wf.rep _ hi).1;have hb:=Xx hw (h.j.b.rep _ hi) data;rw [hs.r i] at h0;unfold iL tf;rw [if_neg (by omega),jo,hu];simp only;rw [hs.r i,e,if_neg (by rw [h0];simp)];have hg:=RT hw data;rw [(h.j.s.m.wf.rep _ hi).2] at hg;obtain ⟨bC,g',bK,a,b,c⟩:=h.U2 hs (Nat.le_succ _) (Int.le_refl B) cH hi hu (x:=((aq (C.nd i).rep data).1,(aq (C.nd i).rep data).2.2.2)) (.inr (.inr ⟨data,rfl⟩)) hb.1 hb.2 (λU hy=>by
  rcases Xw U hy with a|a
  .exact h.j.data _ hi U a
  .rw [a];exact Lm) hg
 rw [if_neg (by rw [c];simp)];exact ⟨⟨bC,g',bK,a,b⟩,rfl⟩
theorem cl.rP(h:cl N B D G P)(cH:N*(D+90)<=1048576):cl N B D (me G 0).1 (qW P):=by
 obtain ⟨C,g,A,h,hs⟩:=h;have hfl:=hs.fl;unfold me qW;rw [if_neg (by decide),show ((0:Int).toNat)=0 from rfl];cases he:P.fl with
 | nil =>
  rw [he] at hfl;rw [hfl];exact ⟨C,g,A,h,hs⟩
 | cons m rest =>
  rw [he] at hfl;obtain ⟨m1,m2,m3,m4,m5⟩:=hs.ms m (by rw [he];simp);rw [hfl];simp only [List.map_cons,List.getElem?_cons_zero];have htk:(takeN G.aD 0).aI=rest.map vG:=by
   show G.aD.aI.eraseIdx 0=_;rw [hfl];rfl
  have h1:=h.takeN 0;have hs1:P7 { G with aD:=takeN G.aD 0 } { P with fl:=rest } C:=⟨hs.r,hs.up,hs.h,htk,hs.sp,hs.aQ,λx hx=>hs.ms x (by rw [he];simp [hx])⟩;have e1:(vG m).src=m.src:=rfl;have e2:(vG m).to=m.to:=rfl;rw [e1,e2,hs.sp];by_cases hh:pz P.sp m.src m.to=false
  .rw [if_pos hh,if_pos hh];exact ⟨C,g,A,h1,hs1⟩
  rw [if_neg hh,if_neg hh];have bI:(sB (vG m).body.data.toList).getD Ak=m:=by
   show (sB (bs (j5 m)).data.toList).getD Ak=m;rw [vh,X3 m2 (by omega)];rfl
  rw [bI];obtain ⟨i,hto⟩:∃ i:Nat,m.to=i:=⟨m.to.toNat,by omega⟩;rw [hto];have hi:i<3:=by omega
  obtain ⟨u,hu⟩:=hs1.up i hi;obtain ⟨e,cn⟩:=h1.j.up _ hi u hu;have hw:=(h1.j.s.m.wf.rep _ hi).1;have hb:=VP hw (h1.j.b.rep _ hi) (h1.j.b.msg m m1);have hg:=Lp hw m;unfold qF;rw [if_neg (by omega),jo,hu];simp only;rw [hs.r i,e];have qg:=hg.1;rw [(h1.j.s.m.wf.rep _ hi).2] at qg;obtain ⟨bC,g',bK,a,b,_⟩:=h1.U2 hs1 (Nat.le_refl _) (Int.le_refl B) cH hi hu (x:=aU (C.nd i).rep m) (.inr (.inl ⟨m,m1,rfl⟩)) hb.1 hb.2 (λU hy=>by
   rcases hg.2 U hy with a|a
   .exact h1.j.data _ hi U a
   .exact h1.j.mdata m m1 U a) qg
  exact ⟨bC,g',bK,a,b⟩
theorem cl.drain(cH:N*(D+90)<=1048576):∀ (k:Nat) {G:aa} {P:cR},cl N B D G P->cl N B D (rQ k G).1 (sw k P).1/\(rQ k G).2=(sw k P).2
 | 0,_,_,h=>⟨h,rfl⟩
 | k+1,G,P,h=>by
  have hfl:(G.aD.aI=[]) ↔ (P.fl=[]):=by
   obtain ⟨C,g,A,_,hs⟩:=h;rw [hs.fl];exact List.map_eq_nil_iff
  unfold rQ sw;by_cases he:P.fl=[]
  .rw [if_pos he,if_pos (hfl.2 he)];exact ⟨h,rfl⟩
  .rw [if_neg he,if_neg (λe=>he (hfl.1 e))];have ih:=cl.drain cH k (h.rP cH);exact ⟨ih.1,by show _+1=_+1;rw [ih.2]⟩
theorem cl.settle(h:cl N B D G P)(cH:N*(D+90)<=1048576)(hi:i<3)(most):cl N (B+1) D (eJ G i most).1 (gD P i most).1/\(eJ G i most).2=(gD P i most).2:=by
 unfold eJ gD;exact cl.drain cH _ (h.tick cH hi)
theorem cl.inv(h:cl N B D G P):∃ g A,c8 (lz P) g A:=by
 obtain ⟨C,g,A,h,hs⟩:=h;exact ⟨g,A,h.j.s.same (a3e h.j.s.m.wf hs.r) (λj=>hs.r j) λm hm=>(hs.ms m hm).1⟩
theorem cl.cb(h:cl N B D G P):GQ N B (lz P):=by
 obtain ⟨C,g,A,h,hs⟩:=h;refine ⟨λj hj=>?_,λm hm=>h.j.b.msg m (hs.ms m hm).1⟩;show oL N B (P.r j);rw [hs.r j];exact h.j.b.rep j hj
theorem cl.aQ(h:cl N B D G P):G.aQ=P.aQ:=by
 obtain ⟨C,g,A,h,hs⟩:=h;exact hs.aQ
theorem cl.aD(h:cl N B D G P):G.aD.aI=P.fl.map vG:=by
 obtain ⟨C,g,A,h,hs⟩:=h;exact hs.fl
theorem cl.Za(h:cl N B D G P)(hi:i<3):∃ u,(G.mem i).up=some u/\u.r=P.r i/\iR (G.mem i).d u:=by
 obtain ⟨C,g,A,h,hs⟩:=h;obtain ⟨u,hu⟩:=hs.up i hi;obtain ⟨e,cn⟩:=h.j.up _ hi u hu;exact ⟨u,hu,by rw [e,hs.r i],cn⟩
theorem cl.role(h:cl N B D G P)(hi:i<3):D8 G i=(P.r i).role/\DG G i=(P.r i).term/\a6m G i=(P.r i).log/\DF G i=(P.r i).log:=by
 obtain ⟨u,hu,e,cn⟩:=h.Za hi;have hid:¬ ((i:Int)<0\/3<=(i:Int)):=by omega
 refine ⟨?_,?_,?_,?_⟩
 .unfold D8;rw [if_neg hid,jo,hu];show u.r.role=_;rw [e]
 .unfold DG;rw [if_neg hid,jo,hu];show u.r.term=_;rw [e]
 .unfold a6m;rw [if_neg hid,jo,hu];show u.r.log=_;rw [e]
 .unfold DF;rw [if_neg hid,jo,aAZ cn,e]
theorem cl.sure(h:cl N B D G P):∃ g A,c8 (lz P) g A/\(∃ (K:List aS) (t:Int),P.aQ=K.map aS.data/\ef g A t K K.length)/\∀ i,i<3->(P.r i).υ<=P.aQ.length:=by
 obtain ⟨C,g,A,h,hs⟩:=h;refine ⟨g,A,h.j.s.same (a3e h.j.s.m.wf hs.r) (λj=>hs.r j) (λm hm=>(hs.ms m hm).1),?_,λi hi=>?_⟩
 .obtain ⟨K,t,e,k⟩:=h.j.aQ;exact ⟨K,t,by rw [<-hs.aQ,e],k⟩
 .obtain ⟨u,hu⟩:=hs.up i hi;have:=h.XR i hi u hu;rw [(h.j.up i hi u hu).1,<-hs.r i,hs.aQ] at this;exact this
theorem bG.iu(h:bG N B D G C g A)(gA:∀ i,i<3->∃ u,(G.mem i).up=some u)(hh:∀ i,i<3->gl (G.mem i).d):∃ P,cl N B D G P/\(∀ j,P.r j=(C.nd j).rep)/\P.sp=G.aD.split:=by
 have key:∀ l:List rI,(∀ p∈l,Bf C p)->∃ fl:List aH,l=fl.map vG/\∀ m∈fl,m∈C.sent/\uH m/\m.ζ.length<=8/\(0<=m.src/\m.src<=2)/\(0<=m.to/\m.to<=2):=by
  intro l
  induction l with
  | nil=>intro _;exact ⟨[],rfl,λm hm=>by cases hm⟩
  | cons p l ih =>
   intro hp;obtain ⟨fl,e,hf⟩:=ih λq hq=>hp q (by simp [hq]);obtain ⟨m,a,b,c,d,f,rfl⟩:=hp p (by simp);refine ⟨m :: fl,by rw [e];rfl,λx hx=>?_⟩;rcases List.mem_cons.1 hx with rfl|hx
   .exact ⟨a,b,c,d,f⟩
   .exact hf x hx
 obtain ⟨fl,e,hf⟩:=key G.aD.aI h.j.aD;exact ⟨⟨λj=>(C.nd j).rep,fl,G.aD.split,G.aQ⟩,⟨C,g,A,h,⟨λj=>rfl,gA,hh,e,rfl,rfl,hf⟩⟩,λj=>rfl,rfl⟩
end
def A6(l:List aS)(m:aH):Bool:=decide ((l.length:Int)<m.index)||decide (bB l m.index.toNat≠m.prev)
inductive fW(r:aG)(m:aH):aG->List aH->Prop
 | ρ (v:Int) (U:Bool):m.kind=0->fW r m { af r m with ρ:=v } [⟨1,(af r m).id,m.src,(af r m).term,0,0,0,U,[]⟩]
 | mute (vs:Nat->Bool):(m.kind=1\/(m.kind=3/\((af r m).role≠2\/m.term≠(af r m).term\/(m.yes=true/\(r.log.length:Int)<m.index))))->fW r m { af r m with bh:=vs } []
 | lead:m.kind=1->r.role=1->m.term=r.term->fW r m (iX r m) (bT (iX r m))
 | old:m.kind=2->m.term<r.term->fW r m r [lA r 3 m.src]
 | deaf:m.kind=2->r.role=2->m.term=r.term->fW r m r []
 | pE:m.kind=2->r.term<=m.term->(af r m).role≠2->A6 r.log m=true->fW r m (l6 (af r m)) [Cj (af r m) m]
 | done:m.kind=2->r.term<=m.term->(af r m).role≠2->A6 r.log m=false->cS r m<m.ζ.length->m.index.toNat+cS r m+1<=r.υ->fW r m (l6 (af r m)) []
 | mZ (r2:aG):m.kind=2->r.term<=m.term->(af r m).role≠2->A6 r.log m=false->r2.role=0->r2.term=m.term->fW r m r2 [l5 (af r m) m]
 | back:m.kind=3->r.role=2->m.term=r.term->m.yes=false->fW r m (lP r m) [entriesOf (lP r m) m.src.toNat]
 | fwd (s:List aH):m.kind=3->r.role=2->m.term=r.term->m.yes=true->m.index<=(r.log.length:Int) ->
   ((max (r.Ω m.src.toNat) m.index.toNat+1<=r.log.length/\s=[entriesOf (cA (cB r m)) m.src.toNat])\/(r.log.length<max (r.Ω m.src.toNat) m.index.toNat+1/\s=[]))->fW r m (cA (cB r m)) s
theorem a2N(r):(cA r).next=r.next:=(wY r).2.2.1
theorem TR(r):(cA r).Ω=r.Ω:=(wY r).2.2.2.1
theorem a2M(r):(cA r).id=r.id:=(wY r).2.2.2.2.1
theorem JC{r m}(h:(af r m).role≠0):af r m=r/\¬ r.term<m.term:=by
 by_cases hu:r.term<m.term
 .rw [SC hu] at h;exact absurd rfl h
 .exact ⟨JD hu,hu⟩
theorem a5K{r m}(hm:m.eO r.id):fW r m (aU r m).1 (aU r m).2.send:=by
 obtain ⟨e1,e2⟩:=Hg hm;rw [e1,e2];obtain ⟨t1,t2,t3,t4,t5,t6⟩:=wG r m;have t7:=BG r m;have hk:=hm.kind;have AD:m.kind=0\/m.kind=1\/m.kind=2\/m.kind=3:=by omega
 rcases AD with hk|hk|hk|hk
 .rw [He hk];unfold cV;split
  .exact .ρ m.src true hk
  .exact .ρ (af r m).ρ false hk
 .rw [Hf hk];by_cases hc:(decide ((af r m).role≠1)||decide (m.term≠(af r m).term) || !m.yes)=true
  .rw [DN hc];exact .mute (af r m).bh (.inl hk)
  have hc:(decide ((af r m).role≠1)||decide (m.term≠(af r m).term) || !m.yes)=false:=by simpa using hc
  by_cases h2:ni (fU (af r m) m).bh<2
  .rw [DL hc h2];exact .mute (fU (af r m) m).bh (.inl hk)
  .rw [DM hc h2];have iV:=hc;simp only [Bool.or_eq_false_iff,decide_eq_false_iff_not] at iV;have h3:(af r m).role=1:=Decidable.not_not.1 iV.1.1;have h4:m.term=(af r m).term:=Decidable.not_not.1 iV.1.2;obtain ⟨e,_⟩:=JC (r:=r) (m:=m) (by rw [h3];decide);rw [e] at h3 h4 ⊢;exact .lead hk h3 h4
 .rw [Ln hk];by_cases h2:m.term<(af r m).term
  .have h3:m.term<r.term:=by omega
   rw [EK h2,JD (show ¬ r.term<m.term by omega)];exact .old hk h3
  have qc:r.term<=m.term:=by omega
  by_cases h3:(af r m).role=2
  .rw [EI h2 h3];obtain ⟨e,hn⟩:=JC (r:=r) (m:=m) (by rw [h3];decide);rw [e] at h3 ⊢;exact .deaf hk h3 (by omega)
  by_cases h4:(decide (((af r m).log.length:Int)<m.index)||decide (bB (af r m).log m.index.toNat≠m.prev))=true
  .rw [EH h2 h3 h4];exact .pE hk qc h3 (by unfold A6;rw [<-t2];exact h4)
  have h4:(decide (((af r m).log.length:Int)<m.index)||decide (bB (af r m).log m.index.toNat≠m.prev))=false:=by simpa using h4
  have V4:A6 r.log m=false:=by unfold A6;rw [<-t2];exact h4
  have ea:cS (af r m) m=cS r m:=by unfold cS;rw [t2]
  by_cases h5:cS (af r m) m<m.ζ.length
  .by_cases h6:m.index.toNat+cS (af r m) m+1<=(af r m).υ
   .rw [EG h2 h3 h4 h5 h6];rw [ea] at h5 h6;rw [t3] at h6;exact .done hk qc h3 V4 h5 h6
   .rw [EJ h2 h3 h4 h5 h6];exact .mZ _ hk qc h3 V4 rfl (by show (af r m).term=_;omega)
  .rw [EL h2 h3 h4 h5];exact .mZ _ hk qc h3 V4 rfl (by show (af r m).term=_;omega)
 .rw [Lo hk];by_cases hc:(decide ((af r m).role≠2)||decide (m.term≠(af r m).term)||m.yes&&decide (((af r m).log.length:Int)<m.index))=true
  .rw [EO hc];refine .mute (af r m).bh (.inr ⟨hk,?_⟩);rw [t2] at hc;simp only [Bool.or_eq_true,Bool.and_eq_true,decide_eq_true_eq] at hc;rcases hc with (h|h)|h
   .exact .inl h
   .exact .inr (.inl h)
   .exact .inr (.inr h)
  have hc:(decide ((af r m).role≠2)||decide (m.term≠(af r m).term)||m.yes&&decide (((af r m).log.length:Int)<m.index))=false:=by simpa using hc
  have iV:=hc;simp only [Bool.or_eq_false_iff,decide_eq_false_iff_not] at iV;have h3:(af r m).role=2:=Decidable.not_not.1 iV.1.1;have h4:m.term=(af r m).term:=Decidable.not_not.1 iV.1.2;obtain ⟨e,_⟩:=JC (r:=r) (m:=m) (by rw [h3];decide);rw [e] at h3 h4 hc iV ⊢;cases hyes:m.yes with
  | false =>
   rw [EM hc hyes];exact .back hk h3 h4 hyes
  | true =>
   rw [EN hc hyes];have h5:=iV.2;rw [hyes,Bool.true_and] at h5;have h5:¬ (r.log.length:Int)<m.index:=Λ h5;split
   .rename_i h6;exact .fwd _ hk h3 h4 hyes (by omega) (.inl ⟨h6,rfl⟩)
   .rename_i h6;exact .fwd _ hk h3 h4 hyes (by omega) (.inr ⟨by omega,rfl⟩)
section
variable {r r':aG}{m:aH}{s:List aH}
def bw(r:aG):Nat:=if r.role=1 then 1 else 0
theorem SB(r m):(af r m).role=0\/((af r m).role=r.role/\af r m=r):=by
 by_cases hu:r.term<m.term
 .rw [SC hu];exact .inl rfl
 .rw [JD hu];exact .inr ⟨rfl,rfl⟩
theorem fW.term(h:fW r m r' s):r.term<=r'.term/\r'.term<=max r.term m.term:=by
 have t7:=BG r m;have ha:=wZ (cB r m);cases h with
 | ρ v U _=>show r.term<=(af r m).term/\(af r m).term<=_;omega
 | mute vs _=>show r.term<=(af r m).term/\(af r m).term<=_;omega
 | lead _ _ _=>show r.term<=r.term/\r.term<=_;omega
 | old _ _=>omega
 | deaf _ _ _=>omega
 | pE _ _ _ _=>show r.term<=(af r m).term/\(af r m).term<=_;omega
 | done _ _ _ _ _ _=>show r.term<=(af r m).term/\(af r m).term<=_;omega
 | mZ r2 _ h1 _ _ _ h2=>omega
 | back _ _ _ _=>show r.term<=r.term/\r.term<=_;omega
 | fwd s _ _ _ _ _ _=>rw [ha.2.1];show r.term<=r.term/\r.term<=_;omega
theorem fW.dead(h:fW r m r' s)(h0:r.role=0\/r.term<m.term):r'.role=0:=by
 have S7:=SB r m;have tz:(af r m).role=0:=by
  rcases h0 with h0|h0
  .rcases S7 with h|h
   .exact h
   .rw [h.1];exact h0
  .rw [SC h0];rfl
 cases h with
 | ρ v U _=>exact tz
 | mute vs _=>exact tz
 | lead _ h1 h2=>omega
 | old _ h1=>omega
 | deaf _ h1 h2=>omega
 | pE _ _ _ _=>rfl
 | done _ _ _ _ _ _=>rfl
 | mZ r2 _ h1 _ _ h2 _=>exact h2
 | back _ h1 h2 _=>omega
 | fwd s _ h1 h2 _ _ _=>omega
theorem fW.live(h:fW r m r' s)(h0:r'.role≠0):r'.term=r.term/\r'.log=r.log/\r'.id=r.id/\r.role≠0:=by
 have tb:=JC (r:=r) (m:=m);have ha:=wZ (cB r m);cases h with
 | ρ v U _=>have e:=tb h0;rw [e.1] at h0 ⊢;exact ⟨rfl,rfl,rfl,h0⟩
 | mute vs _=>have e:=tb h0;rw [e.1] at h0 ⊢;exact ⟨rfl,rfl,rfl,h0⟩
 | lead _ h1 _=>exact ⟨rfl,rfl,rfl,by omega⟩
 | old _ _=>exact ⟨rfl,rfl,rfl,h0⟩
 | deaf _ _ _=>exact ⟨rfl,rfl,rfl,h0⟩
 | pE _ _ _ _=>exact absurd rfl h0
 | done _ _ _ _ _ _=>exact absurd rfl h0
 | mZ r2 _ _ _ _ h2 _=>exact absurd h2 h0
 | back _ h1 _ _=>exact ⟨rfl,rfl,rfl,by omega⟩
 | fwd s _ h1 _ _ _ _=>exact ⟨ha.2.1,ha.2.2.2,a2M (cB r m),by omega⟩
theorem fW.MO(h:fW r m r' s)(h0:r.role=2)(ht:m.term<=r.term):r'.role=2:=by
 have e:af r m=r:=JD (by omega);have ha:=wZ (cB r m);cases h with
 | ρ v U _=>rw [e];exact h0
 | mute vs _=>rw [e];exact h0
 | lead _ h1 _=>omega
 | old _ _=>exact h0
 | deaf _ _ _=>exact h0
 | pE _ _ h1 _=>rw [e] at h1;exact absurd h0 h1
 | done _ _ h1 _ _ _=>rw [e] at h1;exact absurd h0 h1
 | mZ r2 _ _ h1 _ _ _=>rw [e] at h1;exact absurd h0 h1
 | back _ h1 _ _=>exact h0
 | fwd s _ h1 _ _ _ _=>rw [ha.1];exact h0
theorem fW.sent(h:fW r m r' s):∀ a∈s,a.term=r'.term:=by
 have t7:=BG r m;have ha:=wZ (cB r m);have one:∀ {a:aH} {t:Int},a.term=t->∀ b∈[a],b.term=t:=fun {a t} e b hb=>by rw [List.mem_singleton.1 hb,e]
 cases h with
 | ρ v U _=>exact one rfl
 | mute vs _=>intro a ha;cases ha
 | lead _ _ _ =>
  intro a ha;unfold bT at ha;obtain ⟨k,_,rfl⟩:=List.mem_map.1 ha;rfl
 | old _ _=>exact one rfl
 | deaf _ _ _=>intro a ha;cases ha
 | pE _ _ _ _=>exact one rfl
 | done _ _ _ _ _ _=>intro a ha;cases ha
 | mZ r2 _ h1 _ _ _ h2=>exact one (by show (af r m).term=_;omega)
 | back _ _ _ _=>exact one rfl
 | fwd s _ _ _ _ _ h =>
  rcases h with ⟨_,rfl⟩|⟨_,rfl⟩
  .exact one rfl
  .intro a ha;cases ha
theorem aGm(r m):bw (af r m)<=bw r:=by
 rcases SB r m with h|h
 .unfold bw;rw [h,if_neg (by decide)];exact Nat.zero_le _
 .rw [h.2];exact Nat.le_refl _
theorem fW.cnt(h:fW r m r' s):s.length+bw r'<=bw r+1:=by
 have ht:=aGm r m;have ha:=wZ (cB r m);cases h with
 | ρ v U _=>show 1+bw (af r m)<=_;omega
 | mute vs _=>show 0+bw (af r m)<=_;omega
 | lead _ h1 _ =>
  rw [show (bT (iX r m)).length=2 by unfold bT;rw [List.length_map];unfold bu;split<;>(try split)<;>rfl];have e1:bw (iX r m)=0:=rfl;have e2:bw r=1:=if_pos h1;omega
 | old _ _=>show 1+bw r<=_;omega
 | deaf _ _ _=>show 0+bw r<=_;omega
 | pE _ _ _ _=>show 1+0<=_;omega
 | done _ _ _ _ _ _=>show 0+0<=_;omega
 | mZ r2 _ _ _ _ h2 _ =>
  have:bw r'=0:=if_neg (by omega);show 1+bw r'<=_;omega
 | back _ h1 _ _=>show 1+bw r<=_;omega
 | fwd s _ h1 _ _ _ h =>
  have e1:bw (cA (cB r m))=0:=if_neg (by rw [ha.1];show ¬ r.role=1;omega);rcases h with ⟨_,rfl⟩|⟨_,rfl⟩
  .show 1+_<=_;omega
  .show 0+_<=_;omega
end
def ir(P:cR):Nat:=bw (P.r 0)+bw (P.r 1)+bw (P.r 2)
theorem Ta(r){j}(hj:j<3)(x):(bw (put r j x 0)+bw (put r j x 1)+bw (put r j x 2))+bw (r j)=(bw (r 0)+bw (r 1)+bw (r 2))+bw x:=by
 match j,hj with
 | 0,_=>show (bw x+bw (r 1)+bw (r 2))+bw (r 0)=_;omega
 | 1,_=>show (bw (r 0)+bw x+bw (r 2))+bw (r 1)=_;omega
 | 2,_=>show (bw (r 0)+bw (r 1)+bw x)+bw (r 2)=_;omega
structure eL(P:cR):Prop where
 inv:∃ g A,c8 (lz P) g A
 sp:P.sp=0
 ends:∀ m∈P.fl,(0<=m.src/\m.src<=2)/\(0<=m.to/\m.to<=2)
 cnt:P.fl.length+ir P<=298
structure lM(P:cR)(m:aH)(rest:List aH)(j:Nat)(P':cR):Prop where
 hj:j<3
 to:m.to=(j:Nat)
 r:P'.r=put P.r j (aU (P.r j) m).1
 fl:P'.fl=rest++(aU (P.r j) m).2.send
 id:(P.r j).id=j
 wf:(P.r j).bq
 out:(fW (P.r j) m (aU (P.r j) m).1 (aU (P.r j) m).2.send/\m.eO j)\/((aU (P.r j) m).1=P.r j/\(aU (P.r j) m).2.send=[]/\¬ m.eO j)
theorem eL.arr{P m rest}(h:eL P)(he:P.fl=m :: rest):eL (qW P)/\∃ j,lM P m rest j (qW P):=by
 obtain ⟨g,A,hs⟩:=h.inv;have hw:=hs.m.wf;obtain ⟨hsrc,hto⟩:=h.ends m (by rw [he];simp);obtain ⟨j,hj⟩:∃ j:Nat,m.to=j:=⟨m.to.toNat,by omega⟩;have ri:j<3:=by omega
 obtain ⟨Ql,hid⟩:=hw.rep j ri;have Ql:(P.r j).bq:=Ql;have hid:(P.r j).id=j:=hid;have a5E:=h.cnt;rw [he,List.length_cons] at a5E;have hg:=(Lp Ql m).1;have CG:=(a5L (P.r j) m).send;have hall:zD 0 j rest (aU (P.r j) m).2.send=rest++(aU (P.r j) m).2.send :=
  Ym (λa ha=>a4h ri (by have:=aKO _ m a ha;rw [hid] at this;exact this) (hg a ha).to) (by omega)
 have hd:qW P=vj { P with fl:=rest } j (aU (P.r j) m):=by
  unfold qW;rw [he];simp only;rw [if_neg (by rw [h.sp,a5M hsrc hto];simp),hj,jo]
 obtain ⟨d1,d2,d3⟩:=a3u { P with fl:=rest } j (aU (P.r j) m);rw [<-hd] at d1 d2 d3;have d1:(qW P).r=put P.r j (aU (P.r j) m).1:=d1;have d2:(qW P).fl=zD P.sp j rest (aU (P.r j) m).2.send:=d2;rw [h.sp,hall] at d2;have hout:(fW (P.r j) m (aU (P.r j) m).1 (aU (P.r j) m).2.send/\m.eO j)\/((aU (P.r j) m).1=P.r j/\(aU (P.r j) m).2.send=[]/\¬ m.eO j):=by
  cases hy:kC (P.r j).id m with
  | true =>
   have hr:=sE.1 hy;exact .inl ⟨a5K hr,by rw [hid] at hr;exact hr⟩
  | false =>
   rw [uj hy];exact .inr ⟨rfl,rfl,λhr=>by rw [hid,sE.2 hr] at hy;cases hy⟩
 refine ⟨⟨?_,d3.trans h.sp,λa ha=>?_,?_⟩,j,ri,hj,d1,d2,hid,Ql,hout⟩
 .have hC:=aGi hw (λk _=>rfl) (C:=lz P) he ri hj (by omega);obtain ⟨g',bK,h',_⟩:=hs.aGh 0 false;rw [hC,a3d] at h';have e:lz { P with r:=put P.r j (aU (P.r j) m).1,fl:=rest++(aU (P.r j) m).2.send }=lz (qW P):=a3c d1.symm d2.symm;have h':c8 (lz { P with r:=put P.r j (aU (P.r j) m).1,fl:=rest++(aU (P.r j) m).2.send }) g' bK:=h';rw [e] at h';exact ⟨g',bK,h'⟩
 .rw [d2] at ha;rcases List.mem_append.1 ha with ha|ha
  .exact h.ends a (by rw [he];exact List.mem_cons_of_mem _ ha)
  .have:=hg a ha;refine ⟨?_,this.to⟩;rw [this.src,hid];omega
 .unfold ir at a5E ⊢;rw [d2,d1,List.length_append];have hp:=Ta P.r ri (aU (P.r j) m).1;rcases hout with ⟨hk,_⟩|⟨e1,e2,_⟩
  .have:=hk.cnt;omega
  .rw [e1] at hp;rw [e1,e2,List.length_nil];omega
theorem a42{P}(h:P.fl=[])(k):sw k P=(P,0):=by
 cases k with
 | zero=>rfl
 | succ k=>unfold sw;rw [if_pos h]
theorem a41{P m rest}(h:P.fl=m :: rest)(k):(sw (k+1) P).1=(sw k (qW P)).1:=by
 show (if P.fl=[] then (P,0) else ((sw k (qW P)).1,(sw k (qW P)).2+1)).1=_;rw [if_neg (by rw [h];simp)]
theorem C1{Q:cR->Prop}(step:∀ P m rest j,eL P->Q P->P.fl=m :: rest->lM P m rest j (qW P)->eL (qW P)->Q (qW P)):∀ (k:Nat) {P:cR},eL P->Q P->eL (sw k P).1/\Q (sw k P).1
 | 0,P,h,q=>⟨h,q⟩
 | k+1,P,h,q=>by
  cases he:P.fl with
  | nil=>rw [a42 he];exact ⟨h,q⟩
  | cons m rest =>
   rw [a41 he];obtain ⟨h1,j,ha⟩:=h.arr he;exact C1 step k h1 (step P m rest j h q he ha h1)
def nS(r:aG)(k:Nat)(m:aH):Nat :=
 if r.role=0 then 2 else if r.role=1 then 4*r.log.length+10 else
 if m.term≠r.term then 2*(r.log.length - r.Ω k)+4 else
 if m.index.toNat<=r.Ω k then 2*(r.log.length - max (r.Ω k) (m.index.toNat+m.ζ.length))+2 else
 2*(min m.index.toNat r.log.length - r.Ω k)+2*(r.log.length - r.Ω k)+2
def nA(r:aG)(k:Nat)(m:aH):Nat :=
 if r.role=0 then 1 else if r.role=1 then 4*r.log.length+9 else
 if m.term≠r.term then 1 else
 if m.yes=true then 2*(r.log.length - max (r.Ω k) m.index.toNat)+1 else
 2*(max (r.Ω k) (min m.index.toNat r.log.length) - r.Ω k)+2*(r.log.length - r.Ω k)+3
def hM(r:aG)(m:aH):Nat:=if m.kind=2 then nS r m.to.toNat m else if m.kind=3 then nA r m.src.toNat m else if m.kind=0 then 2 else 1
def wE(m:aH):Nat:=if m.kind=2 then m.src.toNat else m.to.toNat
def jN(f:Nat->aG)(m:aH):Nat:=hM (f (wE m)) m
def fZ(r:aG):Nat:=if r.role=1 then 8*r.log.length+20 else 0
def Fi(P:cR):Nat:=o9 (jN P.r) P.fl+(fZ (P.r 0)+fZ (P.r 1)+fZ (P.r 2))
section
variable {r r':aG}{m x:aH}{s:List aH}
theorem O0(r k m):2<=nS r k m:=by
 unfold nS
 repeat' split
 all_goals omega
theorem aC2(r k m):1<=nA r k m:=by
 unfold nA
 repeat' split
 all_goals omega
theorem aRw(r m):1<=hM r m:=by
 have:=O0 r m.to.toNat m;have:=aC2 r m.src.toNat m;unfold hM
 repeat' split
 all_goals omega
theorem aC4(r m):hM r m<=4*r.log.length+10:=by
 unfold hM nS nA
 repeat' split
 all_goals omega
theorem a0F(h:r.role=0)(k m):nS r k m=2:=if_pos h
theorem a0B(h:r.role=0)(k m):nA r k m=1:=if_pos h
theorem a0G(h:r.role=1)(k m):nS r k m=4*r.log.length+10:=by unfold nS;rw [if_neg (by omega),if_pos h]
theorem a0C(h:r.role=1)(k m):nA r k m=4*r.log.length+9:=by unfold nA;rw [if_neg (by omega),if_pos h]
theorem aRu(h:r.role=2){m}(ht:m.term≠r.term)(k):nS r k m=2*(r.log.length - r.Ω k)+4:=by unfold nS;rw [if_neg (by omega),if_neg (by omega),if_pos ht]
theorem SW(h:r.role=2){m k}(ht:m.term=r.term)(hx:m.index.toNat<=r.Ω k):nS r k m=2*(r.log.length - max (r.Ω k) (m.index.toNat+m.ζ.length))+2:=by
 unfold nS;rw [if_neg (by omega),if_neg (by omega),if_neg (λx=>x ht),if_pos hx]
theorem SV(h:r.role=2){m k}(ht:m.term=r.term)(hx:¬ m.index.toNat<=r.Ω k):nS r k m=2*(min m.index.toNat r.log.length - r.Ω k)+2*(r.log.length - r.Ω k)+2:=by
 unfold nS;rw [if_neg (by omega),if_neg (by omega),if_neg (λx=>x ht),if_neg hx]
theorem a0E(h:r.role=2){m}(ht:m.term≠r.term)(k):nA r k m=1:=by unfold nA;rw [if_neg (by omega),if_neg (by omega),if_pos ht]
theorem aC3(h:r.role=2){m}(ht:m.term=r.term)(hy:m.yes=true)(k):nA r k m=2*(r.log.length - max (r.Ω k) m.index.toNat)+1:=by
 unfold nA;rw [if_neg (by omega),if_neg (by omega),if_neg (λx=>x ht),if_pos hy]
theorem a0D(h:r.role=2){m}(ht:m.term=r.term)(hy:m.yes=false)(k):nA r k m=2*(max (r.Ω k) (min m.index.toNat r.log.length) - r.Ω k)+2*(r.log.length - r.Ω k)+3:=by
 unfold nA;rw [if_neg (by omega),if_neg (by omega),if_neg (λx=>x ht),if_neg (by rw [hy];decide)]
theorem SY(h:r'.role=0)(r x):hM r' x<=hM r x:=by
 have h1:=O0 r x.to.toNat x;have h2:=aC2 r x.src.toNat x;have e1:nS r' x.to.toNat x=2:=if_pos h;have e2:nA r' x.src.toNat x=1:=if_pos h;unfold hM;rw [e1,e2]
 repeat' split
 all_goals omega
theorem a0I(h1:r'.role=r.role)(h2:r'.term=r.term)(h3:r'.log=r.log)(h4:r'.Ω=r.Ω)(x):hM r' x=hM r x:=by
 unfold hM nS nA;rw [h1,h2,h3,h4]
theorem aRy(r m x):hM (af r m) x<=hM r x:=by
 rcases SB r m with h|h
 .exact SY h r x
 .rw [h.2];exact Nat.le_refl _
theorem aRx(h1:r'.role=2)(h0:r.role=2)(h2:r'.term=r.term)(h3:r'.log=r.log)(h4:∀ k,r.Ω k<=r'.Ω k)(x):hM r' x<=hM r x:=by
 have a:=h4 x.to.toNat;have b:=h4 x.src.toNat;unfold hM nS nA;rw [h1,h0,h2,h3]
 repeat' split
 all_goals first
  | omega
  | (rename_i hh;exact absurd hh (by decide))
theorem aRv(h:r.role=1)(hl:r'.log=r.log)(x):hM r' x<=hM r x:=by
 have hi:=aC4 r' x;rw [hl] at hi;have e1:nS r x.to.toNat x=4*r.log.length+10:=by unfold nS;rw [if_neg (by omega),if_pos h]
 have e2:nA r x.src.toNat x=4*r.log.length+9:=by unfold nA;rw [if_neg (by omega),if_pos h]
 have bI:x.kind=3->hM r' x<=4*r.log.length+9:=λhk=>by
  unfold hM nA;rw [if_neg (by omega),if_pos hk,hl]
  repeat' split
  all_goals omega
 by_cases k2:x.kind=2
 .have:hM r x=nS r x.to.toNat x:=by unfold hM;rw [if_pos k2]
  omega
 by_cases b8:x.kind=3
 .have:hM r x=nA r x.src.toNat x:=by unfold hM;rw [if_neg k2,if_pos b8]
  have:=bI b8;omega
 .have bL:hM r' x=hM r x:=by unfold hM;rw [if_neg k2,if_neg b8,if_neg k2,if_neg b8]
  omega
theorem fW.others(h:fW r m r' s)(x):hM r' x<=hM r x:=by
 have ha:=wY (cB r m);have ht:=aRy r m x;cases h with
 | ρ v U _=>exact Nat.le_trans (Nat.le_of_eq (a0I (r:=af r m) rfl rfl rfl rfl x)) ht
 | mute vs _=>exact Nat.le_trans (Nat.le_of_eq (a0I (r:=af r m) rfl rfl rfl rfl x)) ht
 | lead _ h1 _=>exact aRv (r':=iX r m) h1 rfl x
 | old _ _=>exact Nat.le_refl _
 | deaf _ _ _=>exact Nat.le_refl _
 | pE _ _ _ _=>exact SY rfl r x
 | done _ _ _ _ _ _=>exact SY rfl r x
 | mZ r2 _ _ _ _ h2 _=>exact SY h2 r x
 | back _ _ _ _=>exact Nat.le_of_eq (a0I (r:=r) rfl rfl rfl rfl x)
 | fwd s _ h1 _ _ _ _ =>
  obtain ⟨a1,a2,a3,a4,a5,a6,a7⟩:=ha;refine aRx (by rw [a1];exact h1) h1 (by rw [(wZ (cB r m)).2.1];rfl) a2 (λk=>?_) x;rw [TR];show r.Ω k<=put r.Ω m.src.toNat _ k;unfold put;split
  .rename_i e;rw [e];omega
  .exact Nat.le_refl _
theorem fW.asks(h:fW r m r' s)(h1:r'.role=1):r.role=1:=by
 have h0:r'.role≠0:=by rw [h1];decide
 have tb:=JC (r:=r) (m:=m);have ha:=wZ (cB r m);cases h with
 | ρ v U _=>have e:=(tb h0).1;rw [e] at h1;exact h1
 | mute vs _=>have e:=(tb h0).1;rw [e] at h1;exact h1
 | lead _ k1 _=>exact k1
 | old _ _=>exact h1
 | deaf _ _ _=>exact h1
 | pE _ _ _ _=>exact absurd rfl h0
 | done _ _ _ _ _ _=>exact absurd rfl h0
 | mZ r2 _ _ _ _ h2 _=>exact absurd h2 h0
 | back _ k1 _ _=>exact h1
 | fwd s _ k1 _ _ _ _=>rw [ha.1] at h1;exact h1
theorem fW.fZ(h:fW r m r' s):Go.Proofs.YtcmgeboolmmdkaaGreatDoor.fZ r'<=Go.Proofs.YtcmgeboolmmdkaaGreatDoor.fZ r:=by
 unfold Go.Proofs.YtcmgeboolmmdkaaGreatDoor.fZ;by_cases h0:r'.role=0
 .rw [if_neg (by omega)];exact Nat.zero_le _
 .obtain ⟨a,b,c,d⟩:=h.live h0;by_cases h1:r'.role=1
  .have:r.role=1:=h.asks h1;rw [if_pos h1,if_pos this,b];exact Nat.le_refl _
  .rw [if_neg h1];exact Nat.zero_le _
end
theorem Uu{P g A}(h:c8 (lz P) g A){i j}(hi:i<3)(hj:j<3)(hji:j≠i)(hr:(P.r i).role=2){m}(hm:m∈P.fl)(hk:m.kind=2)(ht:m.term=(P.r i).term):
  m.index.toNat+m.ζ.length<=(P.r i).log.length/\m.ζ=((P.r i).log.drop m.index.toNat).take m.ζ.length/\m.prev=bB (P.r i).log m.index.toNat/\0<=m.index:=by
 obtain ⟨h1,h2,h3,h4⟩:=h.m.app m hm hk;have hl:=(h.m.lead i hi hr).2;have hl:g.φ (P.r i).term=(P.r i).log:=hl;rw [ht,hl] at h2 h3 h4;exact ⟨h2,h3,h4,h1⟩
theorem aJg{P g A}(h:c8 (lz P) g A){i j}(hi:i<3)(hj:j<3)(hji:j≠i)(hr:(P.r i).role=2){m}(hm:m∈P.fl)(hk:m.kind=2)(ht:m.term=(P.r i).term)(yg:(P.r j).term<=m.term)(hx:m.index.toNat<=(P.r i).Ω j):A6 (P.r j).log m=false:=by
 obtain ⟨h1,h2,h3,h4⟩:=Uu h hi hj hji hr hm hk ht;obtain ⟨k1,k2⟩:=h.a55 hi hj hji hr (show (P.r j).term<=(P.r i).term by omega);have k1:(P.r i).Ω j<=(P.r j).log.length:=k1;have k2:(P.r j).log.take ((P.r i).Ω j)=(P.r i).log.take ((P.r i).Ω j):=k2;have e:bB (P.r j).log m.index.toNat=bB (P.r i).log m.index.toNat:=by
  rw [<-aAr (l:=(P.r j).log) (n:=m.index.toNat) (by omega),<-aAr (l:=(P.r i).log) (n:=m.index.toNat) (by omega)];have:∀ l:List aS,l.take m.index.toNat=(l.take ((P.r i).Ω j)).take m.index.toNat:=λl=>by rw [List.take_take,Nat.min_eq_left hx]
  rw [this (P.r j).log,k2,<-this]
 unfold A6;rw [e,h3];simp;omega
section
variable {P P':cR}{m:aH}{rest:List aH}{j:Nat}
theorem S1{a}(h:a.kind=2):wE a=a.src.toNat:=if_pos h
theorem Yv{a}(h:a.kind≠2):wE a=a.to.toNat:=if_neg h
theorem SX{a}(h:a.kind=2)(r):hM r a=nS r a.to.toNat a:=if_pos h
theorem a0H{a}(h:a.kind=3)(r):hM r a=nA r a.src.toNat a:=by unfold hM;rw [if_neg (by omega),if_pos h]
theorem aOU(hD:eL P)(he:P.fl=m :: rest)(ha:lM P m rest j P'):o9 (jN P'.r) (aU (P.r j) m).2.send+fZ (aU (P.r j) m).1<jN P.r m+fZ (P.r j):=by
 obtain ⟨g,A,hs⟩:=hD.inv;obtain ⟨hj,hto,hr,hfl,hid,hwf,hout⟩:=ha;have hm0:m∈P.fl:=by rw [he];simp
 have hpos:=aRw (P.r (wE m)) m;have hpos:1<=jN P.r m:=hpos;rcases hout with ⟨hk,hright⟩|⟨e1,e2,_⟩
 rotate_left 1
 .rw [e1,e2];show 0+_<_;omega
 have iy:=hk.fZ;have hown:∀ x,P'.r j=x ↔ (aU (P.r j) m).1=x:=λx=>by rw [hr,cF]
 have hsrc:=hright.src;obtain ⟨i,hi⟩:∃ i:Nat,m.src=i:=⟨m.src.toNat,by omega⟩;have CH:i<3:=by omega
 have hij:i≠j:=by omega
 have Vo:P'.r i=P.r i:=by rw [hr,dD _ _ hij]
 have hsi:m.src.toNat=i:=by omega
 have yg:m.to.toNat=j:=by omega
 have t1:=(wG (P.r j) m).1;have t7:=BG (P.r j) m;have VI:=wY (cB (P.r j) m);have cI:(P.r i).role=0\/(P.r i).role=1\/(P.r i).role=2:=(hs.m.wf.rep i CH).1.ok.role;have qh:P'.r j=(aU (P.r j) m).1:=by rw [hr,cF]
 generalize hR:(aU (P.r j) m).1=R at hk iy qh ⊢;generalize hS:(aU (P.r j) m).2.send=S at hk ⊢;have one:∀ a:aH,o9 (jN P'.r) [a]=jN P'.r a:=λa=>by show jN P'.r a+0=_;omega
 have D5:∀ a:aH,a.kind=3->a.src=j->a.to=i->m.kind=2->(∀ k,nA (P.r i) k a<nS (P.r i) k m\/k≠j)->o9 (jN P'.r) [a]<jN P.r m:=λa a1 a2 a3 a4 a5=>by
  rw [one];unfold jN;rw [Yv (by omega),a3,jo,Vo,S1 a4,hsi,a0H a1,SX a4,a2,jo,yg];rcases a5 j with h|h
  .exact h
  .exact absurd rfl h
 cases hk with
 | ρ v U k0 =>
  have e:jN P.r m=2:=by unfold jN hM;rw [if_neg (by omega),if_neg (by omega),if_pos k0]
  rw [one,e];show hM _ _+_<_;have:hM (P'.r (wE ⟨1,(af (P.r j) m).id,m.src,(af (P.r j) m).term,0,0,0,U,[]⟩)) ⟨1,(af (P.r j) m).id,m.src,(af (P.r j) m).term,0,0,0,U,[]⟩=1:=rfl;rw [this];omega
 | mute vs _=>show 0+_<_;omega
 | lead k1 h1 h2 =>
  have aJ2:fZ (P.r j)=8*(P.r j).log.length+20:=if_pos h1;have e0:fZ (iX (P.r j) m)=0:=rfl;have each:∀ k,jN P'.r (entriesOf (iX (P.r j) m) k)<=4*(P.r j).log.length+2:=λk=>by
   have es:wE (entriesOf (iX (P.r j) m) k)=j:=by
    rw [S1 rfl];show (((P.r j).id:Nat):Int).toNat=j;rw [jo,hid]
   unfold jN;rw [es,qh,SX rfl];have ex:(entriesOf (iX (P.r j) m) k).index.toNat=(P.r j).log.length:=by
    show ((((P.r j).log.length+1 - 1:Nat)):Int).toNat=_;omega
   have el:(iX (P.r j) m).log.length=(P.r j).log.length:=rfl;have em:∀ k,(iX (P.r j) m).Ω k=0:=λ_=>rfl;by_cases hx:(entriesOf (iX (P.r j) m) k).index.toNat<=(iX (P.r j) m).Ω (entriesOf (iX (P.r j) m) k).to.toNat
   .rw [SW (show (iX (P.r j) m).role=2 from rfl) rfl hx,el];omega
   .rw [SV (show (iX (P.r j) m).role=2 from rfl) rfl hx,el,ex,em];omega
  obtain ⟨a,b,_,_,_,_,_,p9⟩:=a2R (r:=iX (P.r j) m) (i:=j) hid hj;have:o9 (jN P'.r) (bT (iX (P.r j) m))=jN P'.r (entriesOf (iX (P.r j) m) a)+(jN P'.r (entriesOf (iX (P.r j) m) b)+0):=by unfold bT;rw [p9];rfl
  have ea:=each a;have eb:=each b;rw [this,aJ2,e0];omega
 | old k2 h1 =>
  have:=D5 (lA (P.r j) 3 m.src) rfl (by show (((P.r j).id:Nat):Int)=j;rw [hid]) hi k2 (λk=>.inl (by
   rcases cI with r4|r1|r2
   .rw [a0F r4,a0B r4];omega
   .rw [a0G r1,a0C r1];omega
   .by_cases rt:(lA (P.r j) 3 m.src).term=(P.r i).term
    .rw [a0D r2 rt rfl,aRu r2 (show m.term≠(P.r i).term by have rt:(P.r j).term=(P.r i).term:=rt;omega)];have ex:(lA (P.r j) 3 m.src).index.toNat=0:=rfl;rw [ex];omega
    .rw [a0E r2 rt];exact O0 _ _ _))
  omega
 | deaf k2 h1 h2=>show 0+_<_;omega
 | pE k2 h1 h2 h3 =>
  have:=D5 (Cj (af (P.r j) m) m) rfl (by show (((af (P.r j) m).id:Nat):Int)=j;rw [t1,hid]) hi k2 (λk=>if hkj:k=j then .inl (by
   subst hkj;have t2:=(wG (P.r k) m).2.1;have et:(Cj (af (P.r k) m) m).term=m.term:=by show (af (P.r k) m).term=_;omega
   have ex:(Cj (af (P.r k) m) m).index=min (((P.r k).log.length:Nat):Int) (m.index - 1):=by show min (((af (P.r k) m).log.length:Nat):Int) (m.index - 1)=_;rw [t2]
   rcases cI with r4|r1|r2
   .rw [a0F r4,a0B r4];omega
   .rw [a0G r1,a0C r1];omega
   .by_cases rt:m.term=(P.r i).term
    .have hge:=Uu hs CH hj (Ne.symm hij) r2 hm0 k2 rt;have aKv:¬ m.index.toNat<=(P.r i).Ω k:=λhle=>by
      have:=aJg hs CH hj (Ne.symm hij) r2 hm0 k2 rt h1 hle;rw [this] at h3;cases h3
     rw [a0D r2 (et.trans rt) rfl,SV r2 rt aKv,ex];have:=hge.1;omega
    .rw [a0E r2 (by rw [et];exact rt)];exact O0 _ _ _) else .inr hkj)
  show _+0<_;omega
 | done k2 h1 h2 h3 h4 h5=>show 0+0<_;omega
 | mZ _ k2 h1 h2 h3 h4 h5 =>
  have:=D5 (l5 (af (P.r j) m) m) rfl (by show (((af (P.r j) m).id:Nat):Int)=j;rw [t1,hid]) hi k2 (λk=>if hkj:k=j then .inl (by
   subst hkj;have et:(l5 (af (P.r k) m) m).term=m.term:=by show (af (P.r k) m).term=_;omega
   have nD:=hright.index.1;have ex:(l5 (af (P.r k) m) m).index.toNat=m.index.toNat+m.ζ.length:=by show (m.index+(m.ζ.length:Int)).toNat=_;omega
   rcases cI with r4|r1|r2
   .rw [a0F r4,a0B r4];omega
   .rw [a0G r1,a0C r1];omega
   .by_cases rt:m.term=(P.r i).term
    .rw [aC3 r2 (et.trans rt) rfl,ex];by_cases hx:m.index.toNat<=(P.r i).Ω k
     .rw [SW r2 rt hx];omega
     .rw [SV r2 rt hx];omega
    .rw [a0E r2 (by rw [et];exact rt)];exact O0 _ _ _) else .inr hkj)
  have e0:fZ R=0:=if_neg (by omega);omega
 | back b8 h1 h2 h3 =>
  have e0:fZ (P.r j)=0:=if_neg (by omega);have e1:fZ (lP (P.r j) m)=0:=e0;have hn:=(hwf.ok.next h1 m.src.toNat);have es:wE (entriesOf (lP (P.r j) m) m.src.toNat)=j:=by
   rw [S1 rfl];show (((P.r j).id:Nat):Int).toNat=j;rw [jo,hid]
  rw [one,e0,e1];unfold jN;rw [es,qh,SX rfl,Yv (by omega),yg,a0H b8];have A0:(entriesOf (lP (P.r j) m) m.src.toNat).to.toNat=m.src.toNat:=by show ((m.src.toNat:Nat):Int).toNat=_;omega
  have ex:(entriesOf (lP (P.r j) m) m.src.toNat).index.toNat=max ((P.r j).Ω m.src.toNat+1) (min ((P.r j).next m.src.toNat - 1) (m.index.toNat+1)) - 1:=by
   show (((put (P.r j).next m.src.toNat _ m.src.toNat - 1:Nat)):Int).toNat=_;rw [cF,jo]
  rw [A0,a0D h1 h2 h3];have mC:(lP (P.r j) m).role=2:=h1;have el:(lP (P.r j) m).log=(P.r j).log:=rfl;have em:(lP (P.r j) m).Ω=(P.r j).Ω:=rfl;by_cases hx:(entriesOf (lP (P.r j) m) m.src.toNat).index.toNat<=(lP (P.r j) m).Ω m.src.toNat
  .rw [SW mC rfl hx,el,em];rw [em] at hx;omega
  .rw [SV mC rfl hx,el,em,ex];rw [em,ex] at hx;omega
 | fwd s b8 h1 h2 h3 h4 h5 =>
  obtain ⟨a1,a2,a3,a4,a5,a6,a7⟩:=VI;have e0:fZ (P.r j)=0:=if_neg (by omega);have e1:fZ (cA (cB (P.r j) m))=0:=if_neg (by rw [a1];show ¬ (P.r j).role=1;omega);rw [e0,e1];rcases h5 with ⟨h6,rfl⟩|⟨h6,rfl⟩
  rotate_left 1
  .show 0+0<_;omega
  have aJ7:(cA (cB (P.r j) m)).id=j:=by rw [a2M];exact hid
  have es:wE (entriesOf (cA (cB (P.r j) m)) m.src.toNat)=j:=by
   rw [S1 rfl];show (((cA (cB (P.r j) m)).id:Nat):Int).toNat=j;rw [jo,aJ7]
  rw [one];unfold jN;rw [es,qh,SX rfl,Yv (by omega),yg,a0H b8];have A0:(entriesOf (cA (cB (P.r j) m)) m.src.toNat).to.toNat=m.src.toNat:=by show ((m.src.toNat:Nat):Int).toNat=_;omega
  have L7:(cA (cB (P.r j) m)).Ω m.src.toNat=max ((P.r j).Ω m.src.toNat) m.index.toNat:=by rw [TR];show put _ _ _ _=_;rw [cF]
  have L9:(cA (cB (P.r j) m)).next m.src.toNat=max ((P.r j).Ω m.src.toNat) m.index.toNat+1:=by rw [a2N];show put _ _ _ _=_;rw [cF]
  have ex:(entriesOf (cA (cB (P.r j) m)) m.src.toNat).index.toNat=max ((P.r j).Ω m.src.toNat) m.index.toNat:=by
   show ((((cA (cB (P.r j) m)).next m.src.toNat - 1:Nat)):Int).toNat=_;rw [L9,jo];omega
  have aJG:(entriesOf (cA (cB (P.r j) m)) m.src.toNat).ζ.length=min 8 ((P.r j).log.length - max ((P.r j).Ω m.src.toNat) m.index.toNat):=by
   show (((cA (cB (P.r j) m)).log.drop ((cA (cB (P.r j) m)).next m.src.toNat - 1)).take 8).length=_;rw [a2,L9,List.length_take,List.length_drop];show min 8 ((P.r j).log.length - (max ((P.r j).Ω m.src.toNat) m.index.toNat+1 - 1))=_;omega
  rw [A0,aC3 h1 h2 h3];have mC:(cA (cB (P.r j) m)).role=2:=by rw [a1];exact h1
  have el:(cA (cB (P.r j) m)).log=(P.r j).log:=a2;have hx:(entriesOf (cA (cB (P.r j) m)) m.src.toNat).index.toNat<=(cA (cB (P.r j) m)).Ω m.src.toNat:=by rw [ex,L7];exact Nat.le_refl _
  rw [SW mC rfl hx,el,L7,ex,aJG];omega
theorem aOV(hD:eL P)(he:P.fl=m :: rest)(ha:lM P m rest j P'):Fi P'<Fi P:=by
 have h1:=aOU hD he ha;obtain ⟨hj,hto,hr,hfl,hid,hwf,hout⟩:=ha;have Vo:∀ x,jN P'.r x<=jN P.r x:=λx=>by
  unfold jN;by_cases e:wE x=j
  .rw [e,hr,cF];rcases hout with ⟨hk,_⟩|⟨e1,_,_⟩
   .exact hk.others x
   .rw [e1];exact Nat.le_refl _
  .rw [hr,dD _ _ e];exact Nat.le_refl _
 have h2:=aAj (l:=rest) (f:=jN P'.r) (g:=jN P.r) λx _=>Vo x;have h3:(fZ (P'.r 0)+fZ (P'.r 1)+fZ (P'.r 2))+fZ (P.r j)=(fZ (P.r 0)+fZ (P.r 1)+fZ (P.r 2))+fZ (aU (P.r j) m).1:=by
  rw [hr]
  match j,hj with
  | 0,_=>show (fZ (aU (P.r 0) m).1+fZ (P.r 1)+fZ (P.r 2))+fZ (P.r 0)=_;omega
  | 1,_=>show (fZ (P.r 0)+fZ (aU (P.r 1) m).1+fZ (P.r 2))+fZ (P.r 1)=_;omega
  | 2,_=>show (fZ (P.r 0)+fZ (P.r 1)+fZ (aU (P.r 2) m).1)+fZ (P.r 2)=_;omega
 unfold Fi;rw [hfl,he,aAi];show _<(jN P.r m+o9 (jN P.r) rest)+_;omega
theorem U4:∀ (n k:Nat) {P:cR},eL P->Fi P<=n->n<=k->(sw k P).1.fl=[]
 | n,k,P,h,hn,hk=>by
  cases he:P.fl with
  | nil=>rw [a42 he];exact he
  | cons m rest =>
   obtain ⟨h1,j,ha⟩:=h.arr he;have hlt:=aOV h he ha;cases n with
   | zero=>omega
   | succ n =>
    cases k with
    | zero=>omega
    | succ k =>
     rw [a41 he];exact U4 n k h1 (by omega) (by omega)
theorem a8w{N}(h:∀ i,i<3->(P.r i).log.length<=N)(hm:∀ m∈P.fl,(0<=m.src/\m.src<=2)/\(0<=m.to/\m.to<=2)):Fi P<=P.fl.length*(4*N+10)+ir P*(8*N+20):=by
 have key:∀ l:List aH,(∀ m∈l,(0<=m.src/\m.src<=2)/\(0<=m.to/\m.to<=2))->o9 (jN P.r) l<=l.length*(4*N+10):=by
  intro l
  induction l with
  | nil=>intro _;simp [o9]
  | cons m l ih =>
   intro hl;have h1:=ih λx hx=>hl x (by simp [hx]);have h2:=aC4 (P.r (wE m)) m;have h3:(P.r (wE m)).log.length<=N:=h _ (by
    have:=hl m (by simp);unfold wE;split<;>omega)
   show jN P.r m+o9 (jN P.r) l<=_;unfold jN at *;rw [List.length_cons,Nat.add_mul];omega
 have h0:=key P.fl hm;have ask:∀ i,i<3->fZ (P.r i)<=bw (P.r i)*(8*N+20):=λi hi=>by
  have:=h i hi;unfold fZ bw;split
  .omega
  .omega
 have a0:=ask 0 (by decide);have a1:=ask 1 (by decide);have a2:=ask 2 (by decide);unfold Fi ir;rw [Nat.add_mul,Nat.add_mul];omega
end
def Rel(i:Nat)(T:Int)(k:Nat)(m:aH):Prop :=
 (m.kind=2/\m.src=i/\m.term=T/\m.eO k)\/(m.kind=3/\m.src=k/\T<=m.term/\m.eO i)
def E9(r:aG)(k:Nat):Prop:=r.Ω k=r.log.length/\r.next k=r.log.length+1
structure Gb(i:Nat)(T:Int)(P:cR):Prop where
 tm:(P.r i).term=T
 ro:(P.r i).role≠0
 cZ:(P.r i).role=2->∀ k,k<3->k≠i->E9 (P.r i) k\/∃ m∈P.fl,Rel i T k m
theorem CZ{i k T m rest send S S'}(h:S\/∃ x∈m :: rest,Rel i T k x)(hn:¬ Rel i T k m)(hs:S->S'):S'\/∃ x∈rest++send,Rel i T k x:=by
 rcases h with h|⟨x,hx,hr⟩
 .exact .inl (hs h)
 .rcases List.mem_cons.1 hx with rfl|hx
  .exact absurd hr hn
  .exact .inr ⟨x,List.mem_append_left _ hx,hr⟩
theorem Il{i k r}(hok:r.bA)(hid:r.id=i)(hi:i<3)(hk:k<3)(hki:k≠i)(hr:r.role=2)(ht:1<=r.term):Rel i r.term k (entriesOf r k):=by
 have hn:=hok.next hr k;have hc:=hok.υ;have hl:=hok.len;have:=aJD hok ht hk (by rw [hid];omega) hn.1 hn.2.1 (c:=r.υ) (by omega);exact .inl ⟨rfl,by show ((r.id:Nat):Int)=i;rw [hid],rfl,this⟩
theorem Gb.step{i T P P' m rest j}(hi:i<3)(hD:eL P)(h:Gb i T P)(he:P.fl=m :: rest)(ha:lM P m rest j P'):(P'.r i).role=0\/Gb i T P':=by
 obtain ⟨g,A,hs⟩:=hD.inv;obtain ⟨hj,hto,hr,hfl,hid,hwf,hout⟩:=ha;have hm0:m∈P.fl:=by rw [he];simp
 have AG:=h.cZ;rw [he] at AG;by_cases hji:j=i
 .subst hji;have qh:P'.r j=(aU (P.r j) m).1:=by rw [hr,cF]
  rcases hout with ⟨hk,hright⟩|⟨e1,e2,tJ⟩
  rotate_left 1
  .rw [e1] at qh;rw [e2,List.append_nil] at hfl;refine .inr ⟨by rw [qh];exact h.tm,by rw [qh];exact h.ro,λh2 k hk hkj=>?_⟩;rw [qh] at h2 ⊢;rw [hfl];have:=CZ (send:=[]) (AG h2 k hk hkj) (λrm=>by
    rcases rm with ⟨_,_,_,q⟩|⟨_,_,_,q⟩
    .have:=q.to;omega
    .exact tJ q) (λx=>x)
   rwa [List.append_nil] at this
  have xG:(aU (P.r j) m).1.bq:=(CF (m:=m) hwf).1;by_cases h0:(aU (P.r j) m).1.role=0
  .exact .inl (by rw [qh];exact h0)
  obtain ⟨l1,l2,l3,l4⟩:=hk.live h0;refine .inr ⟨by rw [qh,l1];exact h.tm,by rw [qh];exact h0,λh2 k fy hkj=>?_⟩;rw [qh] at h2 ⊢;rw [hfl];have pG:=h.tm;have Qh:∀ {k:Nat},k≠j->¬ m.eO k:=fun {k} hne q=>by have:=q.to;omega
  have tb:=JC (r:=P.r j) (m:=m);generalize hR:(aU (P.r j) m).1=R at hk h0 h2 l1 l2 l3 xG ⊢;generalize hS:(aU (P.r j) m).2.send=S at hk ⊢;have XO:m.kind≠3->¬ Rel j T k m:=λh3 rm=>by
   rcases rm with ⟨_,_,_,q⟩|⟨q,_⟩
   .exact Qh hkj q
   .exact h3 q
  cases hk with
  | ρ v U k0 =>
   have e:=(tb h0).1;rw [e] at h2 ⊢;exact CZ (AG h2 k fy hkj) (XO (by omega)) (λx=>x)
  | mute vs hc =>
   have e:=tb h0;rw [e.1] at h2 hc ⊢;refine CZ (AG h2 k fy hkj) (λrm=>?_) (λx=>x);rcases rm with ⟨_,_,_,q⟩|⟨gC,a99,aTR,q⟩
   .exact Qh hkj q
   .have h2:(P.r j).role=2:=h2;rcases hc with hc|⟨_,hc|hc|⟨hy,hc⟩⟩
    .omega
    .exact hc h2
    .have:=e.2;omega
    .obtain ⟨f,hf,e1,e2⟩:=hs.ik m hm0 gC hy;have bI:=hs.a1 m.term f;have bL:=(hs.m.lead j hj h2).2;have bL:g.φ (P.r j).term=(P.r j).log:=bL;have bz:m.term=(P.r j).term:=by have:=e.2;omega
     rw [bz,bL] at bI;rw [bz] at e2;omega
  | lead k1 h1 h3 =>
   have:=Il (i:=j) (k:=k) xG.ok hid hj fy hkj h2 (xG.one h0);have et:(iX (P.r j) m).term=T:=pG;rw [et] at this;exact .inr ⟨_,List.mem_append_right _ ((PD (r:=iX (P.r j) m) (i:=j) hid hj).2 ⟨k,fy,hkj,rfl⟩),this⟩
  | old k2 _=>exact CZ (AG h2 k fy hkj) (XO (by omega)) (λx=>x)
  | deaf k2 _ _=>exact CZ (AG h2 k fy hkj) (XO (by omega)) (λx=>x)
  | pE _ _ _ _=>exact absurd rfl h0
  | done _ _ _ _ _ _=>exact absurd rfl h0
  | mZ r2 _ _ _ _ hz _=>exact absurd hz h0
  | back b8 h1 ht hy =>
   by_cases hks:k=m.src.toNat
   .have:=Il (i:=j) (k:=k) xG.ok hid hj fy hkj h2 (xG.one h0);have et:(lP (P.r j) m).term=T:=pG;rw [et] at this;rw [<-hks];exact .inr ⟨_,List.mem_append_right _ (List.mem_singleton.2 rfl),this⟩
   .refine CZ (AG h1 k fy hkj) (λrm=>?_) (λx=>?_)
    .rcases rm with ⟨_,_,_,q⟩|⟨_,a99,_,_⟩
     .exact Qh hkj q
     .omega
    .refine ⟨x.1,?_⟩;show put (P.r j).next _ _ k=_
     rw [dD _ _ hks];exact x.2
  | fwd s b8 h1 ht hy nD l7 =>
   have L7:=TR (cB (P.r j) m);have L9:=a2N (cB (P.r j) m);have el:=(wZ (cB (P.r j) m)).2.2.2;by_cases hks:k=m.src.toNat
   .rcases l7 with ⟨h6,rfl⟩|⟨h6,rfl⟩
    .have:=Il (i:=j) (k:=k) xG.ok (by rw [l3];exact hid) hj fy hkj h2 (xG.one h0);rw [l1,pG] at this;rw [<-hks];exact .inr ⟨_,List.mem_append_right _ (List.mem_singleton.2 rfl),this⟩
    .left
     have Vi:=(hwf.ok.next h1 k).2.2;unfold E9;rw [L7,L9,el];show put (P.r j).Ω _ _ k=(P.r j).log.length/\put (P.r j).next _ _ k=(P.r j).log.length+1
     rw [<-hks,cF,cF];rw [<-hks] at h6;omega
   .refine CZ (AG h1 k fy hkj) (λrm=>?_) (λx=>?_)
    .rcases rm with ⟨_,_,_,q⟩|⟨_,a99,_,_⟩
     .exact Qh hkj q
     .omega
    .unfold E9 at x ⊢;rw [L7,L9,el];show put (P.r j).Ω _ _ k=(P.r j).log.length/\put (P.r j).next _ _ k=(P.r j).log.length+1
     rw [dD _ _ hks,dD _ _ hks];exact x
 .have M0:P'.r i=P.r i:=by rw [hr,dD _ _ (Ne.symm hji)]
  refine .inr ⟨by rw [M0];exact h.tm,by rw [M0];exact h.ro,λh2 k fy hki=>?_⟩;rw [M0] at h2 ⊢;rw [hfl];by_cases rm:Rel i T k m
  rotate_left 1
  .exact CZ (AG h2 k fy hki) rm (λx=>x)
  right
  rcases rm with ⟨k2,hsrc,pG,q⟩|⟨_,_,_,q⟩
  rotate_left 1
  .have:=q.to;omega
  have hkj:k=j:=by have:=q.to;omega
  subst hkj;rcases hout with ⟨hk,hright⟩|⟨_,_,tJ⟩
  rotate_left 1
  .exact absurd q tJ
  have aTC:=h.tm;have t1:=(wG (P.r k) m).1;have t2:=(wG (P.r k) m).2.1;have t7:=BG (P.r k) m;have A7:1<=T:=by rw [<-pG];exact q.term.1
  have hle:(P.r k).term<=m.term->(P.r k).term<=(P.r i).term:=λx=>by omega
  have V9:=hwf.ok.gf;have gu:=q.term.2;have nD:=q.index;have hfit:=q.fits;have hge:=Uu hs hi fy (Ne.symm (λe=>hki e.symm)) h2 hm0 k2 (by omega);generalize hS:(aU (P.r k) m).2.send=S at hk ⊢;generalize hR:(aU (P.r k) m).1=R at hk;have one:∀ a:aH,Rel i T k a->∃ x∈rest++[a],Rel i T k x:=λa x=>⟨a,List.mem_append_right _ (List.mem_singleton.2 rfl),x⟩;cases hk with
  | ρ v U k0=>omega
  | mute vs hc=>omega
  | lead k1 _ _=>omega
  | back b8 _ _ _=>omega
  | fwd s b8 _ _ _ _ _=>omega
  | old _ h1 =>
   refine one _ (.inr ⟨rfl,by show (((P.r k).id:Nat):Int)=k;rw [hid],by show T<=(P.r k).term;omega,?_⟩);unfold lA;rw [hid,hsrc];exact ES (id:=k) (to:=i) (kind:=3) fy hi hki (by decide) (by omega) V9 (by decide) (by decide) false
  | deaf _ h1 h3 =>
   exfalso;have a1:=(hs.m.lead k fy h1).1;have a2:=(hs.m.lead i hi h2).1;have a1:g.b5 (P.r k).term=k:=a1;have a2:g.b5 (P.r i).term=i:=a2;rw [show (P.r k).term=(P.r i).term by omega,a2] at a1;omega
  | pE _ h1 h3 h4 =>
   have aT2:1<=m.index:=Decidable.byContradiction λhn=>by
    have hz:m.index=0:=by omega
    have hp:=q.zero hz;unfold A6 at h4;rw [hz,hp] at h4;simp only [Bool.or_eq_true,decide_eq_true_eq] at h4;rcases h4 with h4|h4
    .omega
    .exact h4 rfl
   refine one _ (.inr ⟨rfl,by show (((af (P.r k) m).id:Nat):Int)=k;rw [t1,hid],by show T<=(af (P.r k) m).term;omega,?_⟩);unfold Cj;rw [t1,hid,hsrc];exact ES (id:=k) (to:=i) (kind:=3) fy hi hki (by decide) (by omega) (by omega) (by omega) (by omega) false
  | done _ h1 h3 h4 h5 h6 =>
   exfalso;exact hs.aNL hi fy h2 (hle h1) hge.2.1 h5 h6
  | mZ r2 _ h1 h3 h4 h5 h6 =>
   refine one _ (.inr ⟨rfl,by show (((af (P.r k) m).id:Nat):Int)=k;rw [t1,hid],by show T<=(af (P.r k) m).term;omega,?_⟩);unfold l5;rw [t1,hid,hsrc];exact ES (id:=k) (to:=i) (kind:=3) fy hi hki (by decide) (by omega) (by omega) (by omega) (by omega) true
def EB(P:cR)(l:List aH):Prop:=∀ m∈l,m.term<=(P.r m.src.toNat).term
def Jf(i:Nat)(T:Int)(l:List aH):Prop:=∃ m∈l,m.eO i/\T<m.term
structure EC(i:Nat)(T:Int)(a:Nat)(x:aH):Prop where
 src:x.src=i
 term:x.term=T
 right:x.eO a
 kind:x.kind=0\/x.kind=2
structure KC(i a b:Nat):Prop where
 lt:i<3/\a<3/\b<3
 ne:a≠i/\b≠i/\a≠b
 all:∀ k,k<3->k=i\/k=a\/k=b
inductive EA(i:Nat)(T:Int)(a b:Nat)(P:cR):Prop
 | A (pre o:List aH) (xa xw:aH):P.fl=pre++xa :: xw :: o->EB P o->EC i T a xa->EC i T b xw->EA i T a b P
 | B (o:List aH) (xw:aH):P.fl=xw :: o->EB P o->EC i T b xw->(Jf i T o\/(P.r a).term<=T)->EA i T a b P
 | C:(Jf i T P.fl\/((∀ k,k<3->(P.r k).term<=T)/\∀ m∈P.fl,m.term<=T))->EA i T a b P
theorem aHm{i T a b}(h:Jf i T a):Jf i T (a++b):=by
 obtain ⟨m,hm,x⟩:=h;exact ⟨m,List.mem_append_left _ hm,x⟩
section
variable {i a b:Nat}{T:Int}{P P':cR}{m:aH}{rest:List aH}{j:Nat}
theorem lM.up(ha:lM P m rest j P')(k):(P.r k).term<=(P'.r k).term:=by
 rw [ha.r];by_cases e:k=j
 .subst e;rw [cF];rcases ha.out with ⟨hk,_⟩|⟨e1,_,_⟩
  .exact hk.term.1
  .rw [e1];exact Int.le_refl _
 .rw [dD _ _ e];exact Int.le_refl _
theorem lM.NZ(ha:lM P m rest j P'):∀ x∈(aU (P.r j) m).2.send,x.src=j/\x.term=(P'.r j).term:=λx hx=>by
 have hg:=(Lp ha.wf m).1 x hx;refine ⟨by rw [hg.src,ha.id],?_⟩;rw [ha.r,cF];rcases ha.out with ⟨hk,_⟩|⟨_,e2,_⟩
 .exact hk.sent x hx
 .rw [e2] at hx;cases hx
theorem EB.more{l}(h:EB P l)(ha:lM P m rest j P'):EB P' (l++(aU (P.r j) m).2.send):=λx hx=>by
 rcases List.mem_append.1 hx with hx|hx
 .exact Int.le_trans (h x hx) (ha.up _)
 .obtain ⟨e1,e2⟩:=ha.NZ x hx;rw [e1,jo,e2];exact Int.le_refl _
theorem EC.arr(hx:EC i T a m)(ha:lM P m rest j P')(hi:i<3):j=a/\(Jf i T (aU (P.r j) m).2.send\/(P'.r a).term<=T):=by
 have QU:j=a:=by have:=ha.to;have:=hx.right.to;omega
 subst QU;refine ⟨rfl,?_⟩;obtain ⟨hj,hto,hr,hfl,hid,hwf,hout⟩:=ha;rcases hout with ⟨hk,_⟩|⟨_,_,hn⟩
 rotate_left 1
 .exact absurd hx.right hn
 by_cases hle:(P.r j).term<=T
 .right
  rw [hr,cF];have:=hk.term.2;have:=hx.term;omega
 left
 have t1:=(wG (P.r j) m).1;have t7:=BG (P.r j) m;have hsrc:=hx.src;have hne:=hx.right.src;have hT:=hx.term;have h1:=hx.right.term;have V9:=hwf.ok.gf;generalize hS:(aU (P.r j) m).2.send=S at hk ⊢;generalize hR:(aU (P.r j) m).1=R at hk;have hkk:=hx.kind;cases hk with
 | ρ v U k0 =>
  refine ⟨_,List.mem_singleton.2 rfl,?_,by show T<(af (P.r j) m).term;omega⟩;rw [t1,hid,hsrc];exact ES (id:=j) (to:=i) (kind:=1) hj hi (by omega) (by decide) (by omega) (by omega) (by decide) (by decide) U
 | mute vs hc=>omega
 | lead k1 _ _=>omega
 | old _ h1 =>
  refine ⟨_,List.mem_singleton.2 rfl,?_,by show T<(P.r j).term;omega⟩;unfold lA;rw [hid,hsrc];exact ES (id:=j) (to:=i) (kind:=3) hj hi (by omega) (by decide) (by omega) V9 (by decide) (by decide) false
 | deaf _ _ h3=>omega
 | pE _ h1 _ _=>omega
 | done _ h1 _ _ _ _=>omega
 | mZ r2 _ h1 _ _ _ _=>omega
 | back b8 _ _ _=>omega
 | fwd s b8 _ _ _ _ _=>omega
theorem EA.step(hT:KC i a b)(hD:eL P)(h:EA i T a b P)(he:P.fl=m :: rest)(ha:lM P m rest j P')(vn:eL P')(aTD:(P'.r i).term=T)(hro:(P'.r i).role≠0):EA i T a b P':=by
 have hfl:=ha.fl;cases h with
 | A pre o xa xw e ho a5m vu =>
  rw [he] at e;cases pre with
  | nil =>
   rw [List.nil_append] at e;injection e with e1 e2;subst e1 e2;obtain ⟨rfl,hd⟩:=a5m.arr ha hT.lt.1;refine .B (o++(aU (P.r j) m).2.send) xw (by rw [hfl];rfl) (ho.more ha) vu ?_;rcases hd with ⟨x,hx,hh⟩|hd
   .exact .inl ⟨x,List.mem_append_right _ hx,hh⟩
   .exact .inr hd
  | cons U pre =>
   rw [List.cons_append] at e;injection e with e1 e2;subst e1 e2;exact .A pre (o++(aU (P.r j) m).2.send) xa xw (by rw [hfl];simp) (ho.more ha) a5m vu
 | B o xw e ho vu hd =>
  rw [he] at e;injection e with e1 e2;subst e1 e2;obtain ⟨hjb,Ex⟩:=vu.arr ha hT.lt.1;refine .C ?_;rw [hfl];rcases hd with hd|hd
  .exact .inl (aHm hd)
  rcases Ex with ⟨x,hx,hh⟩|Ex
  .exact .inl ⟨x,List.mem_append_right _ hx,hh⟩
  have hall:∀ k,k<3->(P'.r k).term<=T:=λk hk=>by
   rcases hT.all k hk with rfl|rfl|rfl
   .omega
   .rw [ha.r,dD _ _ (by rw [hjb];exact hT.ne.2.2)];exact hd
   .exact Ex
  refine .inr ⟨hall,λx hx=>?_⟩;have h1:=ho.more ha x hx;have h2:=(vn.ends x (by rw [hfl];exact hx)).1;exact Int.le_trans h1 (hall _ (by omega))
 | C hc =>
  refine .C ?_;rw [hfl];rcases hc with ⟨x,hx,hr,hlt⟩|⟨h1,h2⟩
  .rw [he] at hx;rcases List.mem_cons.1 hx with rfl|hx
   .exfalso;have hji:j=i:=by have:=ha.to;have:=hr.to;omega
    subst hji;rcases ha.out with ⟨hk,_⟩|⟨_,_,hn⟩
    .refine hro ?_;rw [ha.r,cF];have:=ha.up j;have h3:(P.r j).term<=T:=by omega
     exact hk.dead (.inr (by omega))
    .exact hn hr
   .exact .inl ⟨x,List.mem_append_left _ hx,hr,hlt⟩
  .have hm:=h2 m (by rw [he];simp);have hj:(P'.r j).term<=T:=by
    rw [ha.r,cF];rcases ha.out with ⟨hk,_⟩|⟨e1,_,_⟩
    .have:=hk.term.2;have:=h1 j ha.hj;omega
    .rw [e1];exact h1 j ha.hj
   refine .inr ⟨λk hk=>?_,λx hx=>?_⟩
   .by_cases e:k=j
    .rw [e];exact hj
    .rw [ha.r,dD _ _ e];exact h1 k hk
   .rcases List.mem_append.1 hx with hx|hx
    .exact h2 x (by rw [he];simp [hx])
    .rw [(ha.NZ x hx).2];exact hj
theorem aPL(h:(P.r i).role=0)(ha:lM P m rest j P'):(P'.r i).role=0:=by
 rw [ha.r];by_cases e:i=j
 .subst e;rw [cF];rcases ha.out with ⟨hk,_⟩|⟨e1,_,_⟩
  .exact hk.dead (.inl h)
  .rw [e1];exact h
 .rw [dD _ _ e];exact h
def Dp(i:Nat)(T:Int)(a b:Nat)(P:cR):Prop:=(P.r i).role=0\/(Gb i T P/\EA i T a b P)
theorem Dp.step(hT:KC i a b)(hD:eL P)(h:Dp i T a b P)(he:P.fl=m :: rest)(ha:lM P m rest j P')(vn:eL P'):Dp i T a b P':=by
 rcases h with h|⟨h1,h2⟩
 .exact .inl (aPL h ha)
 .rcases h1.step hT.lt.1 hD he ha with h3|h3
  .exact .inl h3
  .exact .inr ⟨h3,h2.step hT hD he ha vn h3.tm h3.ro⟩
structure Calm(i:Nat)(P:cR):Prop where
 ro:(P.r i).role=2
 tm:∀ k,k<3->(P.r k).term<=(P.r i).term
 st:∀ k,k<3->k≠i->E9 (P.r i) k
 fl:P.fl=[]
theorem Dp.calm(hT:KC i a b)(h:Dp i T a b P)(hfl:P.fl=[])(hr:(P.r i).role=2):Calm i P:=by
 rcases h with h|⟨h1,h2⟩
 .omega
 refine ⟨hr,?_,λk hk hki=>?_,hfl⟩
 .cases h2 with
  | A pre o xa xw e _ _ _=>rw [hfl] at e;simp at e
  | B o xw e _ _ _=>rw [hfl] at e;cases e
  | C hc =>
   rcases hc with ⟨x,hx,_⟩|⟨h3,_⟩
   .rw [hfl] at hx;cases hx
   .rw [h1.tm];exact h3
 .rcases h1.cZ hr k hk hki with h|⟨x,hx,_⟩
  .exact h
  .rw [hfl] at hx;cases hx
end
theorem aB0{i}(hi:i<3):∃ a b,KC i a b/\bu i=[a,b]:=by
 have h:i=0\/i=1\/i=2:=by omega
 rcases h with rfl|rfl|rfl
 .exact ⟨1,2,⟨by decide,by decide,λk hk=>by omega⟩,rfl⟩
 .exact ⟨0,2,⟨by decide,by decide,λk hk=>by omega⟩,rfl⟩
 .exact ⟨0,1,⟨by decide,by decide,λk hk=>by omega⟩,rfl⟩
theorem eL.call{P}(h:eL P){i}(hi:i<3){x:aG × fN}(hx:x.1.bq)(hf:Fits (P.r i) x.1 x.2)(he:∀ {g:fK} {A:Int->Nat->Nat},c8 (lz P) g A->∃ g' n,kP (lz P) g A i x.1 x.2.send g' n)(hg:∀ a∈x.2.send,a.src=i/\(0<=a.to/\a.to<=2)/\Br i a)(h2:x.2.send.length<=2)(hc:P.fl.length+ir P+x.2.send.length+bw x.1<=298):eL (vj P i x)/\(vj P i x).r=put P.r i x.1/\(vj P i x).fl=P.fl++x.2.send:=by
 obtain ⟨g,A,hs⟩:=h.inv;have hw:=hs.m.wf;obtain ⟨d1,d2,d3⟩:=a3u P i x;have hall:zD 0 i P.fl x.2.send=P.fl++x.2.send:=Ym (λa ha=>a4h hi (hg a ha).2.2 (hg a ha).2.1) (by omega);rw [h.sp,hall] at d2;refine ⟨⟨?_,d3.trans h.sp,λa ha=>?_,?_⟩,d1,d2⟩
 .have hC:=a3T (C:=lz P) hw hi rfl (x:=x) hf (by show P.fl.length+_<=300;omega);obtain ⟨g',bK,h',_⟩:=hs.goes hi hx hf (he hs);rw [hC,a3d] at h';have e:lz { P with r:=put P.r i x.1,fl:=P.fl++x.2.send }=lz (vj P i x):=a3c d1.symm d2.symm;have h':c8 (lz { P with r:=put P.r i x.1,fl:=P.fl++x.2.send }) g' bK:=h';rw [e] at h';exact ⟨g',bK,h'⟩
 .rw [d2] at ha;rcases List.mem_append.1 ha with ha|ha
  .exact h.ends a ha
  .exact ⟨by rw [(hg a ha).1];omega,(hg a ha).2.1⟩
 .unfold ir at hc ⊢;rw [d2,d1,List.length_append];have hp:=Ta P.r hi x.1;omega
theorem eL.tick{P}(h:eL P){i}(hi:i<3)(hc:P.fl.length+ir P+3<=298):eL (jL P i)/\(jL P i).r=put P.r i (cr (P.r i)).1/\(jL P i).fl=P.fl++(cr (P.r i)).2.send:=by
 obtain ⟨g,A,hs⟩:=h.inv;obtain ⟨hw,hid⟩:=hs.m.wf.rep i hi;have hw:(P.r i).bq:=hw;have hid:(P.r i).id=i:=hid;have ht:=Nl hw;have hg:=S4 hw.ok;have hn:=aQk (P.r i);rw [hid] at hg hn;have h2:=(ZO (P.r i)).send;refine h.call hi ht.1 ht.2 (λhs=>aAx hs hi) (λa ha=>⟨(hg a ha).src,(hg a ha).to,hn a ha⟩) h2 ?_;have:bw (cr (P.r i)).1<=1:=by unfold bw;split<;>omega
 omega
theorem eL.aJX{P}(h:eL P){i}(hi:i<3)(hc:P.fl.length+ir P+3<=298)(ht:(P.r i).term<1099511627776):∃ a b T,KC i a b/\Dp i T a b (jL P i):=by
 obtain ⟨hD,e1,e2⟩:=h.tick hi hc;obtain ⟨a,b,hT,ho⟩:=aB0 hi;obtain ⟨g,A,hs⟩:=h.inv;obtain ⟨hw,hid⟩:=hs.m.wf.rep i hi;have hw:(P.r i).bq:=hw;have hid:(P.r i).id=i:=hid;have tK:(jL P i).r i=(cr (P.r i)).1:=by rw [e1,cF]
 have xG:=(Nl hw).1;by_cases h2:(P.r i).role=2
 .have A7:=hw.one (by rw [h2];decide);have ea:bT (P.r i)=[entriesOf (P.r i) a,entriesOf (P.r i) b]:=by unfold bT;rw [hid,ho];rfl
  rw [DI h2] at tK e2;have ra:=Il (k:=a) hw.ok hid hi hT.lt.2.1 hT.ne.1 h2 A7;have rb:=Il (k:=b) hw.ok hid hi hT.lt.2.2 hT.ne.2.1 h2 A7;have O3:∀ {k:Nat},Rel i (P.r i).term k (entriesOf (P.r i) k)->EC i (P.r i).term k (entriesOf (P.r i) k):=fun {k} r=>by
   rcases r with ⟨q1,bP,gC,jK⟩|⟨q,_⟩
   .exact ⟨bP,gC,jK,.inr q1⟩
   .have q:(2:Int)=3:=q;omega
  have e2:(jL P i).fl=P.fl++bT (P.r i):=e2;rw [ea] at e2;refine ⟨a,b,(P.r i).term,hT,.inr ⟨⟨by rw [tK],by rw [tK,h2];decide,λ_ k hk hki=>.inr ?_⟩,.A P.fl [] _ _ e2 (λx hx=>by cases hx) (O3 ra) (O3 rb)⟩⟩;rw [e2];rcases hT.all k hk with e|e|e
  .exact absurd e hki
  .exact ⟨_,List.mem_append_right _ List.mem_cons_self,by rw [e];exact ra⟩
  .exact ⟨_,List.mem_append_right _ (List.mem_cons_of_mem _ (List.mem_singleton.2 rfl)),by rw [e];exact rb⟩
 .have gu:¬ (P.r i).term=1099511627776:=by omega
  rw [DH h2 gu] at tK e2 xG;have e2:(jL P i).fl=P.fl++(bu (P.r i).id).map λk=>jS (e8 (P.r i)) k:=e2;rw [hid,ho] at e2;have A7:1<=(e8 (P.r i)).term:=xG.one (by show (1:Int)≠0;decide);have O3:∀ {k:Nat},k<3->k≠i->EC i (e8 (P.r i)).term k (jS (e8 (P.r i)) k):=fun {k} hk hki =>
   ⟨by show (((P.r i).id:Nat):Int)=i;rw [hid],rfl,a2h xG.ok A7 hk (by show (P.r i).id≠k;omega),.inl rfl⟩
  refine ⟨a,b,(e8 (P.r i)).term,hT,.inr ⟨⟨by rw [tK],by rw [tK];show (1:Int)≠0;decide,λh=>?_⟩,.A P.fl [] _ _ e2 (λx hx=>by cases hx) (O3 hT.lt.2.1 hT.ne.1) (O3 hT.lt.2.2 hT.ne.2.1)⟩⟩;rw [tK] at h;cases (show (1:Int)=2 from h)
theorem eL.settle{P}(h:eL P){i N}(hi:i<3)(hc:P.fl.length+ir P+3<=298)(ht:(P.r i).term<1099511627776)(hN:∀ k,k<3->(P.r k).log.length<=N){most}(hm:(P.fl.length+2)*(4*N+10)+(ir P+1)*(8*N+20)<=most.toNat):
  eL (gD P i most).1/\(gD P i most).1.fl=[]/\(((gD P i most).1.r i).role=2->Calm i (gD P i most).1):=by
 obtain ⟨a,b,T,hT,hF⟩:=h.aJX hi hc ht;obtain ⟨hD,e1,e2⟩:=h.tick hi hc;have hlen:∀ k,k<3->((jL P i).r k).log.length<=N:=λk hk=>by
  rw [e1];by_cases e:k=i
  .subst e;rw [cF,S6];exact hN k hk
  .rw [dD _ _ e];exact hN k hk
 have hps:=a8w hlen hD.ends;have h2:=(ZO (P.r i)).send;have hps:Fi (jL P i)<=most.toNat:=by
  refine Nat.le_trans hps (Nat.le_trans (Nat.add_le_add (Nat.mul_le_mul_right _ ?_) (Nat.mul_le_mul_right _ ?_)) hm)
  .rw [e2,List.length_append];omega
  .have hp:=Ta P.r hi (cr (P.r i)).1;have:bw (cr (P.r i)).1<=1:=by unfold bw;split<;>omega
   unfold ir;rw [e1];omega
 have hfl:=U4 _ most.toNat hD (Nat.le_refl _) hps;obtain ⟨k1,k2⟩:=C1 (Q:=Dp i T a b) (λP m rest j hD q he ha vn=>q.step hT hD he ha vn) most.toNat hD hF;exact ⟨k1,hfl,λhr=>k2.calm hT hfl hr⟩
theorem Gx(P):ir P<=3:=by
 unfold ir bw;split<;>split<;>split<;>omega
theorem cl.aHM{N D B G P}(h:cl N B D G P){i}(hi:i<3)(hr:(P.r i).role=2)(ht:∀ k,k<3->(P.r k).term<=(P.r i).term)(hc:(P.r i).υ=(P.r i).log.length):P.aQ=(P.r i).log.map aS.data:=by
 obtain ⟨g,A,hs,⟨K,t,e,hK⟩,lR⟩:=h.sure;have nC:=lR i hi;rw [hc] at nC;have hl:P.aQ.length=K.length:=by rw [e,List.length_map]
 rcases hK with h0|⟨t',p,uh,hle,hn,hk⟩
 .have hz:(P.r i).log.length=0:=by omega
  rw [e,List.eq_nil_of_length_eq_zero h0,List.eq_nil_of_length_eq_zero hz]
 .obtain ⟨hv,a,b,ha,hb,hab,pa,pb⟩:=uh;have hp:1<=p:=hv.1;have h1:=hs.a2 t' a ha (by omega);have h1:t'<=(P.r a).term:=h1;have h2:=ht a ha;have e5:=(hs.m.lead i hi hr);have Hu:ef g A (P.r i).term K K.length:=.inr ⟨t',p,⟨hv,a,b,ha,hb,hab,pa,pb⟩,by omega,hn,hk⟩;have h3:=hs.aAl Hu (Int.le_refl _) (by have:g.b5 (P.r i).term=i:=e5.1;rw [this];omega);have e2:g.φ (P.r i).term=(P.r i).log:=e5.2;rw [e2,List.take_length] at h3
  have hlen:(P.r i).log.length=K.length:=by omega
  rw [<-hlen,List.take_length] at h3;rw [e,h3.2]
def yA(i:Nat)(P:cR):Prop:=bB (P.r i).log (P.r i).log.length=(P.r i).term->(∃ k,k<3/\k≠i/\(P.r i).Ω k=(P.r i).log.length)->(P.r i).υ=(P.r i).log.length
theorem aN7{r n}(h:∀ k,r.Ω k<=n):qs r<=n:=by
 unfold qs bu;have h0:=h 0;have h1:=h 1;have h2:=h 2;split
 .show max (max 0 (r.Ω 1)) (r.Ω 2)<=n;omega
 split
 .show max (max 0 (r.Ω 0)) (r.Ω 2)<=n;omega
 .show max (max 0 (r.Ω 0)) (r.Ω 1)<=n;omega
structure vW(i:Nat)(T:Int)(L:List aS)(P:cR):Prop where
 li:Gb i T P
 ro:(P.r i).role=2
 log:(P.r i).log=L
 tm:∀ k,k<3->(P.r k).term<=T
 ms:∀ m∈P.fl,m.term<=T
 Tq:yA i P
section
variable {i:Nat}{T:Int}{L:List aS}{P P':cR}{m:aH}{rest:List aH}{j:Nat}
theorem yA.step(hi:i<3)(hw':(P'.r i).bA)(dV:1<=(P.r i).term)(h:yA i P)(h2:(P.r i).role=2)(ht:m.term<=(P.r i).term)(ha:lM P m rest j P'):yA i P':=by
 obtain ⟨hj,hto,hr,hfl,hid,hwf,hout⟩:=ha;by_cases hji:j=i
 rotate_left 1
 .have M0:P'.r i=P.r i:=by rw [hr,dD _ _ (Ne.symm hji)]
  unfold yA;rw [M0];exact h
 subst hji;have qh:P'.r j=(aU (P.r j) m).1:=by rw [hr,cF]
 rcases hout with ⟨hk,hright⟩|⟨e1,e2,tJ⟩
 rotate_left 1
 .unfold yA;rw [qh,e1];exact h
 have e:af (P.r j) m=P.r j:=JD (by omega);unfold yA at h ⊢;rw [qh] at hw' ⊢;generalize hR:(aU (P.r j) m).1=R at hk hw' ⊢;generalize hS:(aU (P.r j) m).2.send=S at hk;cases hk with
 | ρ v U k0=>rw [e];exact h
 | mute vs hc=>rw [e];exact h
 | lead k1 h1 h3=>omega
 | old k2 _=>exact h
 | deaf k2 _ _=>exact h
 | pE _ _ h3 _=>rw [e] at h3;exact absurd h2 h3
 | done _ _ h3 _ _ _=>rw [e] at h3;exact absurd h2 h3
 | mZ r2 _ _ h3 _ _ _=>rw [e] at h3;exact absurd h2 h3
 | back b8 h1 ht hy=>exact h
 | fwd s b8 h1 ht hy nD l7 =>
  obtain ⟨a1,a2,a3,a4,a5,a6,a7⟩:=wY (cB (P.r j) m);intro hT hex;obtain ⟨k,fy,hkj,hmk⟩:=hex;rw [a2,a6] at hT;rw [a2,a4] at hmk;rw [a2];have hge:=aN6 (r:=cB (P.r j) m) (by show (P.r j).id<3;rw [hid];exact hj) fy (by show k≠(P.r j).id;rw [hid];exact hkj);have hle:qs (cB (P.r j) m)<=(cB (P.r j) m).log.length:=aN7 λk=>by
   have:=(hwf.ok.next h1 k).2.2;show put (P.r j).Ω _ _ k<=(P.r j).log.length;unfold put;split
   .rename_i e;rw [e] at this;omega
   .exact this
  have cW:=hw'.υ;rw [a2] at cW;have hm:qs (cB (P.r j) m)=(cB (P.r j) m).log.length:=by omega
  have lR:=hwf.ok.υ;have lR:(cB (P.r j) m).υ<=(cB (P.r j) m).log.length:=lR;unfold cA;split
  .exact hm
  .rename_i hn;rw [hm,hT] at hn;simp at hn;omega
theorem vW.step(hi:i<3)(hD:eL P)(h:vW i T L P)(he:P.fl=m :: rest)(ha:lM P m rest j P')(vn:eL P'):vW i T L P':=by
 have hm:=h.ms m (by rw [he];simp);have pG:=h.li.tm;have hro:(P'.r i).role=2:=by
  rw [ha.r];by_cases e:i=j
  .subst e;rw [cF];rcases ha.out with ⟨hk,_⟩|⟨e1,_,_⟩
   .exact hk.MO h.ro (by omega)
   .rw [e1];exact h.ro
  .rw [dD _ _ e];exact h.ro
 have aKl:Gb i T P':=by
  rcases h.li.step hi hD he ha with h0|h1
  .omega
  .exact h1
 obtain ⟨g,A,hs⟩:=hD.inv;obtain ⟨g',bK,hs'⟩:=vn.inv;have hj:(P'.r j).term<=T:=by
  rw [ha.r,cF];rcases ha.out with ⟨hk,_⟩|⟨e1,_,_⟩
  .have:=hk.term.2;have:=h.tm j ha.hj;omega
  .rw [e1];exact h.tm j ha.hj
 refine ⟨aKl,hro,?_,λk hk=>?_,λx hx=>?_,h.Tq.step hi (hs'.m.wf.rep i hi).1.ok ((hs.m.wf.rep i hi).1.one (by show (P.r i).role≠0;rw [h.ro];decide)) h.ro (by omega) ha⟩
 .rw [ha.r];by_cases e:i=j
  .subst e;rw [cF];rcases ha.out with ⟨hk,_⟩|⟨e1,_,_⟩
   .have h0:(aU (P.r i) m).1.role≠0:=by
     rw [ha.r,cF] at hro;rw [hro];decide
    rw [(hk.live h0).2.1];exact h.log
   .rw [e1];exact h.log
  .rw [dD _ _ e];exact h.log
 .by_cases e:k=j
  .rw [e];exact hj
  .rw [ha.r,dD _ _ e];exact h.tm k hk
 .rw [ha.fl] at hx;rcases List.mem_append.1 hx with hx|hx
  .exact h.ms x (by rw [he];simp [hx])
  .rw [(ha.NZ x hx).2];exact hj
theorem aB7{r}(hok:r.bA)(hid:r.id=i)(hi:i<3)(hr:r.role=2)(ht:1<=r.term){fl}:∀ k,k<3->k≠i->∃ x∈fl++bT r,Rel i r.term k x:=λk hk hki =>
 ⟨_,List.mem_append_right _ ((PD hid hi).2 ⟨k,hk,hki,rfl⟩),Il hok hid hi hk hki hr ht⟩
theorem eL.A'(hD:eL P)(hi:i<3)(hr:(P.r i).role=2)(ht:∀ k,k<3->(P.r k).term<=(P.r i).term)(hm:∀ m∈P.fl,m.term<=(P.r i).term){data}(hd:data.size<=2000)(hl:(P.r i).log.length<4000)(hc:P.fl.length+ir P+2<=298):
  eL (tf P i data)/\vW i (P.r i).term ((P.r i).log++[⟨(P.r i).term,data⟩]) (tf P i data)/\(aq (P.r i) data).2.1=(((P.r i).log.length+1:Nat):Int)/\(aq (P.r i) data).2.2.1=0/\(tf P i data).fl.length=P.fl.length+2/\∀ k,k≠i->(tf P i data).r k=P.r k:=by
 obtain ⟨g,A,hs⟩:=hD.inv;obtain ⟨hw,hid⟩:=hs.m.wf.rep i hi;have hw:(P.r i).bq:=hw;have hid:(P.r i).id=i:=hid;have Vr:=Ig hw data;have hg:=RT hw data;have hn:=aOQ (P.r i) data;rw [hid] at hg hn;have LA:=yy (r:=P.r i) (data:=data) (by simpa using hr) (by omega) (by omega);have CB:bw (P.r i)=0:=if_neg (by omega);have h2:(aq (P.r i) data).2.2.2.send.length=2:=by
  rw [LA];show (bT _).length=2;unfold bT;rw [List.length_map];unfold bu;split<;>(try split)<;>rfl
 have hrl:(aq (P.r i) data).1=lU (P.r i) data:=by rw [LA]
 obtain ⟨d0,d1,d2⟩:=hD.call (x:=((aq (P.r i) data).1,(aq (P.r i) data).2.2.2)) hi Vr.1 Vr.2 (λhs=>a8v hs hi data) (λa ha=>⟨(hg a ha).src,(hg a ha).to,hn a ha⟩) (by show (aq (P.r i) data).2.2.2.send.length<=2;omega) (by
  show P.fl.length+ir P+(aq (P.r i) data).2.2.2.send.length+bw (aq (P.r i) data).1<=298;rw [h2,hrl,show bw (lU (P.r i) data)=bw (P.r i) from rfl,CB];omega)
 have d1:(tf P i data).r=put P.r i (aq (P.r i) data).1:=d1;have d2:(tf P i data).fl=P.fl++(aq (P.r i) data).2.2.2.send:=d2;have tK:(tf P i data).r i=lU (P.r i) data:=by rw [d1,cF,hrl]
 have l7:(aq (P.r i) data).2.2.2.send=bT (lU (P.r i) data):=by rw [LA]
 have hok:(lU (P.r i) data).bA:=by rw [<-hrl];exact Vr.1.ok
 have A7:=hw.one (by rw [hr];decide);refine ⟨d0,⟨⟨by rw [tK];rfl,by rw [tK];show (P.r i).role≠0;omega,λ_ k hk hki=>.inr ?_⟩,by rw [tK];exact hr,by rw [tK];rfl,λk hk=>?_,λx hx=>?_,λhT hex=>?_⟩,by rw [LA],by rw [LA],by rw [d2,List.length_append,h2],λk hk=>by rw [d1,dD _ _ hk]⟩
 .rw [d2,l7];exact aB7 hok hid hi hr A7 k hk hki
 .by_cases e:k=i
  .subst e;rw [tK];exact Int.le_refl _
  .rw [d1,dD _ _ e];exact ht k hk
 .rw [d2,l7] at hx;rcases List.mem_append.1 hx with hx|hx
  .exact hm x hx
  .obtain ⟨k,_,_,rfl⟩:=(PD (r:=lU (P.r i) data) hid hi).1 hx;exact Int.le_refl _
 .exfalso;obtain ⟨k,hk,hki,he⟩:=hex;rw [tK] at he;have:=(hw.ok.next hr k).2.2;have he:(P.r i).Ω k=((P.r i).log++[_]).length:=he;rw [List.length_append,List.length_singleton] at he;omega
theorem eL.aMi(hi:i<3)(hD:eL P)(hro:(P.r i).role=2)(gw:(P.r i).log=L)(pG:(P.r i).term=T)(W5:∀ k,k<3->(P.r k).term<=T)(AL:∀ m∈P.fl,m.term<=T)(hcm:yA i P)(hc:P.fl.length+ir P+3<=298):eL (jL P i)/\vW i T L (jL P i)/\(jL P i).fl.length=P.fl.length+2/\(jL P i).r=P.r:=by
 obtain ⟨d0,d1,d2⟩:=hD.tick hi hc;obtain ⟨g,A,hs⟩:=hD.inv;obtain ⟨hw,hid⟩:=hs.m.wf.rep i hi;have hw:(P.r i).bq:=hw;have hid:(P.r i).id=i:=hid;rw [DI hro] at d1 d2;have d2:(jL P i).fl=P.fl++bT (P.r i):=d2;have d1:(jL P i).r=P.r:=by rw [d1];exact Y0 _ _
 have A7:=hw.one (by rw [hro];decide);refine ⟨d0,⟨⟨by rw [d1];exact pG,by rw [d1,hro];decide,λ_ k hk hki=>.inr ?_⟩,by rw [d1];exact hro,by rw [d1];exact gw,λk hk=>by rw [d1];exact W5 k hk,λx hx=>?_,by unfold yA;rw [d1];exact hcm⟩,?_,d1⟩
 .rw [d2,<-pG];exact aB7 hw.ok hid hi hro A7 k hk hki
 .rw [d2] at hx;rcases List.mem_append.1 hx with hx|hx
  .exact AL x hx
  .obtain ⟨k,_,_,rfl⟩:=(PD hid hi).1 hx;show (P.r i).term<=T;omega
 .rw [d2,List.length_append]
  congr 1
  unfold bT;rw [List.length_map];unfold bu;split<;>(try split)<;>rfl
theorem eL.aMh{N}(hi:i<3)(hD:eL P)(hro:(P.r i).role=2)(gw:(P.r i).log=L)(pG:(P.r i).term=T)(W5:∀ k,k<3->(P.r k).term<=T)(AL:∀ m∈P.fl,m.term<=T)(hcm:yA i P)(hT:bB L L.length=T)(hc:P.fl.length+ir P+3<=298)(hN:∀ k,k<3->(P.r k).log.length<=N){most}(hm:(P.fl.length+2)*(4*N+10)+ir P*(8*N+20)<=most.toNat):
  eL (gD P i most).1/\vW i T L (gD P i most).1/\(gD P i most).1.fl=[]/\((gD P i most).1.r i).υ=L.length/\(∀ k,k<3->k≠i->E9 ((gD P i most).1.r i) k)/\∀ k,k<3->L.length<=((gD P i most).1.r k).log.length/\((gD P i most).1.r k).log.take L.length=L:=by
 obtain ⟨d0,d1,d2,d3⟩:=hD.aMi hi hro gw pG W5 AL hcm hc;have hps:=a8w (P:=jL P i) (N:=N) (by rw [d3];exact hN) d0.ends;have ea:ir (jL P i)=ir P:=by unfold ir;rw [d3]
 rw [d2,ea] at hps;have hfl:=U4 _ most.toNat d0 (Nat.le_refl _) (Nat.le_trans hps hm);obtain ⟨k1,k2⟩:=C1 (Q:=vW i T L) (λP m rest j hD q he ha vn=>q.step hi hD he ha vn) most.toNat d0 d1;have k1:eL (gD P i most).1:=k1;have k2:vW i T L (gD P i most).1:=k2;have hfl:(gD P i most).1.fl=[]:=hfl;generalize (gD P i most).1=Q at k1 k2 hfl;have hst:∀ k,k<3->k≠i->E9 (Q.r i) k:=λk hk hki=>by
  rcases k2.li.cZ k2.ro k hk hki with h|⟨x,hx,_⟩
  .exact h
  .rw [hfl] at hx;cases hx
 obtain ⟨a,b,Ew,_⟩:=aB0 hi;obtain ⟨g,A,hs⟩:=k1.inv;refine ⟨k1,k2,hfl,?_,hst,λk hk=>?_⟩
 .have:=k2.Tq (by rw [k2.log,k2.li.tm,hT]) ⟨a,Ew.lt.2.1,Ew.ne.1,(hst a Ew.lt.2.1 Ew.ne.1).1⟩;rw [this,k2.log]
 .by_cases e:k=i
  .subst e;rw [k2.log];exact ⟨Nat.le_refl _,List.take_length⟩
  .have pG:=k2.li.tm;have h1:=hs.a55 hi hk e k2.ro (show (Q.r k).term<=(Q.r i).term by have:=k2.tm k hk;omega);have h1:(Q.r i).Ω k<=(Q.r k).log.length/\(Q.r k).log.take ((Q.r i).Ω k)=(Q.r i).log.take ((Q.r i).Ω k):=h1;rw [(hst k hk e).1,k2.log,List.take_length] at h1;exact h1
theorem vW.settle{N}(hi:i<3)(hD:eL P)(h:vW i T L P)(hT:bB L L.length=T)(hc:P.fl.length+ir P+3<=298)(hN:∀ k,k<3->(P.r k).log.length<=N){most}(hm:(P.fl.length+2)*(4*N+10)+ir P*(8*N+20)<=most.toNat):
  eL (gD P i most).1/\vW i T L (gD P i most).1/\(gD P i most).1.fl=[]/\((gD P i most).1.r i).υ=L.length/\(∀ k,k<3->k≠i->E9 ((gD P i most).1.r i) k)/\∀ k,k<3->L.length<=((gD P i most).1.r k).log.length/\((gD P i most).1.r k).log.take L.length=L :=
 hD.aMh hi h.ro h.log h.li.tm h.tm h.ms h.Tq hT hc hN hm
end
end Go.Proofs.YtcmgeboolmmdkaaGreatDoor
end

