/-
 Parts of a checkpoint are read back.
-/
import Derived.Test.YtfijlibaeahlaaaGreatDoorKb10
import Derived.Test.YtfijlibaeahlaaaGreatDoorKb7
import Derived.Test.YtfijlibaeahlaaaGreatDoorKb6
open Go.Proofs.Tryz
set_option linter.unusedVariables false
set_option linter.unusedSimpArgs false
section
namespace Go.Proofs.YtfijlibaeahlaaaGreatDoor
open Go.Vc
def a2S(bA bB:Nat)(w:World)(J:Value->World->Prop):Prop:=∃ s:ByteArray,w.cell? (Addr.mk bA bB none)=some (Value.string s)/\J (Value.int IntKind.i64 (s.size:Int)) w
theorem aOY(bA bB:Nat)(w:World)(J:Value->World->Prop)(h:a2S bA bB w J):ω F.y7 #[aA bA bB] w λe w'=>∃ v,e=.returned v/\J v w' :=
 aJ4 (H:={ keep:=some [0,2] }) (by rw [show Ry prog { keep:=some [0,2] } F.y7 #[aA bA bB] w J=a2S bA bB w J by kernel_rfl];exact h)
theorem Ta{w:World}{b:Nat}{l:List UInt8}(h:w.cell? ⟨b,0,none⟩=some (.string (bs l))):∀ w2,w2=w->ω F.y7 #[aA b 0] w2 λe w'=>e=.returned (.int .i64 (l.length:Int))/\w'=w:=by
 rintro w2 rfl;exact (aOY b 0 w2 (λu w'=>u=.int .i64 (l.length:Int)/\w'=w2) ⟨bs l,h,by rw [dx],rfl⟩).mono λe w' ⟨v,h1,h2,h3⟩=>⟨by rw [h1,h2],h3⟩
abbrev bM(k b:Nat):Own:=.blk k [aA b 0,.bool false] 87
section
variable {W w:World}{S G:List Own}{Φ:Y}{b:Nat}
theorem jH{Ψ:Y}[O Ψ]{l R:List Own}(h:l.Sublist R)(B:Ctx W w (R++G) Ψ):Ctx W w (l++G) (λ_ _=>True):=(B.weak λ_ _ _=>trivial).sub (h.append (List.Sublist.refl _))
theorem de{Ψ:Y}[O Ψ]{o:Own}{R:List Own}(h:o∈R)(B:Ctx W w (R++G) Ψ):Ctx W w ([o]++G) (λ_ _=>True):=jH (List.singleton_sublist.2 h) B
theorem rY[O Φ](hΦ:∀ M w,Φ M w->fG M w){n:Int}{r:List UInt8}(h:V n)(hl:((aK n).data.toList++r).length<=10000000)(c:Ctx W w (rd b ((aK n).data.toList++r,false) :: S++G) Φ){K:Int->List Own->Y->Prop}
  (hk:K n (rd b (r,false) :: S) Φ) :
  ω F.iO #[aA b 0] w λe w'=>∃ n,e=.returned (.int .i64 n)/\∃ R' Z,O Z/\Ctx W w' (R'++G) Z/\K n R' Z :=
 tG hΦ (Nat.le_trans hl (by decide)) c (by rw [uA h];exact hk)
theorem UD[O Φ](hΦ:∀ M w,Φ M w->fG M w){n:Nat}{r:List UInt8}(hl:((cY (n:Int)).data.toList++r).length<=10000000)(h:n<=1000)(c:Ctx W w (rd b ((cY (n:Int)).data.toList++r,false) :: S++G) Φ){K:Int->List Own->Y->Prop}
  (hk:K n (rd b (r,false) :: S) Φ) :
  ω F.Ap #[aA b 0] w λe w'=>∃ n,e=.returned (.int .i64 n)/\∃ R' Z,O Z/\Ctx W w' (R'++G) Z/\K n R' Z :=
 UE hΦ (Nat.le_trans hl (by decide)) c (by rw [YJ (by omega)];exact hk)
theorem Ex[O Φ](hΦ:∀ M w,Φ M w->fG M w){s:ByteArray}{r:List UInt8}(hl:((bx s).data.toList++r).length<=10000000)(h:s.size<=1000000000000)(c:Ctx W w (rd b ((bx s).data.toList++r,false) :: S++G) Φ){K:ByteArray->List Own->Y->Prop}
  (hk:K s (rd b (r,false) :: S) Φ) :
  ω F.sR #[aA b 0] w λe w'=>∃ n,e=.returned (.string n)/\∃ R' Z,O Z/\Ctx W w' (R'++G) Z/\K n R' Z :=
 OO hΦ (Nat.le_trans hl (by decide)) c (by rw [Rp (by omega)];exact hk)
theorem oJ[O Φ](hΦ:∀ M w,Φ M w->fG M w){l:List Int}{r:List UInt8}(h:l.length<=1000/\∀ y∈l,V y)(hl:(iI l++r).length<=10000000)(c:Ctx W w (rd b (iI l++r,false) :: S++G) Φ){K:Option Addr->Nat->Nat->List Own->Y->Prop}
  (hk:∀ p c,l.length<=c->c<=maxLen->O (λM w=>Φ M w/\ζ M w p l)->K p l.length c (rd b (r,false) :: S) (λM w=>Φ M w/\ζ M w p l)) :
  ω F.mK #[aA b 0] w λe w'=>∃ p n c,e=.returned (.slice p n c)/\∃ R' Z,O Z/\Ctx W w' (R'++G) Z/\K p n c R' Z :=
 aOT hΦ hl (aXp h.2 (by have:=h.1;omega)) c hk
theorem a2P[O Φ](hN:∀ M w,Φ M w->fG M w){k:Nat}{m:bP}(hg:Good m){t:List UInt8}(hl:((bx (fK m)).data.toList++t).length<=10000000)(B:Ctx W w (bM k b :: rd b ((bx (fK m)).data.toList++t,false) :: S) Φ){K:c6}
  (hk:∀ p c w',m.ξ.length<=c->c<=maxLen->Ctx W w' (bM k b :: rd b (t,false) :: S) (λM w=>Φ M w/\ζ M w p m.ξ)->K (.returned (m.v p c)) w') :
  ω F.Ov #[aA k 0] w K:=by
 refine cn (aM7 k 0 (J:=K∘.returned) B ?_);clear B;have hs:=hg.msg;refine λ_ w G B=>⟨some ⟨b,0,none⟩,B.get 0 rfl rfl,λw G B=>Ex (S:=bM k b :: S) hN hl (by omega) B.swap λw G B=>?_⟩;have h3:=aPS (S:=rd b (t,false) :: bM k b :: S++G) hN (fK m).data.toList hg.aXQ B (K:=λwj Ad=>∃ dV n15 n16 n17 n18 mD ec dI tO,wj=Ending.returned (.tuple #[.agg #[.int .i64 dV,.int .i64 n15,.int .i64 n16,.int .i64 n17,.int .i64 n18,.slice mD ec dI],.bool tO])/\∃ eS jh,O jh/\Ctx W Ad (eS++G) jh/\((dV,n15,n16,n17,n18,ec)=(m.kind,m.node,m.dS,m.bucket,m.n,m.ξ.length)/\tO=true/\eS=rd b (t,false) :: bM k b :: S/\jh=(λM w=>Φ M w/\ζ M w mD m.ξ)/\m.ξ.length<=dI/\dI<=maxLen)) (λh0=>by rw [hg.read] at h0;cases h0) (λm' p c w hm _ l1 l2 B=>by
  rw [hg.read] at hm;cases hm;exact ⟨_,_,_,_,_,p,_,c,true,rfl,_,_,γ,B,rfl,rfl,rfl,rfl,l1,l2⟩)
 rw [a58] at h3;refine h3.mono λe w' h=>?_;obtain ⟨dV,n15,n16,n17,n18,mD,ec,dI,tO,he,eS,jh,st,B,e1,rfl,rfl,rfl,l1,l2⟩:=h;cases e1;refine ⟨_,_,_,_,_,mD,_,dI,true,he,_,_,st,B,λ_ w G B=>⟨false,B.get 1 rfl rfl,U.intro (λh=>by cases h) (λ_=>λw G B=>⟨B.can 1 rfl (by show 0+1+1<=2;omega),λw' hw'=>⟨rd b (t,false) :: .blk k ([aA b 0,.bool false].set (0+1) (.bool (!true))) 87 :: S,_,st,B.put 1 hw' rfl,λw G B=>hk mD dI w l1 l2 ?_⟩⟩)⟩⟩
 exact Ctx.left (F:=G) B.swap
end
theorem a89(h:ah)(t:List UInt8):qi h++t=(aK h.node).data.toList++((aK h.worker).data.toList++((bx h.state).data.toList++((cY (h.out.length:Int)).data.toList++(eB h.out++t)))):=by
 unfold qi x8;simp only [IV,aq]
theorem aIH(h:dw)(t:List UInt8):w7 h++t=(aK h.worker).data.toList++((bx (fK h.msg)).data.toList++t):=by
 unfold w7;simp only [aq]
theorem a7B(h:bn)(t:List UInt8):vK h++t=(aK h.ch).data.toList++((bx (fK h.msg)).data.toList++t):=by
 unfold vK;simp only [aq]
theorem a8D{l:List ah}{i:Nat}(h:i<l.length):cZ (l.drop i)=qi l[i]++cZ (l.drop (i+1)):=by
 unfold cZ;rw [List.drop_eq_getElem_cons h,List.flatMap_cons]
theorem aEU{l:List dw}{i:Nat}(h:i<l.length):eB (l.drop i)=w7 l[i]++eB (l.drop (i+1)):=by
 unfold eB;rw [List.drop_eq_getElem_cons h,List.flatMap_cons]
theorem a7E{l:List bn}{i:Nat}(h:i<l.length):e8 (l.drop i)=vK l[i]++e8 (l.drop (i+1)):=by
 unfold e8;rw [List.drop_eq_getElem_cons h,List.flatMap_cons]
theorem aQj(x:ei):qa x=(aK x.n).data.toList++((aK x.kind).data.toList++(iI x.place++(iI x.pos++(iI x.closed++((cY (x.held.length:Int)).data.toList++(cZ x.held++((cY (x.δ.length:Int)).data.toList++(e8 x.δ++((bx (bs (bQ x.output))).data.toList++[]))))))))):=by
 unfold qa zE nj;simp only [IV,aq,List.append_nil]
theorem X9(n:Int)(t:List UInt8):0<((aK n).data.toList++t).length:=by
 rw [List.length_append,cF];have:0<(aK n).size:=by unfold aK;rw [av];show 0<_+1;omega
 omega
structure a29(x:ei):Prop where
 len:(qa x).length<=10000000
 rd:sL (bQ x.output)=some x.output
 fit:Nw (bQ x.output)
abbrev oz(kh:Nat)(h:ah)(op:Option Addr)(on aN:Nat):Own:=.blk kh [.int .i64 h.node,.int .i64 h.worker,.string h.state,.slice op on aN] 36
structure aNo(p:kF)(x:ei)(M:List Nat)(w:World):Prop where
 place:ζ M w p.pp x.place
 pos:ζ M w p.ak x.pos
 closed:ζ M w p.rp x.closed
instance(p:kF)(x:ei):O (λM w=>aNo p x M w):=⟨λhs h=>⟨h.place.eK hs,h.pos.eK hs,h.closed.eK hs⟩⟩
theorem o7{a b:List UInt8}{n:Nat}(h:(a++b).length<=n):b.length<=n:=by rw [List.length_append] at h;omega
theorem aVn(l:List ah)(i:Nat):(cZ (l.drop i)).length<=(cZ l).length:=by
 have:cZ l=cZ (l.take i)++cZ (l.drop i):=by unfold cZ;rw [<-List.flatMap_append,List.take_append_drop]
 rw [this,List.length_append];omega
theorem aXz(l:List dw)(i:Nat):(eB (l.drop i)).length<=(eB l).length:=by
 have:eB l=eB (l.take i)++eB (l.drop i):=by unfold eB;rw [<-List.flatMap_append,List.take_append_drop]
 rw [this,List.length_append];omega
theorem aV7(l:List bn)(i:Nat):(e8 (l.drop i)).length<=(e8 l).length:=by
 have:e8 l=e8 (l.take i)++e8 (l.drop i):=by unfold e8;rw [<-List.flatMap_append,List.take_append_drop]
 rw [this,List.length_append];omega
section
variable {a o1 o2 gj YL:Own}{R:List Own}
theorem Fz:(a :: o1 :: o2 :: R).Perm (o1 :: o2 :: a :: R):=(List.perm_middle (l₁:=[o1,o2])).symm
theorem xU:(a :: o1 :: o2 :: gj :: R).Perm (o1 :: o2 :: gj :: a :: R):=(List.perm_middle (l₁:=[o1,o2,gj])).symm
theorem aCR:(a :: o1 :: o2 :: gj :: YL :: R).Perm (o1 :: o2 :: gj :: YL :: a :: R):=(List.perm_middle (l₁:=[o1,o2,gj,YL])).symm
end
section
variable {W w:World}{S G:List Own}{Φ:Y}
set_option maxHeartbeats 4000000 in
theorem aPR[O Φ](hN:∀ M w,Φ M w->fG M w){x:ei}(hg:uh x)(hr:a29 x)(c:Ctx W w S Φ){K:c6}
  (hk:∀ p w',TB p x->Ctx W w' S (λM w=>Φ M w/\bt p x M w)->K (.returned (.tuple #[tP p x,.bool true])) w') :
  ω F.BR #[.string (bs (qa x))] w K:=by
 refine cn (aM3 (bs (qa x)) (J:=K∘.returned) (R:=S) c ?_);clear c;obtain ⟨t9,h9⟩:∃ t,t=(bx (bs (bQ x.output))).data.toList++[]:=⟨_,rfl⟩;obtain ⟨t7,h7⟩:∃ t,t=(cY (x.δ.length:Int)).data.toList++(e8 x.δ++t9):=⟨_,rfl⟩;obtain ⟨t5,h5⟩:∃ t,t=(cY (x.held.length:Int)).data.toList++(cZ x.held++t7):=⟨_,rfl⟩;have e0:qa x=(aK x.n).data.toList++((aK x.kind).data.toList++(iI x.place++(iI x.pos++(iI x.closed++t5)))):=by rw [aQj,h5,h7,h9]
 have b0:=hr.len;rw [e0] at b0;have b1:=o7 b0;have b2:=o7 b1;have b3:=o7 b2;have b4:=o7 b3;have BK:=o7 b4;rw [h5] at BK;have a4w:=o7 BK;have UQ:=o7 a4w;rw [h7] at UQ;have UR:=o7 UQ;have a50:=o7 UR;rw [h9] at a50;refine λ_ w G B=>Ny (qa x) B λb w B=>⟨_,rfl,rd b ((aK x.n).data.toList++((aK x.kind).data.toList++(iI x.place++(iI x.pos++(iI x.closed++t5)))),false) :: S,Φ,γ,e0 ▸ B,λaG=>?_⟩;clear B;refine bK (λkc o R' Z=>o=0/\∃ pp pc ak qc rp rc,R'=.blk kc [.int .i64 x.n,.int .i64 x.kind,.slice pp x.place.length pc,.slice ak x.pos.length qc,.slice rp x.closed.length rc,.slice none 0 0,.slice none 0 0,.slice none 0 0] 27 :: rd b (t5,false) :: bM aG b :: S/\Z=(λM w=>((Φ M w/\ζ M w pp x.place)/\ζ M w ak x.pos)/\ζ M w rp x.closed)/\(x.place.length<=pc/\pc<=maxLen)/\(x.pos.length<=qc/\qc<=maxLen)/\(x.closed.length<=rc/\rc<=maxLen)) ⟨?_,?_⟩
 .have leaf : ∀ {k : Nat} {pp : Option Addr} {pc : Nat} {ak : Option Addr} {qc : Nat} {rp : Option Addr} {rc : Nat} {w : World} {G : List Own}, (x.place.length <= pc /\ pc <= maxLen) -> (x.pos.length <= qc /\ qc <= maxLen) -> (x.closed.length <= rc /\ rc <= maxLen) -> Ctx W w ((Own.blk k [.int .i64 0, .int .i64 0, .slice none 0 0, .slice none 0 0, .slice none 0 0, .slice none 0 0, .slice none 0 0, .slice none 0 0] 27 :: rd b (t5, false) :: bM aG b :: S) ++ G) (λM w => ((Φ M w /\ ζ M w pp x.place) /\ ζ M w ak x.pos) /\ ζ M w rp x.closed) ->
    bJ w k 0 8/\∀ kg,kg=w.setCells k 0 [.int .i64 x.n,.int .i64 x.kind,.slice pp x.place.length pc,.slice ak x.pos.length qc,.slice rp x.closed.length rc,.slice none 0 0,.slice none 0 0,.slice none 0 0]->∃ e6 e5,O e5/\Ctx W kg (e6++G) e5/\∃ dr ep,O ep/\(∀ jf gD,Ctx W jf (e6++gD) e5->Ctx W jf (dr++gD) ep) /\
     ((0:Nat)=0/\∃ pp pc ak qc rp rc,dr=.blk k [.int .i64 x.n,.int .i64 x.kind,.slice pp x.place.length pc,.slice ak x.pos.length qc,.slice rp x.closed.length rc,.slice none 0 0,.slice none 0 0,.slice none 0 0] 27 :: rd b (t5,false) :: bM aG b :: S/\ep=(λM w=>((Φ M w/\ζ M w pp x.place)/\ζ M w ak x.pos)/\ζ M w rp x.closed)/\(x.place.length<=pc/\pc<=maxLen)/\(x.pos.length<=qc/\qc<=maxLen)/\(x.closed.length<=rc/\rc<=maxLen)):=by
   intro k pp pc ak qc rp rc w G l1 l2 l3 B;exact ⟨B.can 0 rfl (by show 0+8<=8;omega),λw' hw'=>⟨.blk k [.int .i64 x.n,.int .i64 x.kind,.slice pp x.place.length pc,.slice ak x.pos.length qc,.slice rp x.closed.length rc,.slice none 0 0,.slice none 0 0,.slice none 0 0] 27 :: rd b (t5,false) :: bM aG b :: S,_,γ,B.RH 0 hw' rfl,_,_,γ,λw G B=>B,rfl,pp,pc,ak,qc,rp,rc,rfl,rfl,l1,l2,l3⟩⟩
  refine ⟨[bM aG b],λ_ _=>True,γ,(λw G B=>de (by simp) B),some ⟨b,0,none⟩,λw G B=>⟨_,B.get 0 rfl rfl,rfl⟩,some ⟨b,0,none⟩,λw G B=>⟨_,B.get 0 rfl rfl,rfl⟩,some ⟨b,0,none⟩,λw G B=>⟨_,B.get 0 rfl rfl,rfl⟩,some ⟨b,0,none⟩,λw G B=>⟨_,B.get 0 rfl rfl,rfl⟩,some ⟨b,0,none⟩,λw G B=>⟨_,B.get 0 rfl rfl,rfl⟩,?_,?_⟩
  .refine λw G B=>rY (S:=bM aG b :: S) hN hg.n b0 B.swap ⟨(λw G B=>de (by simp) B),λw G B=>rY (S:=bM aG b :: S) hN hg.kind b1 B ⟨(λw G B=>de (by simp) B),λw G B=>oJ (S:=bM aG b :: S) hN hg.place b2 B λpp pc l1 xR jd=>⟨(λw G B=>de (by simp) B),λw G B=>oJ (S:=bM aG b :: S) (λM w h=>hN M w h.1) hg.pos b3 B λak qc l2 vi nF=>⟨(λw G B=>de (by simp) B),λw G B=>oJ (S:=bM aG b :: S) (λM w h=>hN M w h.1.1) hg.closed b4 B λrp rc l3 p4 sP=>⟨(λw G B=>de (by simp) B),λk=>⟨(λw G B=>de (by simp) B),λw G B=>leaf ⟨l1,xR⟩ ⟨l2,vi⟩ ⟨l3,p4⟩ B⟩,trivial⟩,?_⟩,?_⟩,?_⟩,?_⟩
   .exact ⟨λk=>⟨(λw G B=>de (by simp) B),λw G B=>oJ (S:=.blk k _ 27 :: bM aG b :: S) (λM w h=>hN M w h.1.1) hg.closed b4 B.swap λrp rc l3 p4 sP=>⟨(λw G B=>de (by simp) B),λw G B=>leaf ⟨l1,xR⟩ ⟨l2,vi⟩ ⟨l3,p4⟩ B.swap⟩,trivial⟩,trivial⟩
   .exact ⟨λk=>⟨(λw G B=>de (by simp) B),λw G B=>oJ (S:=.blk k _ 27 :: bM aG b :: S) (λM w h=>hN M w h.1) hg.pos b3 B.swap λak qc l2 vi nF=>⟨(λw G B=>de (by simp) B),λw G B=>oJ (S:=.blk k _ 27 :: bM aG b :: S) (λM w h=>hN M w h.1.1) hg.closed b4 B λrp rc l3 p4 sP=>⟨(λw G B=>de (by simp) B),λw G B=>leaf ⟨l1,xR⟩ ⟨l2,vi⟩ ⟨l3,p4⟩ B.swap⟩,trivial⟩,trivial⟩,trivial⟩
   .exact ⟨λk=>⟨(λw G B=>de (by simp) B),λw G B=>oJ (S:=.blk k _ 27 :: bM aG b :: S) hN hg.place b2 B.swap λpp pc l1 xR jd=>⟨(λw G B=>de (by simp) B),λw G B=>oJ (S:=.blk k _ 27 :: bM aG b :: S) (λM w h=>hN M w h.1) hg.pos b3 B λak qc l2 vi nF=>⟨(λw G B=>de (by simp) B),λw G B=>oJ (S:=.blk k _ 27 :: bM aG b :: S) (λM w h=>hN M w h.1.1) hg.closed b4 B λrp rc l3 p4 sP=>⟨(λw G B=>de (by simp) B),λw G B=>leaf ⟨l1,xR⟩ ⟨l2,vi⟩ ⟨l3,p4⟩ B.swap⟩,trivial⟩,trivial⟩,trivial⟩,trivial⟩
   .exact ⟨λk=>⟨(λw G B=>de (by simp) B),λw G B=>rY (S:=.blk k _ 27 :: bM aG b :: S) hN hg.kind b1 B.swap ⟨(λw G B=>de (by simp) B),λw G B=>oJ (S:=.blk k _ 27 :: bM aG b :: S) hN hg.place b2 B λpp pc l1 xR jd=>⟨(λw G B=>de (by simp) B),λw G B=>oJ (S:=.blk k _ 27 :: bM aG b :: S) (λM w h=>hN M w h.1) hg.pos b3 B λak qc l2 vi nF=>⟨(λw G B=>de (by simp) B),λw G B=>oJ (S:=.blk k _ 27 :: bM aG b :: S) (λM w h=>hN M w h.1.1) hg.closed b4 B λrp rc l3 p4 sP=>⟨(λw G B=>de (by simp) B),λw G B=>leaf ⟨l1,xR⟩ ⟨l2,vi⟩ ⟨l3,p4⟩ B.swap⟩,trivial⟩,trivial⟩,trivial⟩,trivial⟩,trivial⟩
  .exact ⟨λk=>⟨(λw G B=>de (by simp) B),λw G B=>rY (S:=.blk k _ 27 :: bM aG b :: S) hN hg.n b0 (B.perm Fz.symm) ⟨(λw G B=>de (by simp) B),λw G B=>rY (S:=.blk k _ 27 :: bM aG b :: S) hN hg.kind b1 B ⟨(λw G B=>de (by simp) B),λw G B=>oJ (S:=.blk k _ 27 :: bM aG b :: S) hN hg.place b2 B λpp pc l1 xR jd=>⟨(λw G B=>de (by simp) B),λw G B=>oJ (S:=.blk k _ 27 :: bM aG b :: S) (λM w h=>hN M w h.1) hg.pos b3 B λak qc l2 vi nF=>⟨(λw G B=>de (by simp) B),λw G B=>oJ (S:=.blk k _ 27 :: bM aG b :: S) (λM w h=>hN M w h.1.1) hg.closed b4 B λrp rc l3 p4 sP=>⟨(λw G B=>de (by simp) B),λw G B=>leaf ⟨l1,xR⟩ ⟨l2,vi⟩ ⟨l3,p4⟩ B.swap⟩,trivial⟩,trivial⟩,trivial⟩,trivial⟩,trivial⟩,trivial⟩
 rintro kc o ν θ jd ⟨rfl,pp,pc,ak,qc,rp,rc,rfl,rfl,l1,l2,l3⟩;clear b0 b1 b2 b3 b4 e0;obtain ⟨Ψ,hΨ⟩:∃ Ψ:Y,Ψ=(λM w=>((Φ M w/\ζ M w pp x.place)/\ζ M w ak x.pos)/\ζ M w rp x.closed):=⟨_,rfl⟩;have bw:O Ψ:=by rw [hΨ];infer_instance
 have Xs:∀ M w,Ψ M w->((Φ M w/\ζ M w pp x.place)/\ζ M w ak x.pos)/\ζ M w rp x.closed:=λM w h=>by rw [hΨ] at h;exact h
 have vh:∀ M w,Ψ M w->fG M w:=λM w h=>hN M w (Xs M w h).1.1.1;rw [<-hΨ];clear hΨ jd;obtain ⟨gL,hkc⟩:∃ f:Option Addr->Nat->Nat->Option Addr->Nat->Nat->Own,f=λhp hn hc fp fn b6=>.blk kc [.int .i64 x.n,.int .i64 x.kind,.slice pp x.place.length pc,.slice ak x.pos.length qc,.slice rp x.closed.length rc,.slice hp hn hc,.slice fp fn b6,.slice none 0 0] 27:=⟨_,rfl⟩;have hkv:∀ hp hn hc fp fn b6,gL hp hn hc fp fn b6=.blk kc [.int .i64 x.n,.int .i64 x.kind,.slice pp x.place.length pc,.slice ak x.pos.length qc,.slice rp x.closed.length rc,.slice hp hn hc,.slice fp fn b6,.slice none 0 0] 27:=λ_ _ _ _ _ _=>by rw [hkc]
 rw [<-hkv];clear hkc;subst h5;refine λw G B=>⟨some ⟨b,0,none⟩,B.get 2 rfl rfl,λw G B=>UD (S:=gL none 0 0 none 0 0 :: bM aG b :: S) vh BK hg.held.1 B.swap ?_⟩;clear B;refine bK (λR' Z k=>∃ (i:Nat) (hp:Option Addr) (hc:Nat) (hcs:List Value),i<=x.held.length/\R'=rd b (cZ (x.held.drop i)++t7,false) :: gL hp i hc none 0 0 :: bM aG b :: .buf hp i hc hcs 36 4 :: S/\Z=(λM w=>Ψ M w/\Δ M w hcs (x.held.take i))/\k=x.held.length - i) ⟨⟨_,λM w=>Ψ M w/\Δ M w [] (x.held.take 0),_,γ,λw G B=>((B.sI 36 4).perm xU).weak λM w h=>⟨h,Δ.nil⟩,0,none,0,[],Nat.zero_le _,rfl,rfl,rfl⟩,?_⟩
 rintro ν θ k _ ⟨i,hp,hc,hcs,hi,rfl,rfl,rfl⟩;obtain ⟨sX,QF⟩:∃ sX:Y,sX=(λM w=>Ψ M w/\Δ M w hcs (x.held.take i)):=⟨_,rfl⟩;have jd:O sX:=by rw [QF];infer_instance
 have k1:∀ M w,sX M w->Ψ M w/\Δ M w hcs (x.held.take i):=λM w h=>by rw [QF] at h;exact h
 rw [<-QF];refine λw G B=>⟨hp,i,hc,?_,false,λ_=>B.get 2 rfl rfl,some ⟨b,0,none⟩,λ_=>B.get 2 rfl rfl,((cZ (x.held.drop i)++t7).length:Int),λ_=>Ta (B.get 0 rfl rfl),U.intro (λhlt=>?_) (λhge=>?_)⟩
 .rw [hkv] at B;exact B.get 1 rfl rfl
 .clear B;have hlt:i<x.held.length:=by
   simp only [Bool.not_false,Bool.and_true,Bool.and_eq_true,decide_eq_true_eq] at hlt;omega
  have hb:(cZ (x.held.drop i)++t7).length<=10000000:=by
   have:=aVn x.held i;rw [List.length_append] at a4w ⊢;omega
  have tv:cZ (x.held.drop i)++t7=qi x.held[i]++(cZ (x.held.drop (i+1))++t7):=by rw [a8D hlt,aq]
  rw [tv] at hb ⊢;have hh:=hg.held.2 _ (List.getElem_mem hlt);have hsz:=hg.held.1;obtain ⟨rest,C4⟩:∃ r,r=cZ (x.held.drop (i+1))++t7:=⟨_,rfl⟩;rw [<-C4] at hb ⊢;obtain ⟨h,Wg⟩:∃ h,h=x.held[i]:=⟨_,rfl⟩;rw [<-Wg] at hh hb ⊢;clear tv;rw [a89] at hb ⊢;have eA:=o7 hb;have od:=o7 eA;have Bx:=o7 od;have FR:=o7 Bx;have hst:=hh.state;have uF:∀ M w,sX M w->fG M w:=λM w h=>vh M w (k1 M w h).1;obtain ⟨oO,Pn⟩:∃ L,L=gL hp i hc none 0 0 :: bM aG b :: .buf hp i hc hcs 36 4 :: S:=⟨_,rfl⟩
  have hm:bM aG b∈oO:=by rw [Pn];simp
  have aVs:∀ {w:World} {G:List Own} {l:List UInt8},Ctx W w ((rd b (l,false) :: oO)++G) sX->w.cell? (Addr.mk aG 0 none)=some (aA b 0):=λB=>by rw [Pn] at B;exact B.get 2 rfl rfl
  rw [<-Pn];refine bK (λkh o R' Z=>o=0/\R'=oz kh h none 0 0 :: rd b ((cY (h.out.length:Int)).data.toList++(eB h.out++rest),false) :: oO/\Z=sX) ⟨?_,?_⟩
  .have leaf : ∀ {k : Nat} {w : World} {G : List Own}, Ctx W w ((Own.blk k [.int .i64 0, .int .i64 0, .string (ByteArray.mk #[]), .slice none 0 0] 36 :: rd b ((cY (h.out.length : Int)).data.toList ++ (eB h.out ++ rest), false) :: oO) ++ G) sX ->
     bJ w k 0 4/\∀ kg,kg=w.setCells k 0 [.int .i64 h.node,.int .i64 h.worker,.string h.state,.slice none 0 0]->∃ e6 e5,O e5/\Ctx W kg (e6++G) e5/\∃ dr ep,O ep/\(∀ jf gD,Ctx W jf (e6++gD) e5->Ctx W jf (dr++gD) ep) /\
      ((0:Nat)=0/\dr=oz k h none 0 0 :: rd b ((cY (h.out.length:Int)).data.toList++(eB h.out++rest),false) :: oO/\ep=sX):=by
    intro k w G B;exact ⟨B.can 0 rfl (by show 0+4<=4;omega),λw' hw'=>⟨oz k h none 0 0 :: rd b ((cY (h.out.length:Int)).data.toList++(eB h.out++rest),false) :: oO,sX,jd,B.RH 0 hw' rfl,_,_,jd,λw G B=>B,rfl,rfl,rfl⟩⟩
   refine ⟨[bM aG b],λ_ _=>True,γ,λw G B=>de (.tail _ hm) B,some ⟨b,0,none⟩,λw G B=>⟨_,B.get 0 rfl rfl,rfl⟩,some ⟨b,0,none⟩,λw G B=>⟨_,B.get 0 rfl rfl,rfl⟩,some ⟨b,0,none⟩,λw G B=>⟨_,B.get 0 rfl rfl,rfl⟩,?_,?_⟩
   .refine λw G B=>rY (S:=oO) uF hh.node hb B ⟨λw G B=>de (.tail _ hm) B,λw G B=>rY (S:=oO) uF hh.worker eA B ⟨λw G B=>de (.tail _ hm) B,λw G B=>Ex (S:=oO) uF od (by omega) B ⟨λw G B=>de (.tail _ hm) B,λk=>⟨λw G B=>de (.tail _ (.tail _ hm)) B,λw G B=>leaf B⟩,trivial⟩,?_⟩,?_⟩
    .exact ⟨λk=>⟨λw G B=>de (.tail _ (.tail _ hm)) B,λw G B=>Ex (S:=.blk k _ 36 :: oO) uF od (by omega) B.swap ⟨λw G B=>de (.tail _ (.tail _ hm)) B,λw G B=>leaf B.swap⟩,trivial⟩,trivial⟩
    .exact ⟨λk=>⟨λw G B=>de (.tail _ (.tail _ hm)) B,λw G B=>rY (S:=.blk k _ 36 :: oO) uF hh.worker eA B.swap ⟨λw G B=>de (.tail _ (.tail _ hm)) B,λw G B=>Ex (S:=.blk k _ 36 :: oO) uF od (by omega) B ⟨λw G B=>de (.tail _ (.tail _ hm)) B,λw G B=>leaf B.swap⟩,trivial⟩,trivial⟩,trivial⟩
   .exact ⟨λk=>⟨λw G B=>de (.tail _ (.tail _ hm)) B,λw G B=>rY (S:=.blk k _ 36 :: oO) uF hh.node hb B.swap ⟨λw G B=>de (.tail _ (.tail _ hm)) B,λw G B=>rY (S:=.blk k _ 36 :: oO) uF hh.worker eA B ⟨λw G B=>de (.tail _ (.tail _ hm)) B,λw G B=>Ex (S:=.blk k _ 36 :: oO) uF od (by omega) B ⟨λw G B=>de (.tail _ (.tail _ hm)) B,λw G B=>leaf B.swap⟩,trivial⟩,trivial⟩,trivial⟩,trivial⟩
  rintro kh o ai pU _ ⟨rfl,rfl,rfl⟩;subst Pn;clear hm aVs;refine λw G B=>⟨some ⟨b,0,none⟩,B.get 3 rfl rfl,λw G B=>UD (S:=oz kh h none 0 0 :: gL hp i hc none 0 0 :: bM aG b :: .buf hp i hc hcs 36 4 :: S) uF Bx hh.out B.swap ?_⟩;clear B;refine bK (λR' Z k=>∃ (j:Nat) (op:Option Addr) (aN:Nat) (ny:List Value),j<=h.out.length/\R'=rd b (eB (h.out.drop j)++rest,false) :: oz kh h op j aN :: .buf op j aN ny 45 7 :: gL hp i hc none 0 0 :: bM aG b :: .buf hp i hc hcs 36 4 :: S/\Z=(λM w=>pU M w/\Δ M w ny (h.out.take j))/\k=h.out.length - j) ⟨⟨_,λM w=>pU M w/\Δ M w [] (h.out.take 0),_,γ,λw G B=>((B.sI 45 7).perm Fz).weak λM w h=>⟨h,Δ.nil⟩,0,none,0,[],Nat.zero_le _,rfl,rfl,rfl⟩,?_⟩
  rintro ν θ k _ ⟨j,op,aN,ny,hj,rfl,rfl,rfl⟩;obtain ⟨eg,s9⟩:∃ eg:Y,eg=(λM w=>pU M w/\Δ M w ny (h.out.take j)):=⟨_,rfl⟩;have sP:O eg:=by rw [s9];infer_instance
  have fR:∀ M w,eg M w->pU M w/\Δ M w ny (h.out.take j):=λM w h=>by rw [s9] at h;exact h
  have CW:∀ M w,eg M w->fG M w:=λM w h=>uF M w (fR M w h).1;rw [<-s9];refine λw G B=>⟨op,j,aN,B.get 1 rfl rfl,false,λ_=>B.get 4 rfl rfl,some ⟨b,0,none⟩,λ_=>B.get 4 rfl rfl,((eB (h.out.drop j)++rest).length:Int),λ_=>Ta (B.get 0 rfl rfl),U.intro (λe3=>?_) (λhge=>?_)⟩
  .clear B;have e3:j<h.out.length:=by
    simp only [Bool.not_false,Bool.and_true,Bool.and_eq_true,decide_eq_true_eq] at e3;omega
   have oh:eB (h.out.drop j)++rest=(aK h.out[j].worker).data.toList++((bx (fK h.out[j].msg)).data.toList++(eB (h.out.drop (j+1))++rest)):=by rw [aEU e3,aq,aIH]
   have hc0:(eB (h.out.drop j)++rest).length<=10000000:=by
    have:=aXz h.out j;rw [List.length_append] at FR ⊢;omega
   rw [oh] at hc0 ⊢;have gY:=o7 hc0;obtain ⟨hwk,dz⟩:=hh.msg _ (List.getElem_mem e3);have adH:=hh.out;obtain ⟨GK,a8V⟩:∃ r,r=eB (h.out.drop (j+1))++rest:=⟨_,rfl⟩;rw [<-a8V] at hc0 gY ⊢;obtain ⟨A1,a8J⟩:∃ o,o=gL hp i hc none 0 0:=⟨_,rfl⟩;rw [<-a8J];refine ⟨[oz kh h op j aN,bM aG b],λ_ _=>True,γ,λw G B=>jH (.cons _ (.cons_cons _ (.cons _ (.cons _ (.cons_cons _ (List.nil_sublist _)))))) B,op,j,aN,λw G B=>⟨op,j,aN,B.get 0 rfl rfl,rfl⟩,some ⟨b,0,none⟩,λw G B=>⟨_,B.get 1 rfl rfl,rfl⟩,λw G B=>rY (S:=oz kh h op j aN :: .buf op j aN ny 45 7 :: A1 :: bM aG b :: .buf hp i hc hcs 36 4 :: S) CW hwk hc0 B ⟨λw G B=>jH (.cons _ (.cons_cons _ (.cons _ (.cons _ (.cons_cons _ (List.nil_sublist _)))))) B,λw G B=>?_⟩⟩
   refine a2P (S:=oz kh h op j aN :: .buf op j aN ny 45 7 :: A1 :: .buf hp i hc hcs 36 4 :: (S++G)) CW dz gY (B.perm aCR.symm) λp c w m1 m2 B=>⟨_,_,_,_,_,p,_,c,rfl,rd b (GK,false) :: oz kh h op j aN :: .buf op j aN ny 45 7 :: A1 :: bM aG b :: .buf hp i hc hcs 36 4 :: S,_,γ,B.perm aCR,λw G B=>jH (.cons _ (.cons_cons _ (.cons _ (.cons _ (.cons_cons _ (List.nil_sublist _)))))) B,λkb=>⟨λw G B=>jH (.cons _ (.cons _ (.cons_cons _ (.cons _ (.cons _ (.cons_cons _ (List.nil_sublist _))))))) B,λw G B=>?_⟩⟩
   have bG:Ctx W w (.blk kb (h.out[j].cells p c) 45 :: .buf op j aN ny 45 7 :: (rd b (GK,false) :: oz kh h op j aN :: A1 :: bM aG b :: .buf hp i hc hcs 36 4 :: S++G)) (λM w=>eg M w/\ζ M w p h.out[j].msg.ξ):=B.perm (Fz.symm.cons _);obtain ⟨p',cap',w',hrun,_,cJ⟩:=Ctx.vB (P:=prog) (ts:=34) (ty:=34) (kb:=#[false,false]) (size:=7) (bytes:=72) bG (by kernel_rfl) (by omega) rfl rfl (by omega) (by omega);have pJ:O (λM w=>pU M w/\Δ M w (ny++h.out[j].cells p c) (h.out.take (j+1))):=γ
   have bH:Ctx W w' (.buf p' (j+1) cap' (ny++h.out[j].cells p c) 45 7 :: (rd b (GK,false) :: oz kh h op j aN :: A1 :: bM aG b :: .buf hp i hc hcs 36 4 :: S++G)) (λM w=>pU M w/\Δ M w (ny++h.out[j].cells p c) (h.out.take (j+1))) :=
    cJ.weak λM w hx=>⟨(fR M w hx.1).1,by rw [List.take_succ_eq_append_getElem e3];exact (fR M w hx.1).2.snoc (RP hwk m1 m2 dz.ok hx.2)⟩
   refine ⟨p',j+1,cap',w',hrun,.buf p' (j+1) cap' (ny++h.out[j].cells p c) 45 7 :: rd b (GK,false) :: oz kh h op j aN :: A1 :: bM aG b :: .buf hp i hc hcs 36 4 :: S,_,pJ,bH,λw G B=>⟨B.can 2 rfl (by show 0+3+1<=4;omega),λw' hw'=>⟨.buf p' (j+1) cap' (ny++h.out[j].cells p c) 45 7 :: rd b (GK,false) :: oz kh h p' (j+1) cap' :: A1 :: bM aG b :: .buf hp i hc hcs 36 4 :: S,_,pJ,B.put 2 hw' rfl,rd b (GK,false) :: oz kh h p' (j+1) cap' :: .buf p' (j+1) cap' (ny++h.out[j].cells p c) 45 7 :: A1 :: bM aG b :: .buf hp i hc hcs 36 4 :: S,_,h.out.length - (j+1),pJ,λw G B=>B.perm Fz,⟨j+1,p',cap',_,e3,by rw [a8V,a8J],rfl,rfl⟩,by omega⟩⟩⟩
  .have hge:j=h.out.length:=by
    by_cases hl:j<h.out.length
    .have hpos:=X9 h.out[j].worker ((bx (fK h.out[j].msg)).data.toList++(eB (h.out.drop (j+1))++rest));rw [<-aIH,<-aq,<-aEU hl] at hpos;simp only [Bool.not_false,Bool.and_true,Bool.and_eq_false_iff,decide_eq_false_iff_not] at hge;omega
    .omega
   subst hge;clear B hj;have Vn:eB (h.out.drop h.out.length)++rest=rest:=by rw [List.drop_length];rfl
   rw [Vn];refine λw G B=>⟨hp,i,hc,by rw [hkv] at B;exact B.get 3 rfl rfl,λw G B=>⟨_,_,_,op,_,aN,B.DS 1 rfl,λkb w G B=>?_⟩⟩;have bG:Ctx W w (.buf op h.out.length aN ny 45 7 :: .blk kb (h.cells op aN) 36 :: rd b (rest,false) :: oz kh h op h.out.length aN :: (gL hp i hc none 0 0 :: bM aG b :: .buf hp i hc hcs 36 4 :: (S++G))) eg:=B.perm xU.symm;obtain ⟨bH,hs,_,g1,g2⟩:=Ctx.freeze (α:=dw) bG (by have:=(fR _ _ bG.Γ).2;rw [List.take_length] at this;exact this)
   have cW:=(bH.add (Ψ:=λM w=>ζ M w op h.out) hs).sub (.cons_cons _ (.cons_cons _ (.cons _ (List.Sublist.refl _))));have wZ:Ctx W w (.blk kb (h.cells op aN) 36 :: .buf hp i hc hcs 36 4 :: (rd b (rest,false) :: gL hp i hc none 0 0 :: bM aG b :: S++G)) (λM w=>eg M w/\ζ M w op h.out):=cW.perm (xU.symm.cons _);obtain ⟨p',cap',w',hrun,_,cJ⟩:=Ctx.vB (P:=prog) (ts:=23) (ty:=23) (kb:=#[false,false]) (size:=4) (bytes:=56) wZ (by kernel_rfl) (by omega) rfl rfl (by omega) (by omega)
   have pJ:O (λM w=>Ψ M w/\Δ M w (hcs++h.cells op aN) (x.held.take (i+1))):=γ;have aQy:Ctx W w' (.buf p' (i+1) cap' (hcs++h.cells op aN) 36 4 :: (rd b (rest,false) :: gL hp i hc none 0 0 :: bM aG b :: S++G)) (λM w=>Ψ M w/\Δ M w (hcs++h.cells op aN) (x.held.take (i+1))) :=
    cJ.weak λM w hx=>by
     have h1:=k1 M w (fR M w hx.1).1;refine ⟨h1.1,?_⟩;rw [List.take_succ_eq_append_getElem hlt,<-Wg];exact h1.2.snoc (RO hh.node hh.worker (by unfold maxLen;omega) g1 g2 hx.2)
   refine ⟨p',i+1,cap',w',hrun,.buf p' (i+1) cap' (hcs++h.cells op aN) 36 4 :: rd b (rest,false) :: gL hp i hc none 0 0 :: bM aG b :: S,_,pJ,aQy,λw G B=>?_⟩;rw [hkv] at B;refine ⟨B.can 2 rfl (by show 0+5+1<=8;omega),λw' hw'=>⟨.buf p' (i+1) cap' (hcs++h.cells op aN) 36 4 :: rd b (rest,false) :: gL p' (i+1) cap' none 0 0 :: bM aG b :: S,_,pJ,by rw [hkv];exact B.put 2 hw' rfl,rd b (rest,false) :: gL p' (i+1) cap' none 0 0 :: bM aG b :: .buf p' (i+1) cap' (hcs++h.cells op aN) 36 4 :: S,_,x.held.length - (i+1),pJ,λw G B=>B.perm xU,⟨i+1,p',cap',_,hlt,by rw [C4],rfl,rfl⟩,by omega⟩⟩
 .have hge:i=x.held.length:=by
   by_cases h:i<x.held.length
   .have hpos:=X9 x.held[i].node ((aK x.held[i].worker).data.toList++((bx x.held[i].state).data.toList++((cY (x.held[i].out.length:Int)).data.toList++(eB x.held[i].out++(cZ (x.held.drop (i+1))++t7)))));rw [<-a89,<-aq,<-a8D h] at hpos;simp only [Bool.not_false,Bool.and_true,Bool.and_eq_false_iff,decide_eq_false_iff_not] at hge;omega
   .omega
  subst hge;clear B hi;have qd:cZ (x.held.drop x.held.length)++t7=(cY (x.δ.length:Int)).data.toList++(e8 x.δ++t9):=by rw [List.drop_length,h7];rfl
  rw [qd];refine λw G B=>⟨some ⟨b,0,none⟩,B.get 2 rfl rfl,λw G B=>?_⟩;have bG:Ctx W w (.buf hp x.held.length hc hcs 36 4 :: rd b ((cY (x.δ.length:Int)).data.toList++(e8 x.δ++t9),false) :: gL hp x.held.length hc none 0 0 :: bM aG b :: (S++G)) sX:=B.perm xU.symm;obtain ⟨bH,hs,_,g1,g2⟩:=Ctx.freeze (α:=ah) bG (by have:=(k1 _ _ bG.Γ).2;rw [List.take_length] at this;exact this);have cW:=bH.add (Ψ:=λM w=>ζ M w hp x.held) hs
  clear B bG bH hs;refine UD (S:=gL hp x.held.length hc none 0 0 :: bM aG b :: S) (λM w h=>vh M w (k1 M w h.1).1) UQ hg.δ.1 cW ?_;clear cW;obtain ⟨fl,nq⟩:∃ fl:Y,fl=(λM w=>sX M w/\ζ M w hp x.held):=⟨_,rfl⟩;have nF:O fl:=by rw [nq];infer_instance
  have k2:∀ M w,fl M w->Ψ M w/\ζ M w hp x.held:=λM w h=>by rw [nq] at h;exact ⟨(k1 M w h.1).1,h.2⟩
  rw [<-nq];clear nq QF jd k1;obtain ⟨hn,KG⟩:∃ n,n=x.held.length:=⟨_,rfl⟩;rw [<-KG];refine bK (λR' Z k=>∃ (i:Nat) (fp:Option Addr) (b6:Nat) (cm:List Value),i<=x.δ.length/\R'=rd b (e8 (x.δ.drop i)++t9,false) :: gL hp hn hc fp i b6 :: bM aG b :: .buf fp i b6 cm 40 7 :: S/\Z=(λM w=>fl M w/\Δ M w cm (x.δ.take i))/\k=x.δ.length - i) ⟨⟨_,λM w=>fl M w/\Δ M w [] (x.δ.take 0),_,γ,λw G B=>((B.sI 40 7).perm xU).weak λM w h=>⟨h,Δ.nil⟩,0,none,0,[],Nat.zero_le _,rfl,rfl,rfl⟩,?_⟩
  rintro ν θ k _ ⟨i,fp,b6,cm,hi,rfl,rfl,rfl⟩;obtain ⟨eg,s9⟩:∃ eg:Y,eg=(λM w=>fl M w/\Δ M w cm (x.δ.take i)):=⟨_,rfl⟩;have sP:O eg:=by rw [s9];infer_instance
  have fR:∀ M w,eg M w->fl M w/\Δ M w cm (x.δ.take i):=λM w h=>by rw [s9] at h;exact h
  have CW:∀ M w,eg M w->fG M w:=λM w h=>vh M w (k2 M w (fR M w h).1).1;rw [<-s9];refine λw G B=>⟨fp,i,b6,?_,false,λ_=>B.get 2 rfl rfl,some ⟨b,0,none⟩,λ_=>B.get 2 rfl rfl,((e8 (x.δ.drop i)++t9).length:Int),λ_=>Ta (B.get 0 rfl rfl),U.intro (λhlt=>?_) (λhge=>?_)⟩
  .rw [hkv] at B;exact B.get 1 rfl rfl
  .clear B;have hlt:i<x.δ.length:=by
    simp only [Bool.not_false,Bool.and_true,Bool.and_eq_true,decide_eq_true_eq] at hlt;omega
   have oh:e8 (x.δ.drop i)++t9=(aK x.δ[i].ch).data.toList++((bx (fK x.δ[i].msg)).data.toList++(e8 (x.δ.drop (i+1))++t9)):=by rw [a7E hlt,aq,a7B]
   have hb:(e8 (x.δ.drop i)++t9).length<=10000000:=by
    have:=aV7 x.δ i;rw [List.length_append] at UR ⊢;omega
   rw [oh] at hb ⊢;have od:=o7 hb;obtain ⟨hwk,dz⟩:=hg.δ.2 _ (List.getElem_mem hlt);have hsz:=hg.δ.1;obtain ⟨rest,C4⟩:∃ r,r=e8 (x.δ.drop (i+1))++t9:=⟨_,rfl⟩;rw [<-C4] at hb od ⊢;refine ⟨[gL hp hn hc fp i b6,bM aG b],λ_ _=>True,γ,λw G B=>jH (.cons _ (.cons_cons _ (.cons_cons _ (List.nil_sublist _)))) B,fp,i,b6,λw G B=>⟨fp,i,b6,by rw [hkv] at B;exact B.get 0 rfl rfl,rfl⟩,some ⟨b,0,none⟩,λw G B=>⟨_,B.get 1 rfl rfl,rfl⟩,λw G B=>rY (S:=gL hp hn hc fp i b6 :: bM aG b :: .buf fp i b6 cm 40 7 :: S) CW hwk hb B ⟨λw G B=>jH (.cons _ (.cons_cons _ (.cons_cons _ (List.nil_sublist _)))) B,λw G B=>?_⟩⟩
   refine a2P (S:=gL hp hn hc fp i b6 :: .buf fp i b6 cm 40 7 :: (S++G)) CW dz od (B.perm Fz.symm) λp c w m1 m2 B=>⟨_,_,_,_,_,p,_,c,rfl,rd b (rest,false) :: gL hp hn hc fp i b6 :: bM aG b :: .buf fp i b6 cm 40 7 :: S,_,γ,B.perm Fz,λw G B=>jH (.cons _ (.cons_cons _ (.cons_cons _ (List.nil_sublist _)))) B,λkb=>⟨λw G B=>jH (.cons _ (.cons _ (.cons_cons _ (.cons_cons _ (List.nil_sublist _))))) B,λw G B=>?_⟩⟩
   have bG:Ctx W w (.blk kb (x.δ[i].cells p c) 40 :: .buf fp i b6 cm 40 7 :: (rd b (rest,false) :: gL hp hn hc fp i b6 :: bM aG b :: S++G)) (λM w=>eg M w/\ζ M w p x.δ[i].msg.ξ):=B.perm (xU.symm.cons _);obtain ⟨p',cap',w',hrun,_,cJ⟩:=Ctx.vB (P:=prog) (ts:=24) (ty:=24) (kb:=#[false,false]) (size:=7) (bytes:=72) bG (by kernel_rfl) (by omega) rfl rfl (by omega) (by omega);have pJ:O (λM w=>fl M w/\Δ M w (cm++x.δ[i].cells p c) (x.δ.take (i+1))):=γ
   have bH:Ctx W w' (.buf p' (i+1) cap' (cm++x.δ[i].cells p c) 40 7 :: (rd b (rest,false) :: gL hp hn hc fp i b6 :: bM aG b :: S++G)) (λM w=>fl M w/\Δ M w (cm++x.δ[i].cells p c) (x.δ.take (i+1))) :=
    cJ.weak λM w h=>⟨(fR M w h.1).1,by rw [List.take_succ_eq_append_getElem hlt];exact (fR M w h.1).2.snoc (RN hwk m1 m2 dz.ok h.2)⟩
   refine ⟨p',i+1,cap',w',hrun,.buf p' (i+1) cap' (cm++x.δ[i].cells p c) 40 7 :: rd b (rest,false) :: gL hp hn hc fp i b6 :: bM aG b :: S,_,pJ,bH,λw G B=>?_⟩;rw [hkv] at B;refine ⟨B.can 2 rfl (by show 0+6+1<=8;omega),λw' hw'=>⟨.buf p' (i+1) cap' (cm++x.δ[i].cells p c) 40 7 :: rd b (rest,false) :: gL hp hn hc p' (i+1) cap' :: bM aG b :: S,_,pJ,by rw [hkv];exact B.put 2 hw' rfl,rd b (rest,false) :: gL hp hn hc p' (i+1) cap' :: bM aG b :: .buf p' (i+1) cap' (cm++x.δ[i].cells p c) 40 7 :: S,_,x.δ.length - (i+1),pJ,λw G B=>B.perm xU,⟨i+1,p',cap',_,hlt,by rw [C4],rfl,rfl⟩,by omega⟩⟩
  .have hge:i=x.δ.length:=by
    by_cases h:i<x.δ.length
    .have hpos:=X9 x.δ[i].ch ((bx (fK x.δ[i].msg)).data.toList++(e8 (x.δ.drop (i+1))++t9));rw [<-a7B,<-aq,<-a7E h] at hpos;simp only [Bool.not_false,Bool.and_true,Bool.and_eq_false_iff,decide_eq_false_iff_not] at hge;omega
    .omega
   subst hge;clear B hi;have lY:e8 (x.δ.drop x.δ.length)++t9=(bx (bs (bQ x.output))).data.toList++[]:=by rw [List.drop_length,h9];rfl
   rw [lY];have hout:=hg.out;refine λw G B=>⟨some ⟨b,0,none⟩,B.get 2 rfl rfl,λw G B=>?_⟩;have bG:Ctx W w (.buf fp x.δ.length b6 cm 40 7 :: rd b ((bx (bs (bQ x.output))).data.toList++[],false) :: gL hp hn hc fp x.δ.length b6 :: bM aG b :: (S++G)) eg:=B.perm xU.symm;obtain ⟨bH,hs,_,f1,f2⟩:=Ctx.freeze (α:=bn) bG (by have:=(fR _ _ bG.Γ).2;rw [List.take_length] at this;exact this);have cW:=bH.add (Ψ:=λM w=>ζ M w fp x.δ) hs
   clear B bG bH hs;refine Ex (S:=gL hp hn hc fp x.δ.length b6 :: bM aG b :: S) (λM w h=>CW M w h.1) a50 (by rw [dx];omega) cW λw G B=>?_;clear cW;refine a4T (S:=rd b ([],false) :: gL hp hn hc fp x.δ.length b6 :: bM aG b :: S++G) (λM w h=>CW M w h.1) (bQ x.output) ?_ hr.fit B (λh=>by rw [hr.rd] at h;cases h) (λr op aN w h o1 o2 B=>?_)
   .have:=o7 UR;rw [h9,List.append_nil,cF] at this;have h2:(bs (bQ x.output)).size<=(bx (bs (bQ x.output))).size:=by
     unfold bx;simp only [av];omega
    rw [dx] at h2;omega
   rw [hr.rd] at h;cases h;obtain ⟨P,hP⟩:∃ P:kF,P=⟨pp,pc,ak,qc,rp,rc,hp,hc,fp,b6,op,aN⟩:=⟨_,rfl⟩;have aVO:∀ k,Own.blk k (Iy P x) 27=.blk k ([.int .i64 x.n,.int .i64 x.kind,.slice pp x.place.length pc,.slice ak x.pos.length qc,.slice rp x.closed.length rc,.slice hp hn hc,.slice fp x.δ.length b6,.slice none 0 0].set (0+7) (.slice op x.output.length aN)) 27:=λk=>by rw [hP,KG];rfl
   obtain ⟨yL,QG⟩:∃ yL:Y,yL=(λM w=>(eg M w/\ζ M w fp x.δ)/\ζ M w op x.output):=⟨_,rfl⟩;have pJ:O yL:=by rw [QG];infer_instance
   have aAn:∀ M w,yL M w->bt P x M w:=λM w h=>by
    rw [QG] at h;rw [hP];have h1:=k2 M w (fR M w h.1.1).1;have h2:=Xs M w h1.1;exact ⟨h2.1.1.2,h2.1.2,h2.2,h1.2,h.1.2,h.2⟩
   have kT:∀ M w,yL M w->Φ M w:=λM w h=>by
    rw [QG] at h;exact (Xs M w (k2 M w (fR M w h.1.1).1).1).1.1.1
   rw [<-QG] at B;refine ⟨op,_,aN,true,rfl,rd b ([],false) :: gL hp hn hc fp x.δ.length b6 :: bM aG b :: S,yL,pJ,B,λw G B=>?_⟩;rw [hkv] at B;refine ⟨B.can 1 rfl (by show 0+7+1<=8;omega),λw' hw'=>⟨rd b ([],false) :: .blk kc (Iy P x) 27 :: bM aG b :: S,yL,pJ,by rw [aVO];exact B.put 1 hw' rfl,U.intro (λh=>by cases h) λ_ w G B=>⟨false,B.get 2 rfl rfl,U.intro (λh=>by cases h) λ_ w G B=>⟨some ⟨b,0,none⟩,B.get 2 rfl rfl,λw G B=>TD (S:=.blk kc (Iy P x) 27 :: bM aG b :: S) B (U.intro (λh=>by cases h) λ_ w G B=>⟨_,_,_,_,_,_,_,_,_,_,_,_,_,_,_,_,_,_,_,_,B.DS 1 rfl,λw G B=>?_⟩)⟩⟩⟩⟩
   refine (HP (Φ:=yL) (λM w h=>(hN M w (kT M w h)).1) aAn hg).use B λw B=>⟨_,rfl,rd b ([],false) :: .blk kc (Iy P x) 27 :: bM aG b :: S,yL,pJ,B,U.intro (λh=>absurd rfl (aD h)) λ_ w G B=>⟨_,_,_,_,_,_,_,_,_,_,_,_,_,_,_,_,_,_,_,_,B.DS 1 rfl,λw G B=>hk P w ?_ ?_⟩⟩
   .rw [hP];exact ⟨l1,l2,l3,⟨by rw [<-KG] at g1 ⊢;exact g1,g2⟩,⟨f1,f2⟩,⟨o1,o2⟩⟩
   .exact (Ctx.left (F:=G) B).eN.eN.eN.weak λM w h=>⟨kT M w h,aAn M w h⟩
end
theorem a6D{W w:World}{S:List Own}{Φ:Y}[O Φ]{P:Program}{f:FuncId}{ts t:TypeId}{bytes size:Nat}{p:Option Addr}{n cap:Nat}{cs:List Value}
  (run:∀ ⦃W w:World⦄ ⦃R:List Own⦄ ⦃Φ:Y⦄ [O Φ] ⦃J:Value->World->Prop⦄,Ctx W w R Φ->a6B P ts t p n cap W R Φ J->Calls P f #[.slice p n cap] w λe w'=>∃ v,e=.returned v/\J v w')
  (hb:tL P ts t size bytes=true) (h1:∀ u∈cs,dJ u=true) (h0:0<size) (hlen:n<100000000) (hby:bytes<=1000) (B:Ctx W w (.buf p n cap cs t size :: S) Φ) {K:c6}
  (hk:∀ p' cap' w',Ctx W w' (.buf p' n cap' cs t size :: .buf p n cap cs t size :: S) Φ->K (.returned (.slice p' n cap')) w'):Calls P f #[.slice p n cap] w K:=by
 have bp:=(B.ry 0 rfl).1;refine cn (run (J:=K∘.returned) B (U.intro (λhn=>λw G B=>?_) (λhn=>λk w G B=>?_)))
 .have hn0:n=0:=by
   rcases Nat.eq_zero_or_pos n with h|h
   .exact h
   .obtain ⟨b,hb⟩:=zG B (by rw [bp];exact Nat.mul_pos h h0);rw [hb] at hn;cases hn
  subst hn0;have hc0:cs=[]:=List.eq_nil_of_length_eq_zero (by rw [bp];exact Nat.zero_mul _);subst hc0;exact hk none 0 w ((Ctx.left (F:=G) B).sI t size)
 .obtain ⟨i,z,e1,e2,eE,bR,fY,fP⟩:=wS hb;have c':Ctx W w (.buf (some ⟨k,0,none⟩) 0 0 [] t size :: .buf p n cap cs t size :: (S++G)) Φ:=Ctx.aIn B 0 0 size rfl (by simp) (by simp [maxLen]);rcases Nat.eq_zero_or_pos n with hn0|hn0
  .subst hn0;have hc0:cs=[]:=List.eq_nil_of_length_eq_zero (by rw [bp];exact Nat.zero_mul _);subst hc0;exact ⟨_,_,_,w,r7 (c'.UN 0 rfl e1 e2 p cap),.buf (some ⟨k,0,none⟩) 0 0 [] t size :: .buf p 0 cap [] t size :: S,Φ,γ,c',λw G B=>hk _ _ w (Ctx.left (F:=G) B)⟩
  .have hpos:0<cs.length:=by rw [bp];exact Nat.mul_pos hn0 h0
   obtain ⟨b,hp,_,hcell⟩:=c'.vD 1 rfl hpos;have ad6:n*i.bytes<=100000000*1000:=Nat.mul_le_mul (by omega) (by omega);obtain ⟨p',cap',w',h2,c3⟩:=c'.append 0 rfl (ty:=ts) e1 e2 eE bR fY (a:=⟨b,0,none⟩) (m:=n) (c2:=cap) (news:=cs) hn0 bp (λj u hj=>by rw [addr_add,Nat.zero_add];exact (hcell _ _ hj).1) h1 (by rw [Nat.zero_add];omega) (by omega);rw [Nat.zero_add] at h2 c3;rw [List.nil_append] at c3;subst hp
   exact ⟨p',n,cap',w',r7 h2,.buf p' n cap' cs t size :: .buf (some ⟨b,0,none⟩) n cap cs t size :: S,Φ,γ,c3,λw G B=>hk p' cap' w (Ctx.left (F:=G) B)⟩
section
variable {W w:World}{S G:List Own}{Φ:Y}
theorem aUk{M:List Nat}{w:World}{cs:List Value}{l:List ah}(h:Δ M w cs l){j:Nat}(hj:j<l.length):∃ q c,(cs.drop (j*4)).take 4=l[j].cells q c/\V l[j].node/\V l[j].worker/\l[j].state.size<=maxLen/\l[j].out.length<=c/\c<=maxLen:=by
 have:=h.2 j hj;rw [show (ι.ty ah).size=4 from rfl] at this;obtain ⟨q,c,h1,h2,h3,h4,h5,h6,_⟩:=FV this;exact ⟨q,c,h1,h2,h3,h4,h5,h6⟩
theorem aUl{M:List Nat}{w:World}{cs:List Value}{l:List ah}(h:Δ M w cs l){j:Nat}(hj:j<l.length){q:Option Addr}{c:Nat}(e:(cs.drop (j*4)).take 4=l[j].cells q c):ζ M w q l[j].out:=by
 have:=h.2 j hj;rw [show (ι.ty ah).size=4 from rfl,e] at this;exact a8A this
theorem aUj{M:List Nat}{w:World}{cs:List Value}{l:List bn}(h:Δ M w cs l){j:Nat}(hj:j<l.length){q:Option Addr}{c:Nat}(e:(cs.drop (j*7)).take 7=l[j].cells q c):ζ M w q l[j].msg.ξ:=by
 have:=h.2 j hj;rw [show (ι.ty bn).size=7 from rfl,e] at this;exact a7C this
theorem aPb[O Φ]{m:gp}{x:cL}(B:Ctx W w (aU m x S) (λM w=>Φ M w/\cz m x M w))(hok:EE x)(ho:x.output.length<=1000000)(hr:Ev x.output){K:c6}
  (KB:oW x=false->∀ w',Ctx W w' (aU m x S) (λM w=>Φ M w/\cz m x M w)->K (.returned (.tuple #[aKt,.bool false])) w')
  (hk:oW x=true->∀ p w',TB p (mF x)->Ctx W w' (aU m x S) (λM w=>(Φ M w/\cz m x M w)/\bt p (mF x) M w)->K (.returned (.tuple #[tP p (mF x),.bool true])) w') :
  ω F.BQ #[aA m.b 0] w K:=by
 refine cn (aLx m.b 0 (J:=K∘.returned) B ?_);clear B;obtain ⟨Ψ,hΨ⟩:∃ Ψ:Y,Ψ=(λM w=>Φ M w/\cz m x M w):=⟨_,rfl⟩;have bw:O Ψ:=by rw [hΨ];exact oq Φ (λM w=>cz m x M w)
 have eJ:∀ M w,Ψ M w->cz m x M w:=λM w h=>by rw [hΨ] at h;exact h.2
 have ad7:=hok.caps;have a8G:=hok.held;have hfl:=hok.δ;have comp:∀ {w:World} {G:List Own} {K:c6},Ctx W w (aU m x S++G) Ψ->(∀ w',Ctx W w' (aU m x S++G) Ψ->K (.returned (.bool (oW x))) w')->ω F.oV #[aA m.b 0] w K:=by
  intro w G K B hK;rw [hΨ] at B hK;exact Nn (S:=S++G) B hok.done hK
 rw [<-hΨ] at KB ⊢;have hk:oW x=true->∀ p w',TB p (mF x)->Ctx W w' (aU m x S) (λM w=>Ψ M w/\bt p (mF x) M w)->K (.returned (.tuple #[tP p (mF x),.bool true])) w':=by rw [hΨ];exact hk
 refine λ_ w G B=>comp B λw B=>⟨_,rfl,aU m x S,Ψ,bw,B,U.intro (λhc=>λw G B=>KB (by simpa using hc) w (Ctx.left (F:=G) B)) (λhc=>λw G B=>?_)⟩;have hc:oW x=true:=by simpa using hc
 have hk:=hk hc;clear KB comp;refine ⟨x.n,x.kind,m.pp,x.place.length,m.pc,m.ak,x.pos.length,m.qc,m.rp,x.closed.length,m.rc,m.hp,x.held.length,m.hc,m.fp,x.δ.length,m.b6,m.op,x.output.length,m.aN,B.row 0 rfl (λj hj=>by
  rw [Nat.zero_add]
  match j,hj with
  | 0,_=>rfl
  | 1,_=>rfl
  | 2,_=>rfl
  | 3,_=>rfl
  | 4,_=>rfl
  | 5,_=>rfl
  | 6,_=>rfl
  | 7,_=>rfl
  | j+8,h=>exact absurd h (by simp)),λ_=>⟨[],λ_ _=>True,γ,λw G B=>bW B,λw G B=>?_⟩⟩
 refine (EF (Φ:=Ψ) (p:=m.pp) (cap:=m.pc) (l:=x.place) (λM w h=>(eJ M w h).place) (by omega)).to B λp1 c1 g1 aV9 jd=>⟨λw G B=>bW B,λw G B=>?_⟩;refine (EF (Φ:=λM w=>Ψ M w/\ζ M w p1 x.place) (p:=m.ak) (cap:=m.qc) (l:=x.pos) (λM w h=>(eJ M w h.1).pos) (by omega)).to B λp2 c2 g2 aVA nF=>⟨λw G B=>bW B,λw G B=>?_⟩;refine (EF (Φ:=λM w=>(Ψ M w/\ζ M w p1 x.place)/\ζ M w p2 x.pos) (p:=m.rp) (cap:=m.rc) (l:=x.closed) (λM w h=>(eJ M w h.1.1).closed) (by omega)).to B λp3 c3 g3 aVB sP=>⟨λw G B=>bW B,[],λ_ _=>True,γ,λw G B=>bW B,λw G B=>?_⟩
 obtain ⟨eg,s9⟩:∃ eg:Y,eg=(λM w=>((Ψ M w/\ζ M w p1 x.place)/\ζ M w p2 x.pos)/\ζ M w p3 x.closed):=⟨_,rfl⟩;have aIf:O eg:=by rw [s9];exact γ
 have fR:∀ M w,eg M w->((Ψ M w/\ζ M w p1 x.place)/\ζ M w p2 x.pos)/\ζ M w p3 x.closed:=λM w h=>by rw [s9] at h;exact h
 have LK:∀ M w,eg M w->cz m x M w:=λM w h=>eJ M w (fR M w h).1.1.1;have B:Ctx W w (aU m x S++G) eg:=by rw [s9];exact B
 clear s9;have hH:=(LK _ _ B.Γ).held;have WE:=(LK _ _ B.Γ).δ;refine a6D (ts:=23) (bytes:=56) (aMw m.hp x.held.length m.hc) (by kernel_rfl) (PF K3 hH) (by omega) (by omega) (by omega) (Ctx.swap B) λaC c4 w B=>⟨aC,x.held.length,c4,rfl,.buf aC x.held.length c4 m.hcs 36 4 :: aU m x S,eg,aIf,?_,λw G B=>bW B,[],λ_ _=>True,γ,λw G B=>bW B,λw G B=>?_⟩
 .exact B.perm (List.Perm.cons _ (List.Perm.swap _ _ _))
 have bG:=B.perm (List.perm_middle (l₁:=[Own.buf aC x.held.length c4 m.hcs 36 4,.blk m.b (cV m x) 64,.buf m.hp x.held.length m.hc m.hcs 36 4]));refine a6D (ts:=24) (bytes:=72) (aMv m.fp x.δ.length m.b6) (by kernel_rfl) (PF Ji WE) (by omega) (by omega) (by omega) bG λdL c5 w B=>⟨dL,x.δ.length,c5,rfl,.buf aC x.held.length c4 m.hcs 36 4 :: .buf dL x.δ.length c5 m.cm 40 7 :: aU m x S,eg,aIf,?_,λw G B=>bW B,?_⟩
 .refine Ctx.perm B ?_;refine .trans (.cons _ (List.perm_middle (l₁:=[Own.buf aC x.held.length c4 m.hcs 36 4,.blk m.b (cV m x) 64,.buf m.hp x.held.length m.hc m.hcs 36 4])).symm) ?_;exact .swap _ _ _
 have Q9:0<x.held.length->∃ b,aC=some ⟨b,0,none⟩:=λh=>zG B.eN.eN (by rw [hH.1];exact Nat.mul_pos h (by decide));have aW8:0<x.δ.length->∃ b,dL=some ⟨b,0,none⟩:=λh=>zG B (by rw [WE.1];exact Nat.mul_pos h (by decide));clear B bG hH WE;have bR:(ι.ty ah).size=4:=rfl;have qd:(ι.ty bn).size=7:=rfl;refine bK (λn R' Z k=>∃ (i:Nat) (cs:List Value),n=i/\i<=x.held.length/\R'=.buf aC x.held.length c4 cs 36 4 :: .buf dL x.δ.length c5 m.cm 40 7 :: aU m x S/\Z=(λM w=>eg M w/\Δ M w cs x.held)/\k=x.held.length - i)
  ⟨⟨_,λM w=>eg M w/\Δ M w m.hcs x.held,_,γ,λw F c=>c.weak λM w h=>⟨h,(LK M w h).held⟩,0,m.hcs,rfl,Nat.zero_le _,rfl,rfl,rfl⟩,?_⟩
 rintro n ν θ k _ ⟨i,cs,rfl,hi,rfl,rfl,rfl⟩;refine U.intro (λhlt=>?_) (λhge=>?_)
 .have hlt:i<x.held.length:=by have:=aD hlt;omega
  obtain ⟨b1,eA⟩:=Q9 (by omega);refine ⟨⟨by omega,by omega⟩,aL b1 0 eA λw G B=>?_⟩;obtain ⟨q,c,hq,hn,hw,hs,ey,gY⟩:=aUk B.Γ.2 hlt;obtain ⟨_,g2,g3⟩:=FB B.Γ.2 hlt hq;rw [bR,show (x.held[i].cells q c).length=4 from rfl] at g2;refine ⟨x.held[i].node,x.held[i].worker,x.held[i].state,q,x.held[i].out.length,c,B.F2 0 rfl eA (o:=0+i*4) (λj hj=>by rw [Nat.zero_add];exact (g3 j hj).trans (List.getElem?_eq_getElem hj)),λ_=>⟨_,_,γ,λw G B=>B,λw G B=>?_⟩⟩
  refine (a6F (Φ:=λM w=>eg M w/\Δ M w cs x.held) (x:=x.held[i]) (p:=q) (cap:=c) (λM w h=>aUl h.2 hlt hq) (hok.Jh _ (List.getElem_mem hlt))).use B λp2' cap2 w h1 h2 B=>⟨_,_,_,p2',_,cap2,rfl,.buf aC x.held.length c4 cs 36 4 :: .buf dL x.δ.length c5 m.cm 40 7 :: aU m x S,_,γ,B,λw G B=>B.fst,⟨by omega,by omega⟩,aL b1 0 eA λw G B=>⟨B.Io 0 rfl eA (by rw [Int.toNat_natCast,Nat.zero_add];omega),λw' hw'=>?_⟩⟩
  rw [Int.toNat_natCast,Nat.zero_add] at hw';have cJ:=B.F1 0 rfl eA (by omega) (o:=i*4) (vs:=x.held[i].cells p2' cap2) (by show i*4+4<=_;omega) hw';have hel:∀ M w,Δ M w cs x.held->ζ M w p2' x.held[i].out->Δ M w (dM cs (i*4) (x.held[i].cells p2' cap2)) x.held:=λM w a b=>by
   have:=a.setAt i hlt (RO (p:=p2') (c:=cap2) hn hw hs h1 h2 b)
   rwa [List.set_getElem_self] at this
  generalize dM cs (i*4) (x.held[i].cells p2' cap2)=cs' at cJ hel;exact ⟨.buf aC x.held.length c4 cs' 36 4 :: .buf dL x.δ.length c5 m.cm 40 7 :: aU m x S,λM w=>eg M w/\Δ M w cs' x.held,γ,cJ.weak λM w h=>⟨h.1.1,hel M w h.1.2 h.2⟩,by unfold V;omega,_,_,x.held.length - (i+1),γ,λw G B=>B,⟨i+1,cs',by omega,hlt,rfl,rfl,rfl⟩,by omega⟩
 clear hge hi;refine bK (λn R' Z k=>∃ (i:Nat) (ds:List Value),n=i/\i<=x.δ.length/\R'=.buf aC x.held.length c4 cs 36 4 :: .buf dL x.δ.length c5 ds 40 7 :: aU m x S/\Z=(λM w=>(eg M w/\Δ M w cs x.held)/\Δ M w ds x.δ)/\k=x.δ.length - i)
  ⟨⟨_,λM w=>(eg M w/\Δ M w cs x.held)/\Δ M w m.cm x.δ,_,γ,λw F c=>c.weak λM w h=>⟨h,(LK M w h.1).δ⟩,0,m.cm,rfl,Nat.zero_le _,rfl,rfl,rfl⟩,?_⟩
 rintro n ν θ k _ ⟨i,ds,rfl,hi,rfl,rfl,rfl⟩;refine U.intro (λhlt=>?_) (λhge=>λw G B=>?_)
 .have hlt:i<x.δ.length:=by have:=aD hlt;omega
  obtain ⟨b1,eA⟩:=aW8 (by omega);refine ⟨⟨by omega,by omega⟩,aL b1 0 eA λw G B=>?_⟩;obtain ⟨q,c,hq,FU,ey,gY,hmo⟩:=a6n B.Γ.2 hlt;obtain ⟨_,g2,g3⟩:=FB B.Γ.2 hlt hq;rw [qd,show (x.δ[i].cells q c).length=7 from rfl] at g2;have K5:=hok.Jg _ (List.getElem_mem hlt);refine ⟨x.δ[i].ch,x.δ[i].msg.kind,x.δ[i].msg.node,x.δ[i].msg.dS,x.δ[i].msg.bucket,x.δ[i].msg.n,q,x.δ[i].msg.ξ.length,c,B.F2 1 rfl eA (o:=0+i*7) (λj hj=>by rw [Nat.zero_add];exact (g3 j hj).trans (List.getElem?_eq_getElem hj)),λ_=>⟨_,_,γ,λw G B=>B,λw G B=>?_⟩⟩
  refine (U' (Φ:=λM w=>(eg M w/\Δ M w cs x.held)/\Δ M w ds x.δ) (m:=x.δ[i].msg) (p:=q) (cap:=c) (λM w h=>aUj h.2 hlt hq) K5.1 K5.2).use B λp2' cap2 w h1 h2 B=>⟨_,_,_,_,_,p2',_,cap2,rfl,.buf aC x.held.length c4 cs 36 4 :: .buf dL x.δ.length c5 ds 40 7 :: aU m x S,_,γ,B,λw G B=>B.fst,⟨by omega,by omega⟩,aL b1 0 eA λw G B=>⟨B.Io 1 rfl eA (by rw [Int.toNat_natCast,Nat.zero_add];omega),λw' hw'=>?_⟩⟩;rw [Int.toNat_natCast,Nat.zero_add] at hw'
  have cJ:=B.F1 1 rfl eA (by omega) (o:=i*7+1) (vs:=x.δ[i].msg.cells p2' cap2) (by show i*7+1+6<=_;omega) hw';have hel:∀ M w,Δ M w ds x.δ->ζ M w p2' x.δ[i].msg.ξ->Δ M w (dM ds (i*7+1) (x.δ[i].msg.cells p2' cap2)) x.δ:=λM w a b=>Ym (k:=1) a hlt hq (by show 1+6<=7;omega) (RN (p:=p2') (c:=cap2) FU h1 h2 hmo b);generalize dM ds (i*7+1) (x.δ[i].msg.cells p2' cap2)=ds' at cJ hel;exact ⟨.buf aC x.held.length c4 cs 36 4 :: .buf dL x.δ.length c5 ds' 40 7 :: aU m x S,λM w=>(eg M w/\Δ M w cs x.held)/\Δ M w ds' x.δ,γ,cJ.weak λM w h=>⟨h.1.1,hel M w h.1.2 h.2⟩,by unfold V;omega,_,_,x.δ.length - (i+1),γ,λw G B=>B,⟨i+1,ds',by omega,hlt,rfl,rfl,rfl⟩,by omega⟩
 refine (Uz (a2D (Φ:=λM w=>(eg M w/\Δ M w cs x.held)/\Δ M w ds x.δ) m.op m.aN x.output (λM w h=>(LK M w h.1.1).out) ho hr)).use B λvr Oj w g6 aVC B=>⟨vr,_,Oj,rfl,.buf aC x.held.length c4 cs 36 4 :: .buf dL x.δ.length c5 ds 40 7 :: aU m x S,_,γ,B,λw G B=>?_⟩;have B:Ctx W w (.buf aC x.held.length c4 cs 36 4 :: .buf dL x.δ.length c5 ds 40 7 :: aU m x S) (λM w=>((eg M w/\Δ M w cs x.held)/\Δ M w ds x.δ)/\ζ M w vr (bk x.output)):=Ctx.left (F:=G) B
 obtain ⟨bG,eC,_,l4,xS⟩:=Ctx.freeze B B.Γ.1.1.2;have bH:=bG.add (Ψ:=λM w=>ζ M w aC x.held) eC;obtain ⟨cW,k9,_,Xt,Xu⟩:=Ctx.freeze bH bH.Γ.1.1.2;have wZ:=cW.add (Ψ:=λM w=>ζ M w dL x.δ) k9;refine hk ⟨p1,c1,p2,c2,p3,c3,aC,c4,dL,c5,vr,Oj⟩ w ⟨⟨g1,aV9⟩,⟨g2,aVA⟩,⟨g3,aVB⟩,⟨l4,xS⟩,⟨Xt,Xu⟩,⟨g6,aVC⟩⟩ (wZ.weak λM w h=>?_);have h3:=fR M w h.1.1.1.1.1;exact ⟨h3.1.1.1,h3.1.1.2,h3.1.2,h3.2,h.1.2,h.2,h.1.1.2⟩
end
abbrev aW(m:gp)(x:cL)(S:List Own):List Own:=.blk m.b (cV m x) 66 :: .blk m.db (gE x.done) 4 :: S
structure eV(m:gp)(x:cL)(M:List Nat)(w:World):Prop where
 place:ζ M w m.pp x.place
 pos:ζ M w m.ak x.pos
 closed:ζ M w m.rp x.closed
 held:ζ M w m.hp x.held
 δ:ζ M w m.fp x.δ
 out:ζ M w m.op x.output
instance(m:gp)(x:cL):O (λM w=>eV m x M w):=⟨λhs h=>⟨h.place.eK hs,h.pos.eK hs,h.closed.eK hs,h.held.eK hs,h.δ.eK hs,h.out.eK hs⟩⟩
structure rZ(m:gp)(x:cL):Prop where
 place:x.place.length<=m.pc/\m.pc<=maxLen
 pos:x.pos.length<=m.qc/\m.qc<=maxLen
 closed:x.closed.length<=m.rc/\m.rc<=maxLen
 held:x.held.length<=m.hc/\m.hc<=maxLen
 δ:x.δ.length<=m.b6/\m.b6<=maxLen
 out:x.output.length<=m.aN/\m.aN<=maxLen
theorem aIO{α:Type}[ι α]{M:List Nat}{w:World}{p:Option Addr}{l:List α}(h:ζ M w p l)(k:Nat):ζ M w p (l.take k):=λj hj=>by
 rw [List.length_take] at hj;obtain ⟨b,o,cs,h1,h2,h3,h4⟩:=h j (by omega);exact ⟨b,o,cs,h1,h2,h3,by rw [List.getElem_take];exact h4⟩
theorem aIN{α:Type}[ι α]{M:List Nat}{w:World}{p:Option Addr}{l:List α}{cap:Nat}(h:ζ M w p l)(hc:l.length<=cap):ζ M w (aV p (ι.ty α).size 0 cap) l:=by
 have:=IU h 0 hc
 rwa [List.drop_zero] at this
theorem aYt{M:List Nat}{w:World}{b o:Nat}{l:List ah}(h:ζ M w (some ⟨b,o,none⟩) l){j:Nat}(hj:j<l.length):∃ p c,aQ w b (o+j*4) (l[j].cells p c):=by
 obtain ⟨b',o',cs,e,_,h3,h4⟩:=h j hj;cases e;obtain ⟨p,c,rfl,_⟩:=FV h4;exact ⟨p,c,h3⟩
theorem aYs{M:List Nat}{w:World}{b o:Nat}{l:List bn}(h:ζ M w (some ⟨b,o,none⟩) l){j:Nat}(hj:j<l.length):∃ p c,aQ w b (o+j*7) (l[j].cells p c):=by
 obtain ⟨b',o',cs,e,_,h3,h4⟩:=h j hj;cases e;obtain ⟨p,c,rfl,_⟩:=FJ h4;exact ⟨p,c,h3⟩
section
variable {W w:World}{S G:List Own}{Φ:Y}
theorem aPZ[O Φ]{m:gp}{x:cL}{h:ah}{q:Option Addr}{d:Nat}(B:Ctx W w (aW m x S) (λM w=>Φ M w/\eV m x M w))(hL:rZ m x)(hok:EE x)(hΦ:∀ M w,Φ M w->ζ M w q h.out)(hd:h.out.length<=d/\d<=maxLen)(hI:V h.node/\V h.worker/\h.state.size<=maxLen){K:c6}
  (hk:∀ e x' m' w',sM x h=(e,x')->m'.b=m.b->rZ m' x'->Ctx W w' (aW m' x' S) (λM w=>Φ M w/\eV m' x' M w)->K (.returned (.int .i64 e)) w') :
  ω F.W0 #[aA m.b 0,h.v q d] w K:=by
 have eG:=B.Γ.2.held.there;refine cn (aMp m.b 0 h.node h.worker h.state q h.out.length d (J:=K∘.returned) B ?_);clear B;obtain ⟨Ψ,hΨ⟩:∃ Ψ:Y,Ψ=(λM w=>Φ M w/\eV m x M w):=⟨_,rfl⟩;have bw:O Ψ:=by rw [hΨ];exact oq Φ (λM w=>eV m x M w)
 have p0:∀ M w,Ψ M w->Φ M w:=λM w h=>by rw [hΨ] at h;exact h.1
 have eJ:∀ M w,Ψ M w->eV m x M w:=λM w h=>by rw [hΨ] at h;exact h.2
 have a8G:=hok.held;have hcap:=hL.held;rw [<-hΨ];have hs:∀ y:ah,qH y h=true->¬ ez y h:=λy hx=>by
  unfold qH at hx;simp only [Bool.and_eq_true,decide_eq_true_eq] at hx;unfold ez;omega
 refine λ_=>bK (λzC n R' Z k=>∃ a i:Nat,zC=a/\n=i/\a<=i/\i<=x.held.length/\(∀ j (hj:j<x.held.length),j<a->ez x.held[j] h)/\(∀ j (hj:j<x.held.length),a<=j->j<i->¬ ez x.held[j] h)/\(∀ j (hj:j<x.held.length),j<i->qH x.held[j] h=false)/\R'=aW m x S/\Z=Ψ/\k=x.held.length - i)
  ⟨⟨_,Ψ,_,bw,λw G B=>B,0,0,rfl,rfl,Nat.le_refl _,Nat.zero_le _,λj _ h=>by omega,λj _ _ h=>by omega,λj _ h=>by omega,rfl,rfl,rfl⟩,?_⟩
 rintro zC n ν θ k _ ⟨a,i,rfl,rfl,hai,hi,h1,h2,h3,rfl,rfl,rfl⟩;refine λw G B=>⟨m.hp,x.held.length,m.hc,B.get 0 rfl rfl,U.intro (λhlt=>λw G B=>⟨m.hp,x.held.length,m.hc,B.get 0 rfl rfl,?_⟩) (λhge=>λw G B=>⟨m.hp,x.held.length,m.hc,B.get 0 rfl rfl,x.inst,B.get 0 rfl rfl,?_⟩)⟩
 .have hlt:i<x.held.length:=by have:=aD hlt;omega
  obtain ⟨b,o,hp⟩:=eG (by omega);refine ⟨⟨by omega,by omega⟩,aL b o hp λw G B=>?_⟩;obtain ⟨p1,c1,hrow⟩:=aYt (by rw [<-hp];exact (eJ _ _ B.Γ).held) hlt;refine ⟨x.held[i].node,x.held[i].worker,x.held[i].state,p1,x.held[i].out.length,c1,by rw [Int.toNat_natCast];exact hrow,λ_ w G B=>U.intro (λhe=>λw G B=>?_) (λhe=>λw G B=>U.intro (λhl=>?_) (λhl=>?_))⟩
  .have ha:vA x.held h=true:=List.any_eq_true.2 ⟨_,List.getElem_mem hlt,he⟩;refine hk 5 x m w (by unfold sM;rw [if_pos ha]) rfl hL ?_;rw [<-hΨ];exact Ctx.left (F:=G) B
  .have hl:ez x.held[i] h:=by unfold ez;simpa using hl
   refine ⟨by unfold V;omega,by unfold V;omega,_,θ,x.held.length - (i+1),bw,λw G B=>B,⟨i+1,i+1,by omega,by omega,Nat.le_refl _,hlt,λj hj hji=>?_,λj hj h4 h5=>by omega,λj hj hji=>?_,rfl,rfl,rfl⟩,by omega⟩
   .by_cases e:j=i
    .subst e;exact hl
    .exact LN (List.pairwise_iff_getElem.1 hok.rq j i hj hlt (by omega)) hl
   .by_cases e:j=i
    .subst e;exact he
    .exact h3 j hj (by omega)
  .have hl:¬ ez x.held[i] h:=by unfold ez;simpa using hl
   refine ⟨by unfold V;omega,_,θ,x.held.length - (i+1),bw,λw G B=>B,⟨a,i+1,rfl,by omega,by omega,hlt,h1,λj hj h4 h5=>?_,λj hj hji=>?_,rfl,rfl,rfl⟩,by omega⟩
   .by_cases e:j=i
    .subst e;exact hl
    .exact h2 j hj h4 (by omega)
   .by_cases e:j=i
    .subst e;exact he
    .exact h3 j hj (by omega)
 have hge:i=x.held.length:=by have:=aO hge;omega
 subst hge;have ha:¬ vA x.held h=true:=λha=>by
  obtain ⟨y,hy,xG⟩:=List.any_eq_true.1 ha;obtain ⟨j,hj,rfl⟩:=List.getElem_of_mem hy;rw [h3 j hj hj] at xG;cases xG
 have za:hG x.held h=a:=aCF hai h1 λj hj h4=>h2 j hj h4 hj;refine U.intro (λhn=>λw G B=>?_) (λhn=>λkb w G B=>⟨m.hp,x.held.length,m.hc,B.get 1 rfl rfl,⟨by omega,by omega,by omega⟩,λw G B=>?_⟩)
 .refine hk 6 x m w (by unfold sM;rw [if_neg ha,if_pos (aD hn)]) rfl hL ?_;rw [<-hΨ];exact Ctx.left (F:=G) B
 simp only [Int.toNat_natCast];obtain ⟨pr,BT,w1,rs,hrun,bG⟩:=Ctx.vE (α:=ah) (P:=prog) (ts:=23) (ty:=23) (kb:=#[false,false]) (bytes:=56) (q:=aV m.hp 4 a m.hc) (l:=x.held.drop a) (c2:=m.hc - a) B (by kernel_rfl) K3 (λM w h=>IU (eJ M w h).held a hcap.1) (by rw [List.length_drop];omega) (by omega);rw [List.length_drop] at hrun;obtain ⟨bH,zc,_⟩:=Ctx.freeze bG bG.Γ.2;have cW:=(bH.fst).add (Ψ:=λM w=>ζ M w pr (x.held.drop a)) zc
 refine ⟨pr,_,BT,w1,hrun,aW m x S,λM w=>θ M w/\ζ M w pr (x.held.drop a),γ,cW,?_⟩;clear B bG bH cW hrun zc;have keep:∀ {w:World} {G:List Own} {R:List Own} {Ψ:Y} [O Ψ],List.Sublist [Own.blk m.b (cV m x) 66] R->Ctx W w (R++G) Ψ->Ctx W w ([.blk m.b (cV m x) 66]++G) (λ_ _=>True):=λhs B=>(B.weak λ_ _ _=>trivial).sub (List.Sublist.append_right hs _);have s1:List.Sublist [Own.blk m.b (cV m x) 66] (aW m x S):=List.Sublist.cons_cons _ (List.nil_sublist _)
 refine ⟨[.blk m.b (cV m x) 66],λ_ _=>True,γ,λw G B=>keep s1 B,m.hp,x.held.length,m.hc,λw G B=>⟨_,_,_,B.get 0 rfl rfl,rfl⟩,⟨by omega,by omega⟩,?_⟩;have tail:∀ {k:Nat} {pa:Option Addr} {ca:Nat} {gF:List Value} {w:World} {G:List Own},Ctx W w (.blk k (h.cells q d) 36 :: .buf pa a ca gF 36 4 :: aW m x S++G) (λM w=>(θ M w/\ζ M w pr (x.held.drop a))/\Δ M w gF (x.held.take a)) ->
   ∃ AM vQ qm wA,Sem.run prog (builtin Builtin.append #[23,23] 23 #[false,false] #[.slice pa a ca,.slice (some (Addr.mk k 0 none)) 1 1]) w=Result.ok (Next.value (.slice AM vQ qm)) wA/\∃ pX mL,O mL/\Ctx W wA (pX++G) mL/\(∀ w R,Ctx W w (pX++R) mL->Ctx W w ([.blk m.b (cV m x) 66]++R) (λ_ _=>True)) /\
    ((∀ w R,Ctx W w (pX++R) mL->∃ AB zk uB uX,Sem.run prog (builtin Builtin.append #[23,23] 23 #[false,false] #[.slice AM vQ qm,.slice pr (x.held.length - a) BT]) w=Result.ok (Next.value (.slice AB zk uB)) uX/\∃ pZ mM,O mM/\Ctx W uX (pZ++R) mM/\(∀ w R,Ctx W w (pZ++R) mM->Ctx W w ([.blk m.b (cV m x) 66]++R) (λ_ _=>True)) /\
     ∀ w R,Ctx W w (pZ++R) mM->bJ w m.b (0+5) 1/\∀ w',w'=w.setCell (Addr.mk m.b (0+5) none) (.slice AB zk uB)->∃ ye ud,O ud/\Ctx W w' (ye++R) ud/\∀ w R,Ctx W w (ye++R) ud->K (.returned (.int .i64 0)) w)/\True):=by
  intro k pa ca gF w G B;obtain ⟨p1,c1,w1,C3,_,bG⟩:=Ctx.vB (P:=prog) (ts:=23) (ty:=23) (kb:=#[false,false]) (size:=4) (bytes:=56) B (by kernel_rfl) (by omega) rfl rfl (by omega) (by omega);refine ⟨p1,a+1,c1,w1,C3,.buf p1 (a+1) c1 (gF++h.cells q d) 36 4 :: aW m x S,λM w=>(θ M w/\ζ M w pr (x.held.drop a))/\Δ M w (gF++h.cells q d) (x.held.take a++[h]),γ,bG.weak λM w hh=>⟨hh.1,hh.2.snoc (RO hI.1 hI.2.1 hI.2.2 hd.1 hd.2 (hΦ M w (p0 M w hh.1.1)))⟩,λw G B=>keep (s1.cons _) B,λw G B=>?_,trivial⟩
  obtain ⟨p2,c2,w2,ns,iu,bH⟩:=Ctx.OT (α:=ah) (P:=prog) (ts:=23) (ty:=23) (kb:=#[false,false]) (bytes:=56) (q:=pr) (l:=x.held.drop a) (c2:=BT) B (by kernel_rfl) K3 (λM w h=>h.1.2) (by rw [List.length_drop];omega) (by omega);rw [List.length_drop] at iu;have Wh:jC x.held h=x.held.take a++[h]++x.held.drop a:=by unfold jC;rw [za,aq];rfl
  obtain ⟨cW,hs3,_,l3,p4⟩:=Ctx.freeze (l:=jC x.held h) bH (by rw [Wh];exact bH.Γ.1.2.append bH.Γ.2);rw [List.length_drop] at l3;have wZ:=(cW.weak λM w hh=>hh.1.1.1).add (Ψ:=λM w=>ζ M w p2 (jC x.held h)) hs3;have zL:a+1+(x.held.length - a)=x.held.length+1:=by omega
  rw [zL] at iu l3;refine ⟨p2,_,c2,w2,iu,aW m x S,λM w=>θ M w/\ζ M w p2 (jC x.held h),γ,wZ,λw G B=>keep s1 B,λw G B=>⟨B.can 0 rfl (by show 0+5+1<=10;omega),λw' hw'=>?_⟩⟩;have e:aW { m with hp:=p2,hc:=c2 } { x with held:=jC x.held h } S=.blk m.b ((cV m x).set (0+5) (.slice p2 (x.held.length+1) c2)) 66 :: .blk m.db (gE x.done) 4 :: S:=by
   simp only [aW,cV,QJ];rfl
  refine ⟨aW { m with hp:=p2,hc:=c2 } { x with held:=jC x.held h } S,λM w=>θ M w/\ζ M w p2 (jC x.held h),γ,by rw [e];exact B.put 0 hw' rfl,λw G B=>?_⟩;refine hk 0 { x with held:=jC x.held h } { m with hp:=p2,hc:=c2 } w (by unfold sM;rw [if_neg ha,if_neg (aO hn)]) rfl ⟨hL.place,hL.pos,hL.closed,⟨by show (jC x.held h).length<=c2;rw [QJ];exact l3,p4⟩,hL.δ,hL.out⟩ ?_;refine (Ctx.left (F:=G) B).weak λM w hh=>⟨p0 M w hh.1,?_⟩
  have hF:=eJ M w hh.1;exact ⟨hF.place,hF.pos,hF.closed,hh.2,hF.δ,hF.out⟩
 have first:∀ {k:Nat} {S':List Own} {w:World},Ctx W w (.blk k [] 36 :: S') (λM w=>θ M w/\ζ M w pr (x.held.drop a))->∃ AL q7 qL gF,Sem.run prog (builtin Builtin.append #[23,23] 23 #[false,false] #[.slice (some (Addr.mk k 0 none)) 0 0,.slice (aV m.hp 4 0 m.hc) a m.hc]) w=Result.ok (Next.value (.slice AL a q7)) qL/\Ctx W qL (.buf AL a q7 gF 36 4 :: S') (λM w=>(θ M w/\ζ M w pr (x.held.drop a))/\Δ M w gF (x.held.take a)):=by
  intro k S' w B;have ht:(x.held.take a).length=a:=by rw [List.length_take];omega
  obtain ⟨p',c',w',cs,hr,cJ⟩:=Ctx.vE (α:=ah) (P:=prog) (ts:=23) (ty:=23) (kb:=#[false,false]) (bytes:=56) (q:=aV m.hp 4 0 m.hc) (l:=x.held.take a) (c2:=m.hc) B (by kernel_rfl) K3 (λM w h=>aIO (aIN (eJ M w h.1).held hcap.1) a) (by omega) (by omega);rw [ht] at hr cJ;exact ⟨p',c',w',cs,hr,cJ⟩
 refine ⟨λk1=>⟨λw G B=>keep (s1.cons _) B,λw G B=>?_,λk2=>⟨λw G B=>keep ((s1.cons _).cons _) B,λw G B=>?_,trivial⟩,trivial⟩,λk1=>⟨λw G B=>keep (s1.cons _) B,λk2=>⟨λw G B=>keep ((s1.cons _).cons _) B,λw G B=>?_,trivial⟩,trivial⟩,trivial⟩
 .obtain ⟨pa,ca,wa,gF,hr,tU⟩:=first B
  exact ⟨pa,a,ca,wa,hr,.buf pa a ca gF 36 4 :: aW m x S,_,γ,tU,λw G B=>keep (s1.cons _) B,λk2=>⟨λw G B=>keep ((s1.cons _).cons _) B,λw G B=>tail B,trivial⟩,trivial⟩
 .obtain ⟨pa,ca,wa,gF,hr,tU⟩:=first (Ctx.swap B)
  exact ⟨pa,a,ca,wa,hr,.blk k2 (h.cells q d) 36 :: .buf pa a ca gF 36 4 :: aW m x S,_,γ,Ctx.swap tU,λw G B=>keep ((s1.cons _).cons _) B,λw G B=>tail B,trivial⟩
 .obtain ⟨pa,ca,wa,gF,hr,tU⟩:=first B
  exact ⟨pa,a,ca,wa,hr,.blk k1 (h.cells q d) 36 :: .buf pa a ca gF 36 4 :: aW m x S,_,γ,Ctx.swap tU,λw G B=>keep ((s1.cons _).cons _) B,λw G B=>tail B,trivial⟩
end
section
variable {W w:World}{S G:List Own}{Φ:Y}
theorem aPX[O Φ]{m:gp}{x:cL}{f:bn}{q:Option Addr}{d:Nat}(B:Ctx W w (aW m x S) (λM w=>Φ M w/\eV m x M w))(hL:rZ m x)(hok:EE x)(hΦ:∀ M w,Φ M w->ζ M w q f.msg.ξ)(hd:f.msg.ξ.length<=d/\d<=maxLen)(hI:V f.ch/\f.msg.lP){K:c6}
  (hk:∀ e x' m' w',qF x f=(e,x')->m'.b=m.b->rZ m' x'->Ctx W w' (aW m' x' S) (λM w=>Φ M w/\eV m' x' M w)->K (.returned (.int .i64 e)) w') :
  ω F.V' #[aA m.b 0,f.v q d] w K:=by
 have eG:=B.Γ.2.δ.there;refine cn (aMo m.b 0 f.ch f.msg.kind f.msg.node f.msg.dS f.msg.bucket f.msg.n q f.msg.ξ.length d (J:=K∘.returned) B ?_);clear B;obtain ⟨Ψ,hΨ⟩:∃ Ψ:Y,Ψ=(λM w=>Φ M w/\eV m x M w):=⟨_,rfl⟩;have bw:O Ψ:=by rw [hΨ];exact oq Φ (λM w=>eV m x M w)
 have p0:∀ M w,Ψ M w->Φ M w:=λM w h=>by rw [hΨ] at h;exact h.1
 have eJ:∀ M w,Ψ M w->eV m x M w:=λM w h=>by rw [hΨ] at h;exact h.2
 have a8G:=hok.δ;have hcap:=hL.δ;rw [<-hΨ];refine λ_ w G B=>⟨x.kind,B.get 0 rfl rfl,U.intro (λh1=>λw G B=>?_) (λh1=>λw G B=>⟨some ⟨m.db,0,none⟩,x.done.length,x.done.length,λ_=>B.get 0 rfl rfl,U.intro (λh2=>λw G B=>?_) (λh2=>λw G B=>⟨some ⟨m.db,0,none⟩,x.done.length,x.done.length,B.get 0 rfl rfl,?_⟩)⟩)⟩
 .refine hk 1 x m w (by unfold qF;rw [if_pos (aD h1)]) rfl hL ?_;rw [<-hΨ];exact Ctx.left (F:=G) B
 .have h2:f.ch<0\/(x.done.length:Int)<=f.ch:=by simpa using h2
  refine hk 3 x m w (by unfold qF;rw [if_neg (aO h1),if_pos h2]) rfl hL ?_;rw [<-hΨ];exact Ctx.left (F:=G) B
 have h2:¬ (f.ch<0\/(x.done.length:Int)<=f.ch):=by simpa using h2
 have hlt:f.ch.toNat<x.done.length:=by omega
 refine ⟨⟨by omega,by omega⟩,aL m.db 0 rfl ⟨x.done.getD f.ch.toNat false,B.get 1 rfl (by rw [Nat.zero_add];exact Ik hlt),U.intro (λh3=>λw G B=>?_) (λh3=>?_)⟩⟩
 .refine hk 7 x m w (by unfold qF;rw [if_neg (aO h1),if_neg h2,if_pos h3]) rfl hL ?_;rw [<-hΨ];exact Ctx.left (F:=G) B
 refine bK (λzC n R' Z k=>∃ a i:Nat,zC=a/\n=i/\a<=i/\i<=x.δ.length/\(∀ j (hj:j<x.δ.length),j<a->x.δ[j].ch<=f.ch)/\(∀ j (hj:j<x.δ.length),a<=j->j<i->¬ x.δ[j].ch<=f.ch)/\R'=aW m x S/\Z=Ψ/\k=x.δ.length - i)
  ⟨⟨_,Ψ,_,bw,λw G B=>B,0,0,rfl,rfl,Nat.le_refl _,Nat.zero_le _,λj _ h=>by omega,λj _ _ h=>by omega,rfl,rfl,rfl⟩,?_⟩
 rintro zC n ν θ k _ ⟨a,i,rfl,rfl,hai,hi,g1,g2,rfl,rfl,rfl⟩;clear B;refine λw G B=>⟨m.fp,x.δ.length,m.b6,B.get 0 rfl rfl,U.intro (λhlt=>λw G B=>⟨m.fp,x.δ.length,m.b6,B.get 0 rfl rfl,?_⟩) (λhge=>λkb w G B=>⟨m.fp,x.δ.length,m.b6,B.get 1 rfl rfl,?_⟩)⟩
 .have hlt:i<x.δ.length:=by have:=aD hlt;omega
  obtain ⟨b,o,hp⟩:=eG (by omega);obtain ⟨p1,c1,hrow⟩:=aYs (by rw [<-hp];exact (eJ _ _ B.Γ).δ) hlt;refine ⟨⟨by omega,by omega⟩,aL b o hp ⟨x.δ[i].ch,by rw [Int.toNat_natCast];exact hrow 0 (by show 0<7;omega),U.intro (λhl=>?_) (λhl=>?_)⟩⟩
  .have hl:x.δ[i].ch<=f.ch:=aD hl;refine ⟨by unfold V;omega,by unfold V;omega,_,θ,x.δ.length - (i+1),bw,λw G B=>B,⟨i+1,i+1,by omega,by omega,Nat.le_refl _,hlt,λj hj hji=>?_,λj hj h4 h5=>by omega,rfl,rfl,rfl⟩,by omega⟩;by_cases e:j=i
   .subst e;exact hl
   .exact Int.le_trans (List.pairwise_iff_getElem.1 hok.IX j i hj hlt (by omega)) hl
  .have hl:¬ x.δ[i].ch<=f.ch:=aO hl;refine ⟨by unfold V;omega,_,θ,x.δ.length - (i+1),bw,λw G B=>B,⟨a,i+1,rfl,by omega,by omega,hlt,g1,λj hj h4 h5=>?_,rfl,rfl,rfl⟩,by omega⟩;by_cases e:j=i
   .subst e;exact hl
   .exact g2 j hj h4 (by omega)
 have hge:i=x.δ.length:=by have:=aO hge;omega
 subst hge;have za:iY x.δ f.ch=a:=Y0 hai g1 λhj=>g2 a hj (Nat.le_refl _) hj;refine ⟨⟨by omega,by omega,by omega⟩,λw G B=>?_⟩;simp only [Int.toNat_natCast];obtain ⟨pr,BT,w1,rs,hrun,bG⟩:=Ctx.vE (α:=bn) (P:=prog) (ts:=24) (ty:=24) (kb:=#[false,false]) (bytes:=72) (q:=aV m.fp 7 a m.b6) (l:=x.δ.drop a) (c2:=m.b6 - a) B (by kernel_rfl) Ji (λM w h=>IU (eJ M w h).δ a hcap.1) (by rw [List.length_drop];omega) (by omega)
 rw [List.length_drop] at hrun;obtain ⟨bH,zc,_⟩:=Ctx.freeze bG bG.Γ.2;have cW:=(bH.fst).add (Ψ:=λM w=>ζ M w pr (x.δ.drop a)) zc;refine ⟨pr,_,BT,w1,hrun,aW m x S,λM w=>θ M w/\ζ M w pr (x.δ.drop a),γ,cW,?_⟩;clear B bG bH cW hrun zc;have keep:∀ {w:World} {G:List Own} {R:List Own} {Ψ:Y} [O Ψ],List.Sublist [Own.blk m.b (cV m x) 66] R->Ctx W w (R++G) Ψ->Ctx W w ([.blk m.b (cV m x) 66]++G) (λ_ _=>True):=λhs B=>(B.weak λ_ _ _=>trivial).sub (List.Sublist.append_right hs _)
 have s1:List.Sublist [Own.blk m.b (cV m x) 66] (aW m x S):=List.Sublist.cons_cons _ (List.nil_sublist _);refine ⟨[.blk m.b (cV m x) 66],λ_ _=>True,γ,λw G B=>keep s1 B,m.fp,x.δ.length,m.b6,λw G B=>⟨_,_,_,B.get 0 rfl rfl,rfl⟩,⟨by omega,by omega⟩,?_⟩;have tail:∀ {k:Nat} {pa:Option Addr} {ca:Nat} {gF:List Value} {w:World} {G:List Own},Ctx W w (.blk k (f.cells q d) 40 :: .buf pa a ca gF 40 7 :: aW m x S++G) (λM w=>(θ M w/\ζ M w pr (x.δ.drop a))/\Δ M w gF (x.δ.take a)) ->
   ∃ AM vQ qm wA,Sem.run prog (builtin Builtin.append #[24,24] 24 #[false,false] #[.slice pa a ca,.slice (some (Addr.mk k 0 none)) 1 1]) w=Result.ok (Next.value (.slice AM vQ qm)) wA/\∃ pX mL,O mL/\Ctx W wA (pX++G) mL/\(∀ w R,Ctx W w (pX++R) mL->Ctx W w ([.blk m.b (cV m x) 66]++R) (λ_ _=>True)) /\
    ((∀ w R,Ctx W w (pX++R) mL->∃ AB zk uB uX,Sem.run prog (builtin Builtin.append #[24,24] 24 #[false,false] #[.slice AM vQ qm,.slice pr (x.δ.length - a) BT]) w=Result.ok (Next.value (.slice AB zk uB)) uX/\∃ pZ mM,O mM/\Ctx W uX (pZ++R) mM/\(∀ w R,Ctx W w (pZ++R) mM->Ctx W w ([.blk m.b (cV m x) 66]++R) (λ_ _=>True)) /\
     ∀ w R,Ctx W w (pZ++R) mM->bJ w m.b (0+6) 1/\∀ w',w'=w.setCell (Addr.mk m.b (0+6) none) (.slice AB zk uB)->∃ ye ud,O ud/\Ctx W w' (ye++R) ud/\∀ w R,Ctx W w (ye++R) ud->K (.returned (.int .i64 0)) w)/\True):=by
  intro k pa ca gF w G B;obtain ⟨p1,c1,w1,C3,_,bG⟩:=Ctx.vB (P:=prog) (ts:=24) (ty:=24) (kb:=#[false,false]) (size:=7) (bytes:=72) B (by kernel_rfl) (by omega) rfl rfl (by omega) (by omega);refine ⟨p1,a+1,c1,w1,C3,.buf p1 (a+1) c1 (gF++f.cells q d) 40 7 :: aW m x S,λM w=>(θ M w/\ζ M w pr (x.δ.drop a))/\Δ M w (gF++f.cells q d) (x.δ.take a++[f]),γ,bG.weak λM w hh=>⟨hh.1,hh.2.snoc (RN hI.1 hd.1 hd.2 hI.2 (hΦ M w (p0 M w hh.1.1)))⟩,λw G B=>keep (s1.cons _) B,λw G B=>?_,trivial⟩
  obtain ⟨p2,c2,w2,ns,iu,bH⟩:=Ctx.OT (α:=bn) (P:=prog) (ts:=24) (ty:=24) (kb:=#[false,false]) (bytes:=72) (q:=pr) (l:=x.δ.drop a) (c2:=BT) B (by kernel_rfl) Ji (λM w h=>h.1.2) (by rw [List.length_drop];omega) (by omega);rw [List.length_drop] at iu;have Wh:jB x.δ f=x.δ.take a++[f]++x.δ.drop a:=by unfold jB;rw [za,aq];rfl
  obtain ⟨cW,hs3,_,l3,p4⟩:=Ctx.freeze (l:=jB x.δ f) bH (by rw [Wh];exact bH.Γ.1.2.append bH.Γ.2);rw [List.length_drop] at l3;have wZ:=(cW.weak λM w hh=>hh.1.1.1).add (Ψ:=λM w=>ζ M w p2 (jB x.δ f)) hs3;have zL:a+1+(x.δ.length - a)=x.δ.length+1:=by omega
  rw [zL] at iu l3;refine ⟨p2,_,c2,w2,iu,aW m x S,λM w=>θ M w/\ζ M w p2 (jB x.δ f),γ,wZ,λw G B=>keep s1 B,λw G B=>⟨B.can 0 rfl (by show 0+6+1<=10;omega),λw' hw'=>?_⟩⟩;have e:aW { m with fp:=p2,b6:=c2 } { x with δ:=jB x.δ f } S=.blk m.b ((cV m x).set (0+6) (.slice p2 (x.δ.length+1) c2)) 66 :: .blk m.db (gE x.done) 4 :: S:=by
   simp only [aW,cV,QI];rfl
  refine ⟨aW { m with fp:=p2,b6:=c2 } { x with δ:=jB x.δ f } S,λM w=>θ M w/\ζ M w p2 (jB x.δ f),γ,by rw [e];exact B.put 0 hw' rfl,λw G B=>?_⟩;refine hk 0 { x with δ:=jB x.δ f } { m with fp:=p2,b6:=c2 } w (by unfold qF;rw [if_neg (aO h1),if_neg h2,if_neg (by rw [h3];simp)]) rfl ⟨hL.place,hL.pos,hL.closed,hL.held,⟨by show (jB x.δ f).length<=c2;rw [QI];exact l3,p4⟩,hL.out⟩ ?_;refine (Ctx.left (F:=G) B).weak λM w hh=>⟨p0 M w hh.1,?_⟩
  have hF:=eJ M w hh.1;exact ⟨hF.place,hF.pos,hF.closed,hF.held,hh.2,hF.out⟩
 have first:∀ {k:Nat} {S':List Own} {w:World},Ctx W w (.blk k [] 40 :: S') (λM w=>θ M w/\ζ M w pr (x.δ.drop a))->∃ AL q7 qL gF,Sem.run prog (builtin Builtin.append #[24,24] 24 #[false,false] #[.slice (some (Addr.mk k 0 none)) 0 0,.slice (aV m.fp 7 0 m.b6) a m.b6]) w=Result.ok (Next.value (.slice AL a q7)) qL/\Ctx W qL (.buf AL a q7 gF 40 7 :: S') (λM w=>(θ M w/\ζ M w pr (x.δ.drop a))/\Δ M w gF (x.δ.take a)):=by
  intro k S' w B;have ht:(x.δ.take a).length=a:=by rw [List.length_take];omega
  obtain ⟨p',c',w',cs,hr,cJ⟩:=Ctx.vE (α:=bn) (P:=prog) (ts:=24) (ty:=24) (kb:=#[false,false]) (bytes:=72) (q:=aV m.fp 7 0 m.b6) (l:=x.δ.take a) (c2:=m.b6) B (by kernel_rfl) Ji (λM w h=>aIO (aIN (eJ M w h.1).δ hcap.1) a) (by omega) (by omega);rw [ht] at hr cJ;exact ⟨p',c',w',cs,hr,cJ⟩
 refine ⟨λk1=>⟨λw G B=>keep (s1.cons _) B,λw G B=>?_,λk2=>⟨λw G B=>keep ((s1.cons _).cons _) B,λw G B=>?_,trivial⟩,trivial⟩,λk1=>⟨λw G B=>keep (s1.cons _) B,λk2=>⟨λw G B=>keep ((s1.cons _).cons _) B,λw G B=>?_,trivial⟩,trivial⟩,trivial⟩
 .obtain ⟨pa,ca,wa,gF,hr,tU⟩:=first B
  exact ⟨pa,a,ca,wa,hr,.buf pa a ca gF 40 7 :: aW m x S,_,γ,tU,λw G B=>keep (s1.cons _) B,λk2=>⟨λw G B=>keep ((s1.cons _).cons _) B,λw G B=>tail B,trivial⟩,trivial⟩
 .obtain ⟨pa,ca,wa,gF,hr,tU⟩:=first (Ctx.swap B)
  exact ⟨pa,a,ca,wa,hr,.blk k2 (f.cells q d) 40 :: .buf pa a ca gF 40 7 :: aW m x S,_,γ,Ctx.swap tU,λw G B=>keep ((s1.cons _).cons _) B,λw G B=>tail B,trivial⟩
 .obtain ⟨pa,ca,wa,gF,hr,tU⟩:=first B
  exact ⟨pa,a,ca,wa,hr,.blk k1 (f.cells q d) 40 :: .buf pa a ca gF 40 7 :: aW m x S,_,γ,Ctx.swap tU,λw G B=>keep ((s1.cons _).cons _) B,λw G B=>tail B,trivial⟩
theorem aO2[O Φ]{m:gp}{x:cL}{c:Int}(B:Ctx W w (aW m x S) (λM w=>Φ M w/\eV m x M w)){K:c6}
  (hk:∀ e x' w',pz x c=(e,x')->Ctx W w' (aW m x' S) (λM w=>Φ M w/\eV m x' M w)->K (.returned (.int .i64 e)) w') :
  ω F.Vy #[aA m.b 0,.int .i64 c] w K:=by
 refine cn (aMm m.b 0 c (J:=K∘.returned) B ?_);clear B;have hst:O (λM w=>Φ M w/\eV m x M w):=γ;refine λw G B=>⟨some ⟨m.db,0,none⟩,x.done.length,x.done.length,λ_=>B.get 0 rfl rfl,U.intro (λh2=>λw G B=>?_) (λh2=>λw G B=>⟨some ⟨m.db,0,none⟩,x.done.length,x.done.length,B.get 0 rfl rfl,?_⟩)⟩
 .have h2:c<0\/(x.done.length:Int)<=c:=by simpa using h2
  exact hk 3 x w (by unfold pz;rw [if_pos h2]) (Ctx.left (F:=G) B)
 have h2:¬ (c<0\/(x.done.length:Int)<=c):=by simpa using h2
 have hlt:c.toNat<x.done.length:=by omega
 refine ⟨⟨by omega,by omega⟩,aL m.db 0 rfl λw G B=>⟨x.done.getD c.toNat false,B.get 1 rfl (by rw [Nat.zero_add];exact Ik hlt),U.intro (λh3=>λw G B=>?_) (λh3=>λw G B=>⟨some ⟨m.db,0,none⟩,x.done.length,x.done.length,B.get 0 rfl rfl,⟨by omega,by omega⟩,aL m.db 0 rfl λw G B=>⟨B.can 1 rfl (by rw [List.length_map];omega),λw' hw'=>⟨.blk m.b (cV m x) 66 :: .blk m.db ((gE x.done).set (0+c.toNat) (.bool true)) 4 :: S,_,hst,B.put 1 hw' rfl,λw G B=>?_⟩⟩⟩)⟩⟩
 .exact hk 5 x w (by unfold pz;rw [if_neg h2,if_pos h3]) (Ctx.left (F:=G) B)
 .refine hk 0 { x with done:=x.done.set c.toNat true } w (by unfold pz;rw [if_neg h2,if_neg (by rw [h3];simp)]) ?_;have e:aW m { x with done:=x.done.set c.toNat true } S=.blk m.b (cV m x) 66 :: .blk m.db ((gE x.done).set (0+c.toNat) (.bool true)) 4 :: S:=by
   simp only [aW,cV,List.length_set,gE,Nat.zero_add,List.map_set]
  rw [e];exact (Ctx.left (F:=G) B).weak λM w h=>⟨h.1,h.2.place,h.2.pos,h.2.closed,h.2.held,h.2.δ,h.2.out⟩
theorem aOV[O Φ]{m:gp}{x:cL}{q:Option Addr}{l:List μ}{d:Nat}(B:Ctx W w (aW m x S) (λM w=>Φ M w/\eV m x M w))(hL:rZ m x)(hΦ:∀ M w,Φ M w->ζ M w q l)(h1:x.output.length<=400000)(h2:l.length<=400000)(h3:Ev x.output)(h4:Ev l){K:c6}
  (hk:∀ m' w',m'.b=m.b->rZ m' (nD x l)->Ctx W w' (aW m' (nD x l) S) (λM w=>Φ M w/\eV m' (nD x l) M w)->K (.returned (.tuple #[])) w') :
  ω F.Vz #[aA m.b 0,.slice q l.length d] w K:=by
 refine cn (aMn m.b 0 q l.length d (J:=K∘.returned) B ?_);clear B;refine λw G B=>⟨m.op,x.output.length,m.aN,B.get 0 rfl rfl,λw G B=>?_⟩;refine (aLj (Φ:=λM w=>Φ M w/\eV m x M w) (p:=m.op) (cap:=m.aN) (a:=x.output) (q:=q) (cap2:=d) (b:=l) (hΦ:=⟨λM w h=>h.2.out⟩) (hΨ:=⟨λM w h=>hΦ M w h.1⟩) h1 h2 h3 h4).use B λp c w g1 g2 B=>⟨p,_,c,rfl,aW m x S,_,γ,B,λw G B=>⟨B.can 0 rfl (by show 0+7+1<=10;omega),λw' hw'=>?_⟩⟩
 have hst:O (λM w=>(Φ M w/\eV m x M w)/\ζ M w p (v8 x.output l)):=γ;refine ⟨aW { m with op:=p,aN:=c } (nD x l) S,_,hst,B.put 0 hw' rfl,λw G B=>hk { m with op:=p,aN:=c } w rfl ⟨hL.place,hL.pos,hL.closed,hL.held,hL.δ,⟨g1,g2⟩⟩ ?_⟩;exact (Ctx.left (F:=G) B).weak λM w h=>⟨h.1.1,h.1.2.place,h.1.2.pos,h.1.2.closed,h.1.2.held,h.1.2.δ,h.2⟩
theorem aPq{l:List Bool}(h:∀ j (hj:j<l.length),l[j]=true):l.contains false=false:=by
 rw [Bool.eq_false_iff];intro hc;have hm:false∈l:=by simpa using hc
 obtain ⟨j,hj,e⟩:=List.getElem_of_mem hm;rw [h j hj] at e;cases e
theorem TC[O Φ]{m:gp}{x:cL}(B:Ctx W w (aW m x S) Φ)(hl:x.done.length<=1000){K:c6}
  (hk:∀ w',Ctx W w' (aW m x S) Φ->K (.returned (.bool (oW x))) w') :
  ω F.zN #[aA m.b 0] w K:=by
 refine cn (aMl m.b 0 (J:=K∘.returned) B ?_);clear B;refine bK (λn R' Z k=>∃ i:Nat,n=i/\i<=x.done.length/\(x.kind=1\/i=0)/\(∀ j (hj:j<x.done.length),j<i->x.done[j]=true)/\R'=aW m x S/\Z=Φ/\k=x.done.length - i)
  ⟨⟨_,Φ,_,γ,λw G B=>B,0,rfl,Nat.zero_le _,.inr rfl,λj _ h=>by omega,rfl,rfl,rfl⟩,?_⟩
 rintro n ν θ k _ ⟨i,rfl,hi,hk1,hall,rfl,rfl,rfl⟩;refine λw G B=>⟨some ⟨m.db,0,none⟩,x.done.length,x.done.length,B.get 0 rfl rfl,x.kind,λ_=>B.get 0 rfl rfl,U.intro (λhb=>λw G B=>⟨some ⟨m.db,0,none⟩,x.done.length,x.done.length,B.get 0 rfl rfl,?_⟩) (λhb=>λw G B=>⟨m.hp,x.held.length,m.hc,B.get 0 rfl rfl,x.inst,B.get 0 rfl rfl,λw G B=>?_⟩)⟩
 .have hb:(i:Int)<(x.done.length:Int)/\x.kind=1:=by simpa using hb
  have hlt:i<x.done.length:=by omega
  refine ⟨⟨by omega,by omega⟩,aL m.db 0 rfl λw G B=>⟨x.done[i],B.get 1 rfl (by rw [Int.toNat_natCast,Nat.zero_add,Ik hlt,List.getD_eq_getElem?_getD,List.getElem?_eq_getElem hlt];rfl),U.intro (λhd=>λw G B=>?_) (λhd=>⟨by unfold V;omega,_,θ,x.done.length - (i+1),γ,λw G B=>B,⟨i+1,by omega,hlt,.inl hb.2,λj hj hji=>?_,rfl,rfl,rfl⟩,by omega⟩)⟩⟩
  .have hd:x.done[i]=false:=by simpa using hd
   have:=hk w (Ctx.left (F:=G) B);have hc:x.done.contains false=true:=by
    have:=List.getElem_mem hlt;rw [hd] at this;simpa using this
   unfold oW at this;rw [hb.2,hc] at this;simpa using this
  .have hd:x.done[i]=true:=by simpa using hd
   by_cases e:j=i
   .subst e;exact hd
   .exact hall j hj (by omega)
 .have:=hk w (Ctx.left (F:=G) B);have he:(decide (x.kind≠1) || !x.done.contains false)=true:=by
   by_cases h1:x.kind=1
   .have hb:¬ ((i:Int)<(x.done.length:Int)/\x.kind=1):=by simpa using hb
    have:i=x.done.length:=by omega
    rw [aPq (λj hj=>hall j hj (by omega))];simp
   .rw [decide_eq_true h1];rfl
  unfold oW at this
  rwa [he,Bool.and_true] at this
def nZ(m:gp):kF:=⟨m.pp,m.pc,m.ak,m.qc,m.rp,m.rc,m.hp,m.hc,m.fp,m.b6,m.op,m.aN⟩
def dY(x:cL):ei:=⟨x.n,x.kind,x.place,x.pos,x.closed,x.held,x.δ,x.output⟩
theorem a4U[O Φ]{m:gp}{x:cL}(B:Ctx W w (aW m x S) Φ)(hl:x.done.length<=1000){K:c6}
  (KB:oW x=false->∀ w',Ctx W w' (aW m x S) Φ->K (.returned (.tuple #[aKt,.bool false])) w')
  (hk:oW x=true->∀ w',Ctx W w' (aW m x S) Φ->K (.returned (.tuple #[tP (nZ m) (dY x),.bool true])) w') :
  ω F.Bj #[aA m.b 0] w K:=by
 refine cn (aMq m.b 0 (J:=K∘.returned) B ?_);refine λ_ w G B=>TC (S:=S++G) B hl λw B=>⟨_,rfl,aW m x S,Φ,γ,B,U.intro (λhc=>λw G B=>KB (by simpa using hc) w (Ctx.left (F:=G) B)) (λhc=>λw G B=>⟨x.n,x.kind,m.pp,x.place.length,m.pc,m.ak,x.pos.length,m.qc,m.rp,x.closed.length,m.rc,m.hp,x.held.length,m.hc,m.fp,x.δ.length,m.b6,m.op,x.output.length,m.aN,?_,λw G B=>hk (by simpa using hc) w (Ctx.left (F:=G) B)⟩)⟩
 exact B.row 0 rfl (λj hj=>by
  rw [Nat.zero_add]
  match j,hj with
  | 0,_=>rfl
  | 1,_=>rfl
  | 2,_=>rfl
  | 3,_=>rfl
  | 4,_=>rfl
  | 5,_=>rfl
  | 6,_=>rfl
  | 7,_=>rfl
  | j+8,h=>exact absurd h (by simp))
end
theorem AU{w:World}{b o:Nat}{a:Value}{l:List Value}(h:aQ w b o (a :: l)):aQ w b (o+1) l:=λj hj=>by
 have:=h (j+1) (by simpa using hj);rw [show o+(j+1)=o+1+j by omega] at this;simpa using this
theorem GL{w:World}{b o:Nat}{a:Value}{l:List Value}(h:aQ w b o (a :: l)):w.cell? (Addr.mk b o none)=some a:=h 0 (by simp)
section
variable {Φ:Y}
set_option maxHeartbeats 2000000 in
theorem aNl[O Φ]{p:kF}{x:ei}(hΦ:∀ M w,Φ M w->bt p x M w)(hL:x.output.length<=p.aN/\p.aN<=maxLen)(hg:uh x):
  ay Φ prog F.Bi #[tP p x] (.string (bs (qa x))):=by
 refine .pinned (λM w h=>(hΦ M w h).held) λg o cs hp=>.pinned (λM w h=>(hΦ M w h.1).δ) λg2 o2 cs2 xC=>?_;refine QH (b:=g) (o:=o) (cs:=cs) (l:=x.held) (b2:=g2) (o2:=o2) (cs2:=cs2) (r:=x.δ) (λM w h=>h.1.2) (λM w h=>h.2) λhcs Jz=>?_;obtain ⟨Ψ,hΨ⟩:∃ Ψ:Y,Ψ=(λM w=>(Φ M w/\aP g o cs x.held M w)/\aP g2 o2 cs2 x.δ M w):=⟨_,rfl⟩;have bw:O Ψ:=by rw [hΨ];exact oq (λM w=>Φ M w/\aP g o cs x.held M w) (λM w=>aP g2 o2 cs2 x.δ M w)
 have eJ:∀ M w,Ψ M w->bt p x M w:=λM w h=>by rw [hΨ] at h;exact hΦ M w h.1.1
 have Ct:∀ M w,Ψ M w->aP g o cs x.held M w:=λM w h=>by rw [hΨ] at h;exact h.1.2
 have vf:∀ M w,Ψ M w->aP g2 o2 cs2 x.δ M w:=λM w h=>by rw [hΨ] at h;exact h.2
 rw [<-hΨ];have a0h:=cC hg.n;have z2:=cC hg.kind;have z3:=xY hg.place.1 hg.place.2;have z4:=xY hg.pos.1 hg.pos.2;have z5:=xY hg.closed.1 hg.closed.2;have z0:=hg.held.1;have aKr:=hg.δ.1;have a0i:=p7 (n:=(x.held.length:Int)) (by unfold V;omega);have abP:=p7 (n:=(x.δ.length:Int)) (by unfold V;omega);have abR:=Pw hg;have abQ:=a56 hg;have a0m:∀ i,(cZ (x.held.take i)).length<=31000000000:=λi=>by
  have h1:=Py (l:=x.held.take i) λy hy=>hg.held.2 y (List.mem_of_mem_take hy);rw [List.length_take] at h1;omega
 have a0l:∀ i,(e8 (x.δ.take i)).length<=30400000:=λi=>by
  have h1:=Jj (l:=x.δ.take i) λy hy=>hg.δ.2 y (List.mem_of_mem_take hy);rw [List.length_take] at h1;omega
 have hpl:=hg.place.1;have a8S:=hg.pos.1;have bp:=hg.closed.1;refine dN (aMk x.n x.kind p.pp x.place.length p.pc p.ak x.pos.length p.qc p.rp x.closed.length p.rc p.hp x.held.length p.hc p.fp x.δ.length p.b6 p.op x.output.length p.aN) λW R=>?_;refine λ_=>⟨[],λ_ _=>True,γ,λw G B=>bW B,λw G B=>?_⟩;refine ((mU _ hg.n).in).bE B ⟨λw G B=>bW B,λw G B=>((mU _ hg.kind).in).bE B ⟨λw G B=>bW B,(by show _<=(9223372036854775807:Nat);(try simp only [av,dx,List.length_append,cF]);omega),λw G B=>(Tb (λM w h=>(eJ M w h).place) (by omega)).bE B ⟨λw G B=>bW B,(by show _<=(9223372036854775807:Nat);(try simp only [av,dx,List.length_append,cF]);omega),λw G B=>(Tb (λM w h=>(eJ M w h).pos) (by omega)).bE B ⟨λw G B=>bW B,(by show _<=(9223372036854775807:Nat);(try simp only [av,dx,List.length_append,cF]);omega),λw G B=>(Tb (λM w h=>(eJ M w h).closed) (by omega)).bE B ⟨λw G B=>bW B,(by show _<=(9223372036854775807:Nat);(try simp only [av,dx,List.length_append,cF]);omega),λw G B=>((Hh _ (by unfold V;omega)).in).bE B ⟨λw G B=>bW B,(by show _<=(9223372036854775807:Nat);(try simp only [av,dx,List.length_append,cF]);omega),?_⟩⟩⟩⟩⟩⟩
 clear a0h z2 z3 z4 z5 a0i B;refine bK (λs iH R' Z k=>∃ i:Nat,iH=i/\i<=x.held.length/\s=bs ((nj x).data.toList++cZ (x.held.take i))/\R'=R/\Z=Ψ/\k=x.held.length - i) ⟨⟨_,_,_,bw,λw G B=>B,0,rfl,Nat.zero_le _,by rw [List.take_zero,show cZ []=[] from rfl,List.append_nil];rfl,rfl,rfl,rfl⟩,?_⟩;rintro s iH ck b7 k _ ⟨i,rfl,hi,rfl,rfl,rfl,rfl⟩;have a0n:=a0m i;refine U.intro (λhlt=>?_) (λhge=>λw G B=>?_)
 .have hlt:i<x.held.length:=by have:=aD hlt;omega
  obtain ⟨p1,c1,e1,_,_⟩:=hcs i hlt;have hh:=hg.held.2 _ (List.getElem_mem hlt);have y1:=cC hh.node;have aKq:=cC hh.worker;have y0:=hh.state;have aKp:=hh.out;have abK:=mJ (s:=x.held[i].state) (by omega);have abL:=p7 (n:=(x.held[i].out.length:Int)) (by unfold V;omega);have abM:=Px hh;refine ⟨⟨by omega,by omega⟩,aL g o (hp (by omega)) λw G B=>⟨_,_,_,p1,_,c1,by rw [Int.toNat_natCast];exact GI (Ct _ _ B.Γ) hlt e1,λ_=>⟨[],λ_ _=>True,γ,λw G B=>bW B,λw G B=>?_⟩⟩⟩
  refine ((mU _ hh.node).in).bE B ⟨λw G B=>bW B,(by show _<=(9223372036854775807:Nat);(try simp only [av,dx,List.length_append,cF]);omega),λw G B=>((mU _ hh.worker).in).bE B ⟨λw G B=>bW B,(by show _<=(9223372036854775807:Nat);(try simp only [av,dx,List.length_append,cF]);omega),λw G B=>((BE _ (by omega)).in).bE B ⟨λw G B=>bW B,(by show _<=(9223372036854775807:Nat);(try simp only [av,dx,List.length_append,cF]);omega),λw G B=>?_⟩⟩⟩
  obtain ⟨g3,gj,tT,xD,B⟩:=B.r6 (Yl (Ct _ _ B.Γ) hlt e1);have J':∀ j,(hj:j<x.held[i].out.length)->∃ p c,tT.getD j []=x.held[i].out[j].cells p c/\x.held[i].out[j].msg.ξ.length<=c/\c<=maxLen:=λj hj=>RF B.Γ.2 hj;obtain ⟨fl,nq⟩:∃ fl:Y,fl=(λM w=>b7 M w/\aP g3 gj tT x.held[i].out M w):=⟨_,rfl⟩;have rC:O fl:=by rw [nq];exact @oq b7 (λM w=>aP g3 gj tT x.held[i].out M w) bw (X8 g3 gj tT x.held[i].out)
  have k2:∀ M w,fl M w->b7 M w/\aP g3 gj tT x.held[i].out M w:=λM w h=>by rw [nq] at h;exact h
  rw [<-nq] at B;refine ((Hh _ (by unfold V;omega)).in (Φ:=fl)).bE B ⟨λw G B=>bW B,(by show _<=(9223372036854775807:Nat);(try simp only [av,dx,List.length_append,cF]);omega),?_⟩;clear B;have a0o:∀ j,(eB (x.held[i].out.take j)).length<=30400000:=λj=>by
   have h1:=Lj (l:=x.held[i].out.take j) λy hy=>hh.msg y (List.mem_of_mem_take hy);rw [List.length_take] at h1;omega
  refine bK (λs iH R' Z k=>∃ j:Nat,iH=j/\j<=x.held[i].out.length/\s=bs ((nj x).data.toList++cZ (x.held.take i)++(x8 x.held[i]).data.toList++eB (x.held[i].out.take j))/\R'=ck/\Z=fl/\k=x.held[i].out.length - j) ⟨⟨_,_,_,rC,λw G B=>B,0,rfl,Nat.zero_le _,?_,rfl,rfl,rfl⟩,?_⟩
  .rw [List.take_zero,show eB []=[] from rfl,List.append_nil];unfold x8;rw [tN,tN,tN,tN];simp only [IV,aq]
  rintro s iH eT fD k _ ⟨j,rfl,hj,rfl,rfl,rfl,rfl⟩;have abT:=a0o j;refine U.intro (λe3=>?_) (λzY=>⟨by unfold V;omega,_,b7,x.held.length - (i+1),bw,λw G B=>B.weak λM w h=>(k2 M w h).1,⟨i+1,by omega,hlt,?_,rfl,rfl,rfl⟩,by omega⟩)
  .have e3:j<x.held[i].out.length:=by have:=aD e3;omega
   obtain ⟨aC,c4,bR,l4,xS⟩:=J' j e3;obtain ⟨hwk,dz⟩:=hh.msg _ (List.getElem_mem e3);have u1:=cC hwk;have u2:=dz.text;have u3:=dz.msg;have u4:=(pG dz.right).1;have Df:=dz.bytes;have aZN:(bs ((nj x).data.toList++cZ (x.held.take i)++(x8 x.held[i]).data.toList++eB (x.held[i].out.take j))).size<=50000000000:=by rw [dx,List.length_append,List.length_append,List.length_append,cF,cF];omega
   refine ⟨eT,fD,rC,λw G B=>B,⟨by omega,by omega⟩,aL g3 gj (xD (by omega)) ⟨⟨by omega,by omega⟩,aL g3 gj (xD (by omega)) ⟨x.held[i].out[j].worker,λw G B=>⟨_,by rw [Int.toNat_natCast];exact GL (xh (k2 _ _ B.Γ).2 e3 bR),rfl⟩,_,_,_,_,_,aC,_,c4,λw G B=>⟨_,_,_,_,_,_,_,_,by rw [Int.toNat_natCast];exact AU (xh (k2 _ _ B.Γ).2 e3 bR),rfl⟩,λw G B=>?_⟩⟩⟩;refine ((mU _ hwk).in).bE B ⟨λw G B=>B,by show _<=(9223372036854775807:Nat);omega,λw G B=>?_⟩
   refine (a2N (m:=x.held[i].out[j].msg) (λM w h=>GJ (k2 M w h).2 e3 bR) dz.ok l4 xS (by omega) dz.fit (by omega)).bE B ⟨λw G B=>B,λw G B=>?_⟩;refine ((BE (fK x.held[i].out[j].msg) (by omega)).in).bE B ⟨λw G B=>B,by show _<=(9223372036854775807:Nat);rw [av];omega,by unfold V;omega,_,fD,x.held[i].out.length - (j+1),rC,λw G B=>B,⟨j+1,by omega,e3,?_,rfl,rfl,rfl⟩,by omega⟩;rw [List.take_succ_eq_append_getElem e3,aET,tN,tN]
   unfold w7;simp only [aq]
  .have zY:j=x.held[i].out.length:=by have:=aO zY;omega
   rw [List.take_succ_eq_append_getElem hlt,a8B,zY,List.take_length];unfold qi;simp only [aq]
 have hge:i=x.held.length:=by have:=aO hge;omega
 subst hge;rw [List.take_length] at a0n;rw [List.take_length];have ade:(bs ((nj x).data.toList++cZ x.held)).size<=40000000000:=by rw [dx,List.length_append,cF];omega
 refine ((Hh _ (by unfold V;omega)).in).bE B ⟨by show _<=(9223372036854775807:Nat);omega,?_⟩;clear B;refine bK (λs iH R' Z k=>∃ i:Nat,iH=i/\i<=x.δ.length/\s=bs ((nj x).data.toList++cZ x.held++(cY (x.δ.length:Int)).data.toList++e8 (x.δ.take i))/\R'=ck/\Z=b7/\k=x.δ.length - i) ⟨⟨_,_,_,bw,λw G B=>B,0,rfl,Nat.zero_le _,by rw [List.take_zero,show e8 []=[] from rfl,List.append_nil,tN],rfl,rfl,rfl⟩,?_⟩;rintro s iH eT fD k _ ⟨i,rfl,hi,rfl,rfl,rfl,rfl⟩
 have abS:=a0l i;have aZN:(bs ((nj x).data.toList++cZ x.held++(cY (x.δ.length:Int)).data.toList++e8 (x.δ.take i))).size<=50000000000:=by rw [dx,List.length_append,List.length_append,List.length_append,cF,cF];omega
 refine U.intro (λhlt=>?_) (λhge=>λw G B=>?_)
 .have hlt:i<x.δ.length:=by have:=aD hlt;omega
  obtain ⟨aC,c4,bR,l4,xS⟩:=Jz i hlt;obtain ⟨hwk,dz⟩:=hg.δ.2 _ (List.getElem_mem hlt);have u1:=cC hwk;have u2:=dz.text;have u3:=dz.msg;have u4:=(pG dz.right).1;have Df:=dz.bytes;refine ⟨eT,fD,bw,λw G B=>B,⟨by omega,by omega⟩,aL g2 o2 (xC (by omega)) ⟨⟨by omega,by omega⟩,aL g2 o2 (xC (by omega)) ⟨x.δ[i].ch,λw G B=>⟨_,by rw [Int.toNat_natCast];exact GL (DO (vf _ _ B.Γ) hlt bR),rfl⟩,_,_,_,_,_,aC,_,c4,λw G B=>⟨_,_,_,_,_,_,_,_,by rw [Int.toNat_natCast];exact AU (DO (vf _ _ B.Γ) hlt bR),rfl⟩,λw G B=>?_⟩⟩⟩
  refine ((mU _ hwk).in).bE B ⟨λw G B=>B,by show _<=(9223372036854775807:Nat);omega,λw G B=>?_⟩;refine (a2N (m:=x.δ[i].msg) (λM w h=>RE (vf M w h) hlt bR) dz.ok l4 xS (by omega) dz.fit (by omega)).bE B ⟨λw G B=>B,λw G B=>?_⟩;refine ((BE (fK x.δ[i].msg) (by omega)).in).bE B ⟨λw G B=>B,by show _<=(9223372036854775807:Nat);rw [av];omega,by unfold V;omega,_,fD,x.δ.length - (i+1),bw,λw G B=>B,⟨i+1,by omega,hlt,?_,rfl,rfl,rfl⟩,by omega⟩
  rw [List.take_succ_eq_append_getElem hlt,a7D,tN,tN];unfold vK;simp only [aq]
 have hge:i=x.δ.length:=by have:=aO hge;omega
 subst hge;have hout:=hg.out;have aVZ:(bs (bQ x.output)).size=(bQ x.output).length:=dx _;have zt:=mJ (s:=bs (bQ x.output)) (by omega);refine (a4S (cap:=p.aN) (hΦ:=⟨λM w h=>(eJ M w h).out⟩) hL.1 hL.2 hout.1 hout.2.1).bE B λw G B=>?_;refine ((BE (bs (bQ x.output)) (by omega)).in).bE B ⟨by show _<=(9223372036854775807:Nat);omega,λw G B=>⟨?_,B.left⟩⟩;rw [List.take_length];show Value.string (bs (zE x)++bx (bs (bQ x.output)))=_
 rw [tN];rfl
end
section
variable {Φ:Y}
theorem aWf[O Φ]{p q:Option Addr}{c d:Nat}{l:List Int}(h1:ri p l.length)(h2:ri q l.length)(hΦ:∀ M w,Φ M w->ζ M w p l)(hΨ:∀ M w,Φ M w->ζ M w q l)(hl:l.length<=10000000):ay Φ prog F.FF #[.slice p l.length c,.slice q l.length d] (.bool true):=by
 refine dN (aMs p l.length c q l.length d) λW R=>U.intro (λh=>absurd rfl (aD h)) λ_=>?_;refine bK (λn R' Z k=>∃ i:Nat,n=i/\i<=l.length/\R'=R/\Z=Φ/\k=l.length - i) ⟨⟨R,_,_,γ,λw F c=>c,0,rfl,Nat.zero_le _,rfl,rfl,rfl⟩,?_⟩;rintro n ν θ k _ ⟨i,rfl,hi,rfl,rfl,rfl⟩;refine U.intro (λhlt=>λw G B=>?_) (λhge=>λw G B=>⟨rfl,B.left⟩);have hlt:i<l.length:=by have:=aD hlt;omega
 obtain ⟨b,o,hp⟩:=h1 (by omega);obtain ⟨b',o',hp'⟩:=h2 (by omega);refine ⟨by omega,aL b o hp ⟨l[i],by rw [Int.toNat_natCast];exact Mc (by rw [<-hp];exact hΦ _ _ B.Γ) hlt,by omega,aL b' o' hp' ⟨l[i],by rw [Int.toNat_natCast];exact Mc (by rw [<-hp'];exact hΨ _ _ B.Γ) hlt,U.intro (λh=>absurd rfl (aD h)) λ_=>⟨by unfold V;omega,ν,θ,l.length - (i+1),γ,λw G B=>B,⟨i+1,rfl,hlt,rfl,rfl,rfl⟩,by omega⟩⟩⟩⟩
theorem QL[O Φ]{p q:Option Addr}{c d:Nat}{l:List Int}(hΦ:∀ M w,Φ M w->ζ M w p l)(hΨ:∀ M w,Φ M w->ζ M w q l)(hl:l.length<=10000000):ay Φ prog F.FF #[.slice p l.length c,.slice q l.length d] (.bool true) :=
 .there (λM w h=>(hΦ M w h).there) λh1=>.there (λM w h=>(hΨ M w h).there) λh2=>aWf h1 h2 hΦ hΨ hl
theorem a8n[O Φ]{f:FuncId}{args:Array Value}{v:Value}{b o:Nat}{cs:List (List Value)}{l:List ah}(hΦ:∀ M w,Φ M w->aP b o cs l M w)
  (h:∀ T:Nat->Nat × Nat × List (List Value),(∀ j,(hj:j<l.length)->∃ p c,cs.getD j []=l[j].cells p c/\(0<l[j].out.length->p=some ⟨(T j).1,(T j).2.1,none⟩)/\∀ k,(hk:k<l[j].out.length)->∃ p c,(T j).2.2.getD k []=l[j].out[k].cells p c/\l[j].out[k].msg.ξ.length<=c/\c<=maxLen)->ay (λM w=>Φ M w/\∀ j,(hj:j<l.length)->aP (T j).1 (T j).2.1 (T j).2.2 l[j].out M w) prog f args v):ay Φ prog f args v :=
 ⟨λW w S c=>by
  have key:∀ j,∃ t:Nat × Nat × List (List Value),∀ hj:j<l.length,∃ p c,cs.getD j []=l[j].cells p c/\(0<l[j].out.length->p=some ⟨t.1,t.2.1,none⟩)/\aP t.1 t.2.1 t.2.2 l[j].out (dom S) w:=λj=>by
   by_cases hj:j<l.length
   .obtain ⟨p,c2,e,_⟩:=Yk (hΦ _ _ c.Γ) hj;obtain ⟨b2,o2,ds,h1,h2⟩:=(Yl (hΦ _ _ c.Γ) hj e).r6;exact ⟨(b2,o2,ds),λ_=>⟨p,c2,e,h1,h2⟩⟩
   .exact ⟨(0,0,[]),λh=>absurd h hj⟩
  obtain ⟨T,hT⟩:=Classical.skolem.1 key;have c':=c.add (Ψ:=λM w=>∀ j,(hj:j<l.length)->aP (T j).1 (T j).2.1 (T j).2.2 l[j].out M w) λj hj=>by obtain ⟨_,_,_,_,h⟩:=hT j hj;exact h
  exact ((h T λj hj=>by obtain ⟨p,c2,h1,h2,h3⟩:=hT j hj;exact ⟨p,c2,h1,h2,λk hk=>RF h3 hk⟩).go W w S c').mono λe w' ⟨h1,h2⟩=>⟨h1,h2.fst⟩⟩
instance adb(T:Nat->Nat × Nat × List (List Value))(l:List ah):O (λM w=>∀ j,(hj:j<l.length)->aP (T j).1 (T j).2.1 (T j).2.2 l[j].out M w):=⟨λhs h j hj=>(X8 (T j).1 (T j).2.1 (T j).2.2 l[j].out).step hs (h j hj)⟩
set_option maxHeartbeats 2000000 in
theorem UF[O Φ]{p q:kF}{x:ei}(hΦ:∀ M w,Φ M w->bt p x M w)(X1:∀ M w,Φ M w->bt q x M w)(hg:uh x):
  ay Φ prog F.rz #[tP p x,tP q x] (.bool true):=by
 refine .pinned (λM w h=>(hΦ M w h).held) λg o cs hp=>.pinned (λM w h=>(hΦ M w h.1).δ) λg2 o2 cs2 xC=>?_;refine .pinned (λM w h=>(X1 M w h.1.1).held) λe R4 ds hq=>.pinned (λM w h=>(X1 M w h.1.1.1).δ) λe2 Lg tV js=>?_;refine QH (b:=g) (o:=o) (cs:=cs) (l:=x.held) (b2:=g2) (o2:=o2) (cs2:=cs2) (r:=x.δ) (λM w h=>h.1.1.1.2) (λM w h=>h.1.1.2) λhcs Jz=>?_;refine QH (b:=e) (o:=R4) (cs:=ds) (l:=x.held) (b2:=e2) (o2:=Lg) (cs2:=tV) (r:=x.δ) (λM w h=>h.1.2) (λM w h=>h.2) λhds aVi=>?_
 refine a8n (λM w h=>h.1.1.1.2) λT hT=>a8n (λM w h=>h.1.1.2) λe7 tj=>?_;obtain ⟨Ψ,hΨ⟩:∃ Ψ:Y,Ψ=(λM w=>(((((Φ M w/\aP g o cs x.held M w)/\aP g2 o2 cs2 x.δ M w)/\aP e R4 ds x.held M w)/\aP e2 Lg tV x.δ M w)/\∀ j,(hj:j<x.held.length)->aP (T j).1 (T j).2.1 (T j).2.2 x.held[j].out M w)/\∀ j,(hj:j<x.held.length)->aP (e7 j).1 (e7 j).2.1 (e7 j).2.2 x.held[j].out M w):=⟨_,rfl⟩;have bw:O Ψ:=by rw [hΨ];infer_instance
 have eJ:∀ M w,Ψ M w->bt p x M w:=λM w h=>by rw [hΨ] at h;exact hΦ M w h.1.1.1.1.1.1
 have Qd:∀ M w,Ψ M w->bt q x M w:=λM w h=>by rw [hΨ] at h;exact X1 M w h.1.1.1.1.1.1
 have Ct:∀ M w,Ψ M w->aP g o cs x.held M w:=λM w h=>by rw [hΨ] at h;exact h.1.1.1.1.1.2
 have vf:∀ M w,Ψ M w->aP g2 o2 cs2 x.δ M w:=λM w h=>by rw [hΨ] at h;exact h.1.1.1.1.2
 have vg:∀ M w,Ψ M w->aP e R4 ds x.held M w:=λM w h=>by rw [hΨ] at h;exact h.1.1.1.2
 have Xo:∀ M w,Ψ M w->aP e2 Lg tV x.δ M w:=λM w h=>by rw [hΨ] at h;exact h.1.1.2
 have gz:∀ M w,Ψ M w->∀ j,(hj:j<x.held.length)->aP (T j).1 (T j).2.1 (T j).2.2 x.held[j].out M w:=λM w h=>by rw [hΨ] at h;exact h.1.2
 have Xq:∀ M w,Ψ M w->∀ j,(hj:j<x.held.length)->aP (e7 j).1 (e7 j).2.1 (e7 j).2.2 x.held[j].out M w:=λM w h=>by rw [hΨ] at h;exact h.2
 rw [<-hΨ];have z0:=hg.held.1;have aKr:=hg.δ.1;have hpl:=hg.place.1;have a8S:=hg.pos.1;have bp:=hg.closed.1;refine dN (aMr x.n x.kind p.pp x.place.length p.pc p.ak x.pos.length p.qc p.rp x.closed.length p.rc p.hp x.held.length p.hc p.fp x.δ.length p.b6 p.op x.output.length p.aN x.n x.kind q.pp x.place.length q.pc q.ak x.pos.length q.qc q.rp x.closed.length q.rc q.hp x.held.length q.hc q.fp x.δ.length q.b6 q.op x.output.length q.aN) λW R=>?_
 refine λ_ _=>U.intro (λh=>absurd rfl (aD h)) λ_=>U.intro (λh=>absurd rfl (aD h)) λ_=>λw G B=>?_;refine (QL (λM w h=>(eJ M w h).place) (λM w h=>(Qd M w h).place) (by omega)).use B λw B=>⟨_,rfl,R,Ψ,bw,B,U.intro (λh=>by simp at h) λ_=>λw G B=>?_⟩;refine (QL (λM w h=>(eJ M w h).pos) (λM w h=>(Qd M w h).pos) (by omega)).use B λw B=>⟨_,rfl,R,Ψ,bw,B,U.intro (λh=>by simp at h) λ_=>λw G B=>?_⟩;refine (QL (λM w h=>(eJ M w h).closed) (λM w h=>(Qd M w h).closed) (by omega)).use B λw B=>⟨_,rfl,R,Ψ,bw,B,U.intro (λh=>by simp at h) λ_=>U.intro (λh=>absurd rfl (aD h)) λ_=>U.intro (λh=>absurd rfl (aD h)) λ_=>λw G B=>?_⟩
 refine (aO4 p.op p.aN x.output q.op q.aN x.output (λM w h=>(eJ M w h).out) (λM w h=>(Qd M w h).out) (by have:=hg.out.1;omega)).use B λw B=>⟨_,rfl,R,Ψ,bw,B,U.intro (λh=>by simp at h) λ_=>?_⟩;clear B;refine bK (λiH R' Z k=>∃ i:Nat,iH=i/\i<=x.held.length/\R'=R/\Z=Ψ/\k=x.held.length - i) ⟨⟨_,_,_,bw,λw G B=>B,0,rfl,Nat.zero_le _,rfl,rfl,rfl⟩,?_⟩;rintro iH ck b7 k _ ⟨i,rfl,hi,rfl,rfl,rfl⟩;refine U.intro (λhlt=>?_) (λhge=>?_)
 .have hlt:i<x.held.length:=by have:=aD hlt;omega
  obtain ⟨p1,c1,e1,xD,J'⟩:=hT i hlt;obtain ⟨p2,c2,aRo,Q9,aVf⟩:=tj i hlt;have hh:=hg.held.2 _ (List.getElem_mem hlt);have aKp:=hh.out;refine ⟨⟨by omega,by omega⟩,aL g o (hp (by omega)) λw G B=>⟨_,_,_,p1,_,c1,by rw [Int.toNat_natCast];exact GI (Ct _ _ B.Γ) hlt e1,λ_=>⟨⟨by omega,by omega⟩,aL e R4 (hq (by omega)) λw G B=>⟨_,_,_,p2,_,c2,by rw [Int.toNat_natCast];exact GI (vg _ _ B.Γ) hlt aRo,λ_ w G B=>U.intro (λh=>by simp at h) λ_=>?_⟩⟩⟩⟩
  clear B;refine bK (λiH R' Z k=>∃ j:Nat,iH=j/\j<=x.held[i].out.length/\R'=ck/\Z=b7/\k=x.held[i].out.length - j) ⟨⟨_,_,_,bw,λw G B=>B,0,rfl,Nat.zero_le _,rfl,rfl,rfl⟩,?_⟩;rintro iH eT fD k _ ⟨j,rfl,hj,rfl,rfl,rfl⟩;refine U.intro (λe3=>?_) (λzY=>⟨by unfold V;omega,_,fD,x.held.length - (i+1),bw,λw G B=>B,⟨i+1,by omega,hlt,rfl,rfl,rfl⟩,by omega⟩);have e3:j<x.held[i].out.length:=by have:=aD e3;omega
  obtain ⟨aC,c4,bR,l4,xS⟩:=J' j e3;obtain ⟨dL,c5,fY,Xt,Xu⟩:=aVf j e3;obtain ⟨hwk,dz⟩:=hh.msg _ (List.getElem_mem e3);have u4:=(pG dz.right).1;refine ⟨eT,fD,bw,λw G B=>B,⟨by omega,by omega⟩,aL (T i).1 (T i).2.1 (xD (by omega)) ⟨⟨by omega,by omega⟩,aL (e7 i).1 (e7 i).2.1 (Q9 (by omega)) ⟨x.held[i].out[j].worker,λw G B=>⟨_,by rw [Int.toNat_natCast];exact GL (xh (gz _ _ B.Γ i hlt) e3 bR),rfl⟩,x.held[i].out[j].worker,λw G B=>⟨_,by rw [Int.toNat_natCast];exact GL (xh (Xq _ _ B.Γ i hlt) e3 fY),rfl⟩,U.intro (λh=>absurd rfl (aD h)) λ_=>⟨⟨by omega,by omega⟩,aL (T i).1 (T i).2.1 (xD (by omega)) ⟨⟨by omega,by omega⟩,aL (e7 i).1 (e7 i).2.1 (Q9 (by omega)) ⟨_,_,_,_,_,aC,_,c4,λw G B=>⟨_,_,_,_,_,_,_,_,by rw [Int.toNat_natCast];exact AU (xh (gz _ _ B.Γ i hlt) e3 bR),rfl⟩,_,_,_,_,_,dL,_,c5,λw G B=>⟨_,_,_,_,_,_,_,_,by rw [Int.toNat_natCast];exact AU (xh (Xq _ _ B.Γ i hlt) e3 fY),rfl⟩,λw G B=>?_⟩⟩⟩⟩⟩⟩
  refine (aHB aC dL c4 c5 x.held[i].out[j].msg (λM w h=>GJ (gz M w h i hlt) e3 bR) (λM w h=>GJ (Xq M w h i hlt) e3 fY) (by omega)).use B λw B=>⟨_,rfl,eT,fD,bw,B,U.intro (λh=>by simp at h) λ_=>⟨by unfold V;omega,_,fD,x.held[i].out.length - (j+1),bw,λw G B=>B,⟨j+1,by omega,e3,rfl,rfl,rfl⟩,by omega⟩⟩
 have hge:i=x.held.length:=by have:=aO hge;omega
 subst hge;refine bK (λiH R' Z k=>∃ i:Nat,iH=i/\i<=x.δ.length/\R'=ck/\Z=b7/\k=x.δ.length - i) ⟨⟨_,_,_,bw,λw G B=>B,0,rfl,Nat.zero_le _,rfl,rfl,rfl⟩,?_⟩;rintro iH eT fD k _ ⟨i,rfl,hi,rfl,rfl,rfl⟩;refine U.intro (λhlt=>?_) (λhge=>λw G B=>⟨rfl,B.left⟩);have hlt:i<x.δ.length:=by have:=aD hlt;omega
 obtain ⟨aC,c4,bR,l4,xS⟩:=Jz i hlt;obtain ⟨dL,c5,fY,Xt,Xu⟩:=aVi i hlt;obtain ⟨hwk,dz⟩:=hg.δ.2 _ (List.getElem_mem hlt);have u4:=(pG dz.right).1;refine ⟨eT,fD,bw,λw G B=>B,⟨by omega,by omega⟩,aL g2 o2 (xC (by omega)) ⟨⟨by omega,by omega⟩,aL e2 Lg (js (by omega)) ⟨x.δ[i].ch,λw G B=>⟨_,by rw [Int.toNat_natCast];exact GL (DO (vf _ _ B.Γ) hlt bR),rfl⟩,x.δ[i].ch,λw G B=>⟨_,by rw [Int.toNat_natCast];exact GL (DO (Xo _ _ B.Γ) hlt fY),rfl⟩,U.intro (λh=>absurd rfl (aD h)) λ_=>⟨⟨by omega,by omega⟩,aL g2 o2 (xC (by omega)) ⟨⟨by omega,by omega⟩,aL e2 Lg (js (by omega)) ⟨_,_,_,_,_,aC,_,c4,λw G B=>⟨_,_,_,_,_,_,_,_,by rw [Int.toNat_natCast];exact AU (DO (vf _ _ B.Γ) hlt bR),rfl⟩,_,_,_,_,_,dL,_,c5,λw G B=>⟨_,_,_,_,_,_,_,_,by rw [Int.toNat_natCast];exact AU (DO (Xo _ _ B.Γ) hlt fY),rfl⟩,λw G B=>?_⟩⟩⟩⟩⟩⟩
 refine (aHB aC dL c4 c5 x.δ[i].msg (λM w h=>RE (vf M w h) hlt bR) (λM w h=>RE (Xo M w h) hlt fY) (by omega)).use B λw B=>⟨_,rfl,eT,fD,bw,B,U.intro (λh=>by simp at h) λ_=>⟨by unfold V;omega,_,fD,x.δ.length - (i+1),bw,λw G B=>B,⟨i+1,by omega,hlt,rfl,rfl,rfl⟩,by omega⟩⟩
end
structure jQ(l:List μ):Prop where
 norm:Norm l
 Fw:yX l
 small:∀ x∈l,x.row.length<=12/\∀ v∈x.row,v.text.size<=200
theorem jQ.self{l:List μ}(h:jQ l):bk l=l:=V3 h.norm
theorem jQ.row{l:List μ}(h:jQ l){x:μ}(hx:x∈l):(V x.time/\V x.n)/\(gB x.row).size<=3229/\x.row.length<=12/\∀ v∈x.row,(V v.kind/\V v.num)/\v.text.size<=200:=by
 have h1:=h.small x hx;have h2:=h.Fw x hx;have h3:∀ v∈x.row,(V v.kind/\V v.num)/\v.text.size<=200:=λv hv=>⟨(h2.2 v hv).1,h1.2 v hv⟩;have h:=MO (m:=200) (r:=x.row) h3 (by decide) (by omega);have:x.row.length*(200+64)<=12*(200+64):=Nat.mul_le_mul_right _ h1.1;refine ⟨h2.1,?_,h1.1,h3⟩;unfold gB;rw [qI];omega
theorem jQ.fit{l:List μ}(h:jQ l):∀ x∈l,Fit x:=λx hx=>by
 have:=h.small x hx;exact ⟨by omega,λv hv=>Nat.le_trans (this.2 v hv) (by decide)⟩
theorem jQ.bytes{l:List μ}(h:jQ l)(hl:l.length<=400):(bQ l).length<=1400000:=by
 have h1:∀ x∈bk l,(j7 x).size<=3300:=λx hx=>by
  rw [h.self] at hx;obtain ⟨h2,h3,_⟩:=h.row hx;have a1:=cC h2.1;have a2:=cC h2.2;have a3:=mJ (s:=gB x.row) (by omega);unfold j7;rw [av,av];omega
 have h4:=V6 h1;have h5:=wY l;have h6:=p7 (n:=((bk l).length:Int)) (by unfold V;omega);unfold bQ;rw [List.length_append,cF];omega
theorem jQ.Jf{l:List μ}(h:jQ l):∀ x∈bk l,Np x:=λx hx=>by
 rw [h.self] at hx;obtain ⟨h1,h2,h3,h4⟩:=h.row hx;exact ⟨h1,λv hv=>⟨(h4 v hv).1,Nat.le_trans (h4 v hv).2 (by decide)⟩,Nat.le_trans h3 (by decide),Nat.le_trans h2 (by decide)⟩
theorem jQ.read{l:List μ}(h:jQ l)(hl:l.length<=400):sL (bQ l)=some l:=by
 have:=wY l;rw [aHJ h.Jf (by omega),h.self]
theorem jQ.aXH{l:List μ}(h:jQ l)(hl:l.length<=400):Nw (bQ l):=λout ho=>by
 have:=wY l;rw [UM h.Jf (by omega),h.self] at ho;cases ho;exact ⟨hl,h.fit⟩
theorem jQ.add{l:List μ}{m:bP}(h:jQ l)(hg:Good m):jQ (v8 l m.ξ):=by
 refine ⟨(BS _).1,a6Y λx hx=>?_,J3 (P:=λr=>r.length<=12/\∀ v∈r,v.text.size<=200) λx hx=>?_⟩
 .rcases List.mem_append.1 hx with hx|hx
  .exact h.Fw x hx
  .exact hg.Fw x hx
 .rcases List.mem_append.1 hx with hx|hx
  .exact h.small x hx
  .exact (pG hg.right).2 x hx
theorem jQ.nil:jQ []:=⟨Norm.nil,λ_ h=>(by cases h),λ_ h=>(by cases h)⟩
structure wM(h:ah):Prop where
 node:V h.node
 worker:V h.worker
 state:h.state.size<=100
 out:h.out.length<=6
 msg:∀ s∈h.out,V s.worker/\Good s.msg
structure fF(x:cL)(i:Nat):Prop where
 ok:EE x
 inst:x.inst<=6
 done:x.done.length<=8
 n:V x.n
 kind:V x.kind
 place:x.place.length<=20/\∀ y∈x.place,V y
 pos:x.pos.length<=20/\∀ y∈x.pos,V y
 closed:x.closed.length<=20/\∀ y∈x.closed,V y
 held:x.held.length<=6/\∀ h∈x.held,wM h
 δ:x.δ.length<=i/\∀ f∈x.δ,V f.ch/\Good f.msg
 out:x.output.length<=8*i
 uP:jQ x.output
theorem fF.mono{x:cL}{i:Nat}(h:fF x i):fF x (i+1):={ h with δ:=⟨by have:=h.δ.1;omega,h.δ.2⟩,out:=by have:=h.out;omega }
theorem WA{m:bP}(h:Good m):HS m:=by
 have:=pG h.right;exact ⟨by omega,λx hx=>by have:=this.2 x hx;omega⟩
theorem a88{h:ah}(hs:wM h):HR h:=⟨by have:=hs.out;omega,λs hx=>WA (hs.msg s hx).2⟩
theorem aCH:∀ {l:List ah} {h:ah},yM l->(∀ x∈l.take (hG l h),ez x h)/\∀ x∈l.drop (hG l h),¬ ez x h
 | [],h,_=>⟨by simp,by simp⟩
 | y :: l,h,ha=>by
  have φ:=List.pairwise_cons.1 ha;by_cases hy:ez y h
  .have e:hG (y :: l) h=hG l h+1:=by unfold hG;rw [List.filter_cons_of_pos (by simpa using hy),List.length_cons]
   obtain ⟨h1,h2⟩:=aCH (l:=l) (h:=h) φ.2;rw [e];refine ⟨λx hx=>?_,h2⟩;rw [List.take_succ_cons] at hx;rcases List.mem_cons.1 hx with rfl|hx
   .exact hy
   .exact h1 x hx
  .have e:hG (y :: l) h=0:=by
    unfold hG;rw [List.filter_eq_nil_iff.2 λx hx=>?_,List.length_nil];simp only [decide_eq_true_eq];rcases List.mem_cons.1 hx with rfl|hx
    .exact hy
    .exact λhlt=>hy (LN (φ.1 x hx) hlt)
   rw [e];refine ⟨by simp,λx hx=>?_⟩;rw [List.drop_zero] at hx;rcases List.mem_cons.1 hx with rfl|hx
   .exact hy
   .exact λhlt=>hy (LN (φ.1 x hx) hlt)
theorem aPz{l:List ah}{h:ah}(ha:yM l)(hn:vA l h=false):yM (jC l h):=by
 obtain ⟨h1,h2⟩:=aCH (h:=h) ha;have hs:∀ x∈l,qH x h=false:=λx hx=>by
  unfold vA at hn;rw [List.any_eq_false] at hn;simpa using hn x hx
 unfold jC yM;refine List.pairwise_append.2 ⟨ha.sublist (List.take_sublist _ _),List.pairwise_cons.2 ⟨λx hx=>?_,ha.sublist (List.drop_sublist _ _)⟩,λx hx y hy=>?_⟩
 .have h3:=h2 x hx;have h4:=hs x (List.mem_of_mem_drop hx);unfold qH at h4;simp only [Bool.and_eq_false_iff,decide_eq_false_iff_not] at h4;unfold ez at h3 ⊢;omega
 .rcases List.mem_cons.1 hy with rfl|hy
  .exact h1 x hx
  .have:=List.take_append_drop (hG l h) l;rw [yM,<-this,List.pairwise_append] at ha;exact ha.2.2 x hx y hy
theorem aCO{l:List ah}{h x:ah}(hx:x∈jC l h):x=h\/x∈l:=by
 unfold jC at hx;rcases List.mem_append.1 hx with hx|hx
 .exact .inr (List.mem_of_mem_take hx)
 .rcases List.mem_cons.1 hx with hx|hx
  .exact .inl hx
  .exact .inr (List.mem_of_mem_drop hx)
theorem aCN{l:List bn}{f x:bn}(hx:x∈jB l f):x=f\/x∈l:=by
 unfold jB at hx;rcases List.mem_append.1 hx with hx|hx
 .exact .inr (List.mem_of_mem_take hx)
 .rcases List.mem_cons.1 hx with hx|hx
  .exact .inl hx
  .exact .inr (List.mem_of_mem_drop hx)
theorem aCE:∀ {l:List bn} {c:Int},(l.Pairwise λa b=>a.ch<=b.ch)->(∀ x∈l.take (iY l c),x.ch<=c)/\∀ x∈l.drop (iY l c),c<x.ch
 | [],c,_=>⟨by simp,by simp⟩
 | y :: l,c,ha=>by
  have φ:=List.pairwise_cons.1 ha;by_cases hy:y.ch<=c
  .have e:iY (y :: l) c=iY l c+1:=by unfold iY;rw [List.takeWhile_cons_of_pos (by simpa using hy),List.length_cons]
   obtain ⟨h1,h2⟩:=aCE (l:=l) (c:=c) φ.2;rw [e];refine ⟨λx hx=>?_,h2⟩;rw [List.take_succ_cons] at hx;rcases List.mem_cons.1 hx with rfl|hx
   .exact hy
   .exact h1 x hx
  .have e:iY (y :: l) c=0:=by unfold iY;rw [List.takeWhile_cons_of_neg (by simpa using hy),List.length_nil]
   rw [e];refine ⟨by simp,λx hx=>?_⟩;rw [List.drop_zero] at hx;rcases List.mem_cons.1 hx with rfl|hx
   .omega
   .have:=φ.1 x hx;omega
theorem aQ0{l:List bn}{f:bn}(ha:l.Pairwise λa b=>a.ch<=b.ch):(jB l f).Pairwise λa b=>a.ch<=b.ch:=by
 obtain ⟨h1,h2⟩:=aCE (c:=f.ch) ha;unfold jB;refine List.pairwise_append.2 ⟨ha.sublist (List.take_sublist _ _),List.pairwise_cons.2 ⟨λx hx=>?_,ha.sublist (List.drop_sublist _ _)⟩,λx hx y hy=>?_⟩
 .have:=h2 x hx;omega
 .rcases List.mem_cons.1 hy with rfl|hy
  .exact h1 x hx
  .have:=h1 x hx;have:=h2 y hy;omega
theorem fF.report{x:cL}{i:Nat}{h:ah}(hI:fF x i)(hh:wM h):fF (sM x h).2 (i+1):=by
 unfold sM;split
 .exact hI.mono
 .rename_i h1;split
  .exact hI.mono
  .rename_i h2;have hm:=hI.mono;have h3:=hI.inst;have hlen:=QJ x.held h;have f1:∀ y∈jC x.held h,HR y:=λy hy=>by
    rcases aCO hy with rfl|hy
    .exact a88 hh
    .exact hm.ok.Jh y hy
   have f2:∀ y∈jC x.held h,wM y:=λy hy=>by
    rcases aCO hy with rfl|hy
    .exact hh
    .exact hm.held.2 y hy
   exact ⟨⟨aPz hm.ok.rq (by simpa using h1),hm.ok.IX,by show (jC x.held h).length<=1000;rw [hlen];omega,hm.ok.δ,hm.ok.done,f1,hm.ok.Jg,hm.ok.caps⟩,hm.inst,hm.done,hm.n,hm.kind,hm.place,hm.pos,hm.closed,⟨by show (jC x.held h).length<=6;rw [hlen];omega,f2⟩,hm.δ,hm.out,hm.uP⟩
theorem fF.record{x:cL}{i:Nat}{f:bn}(hI:fF x i)(hi:i<1000)(hf:V f.ch/\Good f.msg):fF (qF x f).2 (i+1):=by
 unfold qF;split
 .exact hI.mono
 .split
  .exact hI.mono
  .split
   .exact hI.mono
   .have hm:=hI.mono;have h3:=hI.δ.1;have hlen:=QI x.δ f;have f1:∀ y∈jB x.δ f,HS y.msg:=λy hy=>by
     rcases aCN hy with rfl|hy
     .exact WA hf.2
     .exact hm.ok.Jg y hy
    have f2:∀ y∈jB x.δ f,V y.ch/\Good y.msg:=λy hy=>by
     rcases aCN hy with rfl|hy
     .exact hf
     .exact hm.δ.2 y hy
    exact ⟨⟨hm.ok.rq,aQ0 hm.ok.IX,hm.ok.held,by show (jB x.δ f).length<=1000;rw [hlen];omega,hm.ok.done,hm.ok.Jh,f1,hm.ok.caps⟩,hm.inst,hm.done,hm.n,hm.kind,hm.place,hm.pos,hm.closed,hm.held,⟨by show (jB x.δ f).length<=i+1;rw [hlen];omega,f2⟩,hm.out,hm.uP⟩
theorem fF.aR8{x:cL}{i:Nat}{c:Int}(hI:fF x i):fF (pz x c).2 (i+1):=by
 unfold pz;split
 .exact hI.mono
 .split
  .exact hI.mono
  .have hm:=hI.mono;exact ⟨⟨hm.ok.rq,hm.ok.IX,hm.ok.held,hm.ok.δ,by show (x.done.set c.toNat true).length<=1000;rw [List.length_set];exact hm.ok.done,hm.ok.Jh,hm.ok.Jg,hm.ok.caps⟩,hm.inst,by show (x.done.set c.toNat true).length<=8;rw [List.length_set];exact hm.done,hm.n,hm.kind,hm.place,hm.pos,hm.closed,hm.held,hm.δ,hm.out,hm.uP⟩
theorem fF.output{x:cL}{i:Nat}{m:bP}(hI:fF x i)(hg:Good m):fF (nD x m.ξ) (i+1):=by
 have hm:=hI.mono;have h1:=aPo x.output m.ξ;have h2:=(pG hg.right).1;have h3:=hI.out;exact ⟨⟨hm.ok.rq,hm.ok.IX,hm.ok.held,hm.ok.δ,hm.ok.done,hm.ok.Jh,hm.ok.Jg,hm.ok.caps⟩,hm.inst,hm.done,hm.n,hm.kind,hm.place,hm.pos,hm.closed,hm.held,hm.δ,by show (v8 x.output m.ξ).length<=_;omega,hI.uP.add hg⟩
theorem fF.new{c:ei}{inst chans:Int}(hi:inst<=6)(hc:chans<=8)(hn:V c.n)(hk:V c.kind)(h1:c.place.length<=20/\∀ y∈c.place,V y)(h2:c.pos.length<=20/\∀ y∈c.pos,V y)(h3:c.closed.length<=20/\∀ y∈c.closed,V y):fF (iZ c inst chans) 0:=by
 have hd:(iZ c inst chans).done.length<=8:=by unfold iZ;rw [List.length_replicate];omega
 exact ⟨⟨List.Pairwise.nil,List.Pairwise.nil,Nat.zero_le _,Nat.zero_le _,by omega,λ_ h=>(by cases h),λ_ h=>(by cases h),by show c.place.length<=1000/\c.pos.length<=1000/\c.closed.length<=1000;omega⟩,hi,hd,hn,hk,h1,h2,h3,⟨Nat.zero_le _,λ_ h=>(by cases h)⟩,⟨Nat.zero_le _,λ_ h=>(by cases h)⟩,Nat.zero_le _,jQ.nil⟩
theorem fF.res{x:cL}{i:Nat}(h:fF x i):mF x=dY x:=by
 unfold mF dY;rw [h.uP.self]
theorem wM.good{h:ah}(hs:wM h):HV h:=⟨hs.node,hs.worker,by have:=hs.state;omega,by have:=hs.out;omega,hs.msg⟩
theorem fF.a69{x:cL}{i:Nat}(h:fF x i)(hi:i<=40):uh (dY x):=by
 have h1:=h.δ.1;have h2:=h.out;exact ⟨h.n,h.kind,⟨by have:=h.place.1;show x.place.length<=1000;omega,h.place.2⟩,⟨by have:=h.pos.1;show x.pos.length<=1000;omega,h.pos.2⟩,⟨by have:=h.closed.1;show x.closed.length<=1000;omega,h.closed.2⟩,⟨by have:=h.held.1;show x.held.length<=1000;omega,λy hy=>(h.held.2 y hy).good⟩,⟨by show x.δ.length<=1000;omega,h.δ.2⟩,⟨by show x.output.length<=400;omega,h.uP.fit,Nat.le_trans (h.uP.bytes (by omega)) (by decide)⟩⟩
theorem aVm{h:ah}(hs:wM h):(qi h).length<=184400:=by
 have h1:=Px hs.good;have h2:=Lj hs.msg;have h3:h.out.length*30400<=6*30400:=Nat.mul_le_mul_right _ hs.out;unfold qi;rw [List.length_append,cF];omega
theorem a8C:∀ {l:List ah},(∀ h∈l,wM h)->(cZ l).length<=l.length*184400
 | [],_=>by simp [cZ]
 | s :: l,h=>by
  have h1:=aVm (h s (by simp));have h2:=a8C (l:=l) λy hy=>h y (by simp [hy]);have e:cZ (s :: l)=qi s++cZ l:=by simp [cZ]
  rw [e,List.length_append,List.length_cons];omega
theorem fF.aQh{x:cL}{i:Nat}(h:fF x i)(hi:i<=40):a29 (dY x):=by
 have hg:=h.a69 hi;have hf:=h.δ.1;have ho:=h.out;have h1:=Pw hg;have h2:(cZ x.held).length<=x.held.length*184400:=a8C h.held.2;have Bo:=h.held.1;have h3:=p7 (n:=(x.δ.length:Int)) (by unfold V;omega);have h4:(e8 x.δ).length<=x.δ.length*30400:=Jj h.δ.2;have h5:=h.uP.bytes (by omega);have h6:=mJ (s:=bs (bQ x.output)) (by rw [dx];omega);rw [dx] at h6;refine ⟨?_,h.uP.read (by show x.output.length<=400;omega),h.uP.aXH (by show x.output.length<=400;omega)⟩
 unfold qa zE;show ((nj (dY x)).data.toList++cZ x.held++(cY (x.δ.length:Int)).data.toList++e8 x.δ++(bx (bs (bQ x.output))).data.toList).length<=_;rw [List.length_append,List.length_append,List.length_append,List.length_append,cF,cF,cF];omega
theorem fF.rows{x:cL}{i:Nat}(h:fF x i):∀ d∈x.output,d.row.length<=1000000:=λd hd=>by have:=h.uP.small d hd;omega
section
variable {Φ:Y}
set_option maxHeartbeats 1000000 in
theorem UG[O Φ]{p:Option Addr}{cap:Nat}{l:List dw}(hΦ:∀ M w,Φ M w->ζ M w p l)(hl:l.length<=maxLen):
  sZ Φ prog F.Jb #[.slice p l.length cap] λv=>∃ b,v=.bool b/\(b=true->l.length<=6/\∀ s∈l,V s.worker/\Good s.msg):=by
 refine .pinned hΦ λb o cs hp=>⟨λW w S c=>?_⟩;have hcs:∀ j,(hj:j<l.length)->∃ p c,cs.getD j []=l[j].cells p c/\l[j].msg.ξ.length<=c/\c<=maxLen:=λj hj=>RF c.Γ.2 hj;have hgd:∀ j,(hj:j<l.length)->V l[j].worker/\l[j].msg.lP/\yX l[j].msg.ξ:=λj hj=>by
  obtain ⟨q,d,_,h1,_,_,h4,h5⟩:=MZ (c.Γ.2 j hj).2.2;exact ⟨h1,h4,aIM h5⟩
 refine (a7U (Φ:=λM w=>Φ M w/\aP b o cs l M w) (aMK p l.length cap) λW R=>?_).go W w S c;clear c;refine bK (λn R' Z k=>∃ i:Nat,n=i/\i<=l.length/\R'=R/\Z=(λM w=>Φ M w/\aP b o cs l M w)/\k=l.length - i/\∀ j,(hj:j<l.length)->j<i->kZ l[j].msg=true) ⟨⟨R,_,_,γ,λw F c=>c,0,rfl,Nat.zero_le _,rfl,rfl,rfl,λj _ h=>by omega⟩,?_⟩;rintro n ν θ k _ ⟨i,rfl,hi,rfl,rfl,rfl,hok⟩;unfold maxLen at hl;refine U.intro (λhlt=>?_) (λhge=>λw G B=>⟨⟨_,rfl,λh=>?_⟩,B.left⟩)
 .have hlt:i<l.length:=by have:=aD hlt;omega
  obtain ⟨aC,c4,bR,l4,xS⟩:=hcs i hlt;unfold maxLen at xS;refine ⟨⟨by omega,by omega⟩,aL b o (hp (by omega)) λw G B=>⟨_,_,_,_,_,aC,_,c4,by rw [Int.toNat_natCast];exact AU (xh B.Γ.2 hlt bR),λw G B=>?_⟩⟩;refine (aO6 (Φ:=λM w=>Φ M w/\aP b o cs l M w) aC c4 l[i].msg (λM w h=>GJ h.2 hlt bR) (by omega)).use B λv w hv B=>?_;obtain ⟨b1,rfl,_⟩:=hv;refine ⟨b1,rfl,ν,_,γ,B,U.intro (λh=>λw G B=>⟨⟨false,rfl,λh=>by cases h⟩,B.left⟩) (λ_=>⟨⟨by omega,by omega⟩,aL b o (hp (by omega)) λw G B=>⟨_,_,_,_,_,aC,_,c4,by rw [Int.toNat_natCast];exact AU (xh B.Γ.2 hlt bR),λw G B=>?_⟩⟩)⟩
  refine (aYG (Φ:=λM w=>Φ M w/\aP b o cs l M w) aC c4 l[i].msg (λM w h=>GJ h.2 hlt bR) (by omega)).use B λw B=>⟨_,rfl,ν,_,γ,B,U.intro (λh=>λw G B=>⟨⟨false,rfl,λh=>by cases h⟩,B.left⟩) (λhr=>⟨by unfold V;omega,ν,_,l.length - (i+1),γ,λw G B=>B,⟨i+1,by omega,hlt,rfl,rfl,rfl,λj hj hji=>?_⟩,by omega⟩)⟩;by_cases e:j=i
  .subst e;simpa using hr
  .exact hok j hj (by omega)
 .have hge:i=l.length:=by have:=aO hge;omega
  have h6:=aD h;refine ⟨by omega,λs hs=>?_⟩;obtain ⟨j,hj,rfl⟩:=List.getElem_of_mem hs;obtain ⟨g1,g2,g3⟩:=hgd j hj;exact ⟨g1,g2,hok j hj (by omega),g3⟩
end
set_option maxRecDepth 100000 in
def aIl(dX fh:Option Addr)(lI:ByteArray)(n34 n35 n36:Int)(qz:Option Addr)(iF n6:Nat)(eo:Option Addr)(cv cw:Nat)(r0:Option Addr)(jZ jz:Nat)(lE:Option Addr)(gI eI:Nat)(lF:Option Addr)(eO gy:Nat)(r3:Option Addr)(gK gd:Nat)(gq:ByteArray->Int->Int->Int->Option Addr->Nat->Nat->Option Addr->Nat->Nat->Option Addr->Nat->Nat->Option Addr->Nat->Nat->Option Addr->Nat->Nat->Option Addr->Nat->Nat->List Own->Y->Nat->Prop)(gf:Nat)(W:World)(qS:List Own)(pT:Y)(J:Value->World->Prop):Prop :=
 ∀ (Ae:World) (yg:List Own),Ctx W Ae (qS++yg) pT->ω F.BQ #[Value.pointer dX] Ae λ(JF:Ending) (Gh:World)=>∃ (n141:Int),∃ (n142:Int),∃ (lz:Option Addr),∃ (jt:Nat),∃ (jD:Nat),∃ (p9:Option Addr),∃ (n4:Nat),∃ (ld:Nat),∃ (mA:Option Addr),∃ (ju:Nat),∃ (jv:Nat),∃ (pE:Option Addr),∃ (gx:Nat),∃ (jw:Nat),∃ (mB:Option Addr),∃ (lf:Nat),∃ (jx:Nat),∃ (mC:Option Addr),∃ (jE:Nat),∃ (lg:Nat),∃ (wV:Bool),JF=Ending.returned (Value.tuple #[Value.agg #[Value.int IntKind.i64 n141,Value.int IntKind.i64 n142,Value.slice lz jt jD,Value.slice p9 n4 ld,Value.slice mA ju jv,Value.slice pE gx jw,Value.slice mB lf jx,Value.slice mC jE lg],Value.bool wV])/\∃ (B7:List Own),∃ (yF:Y),O yF/\Ctx W Gh (B7++yg) yF/\∀ (b:Nat) (Af:World) (sy:List Own),Ctx W Af (B7++sy) yF->ω F.Bj #[Value.pointer fh] Af λ(JG:Ending) (N2:World)=>∃ (n168:Int),∃ (n169:Int),∃ (D1:Option Addr),∃ (CE:Nat),∃ (qo:Nat),∃ (vn:Option Addr),∃ (nt:Nat),∃ (nu:Nat),∃ (D2:Option Addr),∃ (CF:Nat),∃ (vR:Nat),∃ (D3:Option Addr),∃ (xK:Nat),∃ (xL:Nat),∃ (qy:Option Addr),∃ (qp:Nat),∃ (nv:Nat),∃ (D4:Option Addr),∃ (qq:Nat),∃ (CG:Nat),∃ (wW:Bool),JG=Ending.returned (Value.tuple #[Value.agg #[Value.int IntKind.i64 n168,Value.int IntKind.i64 n169,Value.slice D1 CE qo,Value.slice vn nt nu,Value.slice D2 CF vR,Value.slice D3 xK xL,Value.slice qy qp nv,Value.slice D4 qq CG],Value.bool wW])/\∃ (B8:List Own),∃ (yG:Y),O yG/\Ctx W N2 (B8++sy) yG/\∀ (b:Nat),U (wV != wW) (∀ (wB:World) (B9:List Own),Ctx W wB (B8++B9) yG->J (Value.bool false) wB) (∀ (xy:World) (yp:List Own),Ctx W xy (B8++yp) yG->ω F.oV #[Value.pointer dX] xy λ(VE:Ending) (S7:World)=>∃ (Ir:Bool),VE=Ending.returned (Value.bool Ir)/\∃ (Ed:List Own),∃ (Dy:Y),O Dy/\Ctx W S7 (Ed++yp) Dy/\U (wV != Ir) (∀ (Gm:World) (O0:List Own),Ctx W Gm (Ed++O0) Dy->J (Value.bool false) Gm) (∀ (N3:World) (I1:List Own),Ctx W N3 (Ed++I1) Dy->ω F.oV #[Value.pointer dX] N3 λ(VG:Ending) (Gp:World)=>∃ (c206:Bool),VG=Ending.returned (Value.bool c206)/\∃ (Ee:List Own),∃ (NV:Y),O NV/\Ctx W Gp (Ee++I1) NV/\∀ (aJU:World) (O2:List Own),Ctx W aJU (Ee++O2) NV->ω F.zN #[Value.pointer fh] aJU λ(VI:Ending) (aa2:World)=>∃ (c213:Bool),VI=Ending.returned (Value.bool c213)/\∃ (Ef:List Own),∃ (Dz:Y),O Dz/\Ctx W aa2 (Ef++O2) Dz/\U (c206 != c213) (∀ (aJV:World) (O5:List Own),Ctx W aJV (Ef++O5) Dz->J (Value.bool false) aJV) (∀ (aJX:World) (a2r:List Own),Ctx W aJX (Ef++a2r) Dz->ω F.rz #[Value.agg #[Value.int IntKind.i64 n141,Value.int IntKind.i64 n142,Value.slice lz jt jD,Value.slice p9 n4 ld,Value.slice mA ju jv,Value.slice pE gx jw,Value.slice mB lf jx,Value.slice mC jE lg],Value.agg #[Value.int IntKind.i64 n168,Value.int IntKind.i64 n169,Value.slice D1 CE qo,Value.slice vn nt nu,Value.slice D2 CF vR,Value.slice D3 xK xL,Value.slice qy qp nv,Value.slice D4 qq CG]] aJX λ(VJ:Ending) (aa3:World)=>∃ (c222:Bool),VJ=Ending.returned (Value.bool c222)/\∃ (yq:List Own),∃ (yH:Y),O yH/\Ctx W aa3 (yq++a2r) yH/\U (!c222) (∀ (aJY:World) (aOe:List Own),Ctx W aJY (yq++aOe) yH->J (Value.bool false) aJY) (U (!wV) (V (n34+1)/\∃ (Eh:List Own),∃ (As:Y),∃ (QZ:Nat),O As/\(∀ (SB:World) (a2t:List Own),Ctx W SB (yq++a2t) yH->Ctx W SB (Eh++a2t) As)/\gq lI (n34+1) n35 n36 qz iF n6 eo cv cw r0 jZ jz lE gI eI lF eO gy r3 gK gd Eh As QZ/\QZ<gf) (∀ (aJb:World) (a2v:List Own),Ctx W aJb (yq++a2v) yH->ω F.l5 #[Value.agg #[Value.int IntKind.i64 n141,Value.int IntKind.i64 n142,Value.slice lz jt jD,Value.slice p9 n4 ld,Value.slice mA ju jv,Value.slice pE gx jw,Value.slice mB lf jx,Value.slice mC jE lg]] aJb λ(JJ:Ending) (a0N:World)=>∃ (MR:ByteArray),JJ=Ending.returned (Value.string MR)/\∃ (O6:List Own),∃ (NW:Y),O NW/\Ctx W a0N (O6++a2v) NW/\∀ (N5:World) (a2y:List Own),Ctx W N5 (O6++a2y) NW->ω F.BR #[Value.string MR] N5 λ(VK:Ending) (aa6:World)=>∃ (n243:Int),∃ (n244:Int),∃ (Lx:Option Addr),∃ (Kq:Nat),∃ (Kr:Nat),∃ (Ly:Option Addr),∃ (Ks:Nat),∃ (xN:Nat),∃ (Lz:Option Addr),∃ (uG:Nat),∃ (Kt:Nat),∃ (M0:Option Addr),∃ (Ku:Nat),∃ (Kv:Nat),∃ (M1:Option Addr),∃ (CJ:Nat),∃ (CK:Nat),∃ (M3:Option Addr),∃ (Kw:Nat),∃ (Kx:Nat),∃ (Is:Bool),VK=Ending.returned (Value.tuple #[Value.agg #[Value.int IntKind.i64 n243,Value.int IntKind.i64 n244,Value.slice Lx Kq Kr,Value.slice Ly Ks xN,Value.slice Lz uG Kt,Value.slice M0 Ku Kv,Value.slice M1 CJ CK,Value.slice M3 Kw Kx],Value.bool Is])/\∃ (yu:List Own),∃ (yI:Y),O yI/\Ctx W aa6 (yu++a2y) yI/\∀ (b:Nat),U (!Is) (∃ (I3:List Own),∃ (E1:Y),O E1/\(∀ (aJg:World) (I4:List Own),Ctx W aJg (yu++I4) yI->Ctx W aJg (I3++I4) E1)/\∀ (aJh:World) (aOf:List Own),Ctx W aJh (yu++aOf) yI->J (Value.bool false) aJh) (∀ (aJj:World) (a38:List Own),Ctx W aJj (yu++a38) yI->ω F.rz #[Value.agg #[Value.int IntKind.i64 n243,Value.int IntKind.i64 n244,Value.slice Lx Kq Kr,Value.slice Ly Ks xN,Value.slice Lz uG Kt,Value.slice M0 Ku Kv,Value.slice M1 CJ CK,Value.slice M3 Kw Kx],Value.agg #[Value.int IntKind.i64 n141,Value.int IntKind.i64 n142,Value.slice lz jt jD,Value.slice p9 n4 ld,Value.slice mA ju jv,Value.slice pE gx jw,Value.slice mB lf jx,Value.slice mC jE lg]] aJj λ(VM:Ending) (aaC:World)=>∃ (It:Bool),VM=Ending.returned (Value.bool It)/\∃ (yw:List Own),∃ (yJ:Y),O yJ/\Ctx W aaC (yw++a38) yJ/\∃ (I5:List Own),∃ (E2:Y),O E2/\(∀ (aJk:World) (O8:List Own),Ctx W aJk (yw++O8) yJ->Ctx W aJk (I5++O8) E2)/\U (!It) (∀ (aJl:World) (aOh:List Own),Ctx W aJl (yw++aOh) yJ->J (Value.bool false) aJl) (∀ (Ag:World) (yx:List Own),Ctx W Ag (yw++yx) yJ->ω F.l5 #[Value.agg #[Value.int IntKind.i64 n141,Value.int IntKind.i64 n142,Value.slice lz jt jD,Value.slice p9 n4 ld,Value.slice mA ju jv,Value.slice pE gx jw,Value.slice mB lf jx,Value.slice mC jE lg]] Ag λ(Be:Ending) (N6:World)=>∃ (xp:ByteArray),Be=Ending.returned (Value.string xp)/\∃ (pn:List Own),∃ (nN:Y),O nN/\Ctx W N6 (pn++yx) nN/\(∀ (aJn:World) (a3E:List Own),Ctx W aJn (pn++a3E) nN->Ctx W aJn (I5++a3E) E2)/\∀ (aJo:World) (I6:List Own),Ctx W aJo (pn++I6) nN->ω F.Bi #[Value.agg #[Value.int IntKind.i64 n168,Value.int IntKind.i64 n169,Value.slice D1 CE qo,Value.slice vn nt nu,Value.slice D2 CF vR,Value.slice D3 xK xL,Value.slice qy qp nv,Value.slice D4 qq CG]] aJo λ(JO:Ending) (aaF:World)=>∃ (AX:ByteArray),JO=Ending.returned (Value.string AX)/\∃ (uq:List Own),∃ (uf:Y),O uf/\Ctx W aaF (uq++I6) uf/\U (decide (xp≠AX)) (∀ (aJp:World) (O9:List Own),Ctx W aJp (uq++O9) uf->J (Value.bool false) aJp) (U (decide (lI=ByteArray.mk #[])) (∀ (N7:World) (I7:List Own),Ctx W N7 (uq++I7) uf->ω F.l5 #[Value.agg #[Value.int IntKind.i64 n141,Value.int IntKind.i64 n142,Value.slice lz jt jD,Value.slice p9 n4 ld,Value.slice mA ju jv,Value.slice pE gx jw,Value.slice mB lf jx,Value.slice mC jE lg]] N7 λ(VO:Ending) (Dn:World)=>∃ (MT:ByteArray),VO=Ending.returned (Value.string MT)/\∃ (tD:List Own),∃ (rM:Y),O rM/\Ctx W Dn (tD++I7) rM/\V (n34+1)/\∃ (a3G:List Own),∃ (a1F:Y),∃ (a9x:Nat),O a1F/\(∀ (aJr:World) (a3I:List Own),Ctx W aJr (tD++a3I) rM->Ctx W aJr (a3G++a3I) a1F)/\gq MT (n34+1) n141 n142 lz jt jD p9 n4 ld mA ju jv pE gx jw mB lf jx mC jE lg a3G a1F a9x/\a9x<gf) (V (n34+1)/\∃ (a3J:List Own),∃ (a1H:Y),∃ (a9y:Nat),O a1H/\(∀ (a0P:World) (a3K:List Own),Ctx W a0P (uq++a3K) uf->Ctx W a0P (a3J++a3K) a1H)/\gq lI (n34+1) n35 n36 qz iF n6 eo cv cw r0 jZ jz lE gI eI lF eO gy r3 gK gd a3J a1H a9y/\a9y<gf)))))))))
abbrev eL(Φ:Y)(q:kF)(y:ei)(m mr:gp)(x:cL):Y:=λM w=>((Φ M w/\bt q y M w)/\eV mr x M w)/\cz m x M w
def a2K(Φ:Y)(S:List Own)(b1 b2 len:Nat):ByteArray->Int->Int->Int->Option Addr->Nat->Nat->Option Addr->Nat->Nat->Option Addr->Nat->Nat->Option Addr->Nat->Nat->Option Addr->Nat->Nat->Option Addr->Nat->Nat->List Own->Y->Nat->Prop:=λs n a0 a1 pp aH0 pc ak aH9 qc rp rn rc hp hn hc fp fn b6 op on aN R Z k =>
 ∃ (i:Nat) (m mr:gp) (x:cL) (y:ei),n=i/\i<=len/\m.b=b1/\mr.b=b2/\fF x i/\rZ mr x/\(x.output.length<=m.aN/\m.aN<=maxLen)/\(a0=y.n/\a1=y.kind/\aH0=y.place.length/\aH9=y.pos.length/\rn=y.closed.length/\hn=y.held.length/\fn=y.δ.length/\on=y.output.length)/\uh y/\(s=ByteArray.mk #[]\/s=bs (qa y))/\R=aU m x (aW mr x S)/\Z=eL Φ ⟨pp,pc,ak,qc,rp,rc,hp,hc,fp,b6,op,aN⟩ y m mr x/\k=len - i
def H6:kF:=⟨none,0,none,0,none,0,none,0,none,0,none,0⟩
def Dt:ei:=⟨0,0,[],[],[],[],[],[]⟩
theorem a0j(M:List Nat)(w:World):bt H6 Dt M w:=⟨ζ.nil,ζ.nil,ζ.nil,ζ.nil,ζ.nil,ζ.nil⟩
theorem aKs:uh Dt:=by
 have h0:V 0:=by unfold V;omega
 exact ⟨h0,h0,⟨Nat.zero_le _,λ_ h=>(by cases h)⟩,⟨Nat.zero_le _,λ_ h=>(by cases h)⟩,⟨Nat.zero_le _,λ_ h=>(by cases h)⟩,⟨Nat.zero_le _,λ_ h=>(by cases h)⟩,⟨Nat.zero_le _,λ_ h=>(by cases h)⟩,⟨Nat.zero_le _,λ_ h=>(by cases h),Nat.le_trans (jQ.nil.bytes (Nat.zero_le _)) (by decide)⟩⟩
section
variable {W w:World}{S G T:List Own}{Φ:Y}
theorem mh{m mr:gp}{x y:cL}:(aU m x (aW mr y T)).Perm (aW mr y (aU m x T)) :=
 (List.perm_append_comm (l₁:=aU m x []) (l₂:=aW mr y [])).append_right T
set_option maxHeartbeats 4000000 in
theorem Ro[O Φ](hN:∀ M w,Φ M w->fG M w){q:kF}{y:ei}{m mr:gp}{x:cL}{i len:Nat}{s:ByteArray}{J:Value->World->Prop}(hlen:len<=40)(hi:i<len)(hI:fF x (i+1))(hL:rZ mr x)(zT:x.output.length<=m.aN/\m.aN<=maxLen)(hg:uh y)(hs:s=ByteArray.mk #[]\/s=bs (qa y)):
  aIl (some ⟨m.b,0,none⟩) (some ⟨mr.b,0,none⟩) s i y.n y.kind q.pp y.place.length q.pc q.ak y.pos.length q.qc q.rp y.closed.length q.rc q.hp y.held.length q.hc q.fp y.δ.length q.b6 q.op y.output.length q.aN (a2K Φ S m.b mr.b len) (len - i) W (aU m x (aW mr x S)) (eL Φ q y m mr x) J:=by
 unfold aIl;have gZ:x.done.length<=1000:=by have:=hI.done;omega
 have KH:=hI.out;have kC:O (eL Φ q y m mr x):=γ;have aZ0:O (λM w=>(Φ M w/\bt q y M w)/\eV mr x M w):=γ;refine λw G B=>aPb (S:=aW mr x (S++G)) (Φ:=λM w=>(Φ M w/\bt q y M w)/\eV mr x M w) B hI.ok (by omega) hI.rows (λhc w B=>⟨0,0,none,0,0,none,0,0,none,0,0,none,0,0,none,0,0,none,0,0,false,rfl,aU m x (aW mr x S),eL Φ q y m mr x,kC,B,λ_ w G B=>?_⟩) (λhc p1 w FN B=>?_)
 .refine a4U (S:=aU m x (S++G)) (Ctx.perm B mh) gZ (λ_ w B=>⟨0,0,none,0,0,none,0,0,none,0,0,none,0,0,none,0,0,none,0,0,false,rfl,aU m x (aW mr x S),eL Φ q y m mr x,kC,Ctx.perm B mh.symm,λ_=>U.intro (λh=>by cases h) λ_ w G B=>?_⟩) (λh=>by rw [hc] at h;cases h);refine Nn (S:=aW mr x (S++G)) (Φ:=λM w=>(Φ M w/\bt q y M w)/\eV mr x M w) B gZ λw B=>⟨_,rfl,aU m x (aW mr x S),eL Φ q y m mr x,kC,B,U.intro (λh=>by rw [hc] at h;cases h) λ_ w G B=>?_⟩
  refine Nn (S:=aW mr x (S++G)) (Φ:=λM w=>(Φ M w/\bt q y M w)/\eV mr x M w) B gZ λw B=>⟨_,rfl,aU m x (aW mr x S),eL Φ q y m mr x,kC,B,λw G B=>?_⟩;refine TC (S:=aU m x (S++G)) (Ctx.perm B mh) gZ λw B=>⟨_,rfl,aU m x (aW mr x S),eL Φ q y m mr x,kC,Ctx.perm B mh.symm,U.intro (λh=>by simp at h) λ_ w G B=>?_⟩;refine (UF (Φ:=eL Φ q y m mr x) (p:=H6) (q:=H6) (x:=Dt) (λM w _=>a0j M w) (λM w _=>a0j M w) aKs).use B λw B=>⟨_,rfl,aU m x (aW mr x S),eL Φ q y m mr x,kC,B,U.intro (λh=>by cases h) λ_=>U.intro (λ_=>⟨by unfold V;omega,aU m x (aW mr x S),eL Φ q y m mr x,len - (i+1),kC,λw G B=>B,⟨i+1,m,mr,x,y,by omega,hi,rfl,rfl,hI,hL,zT,⟨rfl,rfl,rfl,rfl,rfl,rfl,rfl,rfl⟩,hg,hs,rfl,rfl,rfl⟩,by omega⟩) (λh=>by cases h)⟩
 .rw [hI.res] at FN B ⊢;have zX:=hI.a69 (show i+1<=40 by omega);have aVd:=hI.aQh (show i+1<=40 by omega);obtain ⟨P,hP⟩:∃ P:Y,P=eL (λM w=>Φ M w/\bt q y M w) p1 (dY x) m mr x:=⟨_,rfl⟩;have pK:O P:=by rw [hP];infer_instance
  have kA:∀ M w,P M w->(((Φ M w/\bt q y M w)/\bt p1 (dY x) M w)/\eV mr x M w)/\cz m x M w:=λM w h=>by rw [hP] at h;exact h
  have gz:∀ M w,P M w->oP M w:=λM w h=>(hN M w (kA M w h).1.1.1.1).1;have k1:∀ M w,P M w->bt p1 (dY x) M w:=λM w h=>(kA M w h).1.1.2;have k2:∀ M w,P M w->bt (nZ mr) (dY x) M w:=λM w h=>by
   have h:=(kA M w h).1.2;exact ⟨h.place,h.pos,h.closed,h.held,h.δ,h.out⟩
  have bG:Ctx W w (aU m x (aW mr x (S++G))) P:=by
   rw [hP];exact B.weak λM w h=>⟨⟨⟨h.1.1.1,h.2⟩,h.1.1.2⟩,h.1.2⟩
  have complete:∀ {w:World} {G:List Own} {K:c6},Ctx W w (aU m x (aW mr x S)++G) P->(∀ w',Ctx W w' (aU m x (aW mr x S)++G) P->K (.returned (.bool (oW x))) w')->ω F.oV #[aA m.b 0] w K:=by
   intro w G K B hk;rw [hP] at B hk;exact Nn (S:=aW mr x (S++G)) (Φ:=λM w=>((Φ M w/\bt q y M w)/\bt p1 (dY x) M w)/\eV mr x M w) B gZ hk
  clear B;refine ⟨(dY x).n,(dY x).kind,p1.pp,(dY x).place.length,p1.pc,p1.ak,(dY x).pos.length,p1.qc,p1.rp,(dY x).closed.length,p1.rc,p1.hp,(dY x).held.length,p1.hc,p1.fp,(dY x).δ.length,p1.b6,p1.op,(dY x).output.length,p1.aN,true,rfl,aU m x (aW mr x S),P,pK,bG,λ_ w G B=>?_⟩;clear bG;refine a4U (S:=aU m x (S++G)) (Ctx.perm B mh) gZ (λh=>by rw [hc] at h;cases h) (λ_ w B=>⟨(dY x).n,(dY x).kind,(nZ mr).pp,(dY x).place.length,(nZ mr).pc,(nZ mr).ak,(dY x).pos.length,(nZ mr).qc,(nZ mr).rp,(dY x).closed.length,(nZ mr).rc,(nZ mr).hp,(dY x).held.length,(nZ mr).hc,(nZ mr).fp,(dY x).δ.length,(nZ mr).b6,(nZ mr).op,(dY x).output.length,(nZ mr).aN,true,rfl,aU m x (aW mr x S),P,pK,Ctx.perm B mh.symm,λ_=>U.intro (λh=>by cases h) λ_ w G B=>?_⟩)
  refine complete B λw B=>⟨_,rfl,aU m x (aW mr x S),P,pK,B,U.intro (λh=>by rw [hc] at h;cases h) λ_ w G B=>complete B λw B=>⟨_,rfl,aU m x (aW mr x S),P,pK,B,λw G B=>?_⟩⟩;refine TC (S:=aU m x (S++G)) (Ctx.perm B mh) gZ λw B=>⟨_,rfl,aU m x (aW mr x S),P,pK,Ctx.perm B mh.symm,U.intro (λh=>by simp at h) λ_ w G B=>?_⟩;refine (UF (Φ:=P) (p:=p1) (q:=nZ mr) (x:=dY x) k1 k2 zX).use B λw B=>⟨_,rfl,aU m x (aW mr x S),P,pK,B,U.intro (λh=>by cases h) λ_=>U.intro (λh=>by cases h) λ_ w G B=>?_⟩
  refine (HP (Φ:=P) gz k1 zX).use B λw B=>⟨_,rfl,aU m x (aW mr x S),P,pK,B,λw G B=>?_⟩;refine aPR (Φ:=P) (λM w h=>hN M w (kA M w h).1.1.1.1) zX aVd B λp2 w acq B=>⟨(dY x).n,(dY x).kind,p2.pp,(dY x).place.length,p2.pc,p2.ak,(dY x).pos.length,p2.qc,p2.rp,(dY x).closed.length,p2.rc,p2.hp,(dY x).held.length,p2.hc,p2.fp,(dY x).δ.length,p2.b6,p2.op,(dY x).output.length,p2.aN,true,rfl,aU m x (aW mr x S),λM w=>P M w/\bt p2 (dY x) M w,γ,B,λ_=>U.intro (λh=>by cases h) λ_ w G B=>?_⟩
  refine (UF (Φ:=λM w=>P M w/\bt p2 (dY x) M w) (p:=p2) (q:=p1) (x:=dY x) (λM w h=>h.2) (λM w h=>k1 M w h.1) zX).use B λw B=>⟨_,rfl,aU m x (aW mr x S),P,pK,B.fst,[],λ_ _=>True,γ,λw G B=>bW B,U.intro (λh=>by cases h) λ_ w G B=>?_⟩;refine (HP (Φ:=P) gz k1 zX).use B λw B=>⟨_,rfl,aU m x (aW mr x S),P,pK,B,λw G B=>bW B,λw G B=>?_⟩;refine (aNl (Φ:=P) (p:=nZ mr) (x:=dY x) k2 hL.out zX).use B λw B=>⟨_,rfl,aU m x (aW mr x S),P,pK,B,U.intro (λh=>absurd rfl (aD h)) λ_=>U.intro (λhe w G B=>?_) (λhe=>⟨by unfold V;omega,aU m x (aW mr x S),eL Φ q y m mr x,len - (i+1),kC,λw G B=>B.weak λM w h=>?_,⟨i+1,m,mr,x,y,by omega,hi,rfl,rfl,hI,hL,zT,⟨rfl,rfl,rfl,rfl,rfl,rfl,rfl,rfl⟩,hg,hs,rfl,rfl,rfl⟩,by omega⟩)⟩
  .refine (HP (Φ:=P) gz k1 zX).use B λw B=>⟨_,rfl,aU m x (aW mr x S),P,pK,B,by unfold V;omega,aU m x (aW mr x S),eL Φ p1 (dY x) m mr x,len - (i+1),γ,λw G B=>B.weak λM w h=>?_,⟨i+1,m,mr,x,dY x,by omega,hi,rfl,rfl,hI,hL,zT,⟨rfl,rfl,rfl,rfl,rfl,rfl,rfl,rfl⟩,zX,.inr rfl,rfl,rfl,rfl⟩,by omega⟩;have h:=kA M w h;exact ⟨⟨⟨h.1.1.1.1,h.1.1.2⟩,h.1.2⟩,h.2⟩
  .have h:=kA M w h;exact ⟨⟨h.1.1.1,h.1.2⟩,h.2⟩
end
end Go.Proofs.YtfijlibaeahlaaaGreatDoor
end

