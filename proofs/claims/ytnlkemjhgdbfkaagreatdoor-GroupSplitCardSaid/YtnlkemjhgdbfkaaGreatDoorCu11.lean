/-
 What is noted as committed: walked.
-/
import Derived.Test.YtnlkemjhgdbfkaaGreatDoorCu10
open Go.Proofs.Tryz
set_option linter.unusedVariables false
set_option linter.unusedSimpArgs false
section
namespace Go.Proofs.YtnlkemjhgdbfkaaGreatDoor
open Go.Vc
def CP(L:KS)(cp:Option Addr)(cc:Nat):KS:={ L with cp:=cp,cc:=cc }
def TJ(G:gV)(l:List ByteArray):gV:={ G with eS:=l }
section
variable {L:KS}{G:gV}{i:Nat}
abbrev KU(L:KS)(G:gV)(i:Nat)(u:VV)(F:List Own):List Own:=kG L.gb (B9 L G) :: ((fG (L.P i).x (L.P i).q u.j++(bQ (L.P i).q (G.mem i).d++[fN (L.P i).cb (L.P i).q u.c]))++(KT L G i++F))
theorem EA(hi:i<3){u}(hu:(G.mem i).up=some u)(F):(eG L G++F).Perm (aV (L.P i).rb u.r (L.P i).rp (L.P i).rc++KU L G i u F):=by
 refine (a4v L G hi F).trans ?_;have e:qB (L.P i) (G.mem i)=aV (L.P i).rb u.r (L.P i).rp (L.P i).rc++(fG (L.P i).x (L.P i).q u.j++(bQ (L.P i).q (G.mem i).d++[fN (L.P i).cb (L.P i).q u.c])):=by unfold qB;rw [hu];rfl
 rw [e,bM];exact List.perm_middle.symm
abbrev a4x(L:KS)(G:gV)(F:List Own):List Own:=kG L.gb (B9 L G) :: (iG L.N G.gF++(IX L G++F))
theorem aIi(L G F):(eG L G++F).Perm (TI L G.eS :: a4x L G F):=by
 have e:eG L G++F=(kG L.gb (B9 L G) :: iG L.N G.gF)++(TI L G.eS :: (IX L G++F)):=by
  unfold eG;simp only [bM,List.cons_append]
 rw [e];exact List.perm_middle
def EB(G:gV):Nat->gV
 | 0=>G
 | i+1=>iF (EB G i) i
theorem a2M(G):∀ i,(EB G i).mem=G.mem/\(EB G i).gF=G.gF
 | 0=>⟨rfl,rfl⟩
 | i+1=>by
  have h:=a2M G i;unfold EB iF;split
  .exact h
  .split<;>exact h
theorem aIj(L G S F):a4x L G S++F=a4x L G (S++F):=by simp only [a4x,List.cons_append,bM]
abbrev aQf(L:KS)(G:gV)(i:Nat)(u:VV)(F:List Own):List Own:=(kG L.gb (B9 L G) :: iG L.N G.gF)++(((fG (L.P i).x (L.P i).q u.j++(bQ (L.P i).q (G.mem i).d++[fN (L.P i).cb (L.P i).q u.c]))++aAn L G i)++F)
theorem aLT(hi:i<3){u}(hu:(G.mem i).up=some u)(F):(a4x L G F).Perm (aV (L.P i).rb u.r (L.P i).rp (L.P i).rc++aQf L G i u F):=by
 have e:qB (L.P i) (G.mem i)=aV (L.P i).rb u.r (L.P i).rp (L.P i).rc++(fG (L.P i).x (L.P i).q u.j++(bQ (L.P i).q (G.mem i).d++[fN (L.P i).cb (L.P i).q u.c])):=by unfold qB;rw [hu];rfl
 have h:=(a2L L G hi).append_right F;rw [e,bM,bM] at h;have h2:=h.append_left (kG L.gb (B9 L G) :: iG L.N G.gF);refine List.Perm.trans h2 ?_;rw [<-bM (fG (L.P i).x (L.P i).q u.j++_) (aAn L G i) F];exact List.perm_append_comm_assoc _ _ _
abbrev kX(k:Nat)(vs:List Value):Own:=.blk k vs 132
theorem aIk{w0 rb r p c}(h:YW w0 rb r p c){w}(e:∃ k,w=w0.drewN k):aG F.dU #[.pointer (some ⟨rb,0,none⟩)] w λe w'=>e=.returned (.int .i64 r.aD)/\∃ k,w'=w0.drewN k:=by
 obtain ⟨k,rfl⟩:=e;exact (a7u (h.drew k)).mono λe w' ⟨h1,h2⟩=>⟨h1,k,h2⟩
theorem a2N{W w S}{Φ:PW}[aB Φ](hw:∀ i,i<3->∀ u,(G.mem i).up=some u->u.r.Ok)(cx:Ctx W w (eG L G++S) Φ){K}(hk:∀ cp cc w',Ctx W w' (eG (CP L cp cc) (kZ G)++S) Φ->K (.returned (.tuple #[])) w'):aG F.nW #[.pointer (some ⟨L.gb,0,none⟩)] w K:=by
 refine iO (FB L.gb 0 (J:=K∘.returned) cx λw G1 cx=>?_);refine ⟨some ⟨(L.P 0).q.db,0,none⟩,oA (G.mem 0).up.isSome (L.P 0).x.jb,oA (G.mem 0).up.isSome (L.P 0).cb,oA (G.mem 0).up.isSome (L.P 0).rb,some ⟨(L.P 1).q.db,0,none⟩,oA (G.mem 1).up.isSome (L.P 1).x.jb,oA (G.mem 1).up.isSome (L.P 1).cb,oA (G.mem 1).up.isSome (L.P 1).rb,some ⟨(L.P 2).q.db,0,none⟩,oA (G.mem 2).up.isSome (L.P 2).x.jb,oA (G.mem 2).up.isSome (L.P 2).cb,oA (G.mem 2).up.isSome (L.P 2).rb,?_,?_⟩
 .exact cx.row 0 rfl (zT (cs:=B9 L G) (vs:=[.pointer (some ⟨(L.P 0).q.db,0,none⟩),.pointer (oA (G.mem 0).up.isSome (L.P 0).x.jb),.pointer (oA (G.mem 0).up.isSome (L.P 0).cb),.pointer (oA (G.mem 0).up.isSome (L.P 0).rb),.pointer (some ⟨(L.P 1).q.db,0,none⟩),.pointer (oA (G.mem 1).up.isSome (L.P 1).x.jb),.pointer (oA (G.mem 1).up.isSome (L.P 1).cb),.pointer (oA (G.mem 1).up.isSome (L.P 1).rb),.pointer (some ⟨(L.P 2).q.db,0,none⟩),.pointer (oA (G.mem 2).up.isSome (L.P 2).x.jb),.pointer (oA (G.mem 2).up.isSome (L.P 2).cb),.pointer (oA (G.mem 2).up.isSome (L.P 2).rb)]) rfl)
 clear cx;refine dS (λnI R' Ψ κ=>∃ (i:Nat) (cp:Option Addr) (cc:Nat),nI=i/\i<=3/\κ=3 - i/\Ψ=Φ/\R'=eG (CP L cp cc) (EB G i)++S) ⟨⟨_,Φ,_,aR,λw G cx=>cx,0,L.cp,L.cc,rfl,Nat.zero_le _,rfl,rfl,rfl⟩,?_⟩;rintro nI R' Ψ κ _ ⟨i,cp,cc,rfl,hi,rfl,rfl,rfl⟩;refine Br.intro (λhlt=>⟨by have:=fV hlt;omega,λk w F cx=>?_⟩) (λhge=>λw F cx=>?_)
 rotate_left 1
 .have he:i=3:=by have:=eV hge;omega
  subst he;exact hk cp cc w cx.left
 have hi:i<3:=by have:=fV hlt;omega
 obtain ⟨L1,B8⟩:∃ L1,CP L cp cc=L1:=⟨_,rfl⟩;obtain ⟨G1,hG1⟩:∃ G1,EB G i=G1:=⟨_,rfl⟩;have hmem:G1.mem=G.mem:=by rw [<-hG1];exact (a2M G i).1
 have hLP:L1.P=L.P:=by rw [<-B8];rfl
 have hgb:L1.gb=L.gb:=by rw [<-B8];rfl
 have aIl:EB G (i+1)=iF G1 i:=by rw [<-hG1];rfl
 have key:List.take 4 (List.drop (0+((i:Nat):Int).toNat*4) [Value.pointer (some ⟨(L.P 0).q.db,0,none⟩),.pointer (oA (G.mem 0).up.isSome (L.P 0).x.jb),.pointer (oA (G.mem 0).up.isSome (L.P 0).cb),.pointer (oA (G.mem 0).up.isSome (L.P 0).rb),.pointer (some ⟨(L.P 1).q.db,0,none⟩),.pointer (oA (G.mem 1).up.isSome (L.P 1).x.jb),.pointer (oA (G.mem 1).up.isSome (L.P 1).cb),.pointer (oA (G.mem 1).up.isSome (L.P 1).rb),.pointer (some ⟨(L.P 2).q.db,0,none⟩),.pointer (oA (G.mem 2).up.isSome (L.P 2).x.jb),.pointer (oA (G.mem 2).up.isSome (L.P 2).cb),.pointer (oA (G.mem 2).up.isSome (L.P 2).rb)])=E9 (L1.P i) (G1.mem i).up.isSome:=by
  rw [hmem,hLP]
  match i,hi with
  | 0,_=>rfl
  | 1,_=>rfl
  | 2,_=>rfl
 have hb:∀ (P:a1u) (u:Bool),((E9 P u).length.beq 4&&(E9 P u).all oY)=true:=λ_ _=>rfl;rw [B8,hG1] at cx;rw [key,hb];refine ⟨cx.can 0 rfl (by show 0+4<=4;omega),λw' hw'=>⟨kX k (E9 (L1.P i) (G1.mem i).up.isSome) :: (eG L1 G1++S),Ψ,aR,cx.FR 0 hw' rfl,λw F cx=>?_⟩⟩;have next:∀ {Q:List Own},bE ((i:Int)+1):=fun {_}=>by unfold bE;omega
 cases hu:(G1.mem i).up with
 | none =>
  have e1:iF G1 i=G1:=by unfold iF;rw [hu]
  rw [hu] at cx;refine ⟨none,cx.get 0 rfl rfl,none,λh=>(by cases h),0,λh=>(by cases h),none,0,0,λh=>(by cases h),Br.intro (λ_=>⟨by unfold bE;omega,eG L1 G1++S,Ψ,3 - (i+1),aR,λw G cx=>(Ctx.drop1 cx),⟨i+1,cp,cc,by omega,by omega,rfl,rfl,by rw [B8,aIl,e1]⟩,by omega⟩) (λh=>by cases h)⟩
 | some u =>
  have hok:u.r.Ok:=hw i hi u (by rw [<-hmem];exact hu);have uK:=hok.aD;have hlen:=hok.len;have S8:∀ x∈u.r.log,x.Ok:=hok.aE;rw [hu] at cx;have hrb:oA (some u).isSome (L1.P i).rb=some ⟨(L1.P i).rb,0,none⟩:=rfl;have pr:∀ (vs:List Value) (F:List Own),((kX k vs :: (eG L1 G1++S))++F).Perm (aV (L1.P i).rb u.r (L1.P i).rp (L1.P i).rc++(kX k vs :: KU L1 G1 i u (S++F))):=λvs F=>by
   rw [List.cons_append,bM];exact ((EA hi hu (S++F)).cons _).trans List.perm_middle.symm
  have hh:=DX (cx.perm (pr _ F));have e13:(B9 L1 G1)[13]? = some (.slice L1.cp G1.eS.length L1.cc):=rfl;refine ⟨_,cx.get 0 rfl rfl,_,λ_=>cx.get 0 rfl rfl,u.r.aD,λ_ w h=>aIk hh h,_,_,_,λ_=>by rw [<-hgb];exact cx.get 1 rfl e13,Br.intro (λh=>?_) (λh=>λw F cx=>?_)⟩
  .have h:(u.r.aD:Int)<=G1.eS.length:=by
    have h:(false||decide ((u.r.aD:Int)<=(G1.eS.length:Int)))=true:=h;simpa using h
   have e1:iF G1 i=G1:=by unfold iF;rw [hu];simp only;rw [if_neg (by omega)]
   exact ⟨by unfold bE;omega,eG L1 G1++S,Ψ,3 - (i+1),aR,λw G cx=>(Ctx.drop1 cx),⟨i+1,cp,cc,by omega,by omega,rfl,rfl,by rw [B8,aIl,e1]⟩,by omega⟩
  .have h:¬ (u.r.aD:Int)<=G1.eS.length:=by
    have h:(false||decide ((u.r.aD:Int)<=(G1.eS.length:Int)))=false:=h;simpa using h
   have e1:iF G1 i=TJ G1 ((u.r.log.take u.r.aD).map bH.data):=by unfold iF;rw [hu];simp only;rw [if_pos (by omega)];rfl
   obtain ⟨vs,hvs⟩:∃ vs,vs=E9 (L1.P i) (some u).isSome:=⟨_,rfl⟩;have hv3:vs[3]? = some (.pointer (some ⟨(L1.P i).rb,0,none⟩)):=by rw [hvs];rfl
   rw [<-hvs] at cx;have c1:Ctx W w (kX k vs :: a4x L1 G1 (S++F)) Ψ:=by
    have c2:=cx.perm (show ((kX k vs :: (eG L1 G1++S))++F).Perm (TI L1 G1.eS :: (kX k vs :: a4x L1 G1 (S++F))) from by
     rw [List.cons_append,bM];exact ((aIi L1 G1 (S++F)).cons _).trans (.swap _ _ _))
    exact Ctx.drop1 c2
   obtain ⟨Z,hZ⟩:∃ Z:Option Addr->Nat->List ByteArray->List Own->List Own,Z=λcp cc l F=>a4x (CP L1 cp cc) (TJ G1 l) F:=⟨_,rfl⟩;have zA:∀ cp cc l S F,Z cp cc l S++F=Z cp cc l (S++F):=λcp cc l S F=>by rw [hZ];exact aIj _ _ _ _
   have zR:∀ cp cc l F,(Z cp cc l F).Perm (aV (L1.P i).rb u.r (L1.P i).rp (L1.P i).rc++aQf (CP L1 cp cc) (TJ G1 l) i u F):=λcp cc l F=>by rw [hZ];exact aLT (L:=CP L1 cp cc) (G:=TJ G1 l) hi hu F
   have zW:∀ {w w':World} {cp cc l QY QZ l2 F} {Ξ:PW} [aB Ξ],Ctx W w (kX k vs :: Z cp cc l F) Ξ->w'=w.setCell (Addr.mk L.gb (0+13) none) (.slice QY (List.length l2) QZ)->Ctx W w' (kX k vs :: Z QY QZ l2 F) Ξ:=fun {w w' cp cc l QY QZ l2 F Ξ} _ c e=>by
    rw [hZ] at c ⊢;rw [<-hgb] at e;exact c.put 1 e rfl
   have zC:∀ {w:World} {cp cc l F} {Ξ:PW},Ctx W w (kX k vs :: Z cp cc l F) Ξ->aH w L.gb (0+13) 1:=fun {w cp cc l F Ξ} c=>by
    rw [hZ] at c;rw [<-hgb];exact c.can 1 rfl (by show 0+13+1<=14;omega)
   have c1:Ctx W w (kX k vs :: Z L1.cp L1.cc G1.eS (S++F)) Ψ:=by rw [hZ];exact c1
   have hk0:∀ Y:List Own,List.Sublist [kX k vs] (kX k vs :: Y):=λY=>.cons_cons _ (List.nil_sublist _);refine ⟨zC c1,λw' hw'=>⟨kX k vs :: Z none 0 [] S,Ψ,aR,by
    rw [List.cons_append,zA];exact zW c1 hw',[kX k vs],tru,aR,λw G cx=>dM cx (hk0 _),some ⟨(L1.P i).rb,0,none⟩,λw G cx=>⟨_,cx.get 0 rfl hv3,rfl⟩,some ⟨(L1.P i).rb,0,none⟩,λw G cx=>⟨_,cx.get 0 rfl hv3,rfl⟩,λw F cx=>?_⟩⟩
   have pz:∀ F,((kX k vs :: Z none 0 [] S)++F).Perm (aV (L1.P i).rb u.r (L1.P i).rp (L1.P i).rc++(kX k vs :: aQf (CP L1 none 0) (TJ G1 []) i u (S++F))):=λF=>by
    rw [List.cons_append,zA];exact ((zR none 0 [] (S++F)).cons _).trans List.perm_middle.symm
   refine aBZ (cx.perm (pz F)) S8 hlen λq cap w a2e hcap2 cx=>?_;obtain ⟨Ξ,hΞ⟩:∃ Ξ:PW,Ξ=λM w=>Ψ M w/\Sl M w q u.r.log:=⟨_,rfl⟩
   haveI:aB Ξ:=by rw [hΞ];infer_instance
   have hw1:∀ M w,Ξ M w->Ψ M w:=by rw [hΞ];exact λM w h=>h.1
   have EP:∀ M w,Ξ M w->Sl M w q u.r.log:=by rw [hΞ];exact λM w h=>h.2
   rw [<-hΞ] at cx;have hth:a2a q u.r.log.length:=(EP _ _ cx.yK).there;refine ⟨q,u.r.log.length,cap,rfl,kX k vs :: Z none 0 [] S,Ξ,aR,cx.perm (pz F).symm,λw G cx=>dM cx (hk0 _),λw F cx=>aAm (cx.perm (pz F)) λw cx=>⟨u.r.aD,rfl,kX k vs :: Z none 0 [] S,Ξ,aR,cx.perm (pz F).symm,λw G cx=>dM cx (hk0 _),by omega,?_⟩⟩;obtain ⟨D,hD⟩:∃ D:Nat->List ByteArray,D=λj=>(u.r.log.take j).map bH.data:=⟨_,rfl⟩;have hDl:∀ j,j<=u.r.aD->(D j).length=j:=λj hj=>by rw [hD];show ((u.r.log.take j).map bH.data).length=j;rw [List.length_map,List.length_take];omega
   have hD0:D 0=[]:=by rw [hD];rfl
   refine dS (λnI R' Ψ2 κ=>∃ (j:Nat) (cp:Option Addr) (cc:Nat),nI=j/\j<=u.r.aD/\κ=u.r.aD - j/\Ψ2=Ξ/\R'=kX k vs :: .buf cp j cc (cW (D j)) 9 1 :: Z cp cc (D j) S) ⟨⟨_,Ξ,_,aR,λw G cx=>(cx.aCp 9 1).perm (.swap _ _ _),0,none,0,rfl,Nat.zero_le _,rfl,rfl,by rw [hD0]⟩,?_⟩;rintro nI R2 Ψ2 κ2 _ ⟨j,QY,QZ,rfl,hj,rfl,rfl,rfl⟩;rw [Int.toNat_natCast];refine Br.intro (λhlt=>?_) (λhge=>?_)
   .have hlt:j<u.r.aD:=by have:=fV hlt;omega
    have hll:j<u.r.log.length:=by omega
    obtain ⟨g,og,rfl⟩:=hth (by omega);have es:cT (some (⟨g,og,none⟩:Addr)) 2 0 cap=some ⟨g,og,none⟩:=by
     unfold cT;split
     .rfl
     .rw [Option.map_some,Nat.zero_mul];rfl
    rw [es];refine ⟨by omega,bF g og rfl λw F cx=>⟨u.r.log[j].term,u.r.log[j].data,by rw [Int.toNat_natCast];exact N4 (EP _ _ cx.yK) hll,λ_=>?_⟩⟩;have zS:∀ (cp:Option Addr) (cc:Nat) (l:List ByteArray) (Y:List Own),∃ T,Z cp cc l Y=kG L1.gb (B9 (CP L1 cp cc) (TJ G1 l)) :: T:=λcp cc l Y=>by rw [hZ];exact ⟨_,rfl⟩
    obtain ⟨T,hT⟩:=zS QY QZ (D j) S;have e13:∀ cp cc l,(B9 (CP L1 cp cc) (TJ G1 l))[13]? = some (.slice cp l.length cc):=λ_ _ _=>rfl;have sG:∀ A:List Own,List.Sublist [kG L1.gb (B9 (CP L1 QY QZ) (TJ G1 (D j)))] (A++Z QY QZ (D j) S):=λA=>by
     rw [hT];exact (List.Sublist.cons_cons _ (List.nil_sublist _)).trans (List.sublist_append_right A _)
    refine ⟨[kG L1.gb (B9 (CP L1 QY QZ) (TJ G1 (D j)))],tru,aR,λw G cx=>dM cx (sG [_,_]),QY,j,QZ,λw G cx=>⟨_,_,_,by
     rw [<-hgb];have:=cx.get 0 rfl (e13 QY QZ (D j));rw [hDl j hj] at this;exact this,rfl⟩,λk5=>⟨λw G cx=>dM cx (sG [_,_,_]),λw F cx=>?_⟩⟩
    obtain ⟨p',c',w',hr,_,x9⟩:=(cx.perm (show (Own.blk k5 [Value.string u.r.log[j].data] 9 :: (kX k vs :: .buf QY j QZ (cW (D j)) 9 1 :: Z QY QZ (D j) S)++F).Perm (Own.blk k5 [Value.string u.r.log[j].data] 9 :: .buf QY j QZ (cW (D j)) 9 1 :: (kX k vs :: Z QY QZ (D j) S++F)) from .cons _ (.swap _ _ _))).YQ (ts:=40) (ty:=40) (kb:=#[false,false]) (bytes:=16) (P:=prog) (by kernel_rfl) (by omega) rfl rfl (by omega) (by omega)
    have ed:D j++[u.r.log[j].data]=D (j+1):=by
     rw [hD];show (u.r.log.take j).map bH.data++[u.r.log[j].data]=(u.r.log.take (j+1)).map bH.data;rw [List.take_succ_eq_append_getElem hll,List.map_append];rfl
    have et:cW (D j)++[Value.string u.r.log[j].data]=cW (D (j+1)):=by
     rw [<-ed];simp only [cW,List.map_append,List.map_cons,List.map_nil]
    rw [et] at x9;refine ⟨_,_,_,w',hr,.buf p' (j+1) c' (cW (D (j+1))) 9 1 :: kX k vs :: Z QY QZ (D j) S,Ψ2,aR,x9,λw G cx=>dM cx (sG [_,_]),λw F cx=>?_⟩;have c3:Ctx W w (kX k vs :: Z QY QZ (D j) (S++F++[.buf p' (j+1) c' (cW (D (j+1))) 9 1])) Ψ2:=cx.perm (by
     show (Own.buf p' (j+1) c' (cW (D (j+1))) 9 1 :: kX k vs :: (Z QY QZ (D j) S++F)).Perm _;rw [zA,<-zA QY QZ (D j) (S++F)];exact (List.perm_append_comm (l₁:=[Own.buf p' (j+1) c' (cW (D (j+1))) 9 1]) (l₂:=kX k vs :: Z QY QZ (D j) (S++F))))
    refine ⟨zC c3,λw' hw'=>⟨kX k vs :: .buf p' (j+1) c' (cW (D (j+1))) 9 1 :: Z p' c' (D (j+1)) S,Ψ2,aR,?_,by unfold bE;omega,_,Ψ2,_,aR,λw G cx=>cx,⟨j+1,p',c',by omega,by omega,rfl,rfl,rfl⟩,by omega⟩⟩;have hd1:=hDl (j+1) (by omega);have hw3:w'=w.setCell (Addr.mk L.gb (0+13) none) (.slice p' (D (j+1)).length c'):=by rw [hd1];exact hw'
    have c4:=zW (l2:=D (j+1)) c3 hw3;refine c4.perm ?_;have e9:Z p' c' (D (j+1)) (S++F++[.buf p' (j+1) c' (cW (D (j+1))) 9 1])=(Z p' c' (D (j+1)) S++F)++[.buf p' (j+1) c' (cW (D (j+1))) 9 1]:=by rw [zA,zA]
    rw [e9];show (kX k vs :: ((Z p' c' (D (j+1)) S++F)++[_])).Perm (kX k vs :: .buf p' (j+1) c' (cW (D (j+1))) 9 1 :: (Z p' c' (D (j+1)) S++F));exact .cons _ List.perm_append_comm
   .have he:j=u.r.aD:=by have:=eV hge;omega
    subst he;refine ⟨by unfold bE;omega,eG (CP L1 QY QZ) (TJ G1 (D u.r.aD))++S,Ψ,3 - (i+1),aR,λw F cx=>?_,⟨i+1,QY,QZ,by omega,by omega,rfl,rfl,by rw [aIl,e1,<-B8,hD];rfl⟩,by omega⟩;have c5:Ctx W w (.buf QY u.r.aD QZ (cW (D u.r.aD)) 9 1 :: a4x (CP L1 QY QZ) (TJ G1 (D u.r.aD)) (S++F)) Ψ2:=by
     have c6:Ctx W w (.buf QY u.r.aD QZ (cW (D u.r.aD)) 9 1 :: (Z QY QZ (D u.r.aD) S++F)) Ψ2:=Ctx.drop1 cx;rw [zA,hZ] at c6;exact c6
    have e7:TI (CP L1 QY QZ) (TJ G1 (D u.r.aD)).eS=.buf QY u.r.aD QZ (cW (D u.r.aD)) 9 1:=by
     show Own.buf QY (D u.r.aD).length QZ _ 9 1=_;rw [hDl _ (Nat.le_refl _)];rfl
    have pc:=aIi (CP L1 QY QZ) (TJ G1 (D u.r.aD)) (S++F);rw [e7] at pc;rw [bM];exact (c5.weak hw1).perm pc.symm
end
def aIm(m:bA):Prop:=m.kind=1/\m.yes=true
structure a7w(r:dH)(x:dH × kR):Prop where
 keep:r.term=x.1.term->r.aK ≠ -1->x.1.aK=r.aK
 yes:∀ m∈x.2.send,aIm m->m.src=r.id/\m.term=x.1.term/\m.to=x.1.aK/\0<=m.to
theorem pN(r):∀ m∈bL r,m.kind=2:=λm hm=>by
 unfold bL at hm;obtain ⟨i,_,rfl⟩:=List.mem_map.1 hm;rfl
theorem aAo{l:List bA}{k}(hk:k≠1)(h:∀ m∈l,m.kind=k){P:bA->Prop}:∀ m∈l,aIm m->P m:=λm hm hy=>absurd ((h m hm).symm.trans hy.1) hk
theorem aQg(r):a7w r (cV r):=by
 unfold cV;split
 .exact ⟨λ_ _=>rfl,aAo (by decide) (pN r)⟩
 split
 .exact ⟨λ_ _=>rfl,λm hm=>by cases hm⟩
 .refine ⟨λh=>?_,λm hm hy=>?_⟩
  .have:r.term=r.term+1:=h;omega
  .obtain ⟨i,_,rfl⟩:=List.mem_map.1 hm;cases hy.1
theorem aQh(r data):a7w r ((aF r data).1,(aF r data).2.2.2):=by
 unfold aF;split
 .exact ⟨λ_ _=>rfl,λm hm=>by cases hm⟩
 split
 .exact ⟨λ_ _=>rfl,λm hm=>by cases hm⟩
 split
 .exact ⟨λ_ _=>rfl,λm hm=>by cases hm⟩
 .exact ⟨λ_ _=>rfl,aAo (by decide) (pN _)⟩
theorem aQi(r m)(h0:0<=m.src):a7w r (cX r m)/\(cX r m).1.term=r.term:=by
 unfold cX;split
 .rename_i hc;simp only [Bool.and_eq_true,Bool.or_eq_true,decide_eq_true_eq] at hc;refine ⟨⟨λ_ hv=>?_,λv hv hy=>?_⟩,rfl⟩
  .rcases hc.1.2 with h|h
   .exact absurd h hv
   .exact h.symm
  .rw [List.mem_singleton.1 hv];exact ⟨rfl,rfl,rfl,h0⟩
 .refine ⟨⟨λ_ _=>rfl,λv hv hy=>?_⟩,rfl⟩;rw [List.mem_singleton.1 hv] at hy;cases hy.2
structure a7x(r:dH)(x:dH × kR):Prop where
 term:x.1.term=r.term
 aK:x.1.aK=r.aK
 send:∀ m∈x.2.send,m.kind≠1
theorem a2O{r r'}(h1:r'.term=r.term)(h2:r'.aK=r.aK):a7x r (r',jS):=⟨h1,h2,λm hm=>by cases hm⟩
theorem aAp(r m):a7x r (cU r m):=by
 unfold cU;split
 .exact a2O rfl rfl
 simp only;split
 .exact a2O rfl rfl
 .exact ⟨rfl,rfl,λv hv=>by rw [pN _ v hv];decide⟩
theorem UX(r m):a7x r (b9 r m):=by
 have h3:∀ {r':dH} {a:bA},r'.term=r.term->r'.aK=r.aK->a.kind=3->a7x r (r',mI [a]):=λh1 h2 h=>⟨h1,h2,λv hv=>by rw [List.mem_singleton.1 hv,h];decide⟩;unfold b9;split
 .exact h3 rfl rfl rfl
 split
 .exact a2O rfl rfl
 simp only;split
 .exact h3 rfl rfl rfl
 split
 .split
  .exact a2O rfl rfl
  .exact ⟨rfl,rfl,λv hv=>by rw [List.mem_singleton.1 hv];show (3:Int)≠1;decide⟩
 .exact h3 rfl rfl rfl
theorem a4y(r):(aQ r).term=r.term/\(aQ r).aK=r.aK:=by
 unfold aQ;split<;>exact ⟨rfl,rfl⟩
theorem LQ(r m):a7x r (aW r m):=by
 have h2:∀ {r':dH} {a:bA},r'.term=r.term->r'.aK=r.aK->a.kind=2->a7x r (r',mI [a]):=λh1 h2 h=>⟨h1,h2,λv hv=>by rw [List.mem_singleton.1 hv,h];decide⟩;unfold aW;split
 .exact a2O rfl rfl
 simp only;split
 .exact h2 rfl rfl rfl
 split
 .exact h2 (a4y _).1 (a4y _).2 rfl
 .exact a2O (a4y _).1 (a4y _).2
theorem a7x.v{r r1 x}(h:a7x r1 x)(h1:r1.term=r.term->r1.aK=r.aK):a7w r x :=
 ⟨λht _=>by rw [h.aK,h1 (by rw [<-h.term,<-ht])],λm hm hy=>absurd hy.1 (h.send m hm)⟩
theorem aWo{r x}(h:a7w r x):a7w r (yA r x):=by
 unfold yA;split
 .exact h
 .exact ⟨h.keep,h.yes⟩
theorem aQj(r m):a7w r (aT r m):=by
 cases hy:gQ r.id m with
 | false=>rw [pS hy];exact ⟨λ_ _=>rfl,λv hv=>by cases hv⟩
 | true =>
  have hm:=gU.1 hy;rw [nM hy];refine aWo ?_;obtain ⟨r1,HP⟩:∃ r1,(if r.term<m.term then QD r m else r)=r1:=⟨_,rfl⟩;have h1:r1.term=r.term->r1.aK=r.aK:=by
   rw [<-HP];split
   .rename_i hlt;intro h;have:m.term=r.term:=h;omega
   .exact λ_=>rfl
  have hid:r1.id=r.id:=by rw [<-HP];split<;>rfl
  rw [HP];unfold dJ;split
  .obtain ⟨⟨hk,hs⟩,ht⟩:=aQi r1 m hm.src.2.1;refine ⟨λh hv=>?_,λv hv hyv=>?_⟩
   .have e:=h1 (by rw [<-ht,<-h]);rw [hk (by rw [ht]) (by rw [e];exact hv),e]
   .rw [<-hid];exact hs v hv hyv
  split
  .exact (aAp r1 m).v h1
  split
  .exact (UX r1 m).v h1
  .exact (LQ r1 m).v h1
def qR(LL:Int->List bH)(l:List bH):Prop:=∀ p x,l[p]? = some x->l.take (p+1)=(LL x.term).take (p+1)
def Ext(LL UY:Int->List bH):Prop:=∀ t,∃ s,UY t=LL t++s
theorem Ext.refl(LL):Ext LL LL:=λt=>⟨[],(List.append_nil _).symm⟩
theorem a7y(LL):qR LL []:=λp x h=>by simp at h
theorem a2P{LL l}(h:qR LL l)(n):qR LL (l.take n):=λp x hx=>by
 rw [List.getElem?_take] at hx;split at hx
 .rename_i hp;rw [List.take_take,Nat.min_eq_left (by omega)];exact h p x hx
 .cases hx
theorem take_len{LL:Int->List bH}{l:List bH}{p t}(hp:p<l.length)(h:l.take (p+1)=(LL t).take (p+1)):p<(LL t).length:=by
 have:=congrArg List.length h;rw [List.length_take,List.length_take] at this;omega
theorem IY{LL UY}(he:Ext LL UY){l}(h:qR LL l):qR UY l:=λp x hx=>by
 have h1:=h p x hx;have hp:=(List.getElem?_eq_some_iff.1 hx).1;have h2:=take_len hp h1;obtain ⟨s,hs⟩:=he x.term;rw [hs,List.take_append_of_le_length (by omega)];exact h1
theorem a0b{LL a b}(ha:qR LL a)(hb:qR LL b){p x y}(hx:a[p]? = some x)(hy:b[p]? = some y)(e:x.term=y.term):a.take (p+1)=b.take (p+1):=by
 rw [ha p x hx,hb p y hy,e]
theorem o9{l p x}(h:l[p]? = some x):aU l (p+1)=x.term:=by
 show (match l[p]? with
  | some x=>x.term
  | none=>0)=x.term
 rw [h]
theorem a0c{l s p}(h:p<=l.length):aU (l++s) p=aU l p:=by
 cases p with
 | zero=>rfl
 | succ p =>
  have hp:p<l.length:=h;obtain ⟨x,hx⟩:∃ x,l[p]? = some x:=⟨_,List.getElem?_eq_getElem hp⟩;rw [o9 hx,o9 (x:=x) (by rw [List.getElem?_append_left hp];exact hx)]
theorem aIn{LL a b}(ha:qR LL a)(hb:qR LL b){ix}(h1:ix<=a.length)(h2:ix<=b.length)(e:aU a ix=aU b ix):a.take ix=b.take ix:=by
 cases ix with
 | zero=>simp
 | succ p =>
  obtain ⟨x,hx⟩:∃ x,a[p]? = some x:=⟨_,List.getElem?_eq_getElem h1⟩;obtain ⟨y,hy⟩:∃ y,b[p]? = some y:=⟨_,List.getElem?_eq_getElem h2⟩;rw [o9 hx,o9 hy] at e;exact a0b ha hb hx hy e
theorem UZ{LL l M aE ix}(hl:qR LL l)(hM:qR LL M)(h1:ix<=l.length)(h2:ix+aE.length<=M.length)(hr:aE=(M.drop ix).take aE.length)(e:aU l ix=aU M ix):
  l.take (ix+agree (l.drop ix) aE)=M.take (ix+agree (l.drop ix) aE):=by
 rcases Nat.eq_zero_or_pos (agree (l.drop ix) aE) with h0|h0
 .rw [h0];exact aIn hl hM h1 (by omega) e
 .obtain ⟨k,hk⟩:∃ k,agree (l.drop ix) aE=k+1:=⟨agree (l.drop ix) aE - 1,by omega⟩;rw [hk];obtain ⟨ha,hb,ht⟩:=uY (l.drop ix) aE k (by omega);have hx:l[ix+k]? = some (l.drop ix)[k]:=by
   rw [List.getElem_drop];exact List.getElem?_eq_getElem _
  have hy:M[ix+k]? = some aE[k]:=by
   have h3:aE[k]? = some aE[k]:=List.getElem?_eq_getElem hb;have h4:((M.drop ix).take aE.length)[k]? = some aE[k]:=by rw [<-hr];exact h3
   rw [List.getElem?_take_of_lt hb,List.getElem?_drop] at h4;exact h4
  exact a0b hl hM hx hy ht
theorem aAq{M aE:List bH}{ix k}(hr:aE=(M.drop ix).take aE.length):aE.drop k=(M.drop (ix+k)).take (aE.length - k):=by
 have h:((M.drop ix).take aE.length).drop k=(M.drop (ix+k)).take (aE.length - k):=by rw [List.drop_take,List.drop_drop]
 rw [<-h,<-hr]
theorem a2Q{LL l M aE ix}(hl:qR LL l)(hM:qR LL M)(h1:ix<=l.length)(h2:ix+aE.length<=M.length)(hr:aE=(M.drop ix).take aE.length)(e:aU l ix=aU M ix)(hk:agree (l.drop ix) aE<=aE.length):
  l.take (ix+agree (l.drop ix) aE)++aE.drop (agree (l.drop ix) aE)=M.take (ix+aE.length):=by
 rw [UZ hl hM h1 h2 hr e,aAq hr,<-List.take_add]
 congr 1
 omega
structure Gh where
 V:Int->Nat->Int
 ld:Int->Int
 LL:Int->List bH
def a0d(LL:Int->List bH)(m:bA):Prop :=
 0<=m.index/\m.index.toNat+m.aE.length<=(LL m.term).length/\m.aE=((LL m.term).drop m.index.toNat).take m.aE.length/\m.prev=aU (LL m.term) m.index.toNat
structure CQ(C:Cl)(g:Gh):Prop where
 wf:C.Wf
 now:∀ j,j<3->g.V (C.nd j).rep.term j=(C.nd j).rep.aK
 later:∀ j,j<3->∀ t,(C.nd j).rep.term<t->g.V t j = -1
 yes:∀ m∈C.sent,aIm m->∃ j:Nat,j<3/\m.src=j/\g.V m.term j=m.to/\0<=m.to
 cand:∀ i,i<3->(C.nd i).rep.role=1->(∀ j,j<3->(C.nd i).rep.bX j=true->g.V (C.nd i).rep.term j=i)/\g.ld (C.nd i).rep.term≠i
 lead:∀ i,i<3->(C.nd i).rep.role=2->g.ld (C.nd i).rep.term=i/\g.LL (C.nd i).rep.term=(C.nd i).rep.log
 quo:∀ t,g.ld t ≠ -1->∃ a b,a<3/\b<3/\a≠b/\g.V t a=g.ld t/\g.V t b=g.ld t
 ldt:∀ t,g.ld t ≠ -1->∃ j:Nat,j<3/\g.ld t=j/\t<=(C.nd j).rep.term
 none:∀ t,g.ld t = -1->g.LL t=[]
 log:∀ i,i<3->qR g.LL (C.nd i).rep.log
 ll:∀ t,qR g.LL (g.LL t)
 app:∀ m∈C.sent,m.kind=2->a0d g.LL m
theorem a0d.ext{LL UY}(he:Ext LL UY){m}(h:a0d LL m):a0d UY m:=by
 obtain ⟨h1,h2,h3,h4⟩:=h;obtain ⟨s,hs⟩:=he m.term;refine ⟨h1,by rw [hs,List.length_append];omega,?_,?_⟩
 .rw [hs,List.drop_append_of_le_length (by omega),List.take_append_of_le_length (by rw [List.length_drop];omega)];exact h3
 .rw [hs,a0c (by omega)];exact h4
def IZ(V:Int->Nat->Int)(i:Nat)(t v:Int):Int->Nat->Int:=λu j=>if u=t/\j=i then v else V u j
theorem iW(V i t v):IZ V i t v t i=v:=if_pos ⟨rfl,rfl⟩
theorem kQ(V){i j t u}(v)(h:¬ (u=t/\j=i)):IZ V i t v u j=V u j:=if_neg h
structure z8(C:Cl)(g:Gh)(i:Nat)(r:dH)(send:List bA)(g':Gh):Prop where
 V:g'.V=IZ g.V i r.term r.aK
 up:(C.nd i).rep.term<=r.term
 keep:(C.nd i).rep.term=r.term->(C.nd i).rep.aK ≠ -1->r.aK=(C.nd i).rep.aK
 yes:∀ m∈send,aIm m->m.src=i/\m.term=r.term/\m.to=r.aK/\0<=m.to
 ld:∀ t,g'.ld t=g.ld t\/(g.ld t = -1/\g'.ld t=i/\t<=r.term/\∃ a b,a<3/\b<3/\a≠b/\g'.V t a=i/\g'.V t b=i)
 ext:Ext g.LL g'.LL
 LL:∀ t,g'.LL t=g.LL t\/(g'.ld t=i/\qR g'.LL (g'.LL t))
 cand:r.role=1->(∀ j,j<3->r.bX j=true->g'.V r.term j=i)/\g'.ld r.term≠i
 lead:r.role=2->g'.ld r.term=i/\g'.LL r.term=r.log
 log:qR g'.LL r.log
 app:∀ m∈send,m.kind=2->a0d g'.LL m
theorem z8.b1z{C g g' i r send}(f:z8 C g i r send g')(h:CQ C g)(hi:i<3){t j}(hv:g.V t j ≠ -1):g'.V t j=g.V t j:=by
 rw [f.V];by_cases hc:t=r.term/\j=i
 .obtain ⟨rfl,rfl⟩:=hc;rw [iW];have hup:=f.up;rcases Int.lt_or_eq_of_le hup with hlt|heq
  .exact absurd (h.later j hi r.term hlt) hv
  .have h1:=h.now j hi;rw [heq] at h1;rw [f.keep heq (by rw [<-h1];exact hv),<-h1]
 .exact kQ _ _ hc
theorem CQ.node{C C' g g' i r send}(h:CQ C g)(hi:i<3)(f:z8 C g i r send g')(hw:C'.Wf)(hr:(C'.nd i).rep=r)(hne:∀ j,j≠i->C'.nd j=C.nd j)(hs:∀ m∈C'.sent,m∈C.sent\/m∈send):CQ C' g':=by
 have old:=fun {t:Int} {j:Nat} (hv:g.V t j ≠ -1)=>f.b1z h hi hv;refine ⟨hw,λj hj=>?_,λj hj t ht=>?_,λm hm hy=>?_,λj hj cP=>?_,λj hj cP=>?_,λt ht=>?_,λt ht=>?_,λt ht=>?_,λj hj=>?_,λt=>?_,λm hm hk=>?_⟩
 .by_cases hji:j=i
  .subst hji;rw [hr,f.V,iW]
  .rw [hne j hji,f.V,kQ _ _ (λhc=>hji hc.2)];exact h.now j hj
 .by_cases hji:j=i
  .subst hji;rw [hr] at ht;have:=f.up;rw [f.V,kQ _ _ (by omega)];exact h.later j hj t (by omega)
  .rw [hne j hji] at ht;rw [f.V,kQ _ _ (λhc=>hji hc.2)];exact h.later j hj t ht
 .rcases hs m hm with hm|hm
  .obtain ⟨j,hj,a1,a2,a3⟩:=h.yes m hm hy;exact ⟨j,hj,a1,by rw [old (by omega),a2],a3⟩
  .obtain ⟨a1,a2,a3,a4⟩:=f.yes m hm hy;exact ⟨i,hi,a1,by rw [f.V,a2,iW,a3],a4⟩
 .by_cases hji:j=i
  .subst hji;rw [hr] at cP ⊢;exact f.cand cP
  .rw [hne j hji] at cP ⊢;obtain ⟨a1,a2⟩:=h.cand j hj cP;refine ⟨λk hk hv=>?_,?_⟩
   .have:=a1 k hk hv;rw [old (by omega),this]
   .rcases f.ld (C.nd j).rep.term with e|⟨_,e,_⟩
    .rw [e];exact a2
    .rw [e];omega
 .by_cases hji:j=i
  .subst hji;rw [hr] at cP ⊢;exact f.lead cP
  .rw [hne j hji] at cP ⊢;obtain ⟨a1,a2⟩:=h.lead j hj cP;have e1:g'.ld (C.nd j).rep.term=j:=by
    rcases f.ld (C.nd j).rep.term with e|⟨e,_⟩
    .rw [e];exact a1
    .omega
   refine ⟨e1,?_⟩;rcases f.LL (C.nd j).rep.term with e|⟨e,_⟩
   .rw [e];exact a2
   .omega
 .rcases f.ld t with e|⟨_,e,_,a,b,a1,a2,a3,a4,a5⟩
  .rw [e] at ht ⊢;obtain ⟨a,b,a1,a2,a3,a4,a5⟩:=h.quo t ht;exact ⟨a,b,a1,a2,a3,by rw [old (by rw [a4];exact ht),a4],by rw [old (by rw [a5];exact ht),a5]⟩
  .exact ⟨a,b,a1,a2,a3,by rw [a4,e],by rw [a5,e]⟩
 .rcases f.ld t with e|⟨_,e,a1,_⟩
  .rw [e] at ht ⊢;obtain ⟨j,hj,a1,a2⟩:=h.ldt t ht;refine ⟨j,hj,a1,?_⟩;by_cases hji:j=i
   .subst hji;rw [hr];have:=f.up;omega
   .rw [hne j hji];exact a2
  .exact ⟨i,hi,e,by rw [hr];exact a1⟩
 .have e1:g.ld t = -1:=by
   rcases f.ld t with e|⟨e,e2,_⟩
   .rw [<-e];exact ht
   .exact e
  rcases f.LL t with e|⟨e,_⟩
  .rw [e];exact h.none t e1
  .omega
 .by_cases hji:j=i
  .subst hji;rw [hr];exact f.log
  .rw [hne j hji];exact IY f.ext (h.log j hj)
 .rcases f.LL t with e|⟨_,e⟩
  .rw [e];exact IY f.ext (h.ll t)
  .exact e
 .rcases hs m hm with hm|hm
  .exact (h.app m hm hk).ext f.ext
  .exact f.app m hm hk
theorem CQ.drop{C g}(h:CQ C g){n}(hn:n<C.sent.length):CQ (IV C n) g:=by
 have hs:∀ m∈(IV C n).sent,m∈C.sent:=λm hm=>by
  rcases List.mem_append.1 hm with hm|hm
  .exact List.mem_of_mem_take hm
  .exact List.mem_of_mem_drop hm
 exact ⟨a4u h.wf hn,h.now,h.later,λm hm=>h.yes m (hs m hm),h.cand,h.lead,h.quo,h.ldt,h.none,h.log,h.ll,λm hm=>h.app m (hs m hm)⟩
theorem V0{LL r}(hL:LL r.term=r.log){f}(h1:1<=r.next f)(h2:r.next f<=r.log.length+1):a0d LL (entriesOf r f):=by
 have e0:(entriesOf r f).index.toNat=r.next f - 1:=Int.toNat_natCast _;have e1:(entriesOf r f).aE=(r.log.drop (r.next f - 1)).take 8:=rfl;have e2:(entriesOf r f).aE.length=min 8 (r.log.length - (r.next f - 1)):=by rw [e1,List.length_take,List.length_drop]
 refine ⟨Int.natCast_nonneg _,?_,?_,?_⟩
 .rw [e0,e2,show (entriesOf r f).term=r.term from rfl,hL];omega
 .rw [e0,e2,show (entriesOf r f).term=r.term from rfl,hL,e1];rw [List.take_eq_take_iff,List.length_drop];omega
 .rw [e0,show (entriesOf r f).term=r.term from rfl,hL];rfl
theorem a2R{C g}(h:CQ C g){i}(hi:i<3){r:dH}(up:(C.nd i).rep.term<=r.term)(keep:(C.nd i).rep.term=r.term->(C.nd i).rep.aK ≠ -1->r.aK=(C.nd i).rep.aK){t j}(hv:g.V t j ≠ -1):IZ g.V i r.term r.aK t j=g.V t j:=by
 by_cases hc:t=r.term/\j=i
 .obtain ⟨rfl,rfl⟩:=hc;rw [iW];rcases Int.lt_or_eq_of_le up with hlt|heq
  .exact absurd (h.later j hi r.term hlt) hv
  .have h1:=h.now j hi;rw [heq] at h1;rw [keep heq (by rw [<-h1];exact hv),<-h1]
 .exact kQ _ _ hc
abbrev Gh.aK(g:Gh)(i:Nat)(r:dH):Gh:={ g with V:=IZ g.V i r.term r.aK }
theorem JX{C g}(h:CQ C g){i}(hi:i<3){r}(hr:(C.nd i).rep=r){x}(hf:Fits r x.1 x.2)(hv:a7w r x)(cand:x.1.role=1->(∀ j,j<3->x.1.bX j=true->g.V x.1.term j=i)/\g.ld x.1.term≠i)(lead:x.1.role=2->g.ld x.1.term=i/\g.LL x.1.term=x.1.log)(log:qR g.LL x.1.log)(app:∀ m∈x.2.send,m.kind=2->a0d g.LL m):z8 C g i x.1 x.2.send (g.aK i x.1):=by
 subst hr;have hid:=(h.wf.rep i hi).2;refine ⟨rfl,hf.term,hv.keep,λm hm hy=>?_,λt=>.inl rfl,Ext.refl _,λt=>.inl rfl,λhr=>?_,lead,log,app⟩
 .obtain ⟨a,b⟩:=hv.yes m hm hy;exact ⟨by rw [a,hid],b⟩
 .obtain ⟨a,b⟩:=cand hr;exact ⟨λj hj hvo=>by
   have e:=a j hj hvo;show IZ g.V i x.1.term x.1.aK x.1.term j=i;rw [a2R h hi hf.term hv.keep (by omega),e],b⟩
theorem a4z{LL r}(hL:LL r.term=r.log)(hn:∀ f,1<=r.next f/\r.next f<=r.log.length+1):∀ m∈bL r,a0d LL m:=λm hm=>by
 unfold bL at hm;obtain ⟨f,_,rfl⟩:=List.mem_map.1 hm;exact V0 hL (hn f).1 (hn f).2
theorem aQk{C g}(h:CQ C g){i}(hi:i<3):∃ g',z8 C g i (cV (C.nd i).rep).1 (cV (C.nd i).rep).2.send g'/\g'.LL=g.LL/\g'.ld=g.ld:=by
 obtain ⟨hw,hid⟩:=h.wf.rep i hi;have hf:=(WA hw).2;have hv:=aQg (C.nd i).rep;have hc:=h.cand i hi;have hl:=h.lead i hi;have hg:=h.log i hi;have IB:=h.now i hi;have aWp:=h.ldt ((C.nd i).rep.term+1);generalize hr:(C.nd i).rep=r at hw hid hf hv hc hl hg IB aWp;by_cases h2:r.role=2
 .have e:cV r=(r,mI (bL r)):=if_pos h2;refine ⟨_,JX h hi hr hf hv ?_ ?_ ?_ ?_,rfl,rfl⟩;all_goals rw [e]
  .exact hc
  .exact hl
  .exact hg
  .exact λm hm _=>a4z (hl h2).2 (λf=>⟨(hw.ok.next h2 f).1,(hw.ok.next h2 f).2.1⟩) m hm
 by_cases h3:r.term=1099511627776
 .have e:cV r=(r,jS):=by unfold cV;rw [if_neg h2,if_pos h3]
  refine ⟨_,JX h hi hr hf hv ?_ ?_ ?_ ?_,rfl,rfl⟩;all_goals rw [e]
  .exact hc
  .exact hl
  .exact hg
  .exact λm hm _=>by cases hm
 .have e:cV r=({ r with term:=r.term+1,aK:=r.id,role:=1,bX:=λi=>decide (i=r.id) },⟨true,r.term+1,r.id,0,[],(aL r.id).map λk=>iP { r with term:=r.term+1,aK:=r.id,role:=1,bX:=λi=>decide (i=r.id) } k⟩):=by
   unfold cV;rw [if_neg h2,if_neg h3]
  rw [e];refine ⟨g.aK i { r with term:=r.term+1,aK:=r.id,role:=1,bX:=λi=>decide (i=r.id) },⟨rfl,by rw [hr];show r.term<=r.term+1;omega,λht=>?_,λm hm hy=>?_,λt=>.inl rfl,Ext.refl _,λt=>.inl rfl,λ_=>⟨λj hj hvo=>?_,?_⟩,λh0=>(by cases (show (1:Int)=2 from h0)),hg,λm hm hk=>?_⟩,rfl,rfl⟩
  .rw [hr] at ht;have:r.term=r.term+1:=ht;omega
  .obtain ⟨k,_,rfl⟩:=List.mem_map.1 hm;cases hy.1
  .have hj:j=r.id:=fV hvo;show IZ g.V i (r.term+1) r.id (r.term+1) j=i;rw [hj,hid,iW]
  .intro JR;have JR:g.ld (r.term+1)=i:=JR;obtain ⟨j,hj,a1,a2⟩:=aWp (by omega);have:j=i:=by omega
   subst this;rw [hr] at a2;omega
  .obtain ⟨k,_,rfl⟩:=List.mem_map.1 hm;cases hk
theorem aQl{C g}(h:CQ C g){i}(hi:i<3)(data):∃ g',z8 C g i (aF (C.nd i).rep data).1 (aF (C.nd i).rep data).2.2.2.send g'/\g'.ld=g.ld/\(∀ t,t≠(C.nd i).rep.term->g'.LL t=g.LL t)/\((aF (C.nd i).rep data).2.2.2=jS->g'.LL=g.LL):=by
 obtain ⟨hw,hid⟩:=h.wf.rep i hi;have hf:=aDW hw data;have hv:=aQh (C.nd i).rep data;have hc:=h.cand i hi;have hl:=h.lead i hi;have hg:=h.log i hi;generalize hr:(C.nd i).rep=r at hw hid hf hv hc hl hg;have same:aF r data=(r,(aF r data).2.1,(aF r data).2.2.1,jS)->∃ g',z8 C g i (aF r data).1 (aF r data).2.2.2.send g'/\g'.ld=g.ld/\(∀ t,t≠r.term->g'.LL t=g.LL t)/\((aF r data).2.2.2=jS->g'.LL=g.LL):=λe=>by
  rw [e];rw [e] at hf hv;exact ⟨_,JX (x:=(r,jS)) h hi hr hf hv hc hl hg (λm hm _=>by cases hm),rfl,λ_ _=>rfl,λ_=>rfl⟩
 by_cases h2:r.role=2
 .by_cases h3:2000<(data.size:Int)
  .exact same (by unfold aF;rw [if_neg (by simpa using h2),if_pos h3])
  by_cases h4:r.log.length=4000
  .exact same (by unfold aF;rw [if_neg (by simpa using h2),if_neg h3,if_pos h4])
  obtain ⟨x,hx⟩:∃ x:bH,x=⟨r.term,data⟩:=⟨_,rfl⟩;have hxt:x.term=r.term:=by rw [hx]
  have e1:(aF r data).1={ r with log:=r.log++[x] }:=by unfold aF;rw [if_neg (by simpa using h2),if_neg h3,if_neg h4,hx]
  have e2:(aF r data).2.2.2.send=bL { r with log:=r.log++[x] }:=by unfold aF;rw [if_neg (by simpa using h2),if_neg h3,if_neg h4,hx]
  have e4:(aF r data).2.2.2≠jS:=λe=>by
   have:=congrArg kR.send e;rw [e2] at this;have:=congrArg List.length this;unfold bL at this;rw [List.length_map,pX] at this;cases this
  rw [e1,e2];obtain ⟨hl1,hl2⟩:=hl h2;obtain ⟨UY,oI⟩:∃ UY:Int->List bH,(λt=>if t=r.term then r.log++[x] else g.LL t)=UY:=⟨_,rfl⟩;have B8:UY r.term=r.log++[x]:=by rw [<-oI];exact if_pos rfl
  have hL2:∀ t,t≠r.term->UY t=g.LL t:=λt ht=>by rw [<-oI];exact if_neg ht
  have qP:Ext g.LL UY:=λt=>by
   by_cases ht:t=r.term
   .subst ht;exact ⟨[x],by rw [B8,hl2]⟩
   .exact ⟨[],by rw [hL2 t ht,List.append_nil]⟩
  have hpre:qR UY (r.log++[x]):=λp y hy=>by
   rcases Nat.lt_or_ge p r.log.length with hp|hp
   .rw [List.getElem?_append_left hp] at hy;rw [List.take_append_of_le_length (by omega)];exact IY qP hg p y hy
   .rw [List.getElem?_append_right hp] at hy;have hz:p - r.log.length=0:=by
     have:=(List.getElem?_eq_some_iff.1 hy).1;simp at this;omega
    rw [hz] at hy;have hy:x=y:=by simpa using hy
    rw [<-hy,hxt,B8]
  refine ⟨⟨IZ g.V i r.term r.aK,g.ld,UY⟩,⟨rfl,by rw [hr];exact Int.le_refl _,λ_ _=>by rw [hr],aAo (by decide) (pN _),λt=>.inl rfl,qP,λt=>?_,λh1=>?_,λ_=>⟨hl1,B8⟩,hpre,λm hm _=>a4z (r:={ r with log:=r.log++[x] }) B8 (λf=>?_) m hm⟩,rfl,hL2,λe=>absurd e e4⟩
  .by_cases ht:t=r.term
   .subst ht;exact .inr ⟨hl1,by show qR UY (UY r.term);rw [B8];exact hpre⟩
   .exact .inl (hL2 t ht)
  .have h1:r.role=1:=h1;omega
  .have:=hw.ok.next h2 f;refine ⟨this.1,?_⟩;show r.next f<=(r.log++[x]).length+1;rw [List.length_append];omega
 .exact same (by unfold aF;rw [if_pos h2])
structure Bk(g:Gh)(i:Nat)(r:dH):Prop where
 cand:r.role=1->(∀ j,j<3->r.bX j=true->g.V r.term j=i)/\g.ld r.term≠i
 lead:r.role=2->g.ld r.term=i/\g.LL r.term=r.log
 log:qR g.LL r.log
theorem Bk.as{g i r r'}(h:Bk g i r)(h1:r'.role=r.role)(h2:r'.term=r.term)(h3:r'.bX=r.bX)(h4:r'.log=r.log):Bk g i r' :=
 ⟨by rw [h1,h2,h3];exact h.cand,by rw [h1,h2,h4];exact h.lead,by rw [h4];exact h.log⟩
theorem Bk.fol{g i r'}(h:qR g.LL r'.log)(h1:r'.role=0):Bk g i r' :=
 ⟨λhr=>by omega,λhr=>by omega,h⟩
theorem aD6{g i r m}(h:Bk g i r)(hll:∀ t,qR g.LL (g.LL t))(ha:a0d g.LL m):Bk g i (b9 r m).1:=by
 unfold b9;split
 .exact h
 split
 .exact h
 simp only;split
 .exact .fol h.log rfl
 rename_i hc;simp only [Bool.or_eq_true,decide_eq_true_eq,not_or] at hc;obtain ⟨hc1,JR⟩:=hc;obtain ⟨a1,a2,a3,a4⟩:=ha;split
 .split
  .exact .fol h.log rfl
  .refine .fol ?_ rfl;show qR g.LL (r.log.take (m.index.toNat+agree (r.log.drop m.index.toNat) m.aE)++m.aE.drop (agree (r.log.drop m.index.toNat) m.aE));rw [a2Q h.log (hll m.term) (by omega) a2 a3 (by rw [<-a4];exact Decidable.of_not_not JR) (HQ _ _)];exact a2P (hll m.term) _
 .exact .fol h.log rfl
theorem a7z(r m):∀ v∈(b9 r m).2.send,v.kind=3:=by
 unfold b9;split
 .exact λv hv=>by rw [List.mem_singleton.1 hv];rfl
 split
 .exact λv hv=>by cases hv
 simp only;split
 .exact λv hv=>by rw [List.mem_singleton.1 hv]
 split
 .split
  .exact λv hv=>by cases hv
  .exact λv hv=>by rw [List.mem_singleton.1 hv];rfl
 .exact λv hv=>by rw [List.mem_singleton.1 hv];rfl
theorem pO(r):(aQ r).role=r.role/\(aQ r).term=r.term/\(aQ r).bX=r.bX/\(aQ r).log=r.log:=by
 unfold aQ;split<;>exact ⟨rfl,rfl,rfl,rfl⟩
theorem LR(r m):((aW r m).1.role=r.role/\(aW r m).1.term=r.term/\(aW r m).1.bX=r.bX/\(aW r m).1.log=r.log)/\∀ v∈(aW r m).2.send,r.role=2/\∃ f,v=entriesOf (aW r m).1 f:=by
 unfold aW;split
 .exact ⟨⟨rfl,rfl,rfl,rfl⟩,λv hv=>by cases hv⟩
 rename_i hc;simp only [Bool.or_eq_true,decide_eq_true_eq,not_or] at hc;have h2:r.role=2:=by omega
 simp only;split
 .exact ⟨⟨rfl,rfl,rfl,rfl⟩,λv hv=>⟨h2,_,List.mem_singleton.1 hv⟩⟩
 split
 .exact ⟨pO _,λv hv=>⟨h2,_,List.mem_singleton.1 hv⟩⟩
 .exact ⟨pO _,λv hv=>by cases hv⟩
theorem a0e(r m):((cX r m).1.role=r.role/\(cX r m).1.term=r.term/\(cX r m).1.bX=r.bX/\(cX r m).1.log=r.log)/\∀ v∈(cX r m).2.send,v.kind=1:=by
 unfold cX;split
 .exact ⟨⟨rfl,rfl,rfl,rfl⟩,λv hv=>by rw [List.mem_singleton.1 hv]⟩
 .exact ⟨⟨rfl,rfl,rfl,rfl⟩,λv hv=>by rw [List.mem_singleton.1 hv];rfl⟩
theorem a4A{v}(h:¬ kF v<2):∃ a b,a<3/\b<3/\a≠b/\v a=true/\v b=true:=by
 unfold kF b2n at h;cases h0:v 0<;>cases h1:v 1<;>cases h2:v 2<;>rw [h0,h1,h2] at h<;>simp at h
 .exact ⟨1,2,by decide,by decide,by decide,h1,h2⟩
 .exact ⟨0,2,by decide,by decide,by decide,h0,h2⟩
 .exact ⟨0,1,by decide,by decide,by decide,h0,h1⟩
 .exact ⟨0,1,by decide,by decide,by decide,h0,h1⟩
def aNx(C:Cl)(g:Gh)(i:Nat)(r:dH)(send:List bA)(g':Gh):Prop :=
 (g'.LL=g.LL/\g'.ld=g.ld)\/((C.nd i).rep.role=1/\r.role=2/\r.term=(C.nd i).rep.term/\r.log=(C.nd i).rep.log/\r.aD=(C.nd i).rep.aD/\r.aK=(C.nd i).rep.aK/\(∀ f,r.cE f=0)/\g.ld r.term = -1 /\
  (∀ t,t≠r.term->g'.LL t=g.LL t/\g'.ld t=g.ld t)/\send=bL r/\∃ a b,a<3/\b<3/\a≠b/\g.V r.term a=i/\g.V r.term b=i)
theorem aQn{C g}(h:CQ C g){i}(hi:i<3){m}(hmy:aIm m->∃ j:Nat,j<3/\m.src=j/\g.V m.term j=m.to/\0<=m.to)(hma:m.kind=2->a0d g.LL m):
  ∃ g',z8 C g i (aT (C.nd i).rep m).1 (aT (C.nd i).rep m).2.send g'/\aNx C g i (aT (C.nd i).rep m).1 (aT (C.nd i).rep m).2.send g':=by
 obtain ⟨hw,hid⟩:=h.wf.rep i hi;have hf:=(lQ (m:=m) hw).2;have hxw:=(lQ (m:=m) hw).1;have hv:=aQj (C.nd i).rep m;have hb:Bk g i (C.nd i).rep:=⟨h.cand i hi,h.lead i hi,h.log i hi⟩;have same:Bk g i (aT (C.nd i).rep m).1->(∀ v∈(aT (C.nd i).rep m).2.send,v.kind=2->a0d g.LL v)->∃ g',z8 C g i (aT (C.nd i).rep m).1 (aT (C.nd i).rep m).2.send g'/\aNx C g i (aT (C.nd i).rep m).1 (aT (C.nd i).rep m).2.send g':=λhb ha =>
  ⟨_,JX h hi rfl hf hv hb.cand hb.lead hb.log ha,.inl ⟨rfl,rfl⟩⟩
 cases hy:gQ (C.nd i).rep.id m with
 | false =>
  rw [pS hy] at same ⊢;exact same hb λv hv=>by cases hv
 | true =>
  have hm:=gU.1 hy;obtain ⟨r1,HP⟩:∃ r1,(if (C.nd i).rep.term<m.term then QD (C.nd i).rep m else (C.nd i).rep)=r1:=⟨_,rfl⟩;have e1:(aT (C.nd i).rep m).1=(dJ r1 m).1:=by rw [nM hy,HP,AE]
  have e2:(aT (C.nd i).rep m).2.send=(dJ r1 m).2.send:=by rw [nM hy,HP,ZV]
  have hb1:Bk g i r1:=by
   rw [<-HP];split
   .exact .fol hb.log rfl
   .exact hb
  have hw1:r1.Wf:=by
   rw [<-HP];split
   .exact aBU hw hm (by assumption)
   .exact hw
  have aDS:r1.id=i:=by
   rw [<-HP];split
   .exact hid
   .exact hid
  have cP:r1.role=1->r1=(C.nd i).rep:=by
   rw [<-HP];split
   .intro h0;cases (show (0:Int)=1 from h0)
   .exact λ_=>rfl
  rw [e1,e2] at same;by_cases hk0:m.kind=0
  .have e:dJ r1 m=cX r1 m:=by unfold dJ;rw [if_pos hk0]
   rw [e] at same e1 e2;rw [e1,e2];obtain ⟨⟨s1,s2,s3,s4⟩,s5⟩:=a0e r1 m;exact same (hb1.as s1 s2 s3 s4) λv hv hk=>by rw [s5 v hv] at hk;cases hk
  by_cases hk1:m.kind=1
  .have e:dJ r1 m=cU r1 m:=by unfold dJ;rw [if_neg hk0,if_pos hk1]
   rw [e] at same e1 e2;by_cases hc:(decide (r1.role≠1)||decide (m.term≠r1.term) || !m.yes)=true
   .have e3:cU r1 m=(r1,jS):=by unfold cU;rw [if_pos hc]
    rw [e1,e2];rw [e3] at same ⊢;exact same hb1 λv hv=>by cases hv
   have JB:=hc;simp only [Bool.or_eq_true,decide_eq_true_eq,not_or,Bool.not_eq_true',Bool.not_eq_false] at JB;obtain ⟨⟨c1,c2⟩,c3⟩:=JB;have c1:r1.role=1:=by omega
   have c2:m.term=r1.term:=by omega
   obtain ⟨j,hj,a1,a2,a3⟩:=hmy ⟨hk1,c3⟩;have hto:m.to=i:=by rw [hm.to,hid]
   have hsrc:m.src.toNat=j:=by omega
   obtain ⟨b1,b2⟩:=hb1.cand c1;have TK:∀ k,k<3->put r1.bX m.src.toNat true k=true->g.V r1.term k=i:=λk hk hvk=>by
    by_cases hkj:k=m.src.toNat
    .rw [hkj,hsrc,<-c2,a2,hto]
    .rw [bG _ _ hkj] at hvk;exact b1 k hk hvk
   by_cases JR:kF (put r1.bX m.src.toNat true)<2
   .have e3:cU r1 m=({ r1 with bX:=put r1.bX m.src.toNat true },jS):=by unfold cU;rw [if_neg hc];simp only;rw [if_pos JR]
    rw [e1,e2];rw [e3] at same ⊢;exact same ⟨λ_=>⟨TK,b2⟩,λh0=>by have h0:r1.role=2:=h0;omega,hb1.log⟩ λv hv=>by cases hv
   ·-- leads
    obtain ⟨r2,hr2⟩:∃ r2:dH,({ r1 with bX:=put r1.bX m.src.toNat true,role:=2,next:=λ_=>r1.log.length+1,cE:=λ_=>0 }:dH)=r2:=⟨_,rfl⟩;have e3:cU r1 m=(r2,mI (bL r2)):=by unfold cU;rw [if_neg hc];simp only;rw [if_neg JR,<-hr2]
    have t2:r2.term=r1.term:=by rw [<-hr2]
    have v2:r2.aK=r1.aK:=by rw [<-hr2]
    have l2:r2.log=r1.log:=by rw [<-hr2]
    have o2:r2.role=2:=by rw [<-hr2]
    have n2:∀ f,r2.next f=r1.log.length+1:=λf=>by rw [<-hr2]
    rw [e3] at e1 e2;have hrr:=cP c1;have hfree:g.ld r1.term = -1:=by
     refine Decidable.byContradiction λhne=>?_;obtain ⟨a,b,q1,q2,q3,q4,q5⟩:=h.quo _ hne;obtain ⟨c,d,p1,p2,p3,p4,p5⟩:=a4A JR;have p6:=TK c p1 p4;have p7:=TK d p2 p5;have:a=c\/a=d\/b=c\/b=d:=by omega
     rcases this with rfl|rfl|rfl|rfl
     .exact b2 (by rw [<-q4,p6])
     .exact b2 (by rw [<-q4,p7])
     .exact b2 (by rw [<-q5,p6])
     .exact b2 (by rw [<-q5,p7])
    obtain ⟨UY,oI⟩:∃ UY:Int->List bH,(λt=>if t=r1.term then r1.log else g.LL t)=UY:=⟨_,rfl⟩;have B8:UY r1.term=r1.log:=by rw [<-oI];exact if_pos rfl
    have hL2:∀ t,t≠r1.term->UY t=g.LL t:=λt ht=>by rw [<-oI];exact if_neg ht
    have qP:Ext g.LL UY:=λt=>by
     by_cases ht:t=r1.term
     .subst ht;exact ⟨r1.log,by rw [B8,h.none _ hfree,List.nil_append]⟩
     .exact ⟨[],by rw [hL2 t ht,List.append_nil]⟩
    rw [e1,e2];have hkeep:=hv.keep;rw [e1] at hf hkeep;have hV:∀ k,k<3->put r1.bX m.src.toNat true k=true->IZ g.V i r2.term r2.aK r1.term k=i:=λk hk hvk=>by
     have:=TK k hk hvk;have e5:=a2R h hi (r:=r2) hf.term hkeep (t:=r1.term) (j:=k) (by omega);rw [e5,this]
    refine ⟨⟨IZ g.V i r2.term r2.aK,λt=>if t=r1.term then i else g.ld t,UY⟩,⟨rfl,hf.term,hkeep,λv RW hyv=>absurd ((pN _ v RW).symm.trans hyv.1) (by decide),λt=>?_,qP,λt=>?_,λh1=>(by have h1:r2.role=1:=h1;omega),λ_=>⟨by rw [t2];exact if_pos rfl,by rw [t2,l2];exact B8⟩,by rw [l2];exact IY qP hb1.log,λv RW _=>a4z (by rw [t2,l2];exact B8) (λf=>by rw [n2,l2];omega) v RW⟩,?_⟩
    .by_cases ht:t=r1.term
     .subst ht;obtain ⟨c,d,p1,p2,p3,p4,p5⟩:=a4A JR;exact .inr ⟨hfree,if_pos rfl,by rw [t2];exact Int.le_refl _,c,d,p1,p2,p3,hV c p1 p4,hV d p2 p5⟩
     .exact .inl (if_neg ht)
    .by_cases ht:t=r1.term
     .subst ht;exact .inr ⟨if_pos rfl,by show qR UY (UY r1.term);rw [B8];exact IY qP hb1.log⟩
     .exact .inl (hL2 t ht)
    .obtain ⟨c,d,p1,p2,p3,p4,p5⟩:=a4A JR;refine .inr ⟨by rw [<-hrr];exact c1,o2,by rw [<-hrr];exact t2,by rw [<-hrr];exact l2,by rw [<-hrr,<-hr2],by rw [<-hrr];exact v2,λf=>by rw [<-hr2],by show g.ld r2.term = -1;rw [t2];exact hfree,λt ht=>?_,rfl,c,d,p1,p2,p3,by show g.V r2.term c=i;rw [t2];exact TK c p1 p4,by show g.V r2.term d=i;rw [t2];exact TK d p2 p5⟩;have ht:t≠r2.term:=ht;rw [t2] at ht;exact ⟨hL2 t ht,if_neg ht⟩
  by_cases hk2:m.kind=2
  .have e:dJ r1 m=b9 r1 m:=by unfold dJ;rw [if_neg hk0,if_neg hk1,if_pos hk2]
   rw [e] at same e1 e2;rw [e1,e2];exact same (aD6 hb1 h.ll (hma hk2)) λv hv hk=>by rw [a7z r1 m v hv] at hk;cases hk
  .have e:dJ r1 m=aW r1 m:=by unfold dJ;rw [if_neg hk0,if_neg hk1,if_neg hk2]
   rw [e] at same e1 e2;rw [e1,e2];obtain ⟨⟨s1,s2,s3,s4⟩,s5⟩:=LR r1 m;refine same (hb1.as s1 s2 s3 s4) λv hv hk=>?_;obtain ⟨h2,f,rfl⟩:=s5 v hv;have hwx:=(AD hw1 (m:=m) hm.index.1).1;have hn:=hwx.ok.next (by rw [s1];exact h2) f;exact V0 (by rw [s2,s4];exact (hb1.lead h2).2) hn.1 hn.2.1
theorem aWs:CQ cl0 ⟨λ_ _ => -1,λ_ => -1,λ_=>[]⟩ :=
 ⟨aP4,λ_ _=>rfl,λ_ _ _ _=>rfl,λm hm=>(by cases hm),λi hi hr=>(by cases (show (0:Int)=1 from hr)),λi hi hr=>(by cases (show (0:Int)=2 from hr)),λt ht=>absurd rfl ht,λt ht=>absurd rfl ht,λ_ _=>rfl,λi hi=>a7y _,λt=>a7y _,λm hm=>(by cases hm)⟩
def Valid(g:Gh)(t:Int)(p:Nat):Prop:=1<=p/\p<=(g.LL t).length/\aU (g.LL t) p=t
def gY(g:Gh)(t:Int)(p:Nat)(l:List bH):Prop:=p<=l.length/\l.take p=(g.LL t).take p
def oV(C:Cl)(A:Int->Nat->Nat)(t:Int)(p:Nat):Prop:=∃ x y,x<3/\y<3/\x≠y/\t<(C.nd x).rep.term/\t<(C.nd y).rep.term/\A t x<p/\A t y<p
def NP(g:Gh)(A:Int->Nat->Nat)(t:Int)(p:Nat):Prop:=Valid g t p/\∃ a b,a<3/\b<3/\a≠b/\p<=A t a/\p<=A t b
def jP(g:Gh)(A:Int->Nat->Nat)(s:Int)(l:List bH)(n:Nat):Prop:=n=0\/∃ t p,NP g A t p/\t<=s/\n<=p/\gY g t n l
structure eL(C:Cl)(g:Gh)(A:Int->Nat->Nat):Prop where
 m:CQ C g
 N1:∀ t,kH (g.LL t) t
 a1:∀ t j,A t j<=(g.LL t).length
 a2:∀ t j,j<3->0<A t j->t<=(C.nd j).rep.term
 a3:∀ i,i<3->(C.nd i).rep.role=2->A (C.nd i).rep.term i=(C.nd i).rep.log.length
 ia:∀ t j p,j<3->1<=p->p<=A t j->gY g t p (C.nd j).rep.log\/∃ u,t<u/\u<=(C.nd j).rep.term/\g.ld u ≠ -1/\¬ gY g t p (g.LL u)
 ib:∀ t u p,Valid g t p->t<u->g.ld u ≠ -1->gY g t p (g.LL u)\/oV C A t p
 iq:∀ m∈C.sent,m.kind=0->∃ c:Nat,c<3/\m.src=c/\m.term<=(C.nd c).rep.term/\((C.nd c).rep.role=1->m.term=(C.nd c).rep.term->m.index=(C.nd c).rep.log.length/\m.prev=aU (C.nd c).rep.log (C.nd c).rep.log.length)
 il:∀ c,c<3->(C.nd c).rep.role=1->∀ x∈(C.nd c).rep.log,x.term<(C.nd c).rep.term
 iv:∀ c,c<3->(C.nd c).rep.role=1->∀ x,x<3->g.V (C.nd c).rep.term x=c->∀ t p,t<(C.nd c).rep.term->Valid g t p->p<=A t x->gY g t p (C.nd c).rep.log\/oV C A t p
 vt:∀ t x c,x<3->c<3->g.V t x=((c:Nat):Int)->t<=(C.nd c).rep.term
 im:∀ i,i<3->(C.nd i).rep.role=2->∀ f,f<3->f≠i->(C.nd i).rep.cE f<=A (C.nd i).rep.term f
 ik:∀ m∈C.sent,m.kind=3->m.yes=true->∃ f:Nat,f<3/\m.src=f/\m.index.toNat<=A m.term f
 ic:∀ m∈C.sent,m.kind=2->jP g A m.term (g.LL m.term) m.aD.toNat
 co:∀ j,j<3->jP g A (C.nd j).rep.term (C.nd j).rep.log (C.nd j).rep.aD
def Grow(g g':Gh):Prop:=∀ u,g.ld u ≠ -1->∃ s,g'.LL u=g.LL u++s/\∀ x∈s,x.term=u
theorem Valid.ext{g g'}(he:Ext g.LL g'.LL){t p}(h:Valid g t p):Valid g' t p:=by
 obtain ⟨s,hs⟩:=he t;obtain ⟨h1,h2,h3⟩:=h;exact ⟨h1,by rw [hs,List.length_append];omega,by rw [hs,a0c h2];exact h3⟩
theorem Valid.back{g g'}(he:Ext g.LL g'.LL){t p}(h:Valid g' t p)(hp:p<=(g.LL t).length):Valid g t p:=by
 obtain ⟨s,hs⟩:=he t;obtain ⟨h1,h2,h3⟩:=h;exact ⟨h1,hp,by rw [hs,a0c hp] at h3;exact h3⟩
theorem gY.ext{g g'}(he:Ext g.LL g'.LL){t p l}(hp:p<=(g.LL t).length):gY g' t p l ↔ gY g t p l:=by
 obtain ⟨s,hs⟩:=he t;unfold gY;rw [hs,List.take_append_of_le_length hp]
theorem gY.more{g t p l s}(h:gY g t p l):gY g t p (l++s) :=
 ⟨by rw [List.length_append];have:=h.1;omega,by rw [List.take_append_of_le_length h.1];exact h.2⟩
theorem gY.less{g t p n l}(h:gY g t p l)(hn:n<=p):gY g t n l:=by
 obtain ⟨h1,h2⟩:=h;refine ⟨by omega,?_⟩;have:=congrArg (List.take n) h2
 rwa [List.take_take,List.take_take,Nat.min_eq_left hn] at this
theorem TL{g g' t}(he:Ext g.LL g'.LL)(hg:Grow g g')(hs:kH (g.LL t) t){u p}(htu:t<u)(hp:p<=(g.LL t).length)(hu:g.ld u ≠ -1)(h:gY g' t p (g'.LL u)):gY g t p (g.LL u):=by
 rw [gY.ext he hp] at h;obtain ⟨s,e,hx⟩:=hg u hu;obtain ⟨h1,h2⟩:=h;rcases Nat.lt_or_ge (g.LL u).length p with hlt|hge
 .exfalso;obtain ⟨q,rfl⟩:∃ q,p=q+1:=⟨p - 1,by omega⟩;have hq1:q<(g'.LL u).length:=h1;have qZ:q<(g.LL t).length:=hp;have e1:(g'.LL u)[q]? = (g.LL t)[q]? := by
   have:=congrArg (λl=>l[q]?) h2;simpa [List.getElem?_take_of_lt (show q<q+1 by omega)] using this
  obtain ⟨z,hz⟩:∃ z,(g'.LL u)[q]? = some z:=⟨_,List.getElem?_eq_getElem hq1⟩;have hz2:(g.LL t)[q]? = some z:=by rw [<-e1];exact hz
  have e3:z.term=u:=hx z (by
   rw [e,List.getElem?_append_right (by omega)] at hz;exact List.mem_of_getElem? hz)
  have e4:=hs.hi z (List.mem_of_getElem? hz2);omega
 .rw [e,List.take_append_of_le_length hge] at h2;exact ⟨hge,h2⟩
def CR(A:Int->Nat->Nat)(i:Nat)(t:Int)(n:Nat):Int->Nat->Nat:=λu j=>if u=t/\j=i then n else A u j
theorem xB(A i t n):CR A i t n t i=n:=if_pos ⟨rfl,rfl⟩
theorem rQ(A){i j t u}(n)(h:¬ (u=t/\j=i)):CR A i t n u j=A u j:=if_neg h
theorem RC{A i t n}(h:A t i<=n)(u j):A u j<=CR A i t n u j:=by
 unfold CR;split
 .rename_i hc;obtain ⟨rfl,rfl⟩:=hc;exact h
 .exact Nat.le_refl _
theorem NP.ext{g g' A A'}(he:Ext g.LL g'.LL)(ha:∀ t j,A t j<=A' t j){t p}(h:NP g A t p):NP g' A' t p:=by
 obtain ⟨hv,a,b,h1,h2,h3,h4,h5⟩:=h;exact ⟨hv.ext he,a,b,h1,h2,h3,Nat.le_trans h4 (ha t a),Nat.le_trans h5 (ha t b)⟩
theorem jP.ext{g g' A A'}(he:Ext g.LL g'.LL)(ha:∀ t j,A t j<=A' t j){s s'}(hs:s<=s'){l r n}(h:jP g A s l n):jP g' A' s' (l++r) n:=by
 rcases h with h|⟨t,p,h1,h2,h3,h4⟩
 .exact .inl h
 .refine .inr ⟨t,p,h1.ext he ha,by omega,h3,gY.more ?_⟩;have:=h1.1.2.1;exact (gY.ext he (by omega)).2 h4
theorem jP.aAr{g g' A A'}(he:Ext g.LL g'.LL)(ha:∀ t j,A t j<=A' t j){s s'}(hs:s<=s'){l n}(h:jP g A s l n):jP g' A' s' l n:=by
 have:=h.ext (r:=[]) he ha hs
 rwa [List.append_nil] at this
theorem NP.no{C g A t p}(h:NP g A t p)(hc:oV C A t p):False:=by
 obtain ⟨_,a,b,h1,h2,h3,h4,h5⟩:=h;obtain ⟨x,y,k1,k2,k3,_,_,k4,k5⟩:=hc;have:a=x\/a=y\/b=x\/b=y:=by omega
 rcases this with rfl|rfl|rfl|rfl<;>omega
structure v7(C:Cl)(g:Gh)(A:Int->Nat->Nat)(i:Nat)(r:dH)(send:List bA)(g':Gh)(n:Nat):Prop where
 m:z8 C g i r send g'
 grow:Grow g g'
 N1:∀ t,kH (g'.LL t) t
 le:A r.term i<=n
 a1:n<=(g'.LL r.term).length
 a3:r.role=2->n=r.log.length
 ia:∀ t p,1<=p->p<=CR A i r.term n t i->gY g' t p r.log\/∃ u,t<u/\u<=r.term/\g'.ld u ≠ -1/\¬ gY g' t p (g'.LL u)
 new:∀ u,g.ld u = -1->g'.ld u ≠ -1->(∀ t p,Valid g t p->t<u->gY g t p (g'.LL u)\/oV C A t p)/\∀ p,¬ Valid g' u p
 old:∀ t p,g.ld t ≠ -1->Valid g' t p->(g.LL t).length<p->t=(C.nd i).rep.term/\t=r.term
 iq:∀ m∈send,m.kind=0->m.src=i/\m.term<=r.term/\(r.role=1->m.term=r.term->m.index=r.log.length/\m.prev=aU r.log r.log.length)
 iq2:r.role=1->(C.nd i).rep.term<r.term\/((C.nd i).rep.role=1/\r.term=(C.nd i).rep.term/\r.log=(C.nd i).rep.log)
 il:r.role=1->∀ x∈r.log,x.term<r.term
 iv:r.role=1->∀ x,x<3->g'.V r.term x=i->∀ t p,t<r.term->Valid g t p->p<=A t x->gY g t p r.log\/oV C A t p
 aK:∀ c,c<3->c≠i->(C.nd c).rep.role=1->(C.nd c).rep.term=r.term->r.aK=c->g.V r.term i≠c->∀ t p,t<r.term->Valid g t p->p<=A t i->gY g t p (C.nd c).rep.log\/oV C A t p
 vt:∀ c,c<3->c≠i->r.aK=((c:Nat):Int)->g.V r.term i=c\/r.term<=(C.nd c).rep.term
 im:r.role=2->∀ f,f<3->f≠i->r.cE f<=A r.term f
 ik:∀ m∈send,m.kind=3->m.yes=true->m.src=i/\m.term=r.term/\m.index.toNat<=n
 ic:∀ m∈send,m.kind=2->jP g' (CR A i r.term n) m.term (g'.LL m.term) m.aD.toNat
 co:jP g' (CR A i r.term n) r.term r.log r.aD
theorem eL.led{C g A}(h:eL C g A){t p}(hv:Valid g t p):g.ld t ≠ -1:=λe=>by
 have:=h.m.none t e;have h1:=hv.1;have h2:=hv.2.1;rw [this] at h2;simp at h2;omega
theorem yH{C g}(h:CQ C g){u x}(hx:x<3)(hv:g.V u x ≠ -1):u<=(C.nd x).rep.term:=by
 rcases Int.lt_or_le (C.nd x).rep.term u with hlt|hle
 .exact absurd (h.later x hx u hlt) hv
 .exact hle
theorem eL.node{C C' g g' A i n r send}(h:eL C g A)(hi:i<3)(f:v7 C g A i r send g' n)(hw:C'.Wf)(hr:(C'.nd i).rep=r)(hne:∀ j,j≠i->C'.nd j=C.nd j)(hs:∀ m∈C'.sent,m∈C.sent\/m∈send):eL C' g' (CR A i r.term n):=by
 have hm:=h.m.node hi f.m hw hr hne hs;have he:=f.m.ext;have hup:=f.m.up;have ha:∀ t j,A t j<=CR A i r.term n t j:=RC f.le;have RD:∀ j,(C.nd j).rep.term<=(C'.nd j).rep.term:=λj=>by
  by_cases hji:j=i
  .subst hji;rw [hr];exact hup
  .rw [hne j hji];exact Int.le_refl _
 have xC:∀ u,g.ld u ≠ -1->g'.ld u=g.ld u:=λu hu=>by
  rcases f.m.ld u with e|⟨e,_⟩
  .exact e
  .exact absurd e hu
 have a7A:∀ t x,t<(C.nd x).rep.term->CR A i r.term n t x=A t x:=λt x ht=>rQ _ _ λhc=>by
  obtain ⟨rfl,rfl⟩:=hc;omega
 have can:∀ t p,oV C A t p->oV C' (CR A i r.term n) t p:=λt p hc=>by
  obtain ⟨x,y,h1,h2,h3,h4,h5,h6,h7⟩:=hc;have hx:=RD x;have hy:=RD y;exact ⟨x,y,h1,h2,h3,by omega,by omega,by rw [a7A t x h4];exact h6,by rw [a7A t y h5];exact h7⟩
 have b1A:∀ t p,Valid g' t p->g'.ld t ≠ -1:=λt p hv e=>by
  have h1:=hm.none t e;have h2:=hv.1;have h3:=hv.2.1;rw [h1] at h3;simp at h3;omega
 have fresh:∀ t p,Valid g' t p->(g.LL t).length<p->g.ld t ≠ -1/\t=(C.nd i).rep.term/\t=r.term:=λt p hv hp=>by
  have hl:g.ld t ≠ -1:=λe=>(f.new t e (b1A t p hv)).2 p hv;exact ⟨hl,f.old t p hl hv hp⟩
 refine ⟨hm,f.N1,λt j=>?_,λt j hj hp=>?_,λj hj cP=>?_,λt j p hj h1 hp=>?_,λt u p hv htu hu=>?_,λm hmem hk=>?_,λc hc cP=>?_,λc hc cP x hx hV t p ht hv hp=>?_,λt x c hx hc hV=>?_,λj hj cP k hk hkj=>?_,λm hmem hk hy=>?_,λm hmem hk=>?_,λj hj=>?_⟩
 .by_cases hc:t=r.term/\j=i
  .obtain ⟨rfl,rfl⟩:=hc;rw [xB];exact f.a1
  .rw [rQ _ _ hc];obtain ⟨s,e⟩:=he t;have:=h.a1 t j;rw [e,List.length_append];omega
 .by_cases hc:t=r.term/\j=i
  .obtain ⟨rfl,rfl⟩:=hc;rw [hr];exact Int.le_refl _
  .rw [rQ _ _ hc] at hp;exact Int.le_trans (h.a2 t j hj hp) (RD j)
 .by_cases hji:j=i
  .subst hji;rw [hr] at cP ⊢;rw [xB];exact f.a3 cP
  .rw [hne j hji] at cP ⊢;rw [rQ _ _ (λhc=>hji hc.2)];exact h.a3 j hj cP
 .by_cases hji:j=i
  .subst hji;rw [hr];exact f.ia t p h1 hp
  .rw [rQ _ _ (λhc=>hji hc.2)] at hp;rw [hne j hji];have hpl:=Nat.le_trans hp (h.a1 t j);rcases h.ia t j p hj h1 hp with h2|⟨u,h2,h3,h4,h5⟩
   .exact .inl ((gY.ext he hpl).2 h2)
   .exact .inr ⟨u,h2,h3,by rw [xC u h4];exact h4,λhh=>h5 (TL he f.grow (h.N1 t) h2 hpl h4 hh)⟩
 .by_cases hp:p<=(g.LL t).length
  .have hv0:=hv.back he hp;by_cases e:g.ld u = -1
   .rcases (f.new u e hu).1 t p hv0 htu with h1|h1
    .exact .inl ((gY.ext he hp).2 h1)
    .exact .inr (can t p h1)
   .rcases h.ib t u p hv0 htu e with h1|h1
    .obtain ⟨s,es,_⟩:=f.grow u e;refine .inl ((gY.ext he hp).2 ?_);rw [es];exact h1.more
    .exact .inr (can t p h1)
  .obtain ⟨_,e1,e2⟩:=fresh t p hv (by omega);have e:g.ld u ≠ -1:=λe=>by
    rcases f.m.ld u with e3|⟨_,_,e3,_⟩
    .exact hu (by rw [e3];exact e)
    .omega
   obtain ⟨x,y,hx,hy,hxy,hvx,hvy⟩:=h.m.quo u e;have tx:=yH h.m hx (by rw [hvx];exact e);have ty:=yH h.m hy (by rw [hvy];exact e);have ux:=RD x;have uy:=RD y;have ax:=h.a1 t x;have ay:=h.a1 t y;exact .inr ⟨x,y,hx,hy,hxy,by omega,by omega,by rw [a7A t x (by omega)];omega,by rw [a7A t y (by omega)];omega⟩
 .rcases hs m hmem with h1|h1
  .obtain ⟨c,hc,a1,a2,a3⟩:=h.iq m h1 hk;refine ⟨c,hc,a1,Int.le_trans a2 (RD c),?_⟩;by_cases hci:c=i
   .subst hci;rw [hr];intro hro ht;rcases f.iq2 hro with h2|⟨h2,h3,h4⟩
    .omega
    .rw [h4];exact a3 h2 (by omega)
   .rw [hne c hci];exact a3
  .obtain ⟨a1,a2,a3⟩:=f.iq m h1 hk;exact ⟨i,hi,a1,by rw [hr];exact a2,by rw [hr];exact a3⟩
 .by_cases hci:c=i
  .subst hci;rw [hr] at cP ⊢;exact f.il cP
  .rw [hne c hci] at cP ⊢;exact h.il c hc cP
 .by_cases hci:c=i
  .subst hci;rw [hr] at cP hV ht ⊢;have hpl:p<=(g.LL t).length:=Decidable.byContradiction λhn=>by
    obtain ⟨_,_,e2⟩:=fresh t p hv (by omega);omega
   have hv0:=hv.back he hpl;rw [rQ _ _ (λhc=>by omega)] at hp;rcases f.iv cP x hx hV t p ht hv0 hp with h1|h1
   .exact .inl ((gY.ext he hpl).2 h1)
   .exact .inr (can t p h1)
  .rw [hne c hci] at cP hV ht ⊢;have hcx:g.V (C.nd c).rep.term x=c->(C.nd c).rep.term<=(C.nd x).rep.term:=λe=>yH h.m hx (by rw [e];omega);by_cases hpl:p<=(g.LL t).length
   .have hv0:=hv.back he hpl;have fin:gY g t p (C.nd c).rep.log\/oV C A t p->gY g' t p (C.nd c).rep.log\/oV C' (CR A i r.term n) t p:=λq=>by
     rcases q with h1|h1
     .exact .inl ((gY.ext he hpl).2 h1)
     .exact .inr (can t p h1)
    by_cases hold:g.V (C.nd c).rep.term x=c
    .have:=hcx hold;rw [a7A t x (by omega)] at hp;exact fin (h.iv c hc cP x hx hold t p ht hv0 hp)
    .rw [f.m.V] at hV;by_cases hch:(C.nd c).rep.term=r.term/\x=i
     .obtain ⟨e1,rfl⟩:=hch;rw [e1,iW] at hV;rw [rQ _ _ (λhc=>by omega)] at hp;exact fin (f.aK c hc hci cP e1 hV (by rw [<-e1];exact hold) t p (by omega) hv0 hp)
     .rw [kQ _ _ hch] at hV;exact absurd hV hold
   .exfalso;obtain ⟨_,e1,e2⟩:=fresh t p hv (by omega);have ax:=h.a1 t x;by_cases hxi:x=i
    .subst hxi;rw [f.m.V,kQ _ _ (λhc=>by omega)] at hV;have:=hcx hV;omega
    .rw [rQ _ _ (λhc=>hxi hc.2)] at hp;omega
 .rw [f.m.V] at hV;by_cases hch:t=r.term/\x=i
  .obtain ⟨rfl,rfl⟩:=hch;rw [iW] at hV;by_cases hci:c=x
   .subst hci;rw [hr];exact Int.le_refl _
   .rcases f.vt c hc hci hV with e|e
    .exact Int.le_trans (h.vt _ _ c hx hc e) (RD c)
    .exact Int.le_trans e (RD c)
  .rw [kQ _ _ hch] at hV;exact Int.le_trans (h.vt t x c hx hc hV) (RD c)
 .by_cases hji:j=i
  .subst hji;rw [hr] at cP ⊢;exact Nat.le_trans (f.im cP k hk hkj) (ha _ _)
  .rw [hne j hji] at cP ⊢;exact Nat.le_trans (h.im j hj cP k hk hkj) (ha _ _)
 .rcases hs m hmem with h1|h1
  .obtain ⟨k,J0,a1,a2⟩:=h.ik m h1 hk hy;exact ⟨k,J0,a1,Nat.le_trans a2 (ha _ _)⟩
  .obtain ⟨a1,a2,a3⟩:=f.ik m h1 hk hy;exact ⟨i,hi,a1,by rw [a2,xB];exact a3⟩
 .rcases hs m hmem with h1|h1
  .obtain ⟨s,e⟩:=he m.term;rw [e];exact (h.ic m h1 hk).ext he ha (Int.le_refl _)
  .exact f.ic m h1 hk
 .by_cases hji:j=i
  .subst hji;rw [hr];exact f.co
  .rw [hne j hji];exact (h.co j hj).aAr he ha (Int.le_refl _)
theorem EC(A i t):CR A i t (A t i)=A:=by
 funext u j
 unfold CR;split
 .rename_i hc;obtain ⟨rfl,rfl⟩:=hc;rfl
 .rfl
theorem JY{g g'}(h:g'.LL=g.LL):Grow g g':=λu _=>⟨[],by rw [h,List.append_nil],λx hx=>by cases hx⟩
theorem uH{g g'}(h:g'.LL=g.LL){t p l}:gY g' t p l ↔ gY g t p l:=by unfold gY;rw [h]
theorem a4B{g g'}(h:g'.LL=g.LL){A s l n}(hs:jP g A s l n):jP g' A s l n :=
 hs.aAr (λt=>⟨[],by rw [h,List.append_nil]⟩) (λ_ _=>Nat.le_refl _) (Int.le_refl _)
theorem ED{C g g' A}(h:eL C g A){i}(hi:i<3){r send}(fm:z8 C g i r send g')(oI:g'.LL=g.LL)(xC:g'.ld=g.ld)(nQ:r.log=(C.nd i).rep.log)(h1:r.role=1->(C.nd i).rep.role=1/\r.term=(C.nd i).rep.term)(h2:r.role=2->(C.nd i).rep.role=2/\r.term=(C.nd i).rep.term)(a7r:r.role=1->∀ x,x<3->g'.V r.term x=i->g.V r.term x=i)(aWt:∀ c,c<3->c≠i->(C.nd c).rep.role=1->(C.nd c).rep.term=r.term->r.aK=c->g.V r.term i≠c->∀ t p,t<r.term->Valid g t p->p<=A t i->gY g t p (C.nd c).rep.log\/oV C A t p)(hvt:∀ c,c<3->c≠i->r.aK=((c:Nat):Int)->g.V r.term i=c\/r.term<=(C.nd c).rep.term)(him:r.role=2->∀ f,f<3->f≠i->r.cE f<=A r.term f)(hk0:∀ m∈send,m.kind≠0)(hik:∀ m∈send,m.kind=3->m.yes=true->m.src=i/\m.term=r.term/\m.index.toNat<=A r.term i)(hic:∀ m∈send,m.kind=2->jP g A m.term (g.LL m.term) m.aD.toNat)(WE:jP g A r.term r.log r.aD):v7 C g A i r send g' (A r.term i):=by
 refine ⟨fm,JY oI,by rw [oI];exact h.N1,Nat.le_refl _,by rw [oI];exact h.a1 _ _,λhr=>?_,λt p hp1 hp=>?_,λu hu eI=>absurd hu (by rw [<-xC];exact eI),λt p _ hv hlt=>?_,λm hm hk=>absurd hk (hk0 m hm),λhr=>?_,λhr=>?_,λhr x hx hv t p ht hval hp=>?_,aWt,hvt,him,hik,λm hm hk=>?_,?_⟩
 .obtain ⟨a,b⟩:=h2 hr;rw [b,nQ];exact h.a3 i hi a
 .rw [EC] at hp;rw [nQ];rcases h.ia t i p hi hp1 hp with q|⟨u,q1,q2,q3,q4⟩
  .exact .inl ((uH oI).2 q)
  .exact .inr ⟨u,q1,Int.le_trans q2 fm.up,by rw [xC];exact q3,λhh=>q4 (by rw [oI] at hh;exact (uH oI).1 hh)⟩
 .have:=hv.2.1;rw [oI] at this;omega
 .obtain ⟨a,b⟩:=h1 hr;exact .inr ⟨a,b,nQ⟩
 .obtain ⟨a,b⟩:=h1 hr;rw [nQ,b];exact h.il i hi a
 .obtain ⟨a,b⟩:=h1 hr;have:=a7r hr x hx hv;rw [b] at this ht;rw [nQ];exact h.iv i hi a x hx this t p ht hval hp
 .rw [EC,oI];exact a4B oI (hic m hm hk)
 .rw [EC];exact a4B oI WE
theorem aAs{C g}(h:CQ C g){i}(hi:i<3):z8 C g i (dP i (C.nd i).AB (C.nd i).LO (C.nd i).QW) [] g:=by
 obtain ⟨h1,h2,h3⟩:=h.wf.NO i hi;refine ⟨?_,by show _<=(C.nd i).AB;omega,λ_ _=>h2,λm hm=>(by cases hm),λt=>.inl rfl,Ext.refl _,λt=>.inl rfl,λhr=>(by cases (show (0:Int)=1 from hr)),λhr=>(by cases (show (0:Int)=2 from hr)),?_,λm hm=>(by cases hm)⟩
 .funext t j
  by_cases hc:t=(C.nd i).AB/\j=i
  .obtain ⟨rfl,rfl⟩:=hc;have:=h.now j hi;rw [<-h1,<-h2] at this;rw [this];exact (iW _ _ _ _).symm
  .exact (kQ _ _ hc).symm
 .show qR g.LL (C.nd i).QW;rw [h3];exact h.log i hi
theorem eL.start{C g A}(h:eL C g A){i}(hi:i<3):eL (mJ C i) g A:=by
 obtain ⟨h1,h2,h3⟩:=h.m.wf.NO i hi;have e:((mJ C i).nd i).rep=dP i (C.nd i).AB (C.nd i).LO (C.nd i).QW:=by
  unfold mJ;simp only [aS];rfl
 have f:v7 C g A i (dP i (C.nd i).AB (C.nd i).LO (C.nd i).QW) [] g (A (dP i (C.nd i).AB (C.nd i).LO (C.nd i).QW).term i) :=
  ED h hi (aAs h.m hi) rfl rfl h3 (λhr=>(by cases (show (0:Int)=1 from hr))) (λhr=>(by cases (show (0:Int)=2 from hr))) (λhr=>(by cases (show (0:Int)=1 from hr)))
   (λc hc hci hro ht hv hV=>absurd (by
    have:=h.m.now i hi;show g.V (C.nd i).AB i=c;rw [h1,this,<-h2];exact hv) hV)
   (λc hc hci hv=>.inl (by
    have:=h.m.now i hi;show g.V (C.nd i).AB i=c;rw [h1,this,<-h2];exact hv)) (λhr=>(by cases (show (0:Int)=2 from hr))) (λm hm=>(by cases hm)) (λm hm=>(by cases hm)) (λm hm=>(by cases hm)) (.inl rfl)
 have:=h.node hi f (ZY h.m.wf hi) e (λj hj=>bG _ _ hj) λm hm=>.inl hm
 rwa [EC] at this
theorem eL.call{C g g' A}(h:eL C g A){i n}(hi:i<3){x}(hx:x.1.Wf)(hf:Fits (C.nd i).rep x.1 x.2)(f:v7 C g A i x.1 x.2.send g' n):(eL (LP C i x) g A/\g=g)\/eL (LP C i x) g' (CR A i x.1.term n):=by
 have hid:=(h.m.wf.rep i hi).2;have hw:=aLN h.m.wf hi hx hf;have hh:(CO C i x.1).Wf:=WC h.m.wf hi hx (by rw [hf.id];exact hid);rw [E8 h.m.wf hi hf] at hw ⊢;split
 .exact .inl ⟨h.start hi,rfl⟩
 rename_i hs1;rw [if_neg hs1] at hw;split
 .have h1:=h.node hi f hh (by unfold CO;simp only [aS];rfl) (λj hj=>bG _ _ hj) λm hm=>.inl hm;exact .inr (h1.start hi)
 .rename_i hs2;rw [if_neg hs2] at hw;refine .inr (h.node hi f hw (by unfold CO;simp only [aS];rfl) (λj hj=>bG _ _ hj) λm hm=>?_);rcases List.mem_append.1 hm with hm|hm
  .exact .inl hm
  .exact .inr (List.mem_of_mem_take hm)
theorem eL.drop{C g A}(h:eL C g A){n}(hn:n<C.sent.length):eL (IV C n) g A:=by
 have hs:∀ m∈(IV C n).sent,m∈C.sent:=λm hm=>by
  rcases List.mem_append.1 hm with hm|hm
  .exact List.mem_of_mem_take hm
  .exact List.mem_of_mem_drop hm
 exact ⟨h.m.drop hn,h.N1,h.a1,h.a2,h.a3,h.ia,h.ib,λm hm=>h.iq m (hs m hm),h.il,h.iv,h.vt,h.im,λm hm=>h.ik m (hs m hm),λm hm=>h.ic m (hs m hm),h.co⟩
theorem aD7{C g}(h:CQ C g){i}(hi:i<3):IZ g.V i (C.nd i).rep.term (C.nd i).rep.aK=g.V:=by
 funext t j
 by_cases hc:t=(C.nd i).rep.term/\j=i
 .obtain ⟨rfl,rfl⟩:=hc;rw [iW];exact (h.now j hi).symm
 .exact kQ _ _ hc
theorem aAt{g A r}(hs:jP g A r.term (g.LL r.term) r.aD):∀ m∈bL r,jP g A m.term (g.LL m.term) m.aD.toNat:=λm hm=>by
 unfold bL at hm;obtain ⟨f,_,rfl⟩:=List.mem_map.1 hm;exact hs
theorem WG{C g g' A}(h:eL C g A){i}(hi:i<3){send}(fm:z8 C g i (C.nd i).rep send g')(oI:g'.LL=g.LL)(xC:g'.ld=g.ld)(hk0:∀ m∈send,m.kind≠0)(hik:∀ m∈send,m.kind=3->m.yes=true->m.src=i/\m.term=(C.nd i).rep.term/\m.index.toNat<=A (C.nd i).rep.term i)(hic:∀ m∈send,m.kind=2->jP g A m.term (g.LL m.term) m.aD.toNat):
  v7 C g A i (C.nd i).rep send g' (A (C.nd i).rep.term i) :=
 ED h hi fm oI xC rfl (λhr=>⟨hr,rfl⟩) (λhr=>⟨hr,rfl⟩) (λ_ x _ hv=>by rw [fm.V,aD7 h.m hi] at hv;exact hv) (λc _ _ _ _ hv hV=>absurd ((h.m.now i hi).trans hv) hV) (λc _ _ hv=>.inl ((h.m.now i hi).trans hv)) (h.im i hi) hk0 hik hic (h.co i hi)
theorem aIp{C g A}(h:eL C g A){i}(hi:i<3):∃ g' n,v7 C g A i (cV (C.nd i).rep).1 (cV (C.nd i).rep).2.send g' n:=by
 obtain ⟨hw,hid⟩:=h.m.wf.rep i hi;obtain ⟨g',fm,oI,xC⟩:=aQk h.m hi;by_cases h2:(C.nd i).rep.role=2
 .have e:cV (C.nd i).rep=((C.nd i).rep,mI (bL (C.nd i).rep)):=if_pos h2;rw [e] at fm ⊢;refine ⟨g',_,WG h hi fm oI xC (λm hm=>by rw [pN _ m hm];decide) (λm hm hk=>by rw [pN _ m hm] at hk;cases hk) λm hm _=>aAt ?_ m hm⟩;rw [(h.m.lead i hi h2).2];exact h.co i hi
 by_cases h3:(C.nd i).rep.term=1099511627776
 .have e:cV (C.nd i).rep=((C.nd i).rep,jS):=by unfold cV;rw [if_neg h2,if_pos h3]
  rw [e] at fm ⊢;exact ⟨g',_,WG h hi fm oI xC (λm hm=>by cases hm) (λm hm=>by cases hm) (λm hm=>by cases hm)⟩
 .obtain ⟨r',hr'⟩:∃ r':dH,({ (C.nd i).rep with term:=(C.nd i).rep.term+1,aK:=(C.nd i).rep.id,role:=1,bX:=λk=>decide (k=(C.nd i).rep.id) }:dH)=r':=⟨_,rfl⟩;have e1:(cV (C.nd i).rep).1=r':=by unfold cV;rw [if_neg h2,if_neg h3,<-hr']
  have e2:(cV (C.nd i).rep).2.send=(aL (C.nd i).rep.id).map λk=>iP r' k:=by unfold cV;rw [if_neg h2,if_neg h3,<-hr']
  rw [e1,e2] at fm ⊢;have t1:r'.term=(C.nd i).rep.term+1:=by rw [<-hr']
  have l1:r'.log=(C.nd i).rep.log:=by rw [<-hr']
  have v1:r'.aK=i:=by rw [<-hr',hid]
  have i1:r'.id=i:=by rw [<-hr',hid]
  have c1:r'.aD=(C.nd i).rep.aD:=by rw [<-hr']
  have o1:r'.role=1:=by rw [<-hr']
  have WY:∀ m∈(aL (C.nd i).rep.id).map (λk=>iP r' k),∃ k,m=iP r' k:=λm hm=>by
   obtain ⟨k,_,rfl⟩:=List.mem_map.1 hm;exact ⟨k,rfl⟩
  have mine:∀ t p,Valid g t p->p<=A t i->gY g t p (C.nd i).rep.log\/oV C A t p:=λt p hv hp=>by
   rcases h.ia t i p hi hv.1 hp with q|⟨u,q1,_,q3,q4⟩
   .exact .inl q
   .rcases h.ib t u p hv q1 q3 with q|q
    .exact absurd q q4
    .exact .inr q
  refine ⟨g',A r'.term i,fm,JY oI,by rw [oI];exact h.N1,Nat.le_refl _,by rw [oI];exact h.a1 _ _,λhr=>by omega,λt p hp1 hp=>?_,λu hu eI=>absurd hu (by rw [<-xC];exact eI),λt p _ hv hlt=>?_,λm hm hk=>?_,λ_=>.inl (by omega),λ_ x hx=>?_,λ_ x hx hV t p ht hv hp=>?_,λc _ hci _ _ hv=>absurd (by rw [v1] at hv;omega) hci,λc _ hci hv=>absurd (by rw [v1] at hv;omega) hci,λhr=>by omega,λm hm hk=>?_,λm hm hk=>?_,?_⟩
  .rw [EC] at hp;rw [l1];rcases h.ia t i p hi hp1 hp with q|⟨u,q1,q2,q3,q4⟩
   .exact .inl ((uH oI).2 q)
   .exact .inr ⟨u,q1,by omega,by rw [xC];exact q3,λhh=>q4 (by rw [oI] at hh;exact (uH oI).1 hh)⟩
  .have:=hv.2.1;rw [oI] at this;omega
  .obtain ⟨k,rfl⟩:=WY m hm;exact ⟨by show (r'.id:Int)=i;rw [i1],Int.le_refl _,λ_ _=>⟨rfl,rfl⟩⟩
  .rw [l1] at hx;have:=hw.ok.log.hi x hx;omega
  .rw [l1];by_cases hxi:x=i
   .subst hxi;exact mine t p hv hp
   .rw [fm.V,kQ _ _ (λhc=>hxi hc.2)] at hV;have:=h.vt _ x i hx hi hV;omega
  .obtain ⟨k,rfl⟩:=WY m hm;cases hk
  .obtain ⟨k,rfl⟩:=WY m hm;cases hk
  .rw [EC,l1,c1];exact a4B oI ((h.co i hi).aAr (Ext.refl _) (λ_ _=>Nat.le_refl _) (by omega))
theorem aIq{C g A}(h:eL C g A){i}(hi:i<3)(data):∃ g' n,v7 C g A i (aF (C.nd i).rep data).1 (aF (C.nd i).rep data).2.2.2.send g' n:=by
 obtain ⟨hw,hid⟩:=h.m.wf.rep i hi;have hw':=(qA hw data).1;obtain ⟨g',fm,xC,hLo,hL0⟩:=aQl h.m hi data;have same:aF (C.nd i).rep data=((C.nd i).rep,(aF (C.nd i).rep data).2.1,(aF (C.nd i).rep data).2.2.1,jS)->∃ g' n,v7 C g A i (aF (C.nd i).rep data).1 (aF (C.nd i).rep data).2.2.2.send g' n:=λe=>by
  rw [e] at fm hL0 ⊢;exact ⟨g',_,WG h hi fm (hL0 rfl) xC (λm hm=>by cases hm) (λm hm=>by cases hm) (λm hm=>by cases hm)⟩
 by_cases h2:(C.nd i).rep.role=2
 .by_cases h3:2000<(data.size:Int)
  .exact same (by unfold aF;rw [if_neg (by simpa using h2),if_pos h3])
  by_cases h4:(C.nd i).rep.log.length=4000
  .exact same (by unfold aF;rw [if_neg (by simpa using h2),if_neg h3,if_pos h4])
  obtain ⟨x,hx⟩:∃ x:bH,x=⟨(C.nd i).rep.term,data⟩:=⟨_,rfl⟩;obtain ⟨r',hr'⟩:∃ r':dH,({ (C.nd i).rep with log:=(C.nd i).rep.log++[x] }:dH)=r':=⟨_,rfl⟩;have e1:(aF (C.nd i).rep data).1=r':=by unfold aF;rw [if_neg (by simpa using h2),if_neg h3,if_neg h4,<-hr',hx]
  have e2:(aF (C.nd i).rep data).2.2.2.send=bL r':=by unfold aF;rw [if_neg (by simpa using h2),if_neg h3,if_neg h4,<-hr',hx]
  rw [e1,e2] at fm ⊢;rw [e1] at hw';have t1:r'.term=(C.nd i).rep.term:=by rw [<-hr']
  have l1:r'.log=(C.nd i).rep.log++[x]:=by rw [<-hr']
  have v1:r'.aK=(C.nd i).rep.aK:=by rw [<-hr']
  have c1:r'.aD=(C.nd i).rep.aD:=by rw [<-hr']
  have o1:r'.role=2:=by rw [<-hr'];exact h2
  have m1:r'.cE=(C.nd i).rep.cE:=by rw [<-hr']
  obtain ⟨hl1,hl2⟩:=h.m.lead i hi h2;have B8:g'.LL (C.nd i).rep.term=(C.nd i).rep.log++[x]:=by have:=(fm.lead o1).2;rw [t1,l1] at this;exact this
  have ha3:=h.a3 i hi h2;have he:=fm.ext;have hgrow:Grow g g':=λu _=>by
   by_cases hu:u=(C.nd i).rep.term
   .subst hu;exact ⟨[x],by rw [B8,hl2],λy hy=>by rw [List.mem_singleton.1 hy,hx]⟩
   .exact ⟨[],by rw [hLo u hu,List.append_nil],λy hy=>by cases hy⟩
  have hle:A r'.term i<=(C.nd i).rep.log.length+1:=by rw [t1,ha3];omega
  have WE:jP g' (CR A i r'.term ((C.nd i).rep.log.length+1)) r'.term r'.log r'.aD:=by
   rw [l1,c1];exact (h.co i hi).ext he (RC hle) (by omega)
  refine ⟨g',(C.nd i).rep.log.length+1,fm,hgrow,λt=>?_,hle,by rw [t1,B8];simp,λ_=>by rw [l1];simp,λt p hp1 hp=>?_,λu hu eI=>absurd hu (by rw [<-xC];exact eI),λt p _ hv hlt=>?_,λm hm hk=>(by rw [pN _ m hm] at hk;cases hk),λhr=>by omega,λhr=>by omega,λhr=>by omega,λc _ _ _ _ hv hV=>absurd (by rw [t1,h.m.now i hi,<-v1];exact hv) hV,λc _ _ hv=>.inl (by rw [t1,h.m.now i hi,<-v1];exact hv),λ_ f hf hfi=>by rw [m1,t1];exact h.im i hi h2 f hf hfi,λm hm hk=>(by rw [pN _ m hm] at hk;cases hk),λm hm _=>aAt ?_ m hm,WE⟩
  .by_cases ht:t=(C.nd i).rep.term
   .rw [ht,B8,<-l1,<-t1];exact hw'.ok.log
   .rw [hLo t ht];exact h.N1 t
  .by_cases ht:t=(C.nd i).rep.term
   .subst ht;rw [<-t1,xB] at hp;refine .inl ⟨by rw [l1];simp;omega,by rw [l1,B8]⟩
   .rw [rQ _ _ (λhc=>ht (by rw [<-t1];exact hc.1))] at hp;have hpl:=Nat.le_trans hp (h.a1 t i);rcases h.ia t i p hi hp1 hp with q|⟨u,q1,q2,q3,q4⟩
    .rw [l1];exact .inl ((gY.ext he hpl).2 q.more)
    .exact .inr ⟨u,q1,by omega,by rw [xC];exact q3,λhh=>q4 (TL he hgrow (h.N1 t) q1 hpl q3 hh)⟩
  .by_cases ht:t=(C.nd i).rep.term
   .exact ⟨ht,by rw [t1];exact ht⟩
   .have:=hv.2.1;rw [hLo t ht] at this;omega
  .rw [(fm.lead o1).2];exact WE
 .exact same (by unfold aF;rw [if_pos h2])
theorem aQo{C g g' A}(h:eL C g A){i}(hi:i<3){r send}(fm:z8 C g i r send g')(h1:(C.nd i).rep.role=1)(o1:r.role=2)(t1:r.term=(C.nd i).rep.term)(l1:r.log=(C.nd i).rep.log)(c1:r.aD=(C.nd i).rep.aD)(v1:r.aK=(C.nd i).rep.aK)(m1:∀ f,r.cE f=0)(hfree:g.ld r.term = -1)(hsame:∀ t,t≠r.term->g'.LL t=g.LL t/\g'.ld t=g.ld t)(hsend:send=bL r)(hq:∃ a b,a<3/\b<3/\a≠b/\g.V r.term a=i/\g.V r.term b=i):
  v7 C g A i r send g' r.log.length:=by
 obtain ⟨hw,hid⟩:=h.m.wf.rep i hi;have he:=fm.ext;have hL0:g.LL r.term=[]:=h.m.none _ hfree;have hA0:A r.term i=0:=by have:=h.a1 r.term i;rw [hL0] at this;simpa using this
 obtain ⟨hl1,hl2⟩:=fm.lead o1;have hgrow:Grow g g':=λu hu=>⟨[],by rw [(hsame u (λe=>hu (by rw [e];exact hfree))).1,List.append_nil],λx hx=>by cases hx⟩;have hle:A r.term i<=r.log.length:=by omega
 have WE:jP g' (CR A i r.term r.log.length) r.term r.log r.aD:=by
  rw [l1,c1];exact (h.co i hi).aAr he (RC (by rw [<-l1];exact hle)) (by omega)
 have hil:=h.il i hi h1;have hk:∀ m∈send,m.kind=2:=by rw [hsend];exact pN r
 refine ⟨fm,hgrow,λt=>?_,hle,by rw [hl2];exact Nat.le_refl _,λ_=>rfl,λt p hp1 hp=>?_,λu hu eI=>?_,λt p hl hv hlt=>?_,λm hm hk0=>(by rw [hk m hm] at hk0;cases hk0),λhr=>by omega,λhr=>by omega,λhr=>by omega,
  λc _ _ _ _ hv hV=>absurd (by rw [t1,h.m.now i hi,<-v1];exact hv) hV,λc _ _ hv=>.inl (by rw [t1,h.m.now i hi,<-v1];exact hv),λ_ f _ _=>by rw [m1];exact Nat.zero_le _,λm hm hk0=>(by rw [hk m hm] at hk0;cases hk0),λm hm _=>?_,WE⟩
 .by_cases ht:t=r.term
  .rw [ht,hl2,l1,t1];exact hw.ok.log
  .rw [(hsame t ht).1];exact h.N1 t
 .by_cases ht:t=r.term
  .subst ht;rw [xB] at hp;exact .inl ⟨hp,by rw [hl2]⟩
  .rw [rQ _ _ (λhc=>ht hc.1)] at hp;have hpl:=Nat.le_trans hp (h.a1 t i);rcases h.ia t i p hi hp1 hp with q|⟨u,q1,q2,q3,q4⟩
   .rw [l1];exact .inl ((gY.ext he hpl).2 q)
   .have hu:u≠r.term:=λe=>q3 (by rw [e];exact hfree);exact .inr ⟨u,q1,by omega,by rw [(hsame u hu).2];exact q3,λhh=>q4 (TL he hgrow (h.N1 t) q1 hpl q3 hh)⟩
 .have hu1:u=r.term:=Decidable.byContradiction λe=>eI (by rw [(hsame u e).2];exact hu);subst hu1;refine ⟨λt p hv ht=>?_,λp hv=>?_⟩
  .obtain ⟨a,b,ha,hb,hab,hva,hvb⟩:=hq;rw [hl2,l1];have ta:=yH h.m ha (by rw [hva];omega);have tb:=yH h.m hb (by rw [hvb];omega);by_cases h3:p<=A t a
   .exact h.iv i hi h1 a ha (by rw [<-t1];exact hva) t p (by omega) hv h3
   by_cases h4:p<=A t b
   .exact h.iv i hi h1 b hb (by rw [<-t1];exact hvb) t p (by omega) hv h4
   exact .inr ⟨a,b,ha,hb,hab,by omega,by omega,by omega,by omega⟩
  .obtain ⟨h3,h4,h5⟩:=hv;rw [hl2,l1] at h4 h5;obtain ⟨q,rfl⟩:∃ q,p=q+1:=⟨p - 1,by omega⟩;obtain ⟨x,hx⟩:∃ x,(C.nd i).rep.log[q]? = some x:=⟨_,List.getElem?_eq_getElem h4⟩;rw [o9 hx] at h5;have:=hil x (List.mem_of_getElem? hx);omega
 .have ht:t≠r.term:=λe=>hl (by rw [e];exact hfree);have:=hv.2.1;rw [(hsame t ht).1] at this;omega
 .rw [hsend] at hm;exact aAt (by rw [hl2];exact WE) m hm
theorem a2S{LL l}(h:qR LL l)(h0:0<l.length):l=(LL (aU l l.length)).take l.length/\l.length<=(LL (aU l l.length)).length/\∃ z,l[l.length - 1]? = some z/\z.term=aU l l.length:=by
 obtain ⟨n,hn⟩:∃ n,l.length=n+1:=⟨l.length - 1,by omega⟩;obtain ⟨z,hz⟩:∃ z,l[n]? = some z:=⟨_,List.getElem?_eq_getElem (by omega)⟩;have e:=h n z hz;have hl:=take_len (by omega) e;rw [hn,o9 hz];refine ⟨?_,by omega,z,by rw [Nat.add_sub_cancel];exact hz,rfl⟩;rw [<-e,<-hn,List.take_length]
theorem aAu{C g A}(h:eL C g A){x c}(hx:x<3)(hc:c<3)(hfr:aU (C.nd x).rep.log (C.nd x).rep.log.length<aU (C.nd c).rep.log (C.nd c).rep.log.length\/(aU (C.nd c).rep.log (C.nd c).rep.log.length=aU (C.nd x).rep.log (C.nd x).rep.log.length/\(C.nd x).rep.log.length<=(C.nd c).rep.log.length)){t p}(hv:Valid g t p)(hp:gY g t p (C.nd x).rep.log):gY g t p (C.nd c).rep.log\/oV C A t p:=by
 have px:=h.m.log x hx;have pc:=h.m.log c hc;have sx:=(h.m.wf.rep x hx).1.ok.log;generalize (C.nd x).rep.log=a at px sx hp hfr;generalize hb:(C.nd c).rep.log=b at pc hfr ⊢;obtain ⟨v1,v2,v3⟩:=hv;obtain ⟨p1,p2⟩:=hp;obtain ⟨ea,la,z,hz,hzt⟩:=a2S px (by omega);have hb0:0<b.length:=by
  rcases hfr with q|q
  .rcases Nat.eq_zero_or_pos b.length with e|e
   .rw [e] at q;have h1:=sx.lo z (List.mem_of_getElem? hz);have:aU b 0=0:=rfl;omega
   .exact e
  .omega
 obtain ⟨eb,lb,y,hy,hyt⟩:=a2S pc hb0;rcases hfr with q|⟨q1,q2⟩
 ·-- the asker's last term is greater
  obtain ⟨k,rfl⟩:∃ k,p=k+1:=⟨p - 1,by omega⟩;obtain ⟨e,he⟩:∃ e,(g.LL t)[k]? = some e:=⟨_,List.getElem?_eq_getElem v2⟩;rw [o9 he] at v3;have hea:a[k]? = some e:=by
   have:=congrArg (λl=>l[k]?) p2;simp only [List.getElem?_take_of_lt (show k<k+1 by omega)] at this;rw [this,he]
  have hts:t<=aU a a.length:=by
   have h1:=sx.N1 k (a.length - 1) (by omega) (by omega) (by omega);have e1:a[k]=e:=by have:=hea;rw [List.getElem?_eq_getElem (by omega)] at this;simpa using this
   have e2:a[a.length - 1]=z:=by have:=hz;rw [List.getElem?_eq_getElem (by omega)] at this;simpa using this
   rw [e1,e2,v3,hzt] at h1;exact h1
  have b1C:g.ld (aU b b.length) ≠ -1:=λe=>by
   rw [h.m.none _ e] at lb;simp at lb;rw [lb] at hb0;simp at hb0
  rcases h.ib t (aU b b.length) (k+1) ⟨v1,v2,by rw [o9 he];exact v3⟩ (by omega) b1C with ⟨r1,r2⟩|r
  .left
   have hkb:k+1<=b.length:=Decidable.byContradiction λhn=>by
    have h1:(g.LL (aU b b.length))[b.length - 1]? = some y:=by
     have:=hy;rw [eb,List.getElem?_take_of_lt (by rw [List.length_take];omega)] at this;rw [List.length_take,Nat.min_eq_left lb] at this;exact this
    have h2:(g.LL t)[b.length - 1]? = some y:=by
     have:=congrArg (λl=>l[b.length - 1]?) r2;simp only [List.getElem?_take_of_lt (show b.length - 1<k+1 by omega)] at this;rw [<-this,h1]
    have:=(h.N1 t).hi y (List.mem_of_getElem? h2);omega
   refine ⟨hkb,?_⟩;rw [eb,List.take_take,Nat.min_eq_left hkb];exact r2
  .exact .inr r
 .left
  refine ⟨by omega,?_⟩;rw [<-p2,eb,ea,q1,List.take_take,List.take_take]
  congr 1
  omega
theorem mine{C g A}(h:eL C g A){i}(hi:i<3){t p}(hv:Valid g t p)(hp:p<=A t i):gY g t p (C.nd i).rep.log\/oV C A t p:=by
 rcases h.ia t i p hi hv.1 hp with q|⟨u,q1,_,q3,q4⟩
 .exact .inl q
 .rcases h.ib t u p hv q1 q3 with q|q
  .exact absurd q q4
  .exact .inr q
theorem oB{C g g' A}(h:eL C g A){i}(hi:i<3){r send}(fm:z8 C g i r send g')(oI:g'.LL=g.LL)(xC:g'.ld=g.ld)(nQ:r.log=(C.nd i).rep.log)(h1:r.role=1->(C.nd i).rep.role=1/\r.term=(C.nd i).rep.term)(h2:r.role=2->(C.nd i).rep.role=2/\r.term=(C.nd i).rep.term)(hv:(r.term=(C.nd i).rep.term/\r.aK=(C.nd i).rep.aK)\/r.aK = -1)(him:r.role=2->∀ f,f<3->f≠i->r.cE f<=A r.term f)(hk0:∀ m∈send,m.kind≠0)(hik:∀ m∈send,m.kind=3->m.yes=true->m.src=i/\m.term=r.term/\m.index.toNat<=A r.term i)(hic:∀ m∈send,m.kind=2->jP g A m.term (g.LL m.term) m.aD.toNat)(WE:jP g A r.term r.log r.aD):v7 C g A i r send g' (A r.term i):=by
 have IB:∀ c:Nat,r.aK=c->g.V r.term i=c:=λc hc=>by
  rcases hv with ⟨a,b⟩|b
  .rw [a,h.m.now i hi,<-b];exact hc
  .omega
 refine ED h hi fm oI xC nQ h1 h2 (λhr x hx hV=>?_) (λc _ _ _ _ hc hV=>absurd (IB c hc) hV) (λc _ _ hc=>.inl (IB c hc)) him hk0 hik hic WE;rw [fm.V] at hV;by_cases hxi:x=i
 .subst hxi;rw [iW] at hV;exact IB x hV
 .rw [kQ _ _ (λhc=>hxi hc.2)] at hV;exact hV
structure a0f(C:Cl)(i:Nat)(r1:dH):Prop where
 up:(C.nd i).rep.term<=r1.term
 hv:(r1.term=(C.nd i).rep.term/\r1.aK=(C.nd i).rep.aK)\/r1.aK = -1
 log:r1.log=(C.nd i).rep.log
 same:r1.role≠0->r1=(C.nd i).rep
 aD:r1.aD=(C.nd i).rep.aD
 id:r1.id=i
theorem a0f.one{C i r1}(u:a0f C i r1){k}(hk:k≠0)(hr:r1.role=k):(C.nd i).rep.role=k/\r1.term=(C.nd i).rep.term:=by
 have:=u.same (by omega);exact ⟨by rw [<-this];exact hr,by rw [<-this]⟩
theorem a0f.co{C g A}(h:eL C g A){i}(hi:i<3){r1}(u:a0f C i r1):jP g A r1.term r1.log r1.aD:=by
 rw [u.log,u.aD];exact (h.co i hi).aAr (Ext.refl _) (λ_ _=>Nat.le_refl _) u.up
theorem aQp{C g g' A}(h:eL C g A){i}(hi:i<3){r1}(u:a0f C i r1){m}(hmem:m∈C.sent)(hm:m.fY i)(hk:m.kind=0)(fm:z8 C g i (cX r1 m).1 (cX r1 m).2.send g')(oI:g'.LL=g.LL)(xC:g'.ld=g.ld):
  v7 C g A i (cX r1 m).1 (cX r1 m).2.send g' (A (cX r1 m).1.term i):=by
 obtain ⟨⟨s1,s2,s3,s4⟩,s5⟩:=a0e r1 m;have hs:∀ {k:Int},k≠1->∀ v∈(cX r1 m).2.send,v.kind≠k:=λhk1 v hv=>by rw [s5 v hv];exact λe=>hk1 e.symm
 have c1:(cX r1 m).1.aD=r1.aD/\(cX r1 m).1.cE=r1.cE:=by unfold cX;split<;>exact ⟨rfl,rfl⟩
 have WE:jP g A (cX r1 m).1.term (cX r1 m).1.log (cX r1 m).1.aD:=by rw [s2,s4,c1.1];exact u.co h hi
 have him:(cX r1 m).1.role=2->∀ f,f<3->f≠i->(cX r1 m).1.cE f<=A (cX r1 m).1.term f:=λhr f hf hfi=>by
  rw [s1] at hr;have e:=u.same (by omega);rw [c1.2,s2,e];exact h.im i hi (by rw [<-e];exact hr) f hf hfi
 by_cases hg:(decide (m.term=r1.term)&&(decide (r1.aK = -1)||decide (r1.aK=m.src))&&HI r1 m)=true
 .have ev:(cX r1 m).1.aK=m.src:=by unfold cX;rw [if_pos hg]
  simp only [Bool.and_eq_true,decide_eq_true_eq] at hg;obtain ⟨⟨g1,_⟩,g3⟩:=hg;obtain ⟨c,hc,a1,a2,a3⟩:=h.iq m hmem hk;have hci:c≠i:=λe=>hm.src.1 (by rw [a1,e]);refine ED h hi fm oI xC (by rw [s4];exact u.log) (λhr=>by rw [s2];exact u.one (by decide) (by rw [<-s1];exact hr)) (λhr=>by rw [s2];exact u.one (by decide) (by rw [<-s1];exact hr)) (λhr x hx hV=>?_) (λd hd hdi hro ht hv hV t p htt hval hp=>?_) (λd hd hdi hv=>.inr ?_) him (hs (by decide)) (λv hv J0=>absurd J0 (hs (by decide) v hv)) (λv hv hk2=>absurd hk2 (hs (by decide) v hv)) WE
  .rw [fm.V] at hV;by_cases hxi:x=i
   .subst hxi;rw [iW,ev] at hV;omega
   .rw [kQ _ _ (λhc=>hxi hc.2)] at hV;exact hV
  .rw [ev] at hv;have hdc:d=c:=by omega
   subst hdc;obtain ⟨b1,b2⟩:=a3 hro (by rw [ht,s2,g1]);rcases mine h hi hval hp with q|q
   .refine aAu h hi hd ?_ hval q;rw [<-u.log];unfold HI at g3;simp only [Bool.or_eq_true,Bool.and_eq_true,decide_eq_true_eq] at g3;rw [b2,b1] at g3;rcases g3 with g3|⟨g3,g4⟩
    .exact .inl g3
    .exact .inr ⟨g3,by omega⟩
   .exact .inr q
  .rw [ev] at hv;have hdc:d=c:=by omega
   subst hdc;rw [s2,<-g1];exact a2
 .have ev:(cX r1 m).1.aK=r1.aK:=by unfold cX;rw [if_neg hg]
  exact oB h hi fm oI xC (by rw [s4];exact u.log) (λhr=>by rw [s2];exact u.one (by decide) (by rw [<-s1];exact hr)) (λhr=>by rw [s2];exact u.one (by decide) (by rw [<-s1];exact hr)) (by rw [s2,ev];exact u.hv) him (hs (by decide)) (λv hv J0=>absurd J0 (hs (by decide) v hv)) (λv hv hk2=>absurd hk2 (hs (by decide) v hv)) WE
theorem aLV{C g g' A}(h:eL C g A){i}(hi:i<3){r1}(u:a0f C i r1){m}(fm:z8 C g i (cU r1 m).1 (cU r1 m).2.send g')(oI:g'.LL=g.LL)(xC:g'.ld=g.ld):
  v7 C g A i (cU r1 m).1 (cU r1 m).2.send g' (A (cU r1 m).1.term i):=by
 have him:r1.role=2->∀ f,f<3->f≠i->r1.cE f<=A r1.term f:=λhr f hf hfi=>by
  have e:=u.same (by omega);rw [e] at hr ⊢;exact h.im i hi hr f hf hfi
 by_cases hc:(decide (r1.role≠1)||decide (m.term≠r1.term) || !m.yes)=true
 .have e:cU r1 m=(r1,jS):=by unfold cU;rw [if_pos hc]
  rw [e] at fm ⊢;exact oB h hi fm oI xC u.log (u.one (by decide)) (u.one (by decide)) u.hv him (λv hv=>by cases hv) (λv hv=>by cases hv) (λv hv=>by cases hv) (u.co h hi)
 have JB:=hc;simp only [Bool.or_eq_true,decide_eq_true_eq,not_or,Bool.not_eq_true',Bool.not_eq_false] at JB;obtain ⟨⟨c1,_⟩,_⟩:=JB;have c1:r1.role=1:=by omega
 by_cases JR:kF (put r1.bX m.src.toNat true)<2
 .have e:cU r1 m=({ r1 with bX:=put r1.bX m.src.toNat true },jS):=by unfold cU;rw [if_neg hc];simp only;rw [if_pos JR]
  rw [e] at fm ⊢;exact oB h hi fm oI xC u.log (u.one (by decide)) (u.one (by decide)) u.hv him (λv hv=>by cases hv) (λv hv=>by cases hv) (λv hv=>by cases hv) (u.co h hi)
 .exfalso;have e:(cU r1 m).1.role=2/\(cU r1 m).1.term=r1.term:=by unfold cU;rw [if_neg hc];simp only;rw [if_neg JR];exact ⟨rfl,rfl⟩
  obtain ⟨a,b⟩:=u.one (k:=1) (by decide) c1;have:=(fm.lead e.1).1;rw [xC,e.2,b] at this;exact (h.m.cand i hi a).2 this
theorem aIr(r)(h:r.id<=2):lI r=0\/∃ f,f<3/\f≠r.id/\r.cE f=lI r:=by
 have two:∀ a b:Nat,(([a,b]:List Nat).foldl (λx i=>max x (r.cE i)) 0=r.cE a)\/(([a,b]:List Nat).foldl (λx i=>max x (r.cE i)) 0=r.cE b):=λa b=>by
  simp only [List.foldl_cons,List.foldl_nil];omega
 unfold lI aL;split
 .rcases two 1 2 with e|e
  .exact .inr ⟨1,by decide,by omega,e.symm⟩
  .exact .inr ⟨2,by decide,by omega,e.symm⟩
 split
 .rcases two 0 2 with e|e
  .exact .inr ⟨0,by decide,by omega,e.symm⟩
  .exact .inr ⟨2,by decide,by omega,e.symm⟩
 .rcases two 0 1 with e|e
  .exact .inr ⟨0,by decide,by omega,e.symm⟩
  .exact .inr ⟨1,by decide,by omega,e.symm⟩
theorem aIs{g A i}(hi:i<3){r}(hid:r.id=i)(hL:g.LL r.term=r.log)(ha1:∀ t j,A t j<=(g.LL t).length)(ha:A r.term i=r.log.length)(him:∀ f,f<3->f≠i->r.cE f<=A r.term f)(hs:jP g A r.term r.log r.aD):
  jP g A r.term r.log (aQ r).aD:=by
 unfold aQ;split
 .rename_i hc;simp only [Bool.and_eq_true,decide_eq_true_eq] at hc;obtain ⟨c1,c2⟩:=hc;rcases aIr r (by omega) with e|⟨f,hf,hfi,e⟩
  .omega
  .have h1:=him f hf (by omega);have h2:=ha1 r.term f;rw [hL] at h2;refine .inr ⟨r.term,lI r,⟨⟨by omega,by rw [hL];omega,by rw [hL];exact c2⟩,i,f,hi,hf,by omega,by omega,by omega⟩,Int.le_refl _,Nat.le_refl _,by show lI r<=r.log.length;omega,by rw [hL]⟩
 .exact hs
theorem aAv{C g g' A}(h:eL C g A){i}(hi:i<3){r1}(u:a0f C i r1){m}(hmem:m∈C.sent)(hm:m.fY i)(hk:m.kind=3)(fm:z8 C g i (aW r1 m).1 (aW r1 m).2.send g')(oI:g'.LL=g.LL)(xC:g'.ld=g.ld):
  v7 C g A i (aW r1 m).1 (aW r1 m).2.send g' (A (aW r1 m).1.term i):=by
 obtain ⟨⟨s1,s2,s3,s4⟩,s5⟩:=LR r1 m;have sv:=(LQ r1 m).aK;have aQq:r1.role=2->∀ f,f<3->f≠i->r1.cE f<=A r1.term f:=λhr f hf hfi=>by
  have e:=u.same (by omega);rw [e] at hr ⊢;exact h.im i hi hr f hf hfi
 have aIt:r1.role=2->g.LL r1.term=r1.log/\A r1.term i=r1.log.length:=λhr=>by
  have e:=u.same (by omega);rw [e] at hr ⊢;exact ⟨(h.m.lead i hi hr).2,h.a3 i hi hr⟩
 have key:(r1.role=2->∀ f,f<3->f≠i->(aW r1 m).1.cE f<=A r1.term f)/\jP g A r1.term r1.log (aW r1 m).1.aD:=by
  unfold aW;split
  .exact ⟨aQq,u.co h hi⟩
  rename_i hc;simp only [Bool.or_eq_true,decide_eq_true_eq,not_or] at hc;obtain ⟨⟨d1,d2⟩,_⟩:=hc;have h2:r1.role=2:=by omega
  have d2:m.term=r1.term:=by omega
  simp only;split
  .exact ⟨aQq,u.co h hi⟩
  rename_i hy;have hy:m.yes=true:=by simpa using hy
  obtain ⟨f0,hf0,b1,b2⟩:=h.ik m hmem hk hy;have hf:m.src.toNat=f0:=by omega
  have aQr:∀ f,f<3->f≠i->put r1.cE m.src.toNat (max (r1.cE m.src.toNat) m.index.toNat) f<=A r1.term f:=λf hf3 hfi=>by
   have h3:=aQq h2 f hf3 hfi;by_cases hff:f=m.src.toNat
   .rw [hff,aS];rw [hff] at h3;rw [d2] at b2;rw [hf] at h3 ⊢;omega
   .rw [bG _ _ hff];exact h3
  have aQs:∀ r:dH,(aQ r).cE=r.cE:=λr=>by unfold aQ;split<;>rfl
  have hres:(r1.role=2->∀ f,f<3->f≠i->(aQ { r1 with cE:=put r1.cE m.src.toNat (max (r1.cE m.src.toNat) m.index.toNat),next:=put r1.next m.src.toNat (max (r1.cE m.src.toNat) m.index.toNat+1) }).cE f<=A r1.term f) /\
    jP g A r1.term r1.log (aQ { r1 with cE:=put r1.cE m.src.toNat (max (r1.cE m.src.toNat) m.index.toNat),next:=put r1.next m.src.toNat (max (r1.cE m.src.toNat) m.index.toNat+1) }).aD :=
   ⟨λ_ f hf3 hfi=>by rw [aQs];exact aQr f hf3 hfi,aIs (r:={ r1 with cE:=put r1.cE m.src.toNat (max (r1.cE m.src.toNat) m.index.toNat),next:=put r1.next m.src.toNat (max (r1.cE m.src.toNat) m.index.toNat+1) }) hi u.id (aIt h2).1 h.a1 (aIt h2).2 aQr (u.co h hi)⟩
  split
  .exact hres
  .exact hres
 have WE:jP g A (aW r1 m).1.term (aW r1 m).1.log (aW r1 m).1.aD:=by rw [s2,s4];exact key.2
 have hk2:∀ v∈(aW r1 m).2.send,v.kind=2:=λv hv=>by
  obtain ⟨_,f,rfl⟩:=s5 v hv;rfl
 refine oB h hi fm oI xC (by rw [s4];exact u.log) (λhr=>by rw [s2];exact u.one (by decide) (by rw [<-s1];exact hr)) (λhr=>by rw [s2];exact u.one (by decide) (by rw [<-s1];exact hr)) (by rw [s2,sv];exact u.hv) (λhr f hf hfi=>by rw [s2];exact key.1 (by rw [<-s1];exact hr) f hf hfi)
  (λv hv=>by rw [hk2 v hv];decide) (λv hv J0=>by rw [hk2 v hv] at J0;cases J0) (λv hv _=>?_) WE
 obtain ⟨h2,f,rfl⟩:=s5 v hv;show jP g A (aW r1 m).1.term (g.LL (aW r1 m).1.term) ((aW r1 m).1.aD:Int).toNat;rw [s2,(aIt h2).1,Int.toNat_natCast];exact key.2
theorem JZ:∀ (a b:List bH),agree a b<b.length->∀ x y,a[agree a b]? = some x->b[agree a b]? = some y->x.term≠y.term
 | [],b,_,x,y,hx,_=>by cases b<;>simp [agree] at hx
 | p :: a,[],h,_,_,_,_=>by simp [agree] at h
 | p :: a,q :: b,h,x,y,hx,hy=>by
  unfold agree at h hx hy;by_cases e:p.term=q.term
  .rw [if_pos e] at h hx hy;simp only [List.getElem?_cons_succ] at hx hy;exact JZ a b (by simpa using h) x y hx hy
  .rw [if_neg e] at hx hy;simp only [List.getElem?_cons_zero,Option.some.injEq] at hx hy;rw [<-hx,<-hy];exact e
structure Acc(g:Gh)(r1 r:dH)(m:bA):Prop where
 role:r.role=0
 term:r.term=r1.term
 aK:r.aK=r1.aK
 p1:m.index.toNat+m.aE.length<=r.log.length/\r.log.take (m.index.toNat+m.aE.length)=(g.LL r1.term).take (m.index.toNat+m.aE.length)
 p2:∀ p,p<=r1.log.length->p<=(g.LL r1.term).length->r1.log.take p=(g.LL r1.term).take p->p<=r.log.length/\r.log.take p=(g.LL r1.term).take p
 p3:∀ n,n<=r1.aD->n<=r1.log.length->n<=r.log.length/\r.log.take n=r1.log.take n
 p4:m.aE.length=0->r.log=r1.log
 aD:r.aD=max r1.aD (min m.aD.toNat (m.index.toNat+m.aE.length))
theorem aNy{C g g' A}(h:eL C g A){i}(hi:i<3){r1 r}(u:a0f C i r1)(hw1:r1.Wf){m}(hmem:m∈C.sent)(hk:m.kind=2)(hmt:m.term=r1.term){send}(hsend:send=[iC r1 m])(hr:Acc g r1 r m)(fm:z8 C g i r send g')(oI:g'.LL=g.LL)(xC:g'.ld=g.ld):v7 C g A i r send g' (max (A r.term i) (m.index.toNat+m.aE.length)):=by
 obtain ⟨a1,a2,a3,a4⟩:=h.m.app m hmem hk;rw [hmt] at a2 a3 a4;have IB:∀ c:Nat,r.aK=c->g.V r.term i=c:=λc hc=>by
  rw [hr.aK] at hc;rw [hr.term];rcases u.hv with ⟨a,b⟩|b
  .rw [a,h.m.now i hi,<-b];exact hc
  .omega
 have hro:=hr.role;have hA:=h.a1 r1.term i;have hle:A r.term i<=max (A r.term i) (m.index.toNat+m.aE.length):=by omega
 have uK:=hw1.ok.aD;have J0:∀ v∈send,v=iC r1 m:=λv hv=>by rw [hsend] at hv;exact List.mem_singleton.1 hv
 have hup:=u.up;have WE:jP g A r.term r.log r.aD:=by
  rw [hr.term,hr.aD];by_cases hc:min m.aD.toNat (m.index.toNat+m.aE.length)<=r1.aD
  .rw [Nat.max_eq_left hc];rcases u.co h hi with e|⟨t,p,q1,q2,q3,q4,q5⟩
   .exact .inl e
   .obtain ⟨z1,z2⟩:=hr.p3 r1.aD (Nat.le_refl _) uK;exact .inr ⟨t,p,q1,q2,q3,z1,by rw [z2];exact q5⟩
  .rw [Nat.max_eq_right (by omega)];rcases h.ic m hmem hk with e|⟨t,p,q1,q2,q3,q4⟩
   .omega
   .rw [hmt] at q2 q4;have q5:=q4.less (Nat.min_le_left m.aD.toNat (m.index.toNat+m.aE.length));obtain ⟨y1,y2⟩:=hr.p1;refine .inr ⟨t,p,q1,q2,by omega,by omega,?_⟩;rw [<-q5.2];have:=congrArg (List.take (min m.aD.toNat (m.index.toNat+m.aE.length))) y2;rw [List.take_take,List.take_take,Nat.min_eq_left (by omega)] at this;exact this
 refine ⟨fm,JY oI,by rw [oI];exact h.N1,hle,by rw [oI,hr.term];omega,λh0=>by omega,λt p hp1 hp=>?_,λw hu eI=>absurd hu (by rw [<-xC];exact eI),λt p _ hv hlt=>?_,λv hv hk0=>(by rw [J0 v hv] at hk0;cases hk0),λh0=>by omega,λh0=>by omega,λh0=>by omega,
  λc _ _ _ _ hv hV=>absurd (IB c hv) hV,λc _ _ hv=>.inl (IB c hv),λh0=>by omega,λv hv _ _=>?_,λv hv hk0=>(by rw [J0 v hv] at hk0;cases hk0),?_⟩
 .have keep:∀ {t p},gY g t p (C.nd i).rep.log->p<=(g.LL r1.term).length->(C.nd i).rep.log.take p=(g.LL r1.term).take p->gY g t p r.log:=λq hpl e=>by
   obtain ⟨z1,z2⟩:=hr.p2 _ (by rw [u.log];exact q.1) hpl (by rw [u.log];exact e);exact ⟨z1,by rw [z2,<-e];exact q.2⟩
  by_cases ht:t=r.term
  .subst ht;rw [xB] at hp;by_cases hp2:p<=m.index.toNat+m.aE.length
   .refine .inl ((uH oI).2 ?_);rw [hr.term];exact gY.less (p:=m.index.toNat+m.aE.length) hr.p1 hp2
   .have hp3:p<=A r.term i:=by omega
    rcases h.ia r.term i p hi hp1 hp3 with q|⟨w,q1,q2,_,_⟩
    .rw [hr.term] at q hp3 ⊢;exact .inl ((uH oI).2 (keep q (by omega) q.2))
    .rw [hr.term] at q1;omega
  .rw [rQ _ _ (λhc=>ht hc.1)] at hp;have hta:=h.a2 t i hi (by omega);rw [hr.term] at ht ⊢;rcases h.ia t i p hi hp1 hp with q|⟨w,q1,q2,q3,q4⟩
   .by_cases hM:gY g t p (g.LL r1.term)
    .exact .inl ((uH oI).2 (keep q hM.1 (q.2.trans hM.2.symm)))
    .by_cases hl:g.ld r1.term = -1
     .have h0:=h.m.none _ hl;rw [h0] at a2;have h1:m.aE.length=0:=by simp at a2;rw [a2.2];rfl
      rw [hr.p4 h1,u.log];exact .inl ((uH oI).2 q)
     .exact .inr ⟨r1.term,by omega,Int.le_refl _,by rw [xC];exact hl,λhh=>hM (by rw [oI] at hh;exact (uH oI).1 hh)⟩
   .exact .inr ⟨w,q1,by omega,by rw [xC];exact q3,λhh=>q4 (by rw [oI] at hh;exact (uH oI).1 hh)⟩
 .have:=hv.2.1;rw [oI] at this;omega
 .rw [J0 v hv];refine ⟨by show (r1.id:Int)=i;rw [u.id],by rw [hr.term];rfl,?_⟩;show (m.index+(m.aE.length:Int)).toNat<=_;omega
 .exact (WE.aAr (λt=>⟨[],by rw [oI,List.append_nil]⟩) (RC hle) (Int.le_refl _))
theorem aIu{C g g' A}(h:eL C g A){i}(hi:i<3){r1}(u:a0f C i r1)(hw1:r1.Wf){m}(hmem:m∈C.sent)(hk:m.kind=2)(hmt:m.term<=r1.term)(fm:z8 C g i (b9 r1 m).1 (b9 r1 m).2.send g')(oI:g'.LL=g.LL)(xC:g'.ld=g.ld):∃ n,v7 C g A i (b9 r1 m).1 (b9 r1 m).2.send g' n:=by
 have him:r1.role=2->∀ f,f<3->f≠i->r1.cE f<=A r1.term f:=λhr f hf hfi=>by
  have e:=u.same (by omega);rw [e] at hr ⊢;exact h.im i hi hr f hf hfi
 have uK:=hw1.ok.aD;by_cases h1:m.term<r1.term
 .have e:b9 r1 m=(r1,mI [mP r1 3 m.src]):=by unfold b9;rw [if_pos h1]
  rw [e] at fm ⊢;exact ⟨_,oB h hi fm oI xC u.log (u.one (by decide)) (u.one (by decide)) u.hv him (λv hv=>by rw [List.mem_singleton.1 hv];show (3:Int)≠0;decide) (λv hv _ hy=>by rw [List.mem_singleton.1 hv] at hy;cases hy) (λv hv hk2=>by rw [List.mem_singleton.1 hv] at hk2;cases hk2) (u.co h hi)⟩
 have hmt:m.term=r1.term:=by omega
 by_cases h2:r1.role=2
 .have e:b9 r1 m=(r1,jS):=by unfold b9;rw [if_neg h1,if_pos h2]
  rw [e] at fm ⊢;exact ⟨_,oB h hi fm oI xC u.log (u.one (by decide)) (u.one (by decide)) u.hv him (λv hv=>by cases hv) (λv hv=>by cases hv) (λv hv=>by cases hv) (u.co h hi)⟩
 have no:∀ k:Int,k≠0->({ r1 with role:=0 }:dH).role=k->(C.nd i).rep.role=k/\({ r1 with role:=0 }:dH).term=(C.nd i).rep.term:=λk hk0 hr=>absurd hr.symm hk0;by_cases h3:(decide ((r1.log.length:Int)<m.index)||decide (aU r1.log m.index.toNat≠m.prev))=true
 .have e:b9 r1 m=({ r1 with role:=0 },mI [⟨3,r1.id,m.src,r1.term,min (r1.log.length:Int) (m.index - 1),0,0,false,[]⟩]):=by unfold b9;rw [if_neg h1,if_neg h2];simp only;rw [if_pos h3]
  rw [e] at fm ⊢;exact ⟨_,oB h hi fm oI xC u.log (no 1 (by decide)) (no 2 (by decide)) u.hv (λhr=>(by cases (show (0:Int)=2 from hr))) (λv hv=>by rw [List.mem_singleton.1 hv];show (3:Int)≠0;decide) (λv hv _ hy=>by rw [List.mem_singleton.1 hv] at hy;cases hy) (λv hv hk2=>by rw [List.mem_singleton.1 hv] at hk2;cases hk2) (u.co h hi)⟩
 have h3':=h3;simp only [Bool.or_eq_true,decide_eq_true_eq,not_or] at h3';obtain ⟨h4,h5⟩:=h3';have h5:aU r1.log m.index.toNat=m.prev:=Decidable.of_not_not h5;obtain ⟨a1,a2,a3,a4⟩:=h.m.app m hmem hk;rw [hmt] at a2 a3 a4;have hpl:qR g.LL r1.log:=by rw [u.log];exact h.m.log i hi
 have hpM:=h.m.ll r1.term;have hix:m.index.toNat<=r1.log.length:=by omega
 have hag:=UZ hpl hpM hix a2 a3 (by rw [h5];exact a4);have hkb:=HQ (r1.log.drop m.index.toNat) m.aE;have hka:m.index.toNat+agree (r1.log.drop m.index.toNat) m.aE<=r1.log.length:=by
  rcases Nat.eq_zero_or_pos (agree (r1.log.drop m.index.toNat) m.aE) with e|e
  .omega
  .obtain ⟨q,_⟩:=uY (r1.log.drop m.index.toNat) m.aE (agree (r1.log.drop m.index.toNat) m.aE - 1) (by omega);rw [List.length_drop] at q;omega
 by_cases h6:agree (r1.log.drop m.index.toNat) m.aE<m.aE.length
 .by_cases h7:m.index.toNat+agree (r1.log.drop m.index.toNat) m.aE+1<=r1.aD
  .have e:b9 r1 m=({ r1 with role:=0 },jS):=by unfold b9;rw [if_neg h1,if_neg h2];simp only;rw [if_neg h3,if_pos h6,if_pos h7]
   rw [e] at fm ⊢;exact ⟨_,oB h hi fm oI xC u.log (no 1 (by decide)) (no 2 (by decide)) u.hv (λhr=>(by cases (show (0:Int)=2 from hr))) (λv hv=>by cases hv) (λv hv=>by cases hv) (λv hv=>by cases hv) (u.co h hi)⟩
  .have e1:(b9 r1 m).1={ r1 with role:=0,log:=r1.log.take (m.index.toNat+agree (r1.log.drop m.index.toNat) m.aE)++m.aE.drop (agree (r1.log.drop m.index.toNat) m.aE),aD:=max r1.aD (min m.aD.toNat (m.index.toNat+m.aE.length)) }:=by unfold b9;rw [if_neg h1,if_neg h2];simp only;rw [if_neg h3,if_pos h6,if_neg h7]
   have e2:(b9 r1 m).2.send=[iC r1 m]:=by unfold b9;rw [if_neg h1,if_neg h2];simp only;rw [if_neg h3,if_pos h6,if_neg h7]
   have hnew:=a2Q hpl hpM hix a2 a3 (by rw [h5];exact a4) hkb;rw [e1] at fm ⊢;refine ⟨_,aNy h hi u hw1 hmem hk hmt e2 ⟨rfl,rfl,rfl,?_,λp hp1 hp2 hp3=>?_,λn hn1 hn2=>?_,λh0=>by omega,rfl⟩ fm oI xC⟩
   .show m.index.toNat+m.aE.length<=(r1.log.take _++_).length/\(r1.log.take _++_).take _=_;rw [hnew,List.length_take,List.take_take,Nat.min_self];exact ⟨by omega,rfl⟩
   .show p<=(r1.log.take _++_).length/\(r1.log.take _++_).take _=_;have hpk:p<=m.index.toNat+agree (r1.log.drop m.index.toNat) m.aE:=Decidable.byContradiction λhn=>by
     have hq:m.index.toNat+agree (r1.log.drop m.index.toNat) m.aE<r1.log.length:=by omega
     obtain ⟨x,hx⟩:∃ x,r1.log[m.index.toNat+agree (r1.log.drop m.index.toNat) m.aE]? = some x:=⟨_,List.getElem?_eq_getElem hq⟩;obtain ⟨y,hy⟩:∃ y,m.aE[agree (r1.log.drop m.index.toNat) m.aE]? = some y:=⟨_,List.getElem?_eq_getElem h6⟩;have hne:=JZ _ _ h6 x y (by rw [List.getElem?_drop];exact hx) hy;have hy2:(g.LL r1.term)[m.index.toNat+agree (r1.log.drop m.index.toNat) m.aE]? = some y:=by
      have h9:((List.drop m.index.toNat (g.LL r1.term)).take m.aE.length)[agree (r1.log.drop m.index.toNat) m.aE]? = some y:=by rw [<-a3];exact hy
      rw [List.getElem?_take_of_lt h6,List.getElem?_drop] at h9;exact h9
     have:=congrArg (λl=>l[m.index.toNat+agree (r1.log.drop m.index.toNat) m.aE]?) hp3;simp only [List.getElem?_take_of_lt (show m.index.toNat+agree (r1.log.drop m.index.toNat) m.aE<p by omega)] at this;rw [hx,hy2] at this;cases this;exact hne rfl
    rw [hnew,List.length_take,List.take_take];exact ⟨by omega,by rw [Nat.min_eq_left (show p<=m.index.toNat+m.aE.length by omega)]⟩
   .show n<=(r1.log.take _++_).length/\(r1.log.take _++_).take _=_;have hn3:n<=(r1.log.take (m.index.toNat+agree (r1.log.drop m.index.toNat) m.aE)).length:=by rw [List.length_take];omega
    rw [List.take_append_of_le_length hn3,List.take_take,Nat.min_eq_left (by omega),List.length_append];exact ⟨by omega,rfl⟩
 .have e1:(b9 r1 m).1={ r1 with role:=0,aD:=max r1.aD (min m.aD.toNat (m.index.toNat+m.aE.length)) }:=by unfold b9;rw [if_neg h1,if_neg h2];simp only;rw [if_neg h3,if_neg h6]
  have e2:(b9 r1 m).2.send=[iC r1 m]:=by unfold b9;rw [if_neg h1,if_neg h2];simp only;rw [if_neg h3,if_neg h6]
  have hkk:agree (r1.log.drop m.index.toNat) m.aE=m.aE.length:=by omega
  rw [hkk] at hag hka;rw [e1] at fm ⊢;exact ⟨_,aNy h hi u hw1 hmem hk hmt e2 ⟨rfl,rfl,rfl,⟨hka,hag⟩,λp hp1 hp2 hp3=>⟨hp1,hp3⟩,λn hn1 hn2=>⟨hn2,rfl⟩,λ_=>rfl,rfl⟩ fm oI xC⟩
theorem aAw{C g A}(h:eL C g A){i}(hi:i<3){m}(hmem:m∈C.sent):∃ g' n,v7 C g A i (aT (C.nd i).rep m).1 (aT (C.nd i).rep m).2.send g' n:=by
 obtain ⟨hw,hid⟩:=h.m.wf.rep i hi;obtain ⟨g',fm,hg⟩:=aQn h.m hi (h.m.yes m hmem) (h.m.app m hmem);rcases hg with ⟨oI,xC⟩|⟨q1,q2,q3,q4,q5,q6,q7,q8,q9,q10,q11⟩
 .refine ⟨g',?_⟩;cases hy:gQ (C.nd i).rep.id m with
  | false =>
   rw [pS hy] at fm ⊢;exact ⟨_,WG h hi fm oI xC (λv hv=>by cases hv) (λv hv=>by cases hv) (λv hv=>by cases hv)⟩
  | true =>
   have hm:=gU.1 hy;obtain ⟨r1,HP⟩:∃ r1,(if (C.nd i).rep.term<m.term then QD (C.nd i).rep m else (C.nd i).rep)=r1:=⟨_,rfl⟩;have e1:(aT (C.nd i).rep m).1=(dJ r1 m).1:=by rw [nM hy,HP,AE]
   have e2:(aT (C.nd i).rep m).2.send=(dJ r1 m).2.send:=by rw [nM hy,HP,ZV]
   rw [e1,e2] at fm ⊢;have hw1:r1.Wf:=by
    rw [<-HP];split
    .exact aBU hw hm (by assumption)
    .exact hw
   have hmt:m.term<=r1.term:=by
    rw [<-HP];split
    .exact Int.le_refl _
    .omega
   have u:a0f C i r1:=by
    rw [<-HP];split
    .rename_i hlt;exact ⟨by show _<=m.term;omega,.inr rfl,rfl,λhr=>absurd rfl hr,rfl,hid⟩
    .exact ⟨Int.le_refl _,.inl ⟨rfl,rfl⟩,rfl,λ_=>rfl,rfl,hid⟩
   rw [hid] at hm;by_cases hk0:m.kind=0
   .have e:dJ r1 m=cX r1 m:=by unfold dJ;rw [if_pos hk0]
    rw [e] at fm ⊢;exact ⟨_,aQp h hi u hmem hm hk0 fm oI xC⟩
   by_cases hk1:m.kind=1
   .have e:dJ r1 m=cU r1 m:=by unfold dJ;rw [if_neg hk0,if_pos hk1]
    rw [e] at fm ⊢;exact ⟨_,aLV h hi u fm oI xC⟩
   by_cases hk2:m.kind=2
   .have e:dJ r1 m=b9 r1 m:=by unfold dJ;rw [if_neg hk0,if_neg hk1,if_pos hk2]
    rw [e] at fm ⊢;exact aIu h hi u hw1 hmem hk2 hmt fm oI xC
   .have e:dJ r1 m=aW r1 m:=by unfold dJ;rw [if_neg hk0,if_neg hk1,if_neg hk2]
    rw [e] at fm ⊢;have:=hm.kind;exact ⟨_,aAv h hi u hmem hm (by omega) fm oI xC⟩
 .exact ⟨g',_,aQo h hi fm q1 q2 q3 q4 q5 q6 q7 q8 q9 q10 q11⟩
structure Aft(g:Gh)(A:Int->Nat->Nat)(g':Gh)(A':Int->Nat->Nat):Prop where
 ext:Ext g.LL g'.LL
 ld:∀ u,g.ld u ≠ -1->g'.ld u=g.ld u
 a:∀ t j,A t j<=A' t j
theorem Aft.refl(g A):Aft g A g A:=⟨Ext.refl _,λ_ _=>rfl,λ_ _=>Nat.le_refl _⟩
theorem v7.aft{C g g' A i n r send}(f:v7 C g A i r send g' n):Aft g A g' (CR A i r.term n) :=
 ⟨f.m.ext,λu hu=>by
  rcases f.m.ld u with e|⟨e,_⟩
  .exact e
  .exact absurd e hu,RC f.le⟩
def aIv(C:Cl)(g:Gh)(A:Int->Nat->Nat)(C':Cl):Prop:=∃ g' A',eL C' g' A'/\Aft g A g' A'
theorem eL.goes{C g A}(h:eL C g A){i}(hi:i<3){x}(hx:x.1.Wf)(hf:Fits (C.nd i).rep x.1 x.2)(he:∃ g' n,v7 C g A i x.1 x.2.send g' n):aIv C g A (LP C i x):=by
 obtain ⟨g',n,f⟩:=he;rcases h.call hi hx hf f with ⟨q,_⟩|q
 .exact ⟨g,A,q,Aft.refl g A⟩
 .exact ⟨g',_,q,f.aft⟩
theorem eL.lR{C g A}(h:eL C g A){m}(hmem:m∈C.sent):aIv C g A (lR C m):=by
 have hi:=aAf m.to;have hh:=lQ (m:=m) (h.m.wf.rep _ hi).1;exact h.goes hi hh.1 hh.2 (aAw h hi hmem)
theorem eL.aAx{C g A}(h:eL C g A)(n keep):aIv C g A (wZ C n keep):=by
 unfold wZ;split
 .exact ⟨g,A,h,Aft.refl g A⟩
 .rename_i m hm;have hlt:=(List.getElem?_eq_some_iff.1 hm).1;have hmem:m∈C.sent:=List.mem_of_getElem? hm;cases keep with
  | true=>exact h.lR hmem
  | false =>
   have hi:=aAf m.to;have hh:=lQ (m:=m) (h.m.wf.rep _ hi).1;have hd:=h.drop hlt;exact eL.goes hd hi (x:=aT (C.nd (vV m.to 3).toNat).rep m) hh.1 hh.2 (by
    obtain ⟨g',n,f⟩:=aAw h hi hmem;exact ⟨g',n,⟨⟨f.m.V,f.m.up,f.m.keep,f.m.yes,f.m.ld,f.m.ext,f.m.LL,f.m.cand,f.m.lead,f.m.log,f.m.app⟩,f.grow,f.N1,f.le,f.a1,f.a3,f.ia,f.new,f.old,f.iq,f.iq2,f.il,f.iv,f.aK,f.vt,f.im,f.ik,f.ic,f.co⟩⟩)
abbrev gh0:Gh:=⟨λ_ _ => -1,λ_ => -1,λ_=>[]⟩
theorem aWv:eL cl0 gh0 λ_ _=>0:=by
 have hv:∀ t p,¬ Valid gh0 t p:=λt p h=>by
  have h1:=h.1;have h2:=h.2.1;simp at h2;omega
 exact ⟨aWs,λt=>⟨by simp,by simp,by simp,by simp⟩,λ_ _=>Nat.le_refl _,λt j _ h=>absurd h (Nat.lt_irrefl _),λi hi hr=>(by cases (show (0:Int)=2 from hr)),λt j p _ h1 h2=>absurd (Nat.le_trans h1 h2) (by decide),λt u p h=>absurd h (hv t p),λm hm=>(by cases hm),λc _ hr=>(by cases (show (0:Int)=1 from hr)),λc _ hr=>(by cases (show (0:Int)=1 from hr)),
  λt x c _ _ h=>absurd (show (-1:Int)=c from h) (by omega),λi hi hr=>(by cases (show (0:Int)=2 from hr)),λm hm=>(by cases hm),λm hm=>(by cases hm),λj hj=>.inl rfl⟩
theorem K0{g t p n l}(h:gY g t p l)(hn:n<=p):l.take n=(g.LL t).take n:=(h.less hn).2
theorem eL.TM{C g A}(h:eL C g A){t u p}(hc:NP g A t p)(htu:t<u)(hu:g.ld u ≠ -1):gY g t p (g.LL u):=by
 rcases h.ib t u p hc.1 htu hu with q|q
 .exact q
 .exact (hc.no q).elim
theorem eL.aIw{C g A}(h:eL C g A){s s' l l' n n'}(h1:jP g A s l n)(h2:jP g A s' l' n')(hn:n<=n'):l.take n=l'.take n:=by
 rcases h1 with e|⟨t,p,c1,_,k1,q1⟩
 .subst e;simp
 rcases h2 with e|⟨t',p',c2,_,k2,q2⟩
 .have:n=0:=by omega
  subst this;simp
 rw [q1.2,K0 q2 hn];rcases Int.lt_trichotomy t t' with e|e|e
 .exact (K0 (h.TM c1 e (h.led c2.1)) k1).symm
 .rw [e]
 .exact K0 (h.TM c2 e (h.led c1.1)) (by omega)
theorem jP.cut{g A s s' l n}(h:jP g A s l n)(hs:s<=s'):jP g A s' (l.take n) n:=by
 rcases h with e|⟨t,p,h1,h2,h3,h4,h5⟩
 .exact .inl e
 .exact .inr ⟨t,p,h1,by omega,h3,by rw [List.length_take];omega,by rw [List.take_take,Nat.min_self];exact h5⟩
theorem aLW{r x}:(yA r x).2.src=x.2.src:=by unfold yA;split<;>rfl
theorem aIx(r m):(cX r m).2.src=0:=by unfold cX;split<;>rfl
theorem aD9(r m):(cU r m).2.src=0:=by
 unfold cU;split
 .rfl
 .simp only;split<;>rfl
theorem RE(r m):(aW r m).2.src=0:=by
 unfold aW;split
 .rfl
 .simp only;split
  .rfl
  .split<;>rfl
def NQ(r:dH)(m:bA):dH:=if r.term<m.term then QD r m else r
structure aNz(r:dH)(m:bA):Prop where
 right:m.fY r.id
 kind:m.kind=2
 term:m.term=(NQ r m).term
 t:(aT r m).1.term=(NQ r m).term
 v:(aT r m).1.aK=(NQ r m).aK
 ix:m.index.toNat<=r.log.length
 prev:aU r.log m.index.toNat=m.prev
 agr:agree (r.log.drop m.index.toNat) m.aE<m.aE.length
 src:(aT r m).2.src=((m.index.toNat+agree (r.log.drop m.index.toNat) m.aE+1:Nat):Int)
theorem aIy{r m}(h:0<(aT r m).2.src):aNz r m:=by
 cases hy:gQ r.id m with
 | false=>rw [pS hy] at h;cases h
 | true =>
  have hm:=gU.1 hy;have nQ:(NQ r m).log=r.log:=by unfold NQ;split<;>rfl
  have hmt:m.term<=(NQ r m).term:=by
   unfold NQ;split
   .exact Int.le_refl _
   .omega
  have e0:aT r m=yA r (dJ (NQ r m) m):=nM hy;have e1:(aT r m).2.src=(dJ (NQ r m) m).2.src:=by rw [e0,aLW]
  have e2:(aT r m).1=(dJ (NQ r m) m).1:=by rw [e0,AE]
  rw [e1] at h;have hk:m.kind=2:=Decidable.byContradiction λhk=>by
   unfold dJ at h;split at h
   .rw [aIx] at h;cases h
   split at h
   .rw [aD9] at h;cases h
   .first
     | (rw [if_neg hk,RE] at h;cases h)
     | (rw [RE] at h;cases h)
  have e3:dJ (NQ r m) m=b9 (NQ r m) m:=by unfold dJ;rw [if_neg (by rw [hk];decide),if_neg (by rw [hk];decide),if_pos hk]
  rw [e3] at h e1 e2;have hmu:=UX (NQ r m) m;have ht:(aT r m).1.term=(NQ r m).term:=by rw [e2];exact hmu.term
  have hv:(aT r m).1.aK=(NQ r m).aK:=by rw [e2];exact hmu.aK
  unfold b9 at h e1;split at h
  .cases h
  rename_i h1;rw [if_neg h1] at e1;split at h
  .cases h
  rename_i h2;rw [if_neg h2] at e1;simp only at h e1;split at h
  .cases h
  rename_i h3;rw [if_neg h3] at e1;simp only [Bool.or_eq_true,decide_eq_true_eq,not_or] at h3;obtain ⟨h4,h5⟩:=h3;have h5:=Decidable.of_not_not h5;split at h
  rotate_left 1
  .cases h
  rename_i h6;rw [if_pos h6] at e1;split at h
  .cases h
  rename_i h7;rw [if_neg h7] at e1;simp only at e1;rw [nQ] at h4 h5 h6 e1;exact ⟨hm,hk,by omega,ht,hv,by omega,h5,h6,e1⟩
theorem aB1{C i m}(hid:(C.nd i).rep.id=i):a0f C i (NQ (C.nd i).rep m):=by
 unfold NQ;split
 .rename_i hlt;exact ⟨by show _<=m.term;omega,.inr rfl,rfl,λhr=>absurd rfl hr,rfl,hid⟩
 .exact ⟨Int.le_refl _,.inl ⟨rfl,rfl⟩,rfl,λ_=>rfl,rfl,hid⟩
theorem a7B{C g i r}(up:(C.nd i).rep.term<=r.term)(hv:(r.term=(C.nd i).rep.term/\r.aK=(C.nd i).rep.aK)\/((C.nd i).rep.term<r.term/\r.aK = -1))(h0:r.role=0)(nQ:qR g.LL r.log):z8 C g i r [] (g.aK i r) :=
 ⟨rfl,up,λe hne=>by
  rcases hv with ⟨_,b⟩|⟨a,_⟩
  .exact b
  .omega,λm hm=>(by cases hm),λt=>.inl rfl,Ext.refl _,λt=>.inl rfl,λhr=>by omega,λhr=>by omega,nQ,λm hm=>(by cases hm)⟩
theorem aWw{C g A}(h:eL C g A){i}(hi:i<3){t v}(up:(C.nd i).rep.term<=t)(hv:(t=(C.nd i).rep.term/\v=(C.nd i).rep.aK)\/((C.nd i).rep.term<t/\v = -1)):
  v7 C g A i (dP i t v (C.nd i).rep.log) [] (g.aK i (dP i t v (C.nd i).rep.log)) (A t i) :=
 oB h hi (a7B up hv rfl (h.m.log i hi)) rfl rfl rfl (λhr=>absurd (show (0:Int)=1 from hr) (by decide)) (λhr=>absurd (show (0:Int)=2 from hr) (by decide)) (hv.imp id λh=>h.2)
  (λhr=>absurd (show (0:Int)=2 from hr) (by decide)) (λm hm=>by cases hm) (λm hm=>by cases hm) (λm hm=>by cases hm) (.inl rfl)
theorem aWx{C g A}(h:eL C g A){i}(hi:i<3){m}(hmem:m∈C.sent)(hs:aNz (C.nd i).rep m):
  v7 C g A i (dP i (NQ (C.nd i).rep m).term (NQ (C.nd i).rep m).aK ((C.nd i).rep.log.take (m.index.toNat+agree ((C.nd i).rep.log.drop m.index.toNat) m.aE))) [] (g.aK i (dP i (NQ (C.nd i).rep m).term (NQ (C.nd i).rep m).aK ((C.nd i).rep.log.take (m.index.toNat+agree ((C.nd i).rep.log.drop m.index.toNat) m.aE)))) (A (NQ (C.nd i).rep m).term i):=by
 obtain ⟨hw,hid⟩:=h.m.wf.rep i hi;have u:=aB1 (C:=C) (i:=i) (m:=m) hid;obtain ⟨r1,HP⟩:∃ r1,NQ (C.nd i).rep m=r1:=⟨_,rfl⟩;have hmt:=hs.term;rw [HP] at u hmt ⊢;obtain ⟨old,hold⟩:∃ l,(C.nd i).rep.log=l:=⟨_,rfl⟩;obtain ⟨k,hk⟩:∃ k,m.index.toNat+agree ((C.nd i).rep.log.drop m.index.toNat) m.aE=k:=⟨_,rfl⟩;have hag:=hs.agr;have hix:=hs.ix;have hpv:=hs.prev;rw [hk];rw [hold] at hag hix hpv hk ⊢;obtain ⟨a1,a2,a3,a4⟩:=h.m.app m hmem hs.kind
 rw [hmt] at a2 a3 a4;have hpl:qR g.LL old:=by rw [<-hold];exact h.m.log i hi
 have hpM:=h.m.ll r1.term;have hv:(r1.term=(C.nd i).rep.term/\r1.aK=(C.nd i).rep.aK)\/((C.nd i).rep.term<r1.term/\r1.aK = -1):=by
  rw [<-HP];unfold NQ;split
  .exact .inr ⟨by assumption,rfl⟩
  .exact .inl ⟨rfl,rfl⟩
 obtain ⟨r,hr⟩:∃ r,dP i r1.term r1.aK (old.take k)=r:=⟨_,rfl⟩;have e1:r.term=r1.term:=by rw [<-hr];rfl
 have e2:r.aK=r1.aK:=by rw [<-hr];rfl
 have e3:r.role=0:=by rw [<-hr];rfl
 have e4:r.log=old.take k:=by rw [<-hr];rfl
 have e5:r.aD=0:=by rw [<-hr];rfl
 rw [hr];have fm:z8 C g i r [] (g.aK i r):=a7B (by rw [e1];exact u.up) (by rw [e1,e2];exact hv) e3 (by rw [e4];exact a2P hpl k);rw [<-e1];have IB:∀ c:Nat,r.aK=c->g.V r.term i=c:=λc hc=>by
  rw [e2] at hc;rw [e1];rcases hv with ⟨a,b⟩|⟨_,b⟩
  .rw [a,h.m.now i hi,<-b];exact hc
  .omega
 have hka:k<=old.length:=by
  rw [<-hk];rcases Nat.eq_zero_or_pos (agree (old.drop m.index.toNat) m.aE) with e|e
  .omega
  .obtain ⟨q,_⟩:=uY (old.drop m.index.toNat) m.aE (agree (old.drop m.index.toNat) m.aE - 1) (by omega);rw [List.length_drop] at q;omega
 have p2:∀ p,p<=old.length->p<=(g.LL r1.term).length->old.take p=(g.LL r1.term).take p->p<=k:=λp hp1 hp2 hp3=>Decidable.byContradiction λhn=>by
  have hq:k<old.length:=by omega
  rw [<-hk] at hq hn;obtain ⟨x,hx⟩:∃ x,old[m.index.toNat+agree (old.drop m.index.toNat) m.aE]? = some x:=⟨_,List.getElem?_eq_getElem hq⟩;obtain ⟨y,hy⟩:∃ y,m.aE[agree (old.drop m.index.toNat) m.aE]? = some y:=⟨_,List.getElem?_eq_getElem hag⟩;have hne:=JZ _ _ hag x y (by rw [List.getElem?_drop];exact hx) hy;have hy2:(g.LL r1.term)[m.index.toNat+agree (old.drop m.index.toNat) m.aE]? = some y:=by
   have h9:((List.drop m.index.toNat (g.LL r1.term)).take m.aE.length)[agree (old.drop m.index.toNat) m.aE]? = some y:=by rw [<-a3];exact hy
   rw [List.getElem?_take_of_lt hag,List.getElem?_drop] at h9;exact h9
  have:=congrArg (λl=>l[m.index.toNat+agree (old.drop m.index.toNat) m.aE]?) hp3;simp only [List.getElem?_take_of_lt (show m.index.toNat+agree (old.drop m.index.toNat) m.aE<p by omega)] at this;rw [hx,hy2] at this;cases this;exact hne rfl
 have hup:=u.up;have keep:∀ {t p},gY g t p old->p<=(g.LL r1.term).length->old.take p=(g.LL r1.term).take p->gY g t p r.log:=λq hpl e=>by
  have z:=p2 _ q.1 hpl e;rw [e4];exact ⟨by rw [List.length_take];omega,by rw [List.take_take,Nat.min_eq_left z];exact q.2⟩
 refine ⟨fm,JY rfl,h.N1,Nat.le_refl _,h.a1 _ _,λh0=>by omega,λt p hp1 hp=>?_,λw hu eI=>absurd hu eI,λt p _ hv hlt=>?_,λv hv hk0=>(by cases hv),λh0=>by omega,λh0=>by omega,λh0=>by omega,
  λc _ _ _ _ hv hV=>absurd (IB c hv) hV,λc _ _ hv=>.inl (IB c hv),λh0=>by omega,λv hv _ _=>(by cases hv),λv hv hk0=>(by cases hv),by rw [e5];exact .inl rfl⟩
 .rw [EC] at hp;have hia:=h.ia t i p hi hp1 hp;rw [hold] at hia;rcases hia with q|⟨w,q1,q2,q3,q4⟩
  .have hta:=h.a2 t i hi (by omega);have hpA:=h.a1 t i;by_cases hM:gY g t p (g.LL r1.term)
   .exact .inl (keep q hM.1 (q.2.trans hM.2.symm))
   .by_cases ht:t=r1.term
    .subst ht;exact absurd ⟨by omega,rfl⟩ hM
    .have hl:g.ld r1.term ≠ -1:=λhl=>by
      have h0:=h.m.none _ hl;rw [h0] at a2;simp at a2;rw [a2.2] at hag;simp at hag
     exact .inr ⟨r1.term,by omega,by omega,hl,hM⟩
  .exact .inr ⟨w,q1,by omega,q3,q4⟩
 .have:=hv.2.1;have e:(g.aK i r).LL=g.LL:=rfl;rw [e] at this;omega
def Hap(C:Cl)(i:Nat)(x:dH × kR):Prop:=x=cV (C.nd i).rep\/(∃ m∈C.sent,x=aT (C.nd i).rep m)\/∃ data,x=((aF (C.nd i).rep data).1,(aF (C.nd i).rep data).2.2.2)
def a4C(C:Cl)(i:Nat)(t v:Int)(l:List bH):Prop :=
 ((t=(C.nd i).rep.term/\v=(C.nd i).rep.aK)/\l=(C.nd i).rep.log) \/
  ∃ x,Hap C i x/\(t=x.1.term/\v=x.1.aK)/\(l=(C.nd i).rep.log\/(0<x.2.src/\l=(C.nd i).rep.log.take (min (x.2.src - 1) ((C.nd i).rep.log.length:Int)).toNat)\/l=x.1.log)
theorem Hap.fits{C}(hw:C.Wf){i}(hi:i<3){x}(h:Hap C i x):x.1.Wf/\Fits (C.nd i).rep x.1 x.2:=by
 have hr:=(hw.rep i hi).1;rcases h with rfl|⟨m,_,rfl⟩|⟨data,rfl⟩
 .exact WA hr
 .exact lQ hr
 .exact qA hr data
theorem Hap.aQu{C g A}(h:eL C g A){i}(hi:i<3){x}(hx:Hap C i x):∃ g' n,v7 C g A i x.1 x.2.send g' n:=by
 rcases hx with rfl|⟨m,hm,rfl⟩|⟨data,rfl⟩
 .exact aIp h hi
 .exact aAw h hi hm
 .exact aIq h hi data
def V1(C:Cl)(i:Nat)(r:dH)(s:List bA):Cl:=⟨put C.nd i (UU (C.nd i) r),s⟩
theorem aQv{C g g' A}(h:eL C g A){i n}(hi:i<3){r send s}(f:v7 C g A i r send g' n)(hw:r.Wf)(hid:r.id=i)(hs:∀ m∈s,m∈C.sent\/m∈send):eL (V1 C i r s) g' (CR A i r.term n):=by
 have hh:=WC h.m.wf hi hw hid;exact h.node hi f ⟨hh.rep,hh.NO,hh.stop,Nat.zero_le _⟩ (by show (put C.nd i _ i).rep=r;rw [aS];rfl) (λj hj=>bG _ _ hj) hs
theorem K3(C i r s):((V1 C i r s).nd i).rep=r:=by
 show (put C.nd i _ i).rep=r;rw [aS];rfl
theorem EE(C){i j}(r s)(h:j≠i):(V1 C i r s).nd j=C.nd j:=bG _ _ h
theorem Aft.trans'{g g1 g2 A A1 A2}(h:Aft g A g1 A1)(h2:Aft g1 A1 g2 A2):Aft g A g2 A2:=by
 obtain ⟨a1,a2,a3⟩:=h;obtain ⟨b1,b2,b3⟩:=h2;refine ⟨λt=>?_,λt ht=>?_,λt j=>Nat.le_trans (a3 t j) (b3 t j)⟩
 .obtain ⟨s,hs⟩:=a1 t;obtain ⟨s2,hs2⟩:=b1 t;exact ⟨s++s2,by rw [hs2,hs,bM]⟩
 .have:=a2 t ht;rw [b2 t (by rw [this];exact ht),this]
structure a0g(C:Cl)(g:Gh)(A:Int->Nat->Nat)(i:Nat)(r:dH)(C':Cl)(g':Gh)(A':Int->Nat->Nat):Prop where
 s:eL C' g' A'
 aft:Aft g A g' A'
 rep:(C'.nd i).rep=r
 ne:∀ j,j≠i->C'.nd j=C.nd j
 sent:C'.sent=C.sent
theorem a0h{C g A}(h:eL C g A){i}(hi:i<3):a0g C g A i (dP i (C.nd i).rep.term (C.nd i).rep.aK (C.nd i).rep.log) (mJ C i) g A:=by
 obtain ⟨h1,h2,h3⟩:=h.m.wf.NO i hi;refine ⟨h.start hi,Aft.refl _ _,?_,λj hj=>bG _ _ hj,rfl⟩;show (put C.nd i _ i).rep=_;rw [aS];show dP i (C.nd i).AB (C.nd i).LO (C.nd i).QW=_;rw [h1,h2,h3]
theorem a7C{C g g' A}(h:eL C g A){i n}(hi:i<3){t v l}(f:v7 C g A i (dP i t v l) [] g' n)(hw:(dP i t v l).Wf):∃ C' g' A',a0g C g A i (dP i t v l) C' g' A' :=
 ⟨_,_,_,aQv h hi f hw rfl (s:=C.sent) λm hm=>.inl hm,f.aft,K3 _ _ _ _,λj hj=>EE _ _ _ hj,rfl⟩
theorem aEa{C g A}(h:eL C g A){i}(hi:i<3){x}(hx:Hap C i x):∃ C' g' A',a0g C g A i (dP i x.1.term x.1.aK x.1.log) C' g' A':=by
 obtain ⟨g',n,f⟩:=hx.aQu h hi;obtain ⟨hw,hf⟩:=hx.fits h.m.wf hi;have hid:x.1.id=i:=by rw [hf.id];exact (h.m.wf.rep i hi).2
 have h1:=aQv h hi f hw hid (s:=C.sent) λm hm=>.inl hm;have b:=a0h h1 hi;rw [K3] at b;exact ⟨_,_,_,b.s,f.aft.trans' b.aft,b.rep,λj hj=>by rw [b.ne j hj,EE _ _ _ hj],b.sent⟩
theorem aEb{C g A}(h:eL C g A){i}(hi:i<3){t v l}(hp:a4C C i t v l):∃ C' g' A',a0g C g A i (dP i t v l) C' g' A':=by
 have old:∃ C' g' A',a0g C g A i (dP i (C.nd i).rep.term (C.nd i).rep.aK (C.nd i).rep.log) C' g' A':=⟨_,_,_,a0h h hi⟩;rcases hp with ⟨⟨rfl,rfl⟩,rfl⟩|⟨x,hx,⟨rfl,rfl⟩,hl⟩
 .exact old
 have full:=aEa h hi hx;obtain ⟨hw,hf⟩:=hx.fits h.m.wf hi;obtain ⟨hwr,hid⟩:=h.m.wf.rep i hi;by_cases hs:0<x.2.src
 rotate_left 1
 .have e:=hf.same hs;rw [e] at full;rcases hl with rfl|⟨a,_⟩|rfl
  .exact full
  .exact absurd a hs
  .rw [e];exact full
 rcases hx with rfl|⟨m,hm,rfl⟩|⟨data,rfl⟩
 .exfalso
  revert hs
  unfold cV;split
  .exact λh=>absurd h (Int.lt_irrefl 0)
  split
  .exact λh=>absurd h (Int.lt_irrefl 0)
  .exact λh=>absurd h (Int.lt_irrefl 0)
 .have hS:=aIy hs;have hv:((NQ (C.nd i).rep m).term=(C.nd i).rep.term/\(NQ (C.nd i).rep m).aK=(C.nd i).rep.aK)\/((C.nd i).rep.term<(NQ (C.nd i).rep m).term/\(NQ (C.nd i).rep m).aK = -1):=by
   unfold NQ;split
   .exact .inr ⟨by assumption,rfl⟩
   .exact .inl ⟨rfl,rfl⟩
  have hup:=(aB1 (C:=C) (i:=i) (m:=m) hid).up;have hxo:=hw.ok;have e1:=hS.t;have e2:=hS.v;have wf:∀ k,(dP i (NQ (C.nd i).rep m).term (NQ (C.nd i).rep m).aK ((C.nd i).rep.log.take k)).Wf:=λk =>
   aAc (by omega) (by rw [<-e1];exact hxo.kK) (by rw [<-e1];exact hxo.iD) (by rw [<-e2];exact hxo.y6) (by rw [<-e2];exact hxo.y7) (TG (IQ hwr.ok.log k) hup) (by rw [List.length_take];have:=hwr.ok.len;omega)
  rw [e1,e2] at full ⊢;rcases hl with rfl|⟨_,rfl⟩|rfl
  .have w:=wf (C.nd i).rep.log.length;rw [List.take_length] at w;exact a7C h hi (aWw h hi hup hv) w
  .have e3:=hS.src;have e4:(min ((aT (C.nd i).rep m).2.src - 1) ((C.nd i).rep.log.length:Int)).toNat=min (m.index.toNat+agree ((C.nd i).rep.log.drop m.index.toNat) m.aE) (C.nd i).rep.log.length:=by rw [e3];omega
   rw [e4];have e5:(C.nd i).rep.log.take (min (m.index.toNat+agree ((C.nd i).rep.log.drop m.index.toNat) m.aE) (C.nd i).rep.log.length)=(C.nd i).rep.log.take (m.index.toNat+agree ((C.nd i).rep.log.drop m.index.toNat) m.aE):=by
    rcases Nat.le_total (m.index.toNat+agree ((C.nd i).rep.log.drop m.index.toNat) m.aE) (C.nd i).rep.log.length with a|a
    .rw [Nat.min_eq_left a]
    .rw [Nat.min_eq_right a,List.take_length,List.take_of_length_le a]
   rw [e5];exact a7C h hi (aWx h hi hm hS) (wf _)
  .exact full
 .have h0:0<(aF (C.nd i).rep data).2.2.2.src:=hs;have e:(aF (C.nd i).rep data).1.term=(C.nd i).rep.term/\(aF (C.nd i).rep data).1.aK=(C.nd i).rep.aK/\(aF (C.nd i).rep data).2.2.2.src=(((C.nd i).rep.log.length+1:Nat):Int):=by
   revert h0
   unfold aF;split
   .exact λh=>absurd h (Int.lt_irrefl 0)
   split
   .exact λh=>absurd h (Int.lt_irrefl 0)
   split
   .exact λh=>absurd h (Int.lt_irrefl 0)
   .exact λ_=>⟨rfl,rfl,rfl⟩
  rcases hl with rfl|⟨_,rfl⟩|rfl
  .show ∃ C' g' A',a0g C g A i (dP i (aF (C.nd i).rep data).1.term (aF (C.nd i).rep data).1.aK _) C' g' A';rw [e.1,e.2.1];exact old
  .show ∃ C' g' A',a0g C g A i (dP i (aF (C.nd i).rep data).1.term (aF (C.nd i).rep data).1.aK ((C.nd i).rep.log.take (min ((aF (C.nd i).rep data).2.2.2.src - 1) _).toNat)) C' g' A';rw [e.1,e.2.1,e.2.2,List.take_of_length_le (by omega)];exact old
  .exact full
theorem a4C.keep{C C' i t v l}(h:a4C C i t v l)(e:(C'.nd i).rep=(C.nd i).rep)(hs:∀ m∈C.sent,m∈C'.sent):a4C C' i t v l:=by
 unfold a4C Hap at *;rw [e];rcases h with h|⟨x,hx,h⟩
 .exact .inl h
 .refine .inr ⟨x,?_,h⟩;rcases hx with a|⟨m,hm,a⟩|a
  .exact .inl a
  .exact .inr (.inl ⟨m,hs m hm,a⟩)
  .exact .inr (.inr a)
theorem a4C.of{C i x}(hx:Hap C i x){t v l}(h:aNu (C.nd i).rep x.1 x.2 t v l):a4C C i t v l :=
 h.imp id λh=>⟨x,hx,h⟩
end Go.Proofs.YtnlkemjhgdbfkaaGreatDoor
end

