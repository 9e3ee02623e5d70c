/-
 The conditions of the walks of some functions,one formula each;'B<f>_run' says that they suffice. The formulas are printed by a program;the kernel compares them with the functions' code.
-/
import Derived.Test.YtfijlibaeahlaaaGreatDoorKb5
import Derived.Lib.AppendZerosOnto
import Derived.Lib.Overlaps
import Derived.Laws.IdiomCopy
import Derived.Laws.Externs
import Derived.Test.YtfijlibaeahlaaaGreatDoorKb6
import Derived.MapKept
import Derived.Maps.RangeRun
import Derived.Test.YtfijlibaeahlaaaGreatDoorKb8
import Derived.Test.YtfijlibaeahlaaaGreatDoorKb9
import Derived.Test.YtfijlibaeahlaaaGreatDoorKb7
open Go.Proofs.Tryz
set_option linter.unusedVariables false
set_option linter.unusedSimpArgs false
section
namespace Go.Proofs.YtfijlibaeahlaaaGreatDoor
set_option maxRecDepth 100000
open Go.Vc
theorem aOM(bA bB:Nat)(C':FuncId)(aEL:Array Value):aH F.a0e #[aA bA bB,.func (.func C') aEL #[]] λW R Φ J=>
 ε W R Φ F.Ds #[aA bA bB,.int IntKind.u8 91,I 0] λe2 q=>∃ cX,e2=.returned (I cX)/\q λai aX=>bI λ(sw:Option Addr->Nat->Nat->Int->List Own->Y->Nat->Prop)=>(bT W ai aX (sw none 0 0 cX))/\∀ k7 iE bX n16 hY si gH,O si->sw k7 iE bX n16 hY si gH->π W hY si λiz=>∃ (tO:Bool),(decide (0<n16)=true->iz.cell? (Ξ bA (bB+1))=some (.bool tO))/\U (decide (0<n16) && !tO) (∀ iM cl,Ctx W iM (hY++cl) si->k6 prog C'=true/\Calls prog C' (Array.mk ((aEL.toList.append []).append [])) iM λJL kD=>∃ n27,JL=.returned (I n27)/\∃ kG mN,O mN/\Ctx W kD (kG++cl) mN/\∀ (fS : Nat) (lO:World) (iA:List Own),Ctx W lO (Own.blk fS [I n27] 3 :: kG++iA) mN->∃ D5 lq jX nI,Sem.run prog (builtin Builtin.append #[22,22] 22 #[false,false] #[.slice k7 iE bX,.slice (dB fS 0) 1 1]) lO=.ok (.value (.slice D5 lq jX)) nI/\∃ lQ mQ,O mQ/\Ctx W nI (lQ++iA) mQ/\V (n16 - 1)/\af W lQ mQ gH (sw D5 lq jX (n16 - 1))) (ε W hY si F.SX #[aA bA bB,Value.string (ByteArray.mk #[OfNat.ofNat 93])] λVa q=>Va=.returned (Value.tuple #[])/\q λrU rO=>π W rU rO λSI=>∃ a5d,SI.cell? (Ξ bA (bB+1))=some (.bool a5d)/\U a5d (∀ Ai kK, Ctx W Ai (rU++kK) rO->J (.slice none 0 0) Ai) (η W rU rO J (.slice k7 iE bX))):=aI {hV [0,1,4,5,6,17,30] with wrap:=[22],loops:=[(3,[(5,.one (.slice)),(6,.one (.int .i64))],[])] }
end Go.Proofs.YtfijlibaeahlaaaGreatDoor
end

section
namespace Go.Vc
theorem aHU{P:Program}{ats:Array TypeId}{ty:TypeId}{cs:Array Bool}{args:Array Value}{v:Value}{w w':World}(h:(Builtin.copy_ ats ty args).run P w=.ok v w'):Sem.run P (builtin Builtin.copy ats ty cs args) w=.ok (.value v) w':=by
 unfold builtin;simp only [Sem.run_bind,h,Result.andThen,Sem.run_pure]
theorem aPx{P:Program}{w:World}{ts lK ty t u:TypeId}{i:TypeInfo}{p:Option Addr}{n c:Nat}{x:Value}(h1:P.underlying ts=some (.slice t))(h2:P.underlying lK=some (.slice u))(hi:P.info? t=some i):
  (Builtin.append_ #[ts,lK] ty #[.slice p n c,x]).run P w=(Builtin.append_ #[ts,ts] ty #[.slice p n c,x]).run P w:=by
 simp [Builtin.append_,run_underlying h1,run_underlying h2,sizeOf,typeInfo,hi]
theorem aHT{P:Program}(w:World)(dT sT ty elem:TypeId){i:TypeInfo}(b o dLen dCap:Nat)(a:Addr)(sLen sCap:Nat)(cs:List Value)
  (hu:P.underlying dT=some (.slice elem)) (hi:P.info? elem=some i) (hn:cs.length=Nat.min sLen dLen*i.size)
  (hsrc:∀ j v,cs[j]? = some v->w.cell? (a.add j)=some v) (hc:∀ j,j<cs.length->(w.cell? ⟨b,o+j,none⟩).isSome=true) (hf:∀ j,j<cs.length->w.frozen? ⟨b,o+j,none⟩=false) (h1:∀ v∈cs,v.oneCell'=true) :
  (Builtin.copy_ #[dT,sT] ty #[.slice (some ⟨b,o,none⟩) dLen dCap,.slice (some a) sLen sCap]).run P w=.ok (Go.goInt (Nat.min sLen dLen)) (w.setCells b o cs):=by
 have hl:=run_loadCells_list (P:=P) w a cs hsrc;have hst:=run_storeCells_cells (P:=P) b o cs 0 w (by simpa using hc) (by simpa using hf) h1;rw [hn] at hl;simp [Builtin.copy_,run_underlying hu,Builtin.lenOf,Builtin.firstCells,sizeOf,typeInfo,hi,hl,hst]
theorem aYn(vs cs:List Value)(o:Nat)(h:o+vs.length<=cs.length):dM cs o vs=cs.take o++vs++cs.drop (o+vs.length):=by
 apply List.ext_getElem?;intro i;by_cases h1:i<o
 .rw [sO _ _ _ _ (.inl h1),aq,List.getElem?_append_left (by rw [List.length_take];omega),List.getElem?_take_of_lt h1]
 .by_cases h2:i<o+vs.length
  .obtain ⟨q,rfl⟩:∃ q,i=o+q:=⟨i - o,by omega⟩;rw [Aa _ _ _ _ (by omega) h,aq,List.getElem?_append_right (by rw [List.length_take];omega),List.getElem?_append_left (by rw [List.length_take];omega)]
   congr 1
   rw [List.length_take];omega
  .rw [sO _ _ _ _ (.inr (by omega)),List.getElem?_append_right (by rw [List.length_append,List.length_take];omega),List.getElem?_drop]
   congr 1
   rw [List.length_append,List.length_take];omega
section
variable {P:Program}{W w:World}{S:List Own}{Φ:Y}
theorem Ctx.Oz[O Φ]{p:Option Addr}{n cap:Nat}{cs:List Value}{t:TypeId}{size:Nat}(c:Ctx W w (.buf p n cap cs t size :: S) Φ){b:Nat}(hp:p=some ⟨b,0,none⟩){dT sT ty:TypeId}{kb:Array Bool}{i:TypeInfo}
  (ht:P.underlying dT=some (.slice t)) (hi:P.info? t=some i) (hs:i.size=size) (hpos:0<size) {q:Option Addr} {d x c1 m c2:Nat} {a:Addr} {news:List Value} (aWF:∃ o,q=some ⟨b,o,none⟩) (hq:0<x->q=some ⟨b,d*size,none⟩)
  (hd:d+x<=n) (hl:news.length=Nat.min m x*size) (hsrc:∀ j v,news[j]? = some v->w.cell? (a.add j)=some v) (h1:∀ u∈news,dJ u=true) :
  ∃ w',Sem.run P (builtin Builtin.copy #[dT,sT] ty kb #[.slice q x c1,.slice (some a) m c2]) w=.ok (.value (.int .i64 ((Nat.min m x:Nat):Int))) w'/\Ctx W w' (.buf p n cap (dM cs (d*size) news) t size :: S) Φ:=by
 subst hs;have Jo:∀ u∈news,u.oneCell'=true:=λu hu=>by have:=h1 u hu;cases u<;>simp_all [dJ,Value.oneCell']
 obtain ⟨bp,_,_⟩:=c.ry 0 rfl;rcases Nat.eq_zero_or_pos x with h0|h0
 .subst h0;have hnil:news=[]:=List.eq_nil_of_length_eq_zero (by rw [hl];simp);subst hnil;obtain ⟨o,rfl⟩:=aWF;exact ⟨w,aHU (aHT w dT sT ty t b o 0 c1 a m c2 [] ht hi hl hsrc (λj hj=>by simp at hj) (λj hj=>by simp at hj) (by simp)),c⟩
 .rw [hq h0];have hle:Nat.min m x<=x:=Nat.min_le_right _ _;have hmul:Nat.min m x*i.size<=x*i.size:=Nat.mul_le_mul_right _ hle;have hnd:(d+x)*i.size<=n*i.size:=Nat.mul_le_mul_right _ hd;rw [Nat.add_mul] at hnd;have hn0:0<x*i.size:=Nat.mul_pos h0 hpos;obtain ⟨b',hb',_,hcell⟩:=c.vD 0 rfl (by omega);rw [hp] at hb';cases hb';have FQ:∀ j,(hj:j<news.length)->w.cell? ⟨b,d*i.size+j,none⟩=some (cs[d*i.size+j]'(by omega))/\w.frozen? ⟨b,d*i.size+j,none⟩=false:=λj hj=>hcell _ _ (List.getElem?_eq_getElem _)
  refine ⟨_,aHU (aHT w dT sT ty t b (d*i.size) x c1 a m c2 news ht hi hl hsrc (λj hj=>by rw [(FQ j hj).1];rfl) (λj hj=>(FQ j hj).2) Jo),?_⟩;exact c.F1 0 rfl hp (by omega) (by omega) rfl
theorem Ctx.aUu[O Φ]{p:Option Addr}{n cap:Nat}{cs:List Value}{t:TypeId}{size:Nat}(c:Ctx W w (.buf p n cap cs t size :: S) Φ)(h0:0<cs.length){m:Nat}(hm:n<=m)(a8L:m<=cap):
  ∃ ex,ex.length=(m - n)*size/\Ctx W w (.buf p m cap (cs++ex) t size :: S) Φ:=by
 obtain ⟨b,cur,hp,hb,om,hnc,hcm,bp,hl⟩:=c.UY 0 rfl h0;have hmul:m*size<=cap*size:=Nat.mul_le_mul_right _ a8L;have adF:n*size<=m*size:=Nat.mul_le_mul_right _ hm;have hsub:(m - n)*size=m*size - n*size:=Nat.sub_mul _ _ _;have hex:cs++(cur.drop (n*size)).take ((m - n)*size)=cur.take (m*size):=by
  rw [<-om,show m*size=n*size+(m - n)*size by omega,List.take_add]
 refine ⟨(cur.drop (n*size)).take ((m - n)*size),by rw [List.length_take,List.length_drop];omega,?_⟩;refine c.o8 (k:=0) (o':=.buf p m cap (cs++(cur.drop (n*size)).take ((m - n)*size)) t size) rfl (bD.refl _ _) (λx hx=>.inl (by subst hp;exact hx)) (by subst hp;simp [Own.dom]) ?_;refine ⟨by rw [hex,List.length_take];omega,.inr ⟨b,cap,cur.toArray,by rw [hp],Nat.zero_le _,hb,a8L,hcm,by simp [bp],?_⟩⟩;rw [hex]
theorem Ctx.aVE[O Φ]{p:Option Addr}{n cap:Nat}{cs:List Value}{t:TypeId}{size bytes:Nat}(c:Ctx W w (.buf p n cap cs t size :: S) Φ){b:Nat}(hp:p=some ⟨b,0,none⟩){ts tn ty:TypeId}{kb:Array Bool}(hb:tL P ts t size bytes=true)(htn:P.underlying tn=some (.int .i64))
  (j k:Nat) (h0:0<k) (hj:j<=n) (hg:cap<j+k) (hk:j+k<=1000000) (hpos:0<size) (hbytes:bytes<=1000) :
  ∃ g cap' w' zs,Sem.run P (builtin Builtin.append #[ts,tn] ty kb #[.slice p j cap,.int .i64 (k:Int)]) w=.ok (.value (.slice (some ⟨g,0,none⟩) (j+k) cap')) w'/\j+k<=cap'/\zs.length=k*size /\
   Ctx W w' (.buf (some ⟨g,0,none⟩) (j+k) cap' (cs.take (j*size)++zs) t size :: .buf p n cap cs t size :: S) Φ:=by
 obtain ⟨i,z,e1,e2,eE,bR,fY,fP⟩:=wS hb;subst bR;obtain ⟨bp,hnc,ad8⟩:=c.ry 0 rfl;have hjn:j*i.size<=n*i.size:=Nat.mul_le_mul_right _ hj;have hkb:k*i.bytes<=1000000*1000:=Nat.mul_le_mul (by omega) (by omega);have adB:(j+k)*i.bytes<=1000000*1000:=Nat.mul_le_mul hk (by omega);have hold:(Builtin.firstCells i.size j (.slice p j cap)).run P w.drew=.ok (cs.take (j*i.size)).toArray w.drew:=by
  rw [hp];refine run_firstCells_some (w:=w.drew) i.size j ⟨b,0,none⟩ j cap (cs.take (j*i.size)) (by rw [List.length_take];omega) λq v hq=>?_;have hlt:q<j*i.size:=by have:=(List.getElem?_eq_some_iff.1 hq).1;rw [List.length_take] at this;omega
  rw [List.getElem?_take_of_lt hlt] at hq;rw [addr_add,Nat.zero_add];exact c.UZ 0 rfl hp hq
 have hr:=Go.Lib.run_append_grow_zeros (P:=P) w ts tn ty t i z .i64 .i64 e1 htn e2 eE p j cap (cs.take (j*i.size)) hold k h0 hpos hg (by omega) (by omega)
  (growslice_fits hg (by omega))
 have hge:=grownCap_ge w (j+k) cap t;have hcm:grownCap w (j+k) cap t<=maxLen:=grownCap_le_maxLen w (j+k) cap t (by simp only [maxLen];omega);obtain ⟨zs,hzs⟩:∃ zs:List Value,zs=(Builtin.zeroCells z.cells k).toList:=⟨_,rfl⟩;have hzl:zs.length=k*i.size:=by rw [hzs,Array.length_toList,size_zeroCells,fY]
 have h:=(c.zF t i.size).o8 (k:=0) (o':=.buf (some ⟨w.heap.size,0,none⟩) (j+k) (grownCap w (j+k) cap t) (cs.take (j*i.size)++zs) t i.size) rfl
  (((bD.refl _ _).drewN 1).alloc (.cells ((cs.take (j*i.size)).toArray++Builtin.zeroCells z.cells k++Builtin.zeroCells z.cells (grownCap w (j+k) cap t - (j+k))) t)) (by simp [Own.dom]) (by simp [Own.dom])
  ⟨by rw [List.length_append,hzl,List.length_take,Nat.add_mul];omega,.inr ⟨w.heap.size,_,_,rfl,Nat.zero_le _,KJ w.drew _,hge,hcm,by
   simp only [Array.size_append,size_zeroCells,fY,List.size_toArray,List.length_take];rw [Nat.min_eq_left (by omega),<-Nat.add_mul,<-Nat.add_mul]
   congr 1
   omega,by
   have el:((cs.take (j*i.size)).toArray++Builtin.zeroCells z.cells k).toList=cs.take (j*i.size)++zs:=by rw [hzs,Array.toList_append]
   have acY:(cs.take (j*i.size)++zs).length=(j+k)*i.size:=by rw [List.length_append,hzl,List.length_take,Nat.add_mul];omega
   rw [Array.toList_append,el,List.take_append_of_le_length (by omega),List.take_of_length_le (by omega)]⟩⟩
 exact ⟨_,_,_,zs,r7 hr,hge,hzl,h⟩
end
theorem Mm(b sz k c:Nat)(h:k<c):aV (some ⟨b,0,none⟩) sz k c=some ⟨b,k*sz,none⟩:=by
 unfold aV;rw [if_neg (by omega)];show some ((⟨b,0,none⟩:Addr).add (k*sz))=_;rw [addr_add,Nat.zero_add]
theorem Zb(b sz k c:Nat):∃ o,aV (some ⟨b,0,none⟩) sz k c=some ⟨b,o,none⟩:=by
 unfold aV;split
 .exact ⟨0,rfl⟩
 .refine ⟨k*sz,?_⟩;show some ((⟨b,0,none⟩:Addr).add (k*sz))=_;rw [addr_add,Nat.zero_add]
theorem aZB(b sz c:Nat):aV (some ⟨b,0,none⟩) sz 0 c=some ⟨b,0,none⟩:=by
 unfold aV;split
 .rfl
 .show some ((⟨b,0,none⟩:Addr).add (0*sz))=_;rw [addr_add,Nat.zero_mul]
theorem Rb(a b c v:List Value)(h:v.length=b.length):dM (a++b++c) a.length v=a++v++c:=by
 rw [aYn _ _ _ (by simp only [List.length_append];omega),aq a b c,List.take_left' rfl,h,<-List.length_append,<-aq,List.drop_left' rfl]
structure Nv(P:Program)(sz:Nat)(ts lK ti t:TypeId)(bytes:Nat)(x4:FuncId):Prop where
 app:tL P ts t sz bytes=true
 var:P.underlying lK=some (.slice t)
 int:P.underlying ti=some (.int .i64)
 aQG:bytes<=1000
 pos:0<sz
 over:∃ fn Zk,P.funcs[x4]? = some fn/\(fn.name == "runtime.NumGoroutine")=false/\fn.body.isNone=true/\(Extern.findNext fn).isNone=true/\Extern.find fn=some (Extern.SlicesOverlaps.overlaps #[lK,lK] #[Zk])
def Fb(P:Program)(sz:Nat)(ts lK ti:TypeId)(x4 fr:FuncId)(au:Option Addr)(ψ Θ:Nat)(i:Int)(jM:Option Addr)(Λ jL:Nat)(W:World)(R:List Own)(Φ:Y)(J:Value->World->Prop):Prop :=
 (0<=i/\i<=(↑ψ:Int)/\ψ<=Θ)/\U (decide ((↑Λ:Int)=0)) (∀ (w0:World) (ν:List Own),Ctx W w0 (R++ν) Φ->J (Value.slice au ψ Θ) w0) (U (decide (i=(↑ψ :
 Int))) (∀ (w2:World) (eT:List Own),Ctx W w2 (R++eT) Φ->∃ (aC:Option Addr),∃ (bY:Nat),∃ (bl:Nat),∃ (gC:World),Sem.run P (builtin Builtin.append #[ts,lK] ts
 #[false,false] #[Value.slice au ψ Θ,Value.slice jM Λ jL]) w2=Result.ok (Next.value (Value.slice aC bY bl)) gC/\∃ (bV:List Own),∃ (gQ:Y),O gQ/\Ctx W gC (bV ++
 eT) gQ/\∀ (rD:World) (mX:List Own),Ctx W rD (bV++mX) gQ->J (Value.slice aC bY bl) rD) (V ((↑ψ:Int)+(↑Λ:Int))/\U (decide ((↑Θ:Int)<(↑ψ:Int)+(↑Λ :
 Int))) ((0<=i/\i<=(↑Θ:Int))/\V ((↑ψ:Int)+(↑Λ:Int))/\V ((↑ψ:Int)+(↑Λ:Int) - i)/\∀ (cP:World) (gr:List Own),Ctx W cP (R++gr) Φ->∃ (ia :
 Option Addr),∃ (bX:Nat),∃ (bO:Nat),∃ (je:World),Sem.run P (builtin Builtin.append #[ts,ti] ts #[false,false] #[Value.slice (aV au sz 0 Θ) i.toNat Θ,Value.int
 IntKind.i64 ((↑ψ:Int)+(↑Λ:Int) - i)]) cP=Result.ok (Next.value (Value.slice ia bX bO)) je/\∃ (ct:List Own),∃ (cq:Y),O cq/\Ctx W je (ct++gr) cq
 /\ (0<=i/\i<=(↑bX:Int)/\bX<=bO)/\∀ (iz:World) (tC:List Own),Ctx W iz (ct++tC) cq->∃ (n22:Int),∃ (iM:World),Sem.run P (builtin Builtin.copy #[ts,lK]
 ti #[false,false] #[Value.slice (aV ia sz i.toNat bO) (bX - i.toNat) (bO - i.toNat),Value.slice jM Λ jL]) iz=Result.ok (Next.value (Value.int IntKind.i64 n22)) iM/\∃
 (cl:List Own),∃ (hM:Y),O hM/\Ctx W iM (cl++tC) hM/\∃ (fU:List Own),∃ (gm:Y),O gm/\(∀ (oC:World) (pg:List Own),Ctx W oC (cl++pg)
 hM->Ctx W oC (fU++pg) gm)/\V (i+(↑Λ:Int))/\(0<=i/\i<=(↑ψ:Int)/\ψ<=Θ)/\(0<=i+(↑Λ:Int)/\i+(↑Λ:Int)<=(↑bX:Int)/\bX<=bO)/\∀ (lN :
 World) (eU:List Own),Ctx W lN (cl++eU) hM->∃ (n32:Int),∃ (jN:World),Sem.run P (builtin Builtin.copy #[ts,ts] ti #[false,false] #[Value.slice (aV ia sz (i +
 (↑Λ:Int)).toNat bO) (bX - (i+(↑Λ:Int)).toNat) (bO - (i+(↑Λ:Int)).toNat),Value.slice (aV au sz i.toNat Θ) (ψ - i.toNat) (Θ - i.toNat)]) lN=Result.ok
 (Next.value (Value.int IntKind.i64 n32)) jN/\∃ (kH:List Own),∃ (nO:Y),O nO/\Ctx W jN (kH++eU) nO/\∀ (nI:World) (lQ:List Own),Ctx W nI (kH++lQ)
 nO->J (Value.slice ia bX bO) nI) (V ((↑ψ:Int)+(↑Λ:Int))/\(0<=(↑ψ:Int)+(↑Λ:Int)/\(↑ψ:Int)+(↑Λ:Int)<=(↑Θ:Int))/\V (i+(↑Λ:Int))/\(0<=i
 + (↑Λ:Int)/\i+(↑Λ:Int)<=(↑((↑ψ:Int)+(↑Λ:Int)).toNat:Int)/\((↑ψ:Int)+(↑Λ:Int)).toNat<=Θ)/\∀ (jO:World) (jR:List Own),Ctx W jO (R++jR) Φ->∃
 (c40:Bool),∃ (nJ:World),Sem.run P (callFunc x4 #[Value.slice jM Λ jL,Value.slice (aV (aV au sz 0 Θ) sz (i+(↑Λ:Int)).toNat Θ) (((↑ψ:Int)+(↑Λ :
 Int)).toNat - (i+(↑Λ:Int)).toNat) (Θ - (i+(↑Λ:Int)).toNat)]) jO=Result.ok (Next.value (Value.bool c40)) nJ/\∃ (gu:List Own),∃ (iQ:Y),O iQ/\Ctx W nJ
 (gu++jR) iQ/\U (!c40) (∃ (e6:List Own),∃ (e5:Y),O e5/\(∀ (y3:World) (lR:List Own),Ctx W y3 (gu++lR) iQ->Ctx W y3 (e6++lR) e5)/\V (i +
 (↑Λ:Int))/\(0<=i/\i<=(↑((↑ψ:Int)+(↑Λ:Int)).toNat:Int)/\((↑ψ:Int)+(↑Λ:Int)).toNat<=Θ)/\(0<=i+(↑Λ:Int)/\i+(↑Λ:Int)<=(↑((↑ψ:Int)+(↑Λ :
 Int)).toNat:Int)/\((↑ψ:Int)+(↑Λ:Int)).toNat<=Θ)/\∀ (jf:World) (gD:List Own),Ctx W jf (gu++gD) iQ->∃ (gN:Int),∃ (rH:World),Sem.run P (builtin
 Builtin.copy #[ts,ts] ti #[false,false] #[Value.slice (aV (aV au sz 0 Θ) sz (i+(↑Λ:Int)).toNat Θ) (((↑ψ:Int)+(↑Λ:Int)).toNat - (i+(↑Λ:Int)).toNat) (Θ
 - (i+(↑Λ:Int)).toNat),Value.slice (aV (aV au sz 0 Θ) sz i.toNat Θ) (((↑ψ:Int)+(↑Λ:Int)).toNat - i.toNat) (Θ - i.toNat)]) jf=Result.ok (Next.value
 (Value.int IntKind.i64 gN)) rH/\∃ (j4:List Own),∃ (gP:Y),O gP/\Ctx W rH (j4++gD) gP/\(0<=i/\i<=(↑((↑ψ:Int)+(↑Λ:Int)).toNat:Int)/\((↑ψ:Int)
 + (↑Λ:Int)).toNat<=Θ)/\∀ (pR:World) (gv:List Own),Ctx W pR (j4++gv) gP->∃ (q9:Int),∃ (oD:World),Sem.run P (builtin Builtin.copy #[ts,lK] ti #[false,
 false] #[Value.slice (aV (aV au sz 0 Θ) sz i.toNat Θ) (((↑ψ:Int)+(↑Λ:Int)).toNat - i.toNat) (Θ - i.toNat),Value.slice jM Λ jL]) pR=Result.ok (Next.value
 (Value.int IntKind.i64 q9)) oD/\∃ (gT:List Own),∃ (hO:Y),O hO/\Ctx W oD (gT++gv) hO/\∀ (uc:World) (OI:List Own),Ctx W uc (gT++OI) hO->J
 (Value.slice (aV au sz 0 Θ) ((↑ψ:Int)+(↑Λ:Int)).toNat Θ) uc) ((0<=(↑ψ:Int)/\(↑ψ:Int)<=(↑((↑ψ:Int)+(↑Λ:Int)).toNat:Int)/\((↑ψ:Int)+(↑Λ :
 Int)).toNat<=Θ)/\∀ (rI:World) (mb:List Own),Ctx W rI (gu++mb) iQ->∃ (n64:Int),∃ (wE:World),Sem.run P (builtin Builtin.copy #[ts,lK] ti #[false,false]
 #[Value.slice (aV (aV au sz 0 Θ) sz (↑ψ:Int).toNat Θ) (((↑ψ:Int)+(↑Λ:Int)).toNat - (↑ψ:Int).toNat) (Θ - (↑ψ:Int).toNat),Value.slice jM Λ jL]) rI =
 Result.ok (Next.value (Value.int IntKind.i64 n64)) wE/\∃ (kL:List Own),∃ (nP:Y),O nP/\Ctx W wE (kL++mb) nP/\(0<=i/\i<=(↑((↑ψ:Int)+(↑Λ:Int)).toNat
 : Int)/\((↑ψ:Int)+(↑Λ:Int)).toNat<=Θ)/\∀ (aKX:World) (er:List Own),Ctx W aKX (kL++er) nP->Calls P fr #[Value.slice (aV (aV au sz 0 Θ) sz i.toNat Θ)
 (((↑ψ:Int)+(↑Λ:Int)).toNat - i.toNat) (Θ - i.toNat),Value.int IntKind.i64 (↑Λ:Int)] aKX λ(JX:Ending) (Gu:World)=>JX=Ending.returned (Value.tuple #[])/\∃
 (oM:List Own),∃ (mS:Y),O mS/\Ctx W Gu (oM++er) mS/\∀ (Al:World) (oN:List Own),Ctx W Al (oM++oN) mS->J (Value.slice (aV au sz 0 Θ) ((↑ψ :
 Int)+(↑Λ:Int)).toNat Θ) Al))))
theorem aYg{P:Program}{sz:Nat}{ts lK ti t:TypeId}{bytes:Nat}{x4:FuncId}(hF:Nv P sz ts lK ti t bytes x4)(w:World)(a b:Addr)(la ca lb cb:Nat)(hne:a.block≠b.block)(tA tB:TypeId)(kA kB:Nat)
  (hsa:w.shape? a.block=some (tA,kA)) (hsb:w.shape? b.block=some (tB,kB)) (hkB:kB≠0) (hfa:w.frozen? a=false) (hfe:w.frozen? { block:=a.block,off:=kA }=false) :
  Sem.run P (callFunc x4 #[.slice (some a) la ca,.slice (some b) lb cb]) w=.ok (.value (.bool false)) w:=by
 obtain ⟨fn,Zk,h1,h2,h3,h4,h5⟩:=hF.over;obtain ⟨i,z,e1,e2,eE,bR,fY,fP⟩:=wS hF.app;have hs:∀ w,(Go.sizeOf t).run P w=.ok i.size w:=λw=>run_sizeOf e2;rw [run_callFunc_extern h1 h2 h3 (by simpa using h4) h5,Go.Lib.run_overlaps_apart w lK Zk t hF.var i.size hs a b la ca lb cb hne tA tB kA kB hsa hsb hkB hfa hfe];rfl
section
variable {P:Program}{W w:World}{S:List Own}{Φ:Y}
set_option maxHeartbeats 4000000 in
theorem a8q[O Φ]{sz:Nat}{ts lK ti t:TypeId}{bytes:Nat}{x4 fr:FuncId}(hF:Nv P sz ts lK ti t bytes x4){p:Option Addr}{n cap:Nat}{cs:List Value}{i:Nat}(hi:i<=n){fk:Nat}{tvb:TypeId}{vs:List Value}
  (hvl:vs.length=sz) (WB:∀ u∈vs,dJ u=true) (h1c:∀ u∈cs,dJ u=true) (hn:n<=100000) (hnc:n<=cap) (hcm:cap<=maxLen) (hp:0<n->∃ b,p=some ⟨b,0,none⟩) (bp:cs.length=n*sz) {J:Value->World->Prop}
  (zS:∀ p' cap' w G,Ctx W w ((.buf p' (n+1) cap' (cs.take (i*sz)++vs++cs.drop (i*sz)) t sz :: .blk fk vs tvb :: S)++G) Φ->J (.slice p' (n+1) cap') w) :
  Fb P sz ts lK ti x4 fr p n cap i (some ⟨fk,0,none⟩) 1 1 W (.buf p n cap cs t sz :: .blk fk vs tvb :: S) Φ J:=by
 obtain ⟨fc,z,e1,e2,eE,bR,fY,fP⟩:=wS hF.app;have hpos:=hF.pos;have aVa:=hF.aQG;have hin:i*sz<=n*sz:=Nat.mul_le_mul_right _ hi;have hby:(n+1)*fc.bytes<=200000*1000:=Nat.mul_le_mul (by omega) (by omega);have WM:(cs.take (i*sz)).length=i*sz:=by rw [List.length_take];omega
 have WD:(cs.drop (i*sz)).length=(n - i)*sz:=by rw [List.length_drop,bp,Nat.sub_mul]
 have KE:∀ a b:Nat,a<=b->Nat.min a b=a:=λa b h=>Nat.min_eq_left h;have hm2:∀ a b:Nat,b<=a->Nat.min a b=b:=λa b h=>Nat.min_eq_right h;unfold Fb;refine ⟨⟨by omega,by omega,by omega⟩,U.intro (λh=>absurd (aD h) (by omega)) (λ_=>U.intro (λhin=>λw G B=>?_) (λhin=>⟨by unfold V;omega,?_⟩))⟩
 .have hin:i=n:=by have:=aD hin;omega
  obtain ⟨p',cap',w',h2,c'⟩:=B.append 0 rfl (ty:=ts) e1 e2 eE bR fY (a:=⟨fk,0,none⟩) (m:=1) (c2:=1) (news:=vs) (by omega) (by rw [hvl,Nat.one_mul]) (λj u hj=>by rw [addr_add,Nat.zero_add];exact B.get 1 rfl hj) WB (by omega) (by omega);refine ⟨p',n+1,cap',w',r7 ((aPx e1 hF.var e2).trans h2),.buf p' (n+1) cap' (cs++vs) t sz :: .blk fk vs tvb :: S,Φ,γ,c',λw G B=>zS p' cap' w G ?_⟩;rw [hin,List.take_of_length_le (by omega),List.drop_of_length_le (by omega),List.append_nil]
  exact B
 have hlt:i<n:=by have:=aO hin;omega
 obtain ⟨b,rfl⟩:=hp (by omega);have t1:((i:Int)).toNat=i:=Int.toNat_natCast i;have t2:((n:Int)+((1:Nat):Int)).toNat=n+1:=by omega
 have t3:((i:Int)+((1:Nat):Int)).toNat=i+1:=by omega
 have t4:(n:Int)+((1:Nat):Int) - (i:Int)=((n+1 - i:Nat):Int):=by omega
 simp only [t1,t2,t3,t4,aZB];refine U.intro (λhg=>⟨⟨by omega,by omega⟩,by unfold V;omega,by unfold V;omega,λw G B=>?_⟩) (λhg=>⟨by unfold V;omega,⟨by omega,by have:=aO hg;omega⟩,by unfold V;omega,⟨by omega,by omega,by have:=aO hg;omega⟩,λw G B=>?_⟩)
 ·-- a new slice
  have hg:cap<n+1:=by have:=aD hg;omega
  obtain ⟨g,cap',w',zs,hrun,hge,hzl,bG⟩:=B.aVE rfl (ty:=ts) (kb:=#[false,false]) hF.app hF.int i (n+1 - i) (by omega) (by omega) (by omega) (by omega) hpos aVa;have zL:i+(n+1 - i)=n+1:=by omega
  rw [zL] at hrun hge bG;refine ⟨_,_,_,w',hrun,.buf (some ⟨g,0,none⟩) (n+1) cap' (cs.take (i*sz)++zs) t sz :: .buf (some ⟨b,0,none⟩) n cap cs t sz :: .blk fk vs tvb :: S,Φ,γ,bG,⟨by omega,by omega,by omega⟩,λw G B=>?_⟩;clear bG hrun;have aUv:zs=zs.take sz++zs.drop sz:=(List.take_append_drop _ _).symm;have adL:(zs.take sz).length=sz:=by
   rw [List.length_take,hzl];have:1*sz<=(n+1 - i)*sz:=Nat.mul_le_mul_right _ (by omega);omega
  have adM:(zs.drop sz).length=(n - i)*sz:=by rw [List.length_drop,hzl,show n+1 - i=(n - i)+1 by omega,Nat.add_mul];omega
  have c1:dM (cs.take (i*sz)++zs) (i*sz) vs=cs.take (i*sz)++vs++zs.drop sz:=by
   have:=Rb (cs.take (i*sz)) (zs.take sz) (zs.drop sz) vs (by omega);rw [WM,aq _ (zs.take sz),<-aUv] at this;exact this
  have c2:dM (cs.take (i*sz)++vs++zs.drop sz) ((i+1)*sz) (cs.drop (i*sz))=cs.take (i*sz)++vs++cs.drop (i*sz):=by
   have:=Rb (cs.take (i*sz)++vs) (zs.drop sz) [] (cs.drop (i*sz)) (by omega);rw [List.append_nil,List.append_nil,List.length_append,WM,hvl] at this;rw [Nat.add_mul,Nat.one_mul];exact this
  obtain ⟨w2,iu,bH⟩:=B.Oz rfl (sT:=lK) (ty:=ti) (kb:=#[false,false]) e1 e2 bR hpos (q:=aV (some ⟨g,0,none⟩) sz i cap') (d:=i) (x:=n+1 - i) (c1:=cap' - i) (m:=1) (c2:=1) (a:=⟨fk,0,none⟩) (news:=vs) (Zb _ _ _ _) (λ_=>Mm _ _ _ _ (by omega)) (by omega)
   (by rw [hvl,KE _ _ (by omega),Nat.one_mul]) (λj u hj=>by rw [addr_add,Nat.zero_add];exact B.get 2 rfl hj) WB
  rw [c1] at bH;refine ⟨_,w2,iu,.buf (some ⟨g,0,none⟩) (n+1) cap' (cs.take (i*sz)++vs++zs.drop sz) t sz :: .buf (some ⟨b,0,none⟩) n cap cs t sz :: .blk fk vs tvb :: S,Φ,γ,bH,_,Φ,γ,λw G B=>B,by unfold V;omega,⟨by omega,by omega,by omega⟩,⟨by omega,by omega,by omega⟩,λw G B=>?_⟩;clear bH iu;obtain ⟨w3,Wr,cW⟩:=B.Oz rfl (sT:=ts) (ty:=ti) (kb:=#[false,false]) e1 e2 bR hpos (q:=aV (some ⟨g,0,none⟩) sz (i+1) cap') (d:=i+1) (x:=n+1 - (i+1)) (c1:=cap' - (i+1)) (m:=n - i) (c2:=cap - i) (a:=⟨b,i*sz,none⟩) (news:=cs.drop (i*sz)) (Zb _ _ _ _) (λ_=>Mm _ _ _ _ (by omega)) (by omega)
   (by rw [WD,KE _ _ (by omega)]) (λj u hj=>by rw [List.getElem?_drop] at hj;rw [addr_add];exact B.UZ 1 rfl rfl hj) (λu hu=>h1c u (List.mem_of_mem_drop hu))
  rw [c2] at cW;rw [Mm b sz i cap (by omega)];refine ⟨_,w3,Wr,.buf (some ⟨g,0,none⟩) (n+1) cap' (cs.take (i*sz)++vs++cs.drop (i*sz)) t sz :: .buf (some ⟨b,0,none⟩) n cap cs t sz :: .blk fk vs tvb :: S,Φ,γ,cW,λw G B=>zS _ _ w G ?_⟩;exact B.sub (List.Sublist.cons_cons _ (List.sublist_cons_self _ _))
 ·-- in place
  have hg:n+1<=cap:=by have:=aO hg;omega
  have h0:0<cs.length:=by rw [bp];exact Nat.mul_pos (by omega) hpos
  obtain ⟨b',cur,hb',a7r,_,_,_,aVg,_⟩:=B.UY 0 rfl h0;cases hb';have QE:=B.blk 1 rfl;have hne:fk≠b:=λe=>by
   have:=B.nodup;subst e;simp [dom,Own.dom] at this
  obtain ⟨o2,eF⟩:=Zb b sz (i+1) cap;have hov:=aYg hF w ⟨fk,0,none⟩ ⟨b,o2,none⟩ 1 1 (n+1 - (i+1)) (cap - (i+1)) hne tvb t vs.length cur.length (by have:=QE;unfold cj at this;simp [World.shape?,this]) (by have:=a7r;unfold cj at this;simp [World.shape?,this])
   (by rw [aVg];exact Nat.ne_of_gt (Nat.mul_pos (by omega) hpos)) (QE.frozen 0) (QE.frozen _)
  rw [eF];refine ⟨_,w,hov,.buf (some ⟨b,0,none⟩) n cap cs t sz :: .blk fk vs tvb :: S,Φ,γ,B,U.intro (λ_=>⟨_,Φ,γ,λw G B=>B,by unfold V;omega,⟨by omega,by omega,by omega⟩,⟨by omega,by omega,by omega⟩,λw G B=>?_⟩) (λh=>by cases h)⟩;clear hov a7r QE;obtain ⟨ex,hex,bG⟩:=B.aUu h0 (m:=n+1) (by omega) hg;rw [show n+1 - n=1 by omega,Nat.one_mul] at hex;have q4:(cs++ex).length=(n+1)*sz:=by rw [List.length_append,bp,hex,Nat.add_mul,Nat.one_mul]
  have hi1:(i+1)*sz<=n*sz:=Nat.mul_le_mul_right _ (by omega);have aUb:(cs++ex).take ((i+1)*sz)=cs.take (i*sz)++(cs.drop (i*sz)).take sz:=by
   rw [List.take_append_of_le_length (by omega),Nat.add_mul,Nat.one_mul,List.take_add]
  have c1:dM (cs++ex) ((i+1)*sz) (cs.drop (i*sz))=cs.take (i*sz)++(cs.drop (i*sz)).take sz++cs.drop (i*sz):=by
   have hX:((cs++ex).take ((i+1)*sz)).length=(i+1)*sz:=by rw [List.length_take,q4,Nat.add_mul n];omega
   have fJ:((cs++ex).drop ((i+1)*sz)).length=(n - i)*sz:=by rw [List.length_drop,q4,<-Nat.sub_mul];congr 1;omega
   have:=Rb ((cs++ex).take ((i+1)*sz)) ((cs++ex).drop ((i+1)*sz)) [] (cs.drop (i*sz)) (by omega);rw [List.append_nil,List.append_nil,List.take_append_drop,hX,aUb] at this;exact this
  have c2:dM (cs.take (i*sz)++(cs.drop (i*sz)).take sz++cs.drop (i*sz)) (i*sz) vs=cs.take (i*sz)++vs++cs.drop (i*sz):=by
   have fJ:((cs.drop (i*sz)).take sz).length=sz:=by
    rw [List.length_take,WD];have:1*sz<=(n - i)*sz:=Nat.mul_le_mul_right _ (by omega);omega
   have:=Rb (cs.take (i*sz)) ((cs.drop (i*sz)).take sz) (cs.drop (i*sz)) vs (by omega);rw [WM] at this;exact this
  obtain ⟨w2,iu,bH⟩:=bG.Oz rfl (sT:=ts) (ty:=ti) (kb:=#[false,false]) e1 e2 bR hpos (q:=some ⟨b,o2,none⟩) (d:=i+1) (x:=n+1 - (i+1)) (c1:=cap - (i+1)) (m:=n+1 - i) (c2:=cap - i) (a:=⟨b,i*sz,none⟩) (news:=cs.drop (i*sz)) ⟨o2,rfl⟩ (λ_=>by rw [<-eF];exact Mm _ _ _ _ (by omega)) (by omega)
   (by rw [WD,hm2 _ _ (by omega)];congr 1;omega) (λj u hj=>by
    rw [List.getElem?_drop] at hj;rw [addr_add];exact bG.UZ 0 rfl rfl (by rw [List.getElem?_append_left (List.getElem?_eq_some_iff.1 hj).1];exact hj)) (λu hu=>h1c u (List.mem_of_mem_drop hu))
  rw [c1] at bH;rw [Mm b sz i cap (by omega)];refine ⟨_,w2,iu,.buf (some ⟨b,0,none⟩) (n+1) cap (cs.take (i*sz)++(cs.drop (i*sz)).take sz++cs.drop (i*sz)) t sz :: .blk fk vs tvb :: S,Φ,γ,bH,⟨by omega,by omega,by omega⟩,λw G B=>?_⟩;clear bH iu bG;obtain ⟨w3,Wr,cW⟩:=B.Oz rfl (sT:=lK) (ty:=ti) (kb:=#[false,false]) e1 e2 bR hpos (q:=some ⟨b,i*sz,none⟩) (d:=i) (x:=n+1 - i) (c1:=cap - i) (m:=1) (c2:=1) (a:=⟨fk,0,none⟩) (news:=vs) ⟨_,rfl⟩ (λ_=>rfl) (by omega)
   (by rw [hvl,KE _ _ (by omega),Nat.one_mul]) (λj u hj=>by rw [addr_add,Nat.zero_add];exact B.get 1 rfl hj) WB
  rw [c2] at cW;exact ⟨_,w3,Wr,.buf (some ⟨b,0,none⟩) (n+1) cap (cs.take (i*sz)++vs++cs.drop (i*sz)) t sz :: .blk fk vs tvb :: S,Φ,γ,cW,λw G B=>zS _ _ w G B⟩
end
section
variable {P:Program}{W w:World}{S:List Own}{Φ:Y}
end
structure a2L where
 key:Int × ByteArray
 val:Int
 born:Nat
abbrev Qh(k:Int × ByteArray):Value:=.agg #[.int .i64 k.1,.string k.2]
def a2L.m(e:a2L):MapEntry:=⟨Qh e.key,.int .i64 e.val,e.born⟩
structure aOJ(P:Program)(t k e:TypeId):Prop where
 map:P.underlying t=some (.map k e)
 str:∃ fs,P.underlying k=some (.struct fs)
 Ix:∀ b x w,(Instr.checkKey b 10000 k (Qh x)).run P w=.ok () w
 eq:∀ x y w,(Op.equal k (Qh x) (Qh y)).run P w=.ok (decide (x=y)) w
 zero:∀ w,(zeroValue e).run P w=.ok (.int .i64 0) w
section
variable {P:Program}{t k e:TypeId}(T:aOJ P t k e)
include T
omit T
theorem GH{α β:Type}{f:α->β}:∀ {l:List α},l.Pairwise (λa b=>f a≠f b)->∀ {a b:α},a∈l->b∈l->f a=f b->a=b
 | [],_,_,_,ha,_,_=>by cases ha
 | x :: l,h,a,b,ha,hb,e=>by
  obtain ⟨h1,h2⟩:=List.pairwise_cons.1 h;rcases List.mem_cons.1 ha with ea|ha
  .rcases List.mem_cons.1 hb with eb|hb
   .rw [ea,eb]
   .exact absurd (by rw [<-ea];exact e) (h1 b hb)
  .rcases List.mem_cons.1 hb with eb|hb
   .exact absurd (by rw [<-eb];exact e.symm) (h1 a ha)
   .exact GH h2 ha hb e
theorem a6u{α:Type}{p:α->Bool}:∀ {l:List α} {a:α},a∈l->p a=true->(∀ c∈l,p c=true->c=a)->∃ n,l.findIdx? p=some n/\l[n]? = some a
 | [],_,h,_,_=>by cases h
 | x :: l,a,h,hp,hu=>by
  rw [List.findIdx?_cons];by_cases hx:p x=true
  .rw [if_pos hx];exact ⟨0,rfl,by rw [hu x (by simp) hx];rfl⟩
  .rw [if_neg hx];rcases List.mem_cons.1 h with rfl|h
   .exact absurd hp hx
   .obtain ⟨n,h1,h2⟩:=a6u h hp λc hc=>hu c (by simp [hc]);exact ⟨n+1,by rw [h1];rfl,by simpa using h2⟩
include T
end
section
variable {P:Program}{W w:World}{Q R G:List Own}{Φ Ψ:Y}{f:FuncId}{args:Array Value}
end
variable {aB dm:Type}[DecidableEq aB]{kv:aB->Value}{cU:dm->Value}{z:dm}
structure dD(aB dm:Type) where
 key:aB
 val:dm
 born:Nat
def dD.m(kv:aB->Value)(cU:dm->Value)(e:dD aB dm):MapEntry:=⟨kv e.key,cU e.val,e.born⟩
def jU(kv:aB->Value)(cU:dm->Value)(es:List (dD aB dm))(clock:Nat):Obj:=.map (es.map (dD.m kv cU)).toArray clock
def jV(z:dm):List (dD aB dm)->aB->dm
 | [],_=>z
 | e :: es,k=>if k=e.key then e.val else jV z es k
def vJ(cU:dm->Value):List (dD aB dm)->aB->Nat->Option (Nat × Value)
 | [],_,_=>none
 | e :: es,k,i=>if k=e.key then some (i,cU e.val) else vJ cU es k (i+1)
structure HU(es:List (dD aB dm))(clock:Nat):Prop where
 keys:es.Pairwise λa b=>a.key≠b.key
 BM:es.Pairwise λa b=>a.born≠b.born
 lt:∀ e∈es,e.born<clock
structure yR(P:Program)(t k e:TypeId)(kv:aB->Value)(cU:dm->Value)(z:dm):Prop where
 map:P.underlying t=some (.map k e)
 find:∀ (x:aB) (es:List (dD aB dm)) w,(Instr.findKey k (kv x) (es.map (dD.m kv cU))).run P w=.ok (vJ cU es x 0) w
 Ix:∀ b x w,(Instr.checkKey b 10000 k (kv x)).run P w=.ok () w
 stays:∀ x w,(Instr.keyThatStays (kv x) (kv x)).run P w=.ok (kv x) w
 zero:∀ w,(zeroValue e).run P w=.ok (cU z) w
theorem W4:∀ {es:List (dD aB dm)} {k:aB} {i:Nat},vJ cU es k i=none->∀ e∈es,e.key≠k
 | [],_,_,_,e,he=>by cases he
 | x :: es,k,i,h,e,he=>by
  unfold vJ at h;split at h
  .cases h
  .rename_i hk;rcases List.mem_cons.1 he with rfl|he
   .exact λe=>hk e.symm
   .exact W4 h e he
theorem Pd:∀ {es:List (dD aB dm)} {k:aB},(∀ e∈es,e.key≠k)->jV z es k=z
 | [],_,_=>rfl
 | x :: es,k,h=>by
  unfold jV;rw [if_neg λe=>h x (by simp) e.symm];exact Pd λe he=>h e (by simp [he])
theorem W5:∀ {es:List (dD aB dm)} {k:aB} {i j:Nat} {v:Value},vJ cU es k i=some (j,v)->∃ n e,j=i+n/\es[n]? = some e/\e.key=k/\v=cU e.val/\jV z es k=e.val
 | [],_,_,_,_,h=>by cases h
 | x :: es,k,i,j,v,h=>by
  unfold vJ at h;split at h
  .rename_i hk;cases h;exact ⟨0,x,rfl,rfl,hk.symm,rfl,by unfold jV;rw [if_pos hk]⟩
  .rename_i hk;obtain ⟨n,e,h1,h2,h3,h4,h5⟩:=W5 h;exact ⟨n+1,e,by omega,by simpa using h2,h3,h4,by unfold jV;rw [if_neg hk];exact h5⟩
section
variable {P:Program}{t k e:TypeId}(T:yR P t k e kv cU z)
include T
theorem aYf{w:World}{b:Nat}{es:List (dD aB dm)}{clock:Nat}(hb:w.heap[b]? = some (jU kv cU es clock))(x:aB):
  Sem.run P (Instr.lookup t (.map (some b)) (kv x) false) w=.ok (cU (jV z es x)) w:=by
 have h1:=T.find x es w;unfold jU at hb;unfold Instr.lookup;simp only [Sem.run_bind,run_underlying T.map,MapKept.run_getObj_map hb,Result.andThen,T.Ix,Sem.run_pure,h1];cases hf:vJ cU es x 0 with
 | none=>simp only [Sem.run_bind,T.zero,Result.andThen,Sem.run_pure,Pd (W4 hf)];rfl
 | some r =>
  obtain ⟨j,v⟩:=r;obtain ⟨n,e',_,_,_,hv,hg⟩:=W5 (z:=z) hf;simp only [Sem.run_pure,Result.andThen];rw [hg,hv];rfl
omit T
theorem a7P{s:Nat}{v:dm}{x:aB}:∀ {es:List (dD aB dm)},(∀ a∈es,a.born=s ↔ a.key=x)->∀ y,jV z (es.map λa=>if a.born=s then { a with val:=v } else a) y=if y=x/\∃ a∈es,a.key=x then v else jV z es y
 | [],_,y=>by simp [jV]
 | a :: es,h,y=>by
  have ih:=a7P (v:=v) (es:=es) (λa ha=>h a (by simp [ha])) y;rw [List.map_cons];unfold jV;by_cases h1:a.born=s
  .have hk:=(h a (by simp)).1 h1;rw [if_pos h1];simp only;by_cases h2:y=a.key
   .rw [if_pos h2,if_pos ⟨h2.trans hk,a,by simp,hk⟩]
   .rw [if_neg h2,if_neg h2,ih,if_neg λe=>h2 (e.1.trans hk.symm),if_neg λe=>h2 (e.1.trans hk.symm)]
  .have hk:¬ a.key=x:=λe=>h1 ((h a (by simp)).2 e);rw [if_neg h1];by_cases h2:y=a.key
   .rw [if_pos h2,if_pos h2,if_neg λe=>hk (h2.symm.trans e.1)]
   .rw [if_neg h2,if_neg h2,ih];by_cases h3:y=x/\∃ c∈es,c.key=x
    .rw [if_pos h3];obtain ⟨h4,c,h5,h6⟩:=h3;rw [if_pos ⟨h4,c,by simp [h5],h6⟩]
    .rw [if_neg h3,if_neg λe=>h3 ⟨e.1,by
      obtain ⟨c,h5,h6⟩:=e.2;rcases List.mem_cons.1 h5 with rfl|h5
      .exact absurd h6 hk
      .exact ⟨c,h5,h6⟩⟩]
include T
end
section
variable {P:Program}{t k e:TypeId}(T:yR P t k e kv cU z)
theorem a7Q{x:aB}{v:dm}{b:Nat}:∀ {es:List (dD aB dm)},(∀ a∈es,a.key≠x)->∀ y,jV z (es++[⟨x,v,b⟩]) y=if y=x then v else jV z es y
 | [],_,y=>by simp [jV]
 | a :: es,h,y=>by
  have ih:=a7Q (v:=v) (b:=b) (es:=es) (λa ha=>h a (by simp [ha])) y;rw [List.cons_append];unfold jV;by_cases h1:y=a.key
  .rw [if_pos h1,if_pos h1,if_neg λe=>h a (by simp) (h1.symm.trans e)]
  .rw [if_neg h1,if_neg h1,ih]
include T
end
section
variable {P:Program}{t k e:TypeId}
theorem a6v{kk:IntKind}(x:Int):∀ (es:List (dD Int dm)) (i:Nat),Instr.findNow (.int kk) (.int kk x) (es.map (dD.m (Value.int kk) cU)) i=some (vJ cU es x i)
 | [],_=>rfl
 | a :: es,i=>by
  rw [List.map_cons];unfold Instr.findNow;have e1:Instr.sameNow (.int kk) (.int kk x) (dD.m (Value.int kk) cU a).key=some (x == a.key):=by
   show (if kk=kk then some (x == a.key) else none)=_;rw [if_pos rfl]
  rw [e1];unfold vJ;by_cases h:x=a.key
  .rw [if_pos h,show (x == a.key)=true by rw [h];exact beq_self_eq_true _];rfl
  .rw [if_neg h,show (x == a.key)=false from Bool.eq_false_iff.2 λhb=>h (by simpa using hb)];exact a6v x es (i+1)
theorem yR.ofInt{kk:IntKind}(hm:P.underlying t=some (.map k e))(hk:P.underlying k=some (.int kk))(hc:∀ b (x:Int) w,(Instr.checkKey b 10000 k (.int kk x)).run P w=.ok () w)(hz:∀ w,(zeroValue e).run P w=.ok (cU z) w):yR P t k e (Value.int kk) cU z where
 map:=hm
 Ix:=hc
 zero:=hz
 stays x w:=by
  have:Instr.sameBits 10000 (.int kk x) (.int kk x)=true:=by
   unfold Instr.sameBits;simp [Instr.sameBits]
  unfold Instr.keyThatStays;rw [if_pos this];rfl
 find x es w:=by
  unfold Instr.findKey;simp only [Sem.run_bind,run_underlying hk,Result.andThen,a6v];rfl
end
end Go.Vc
end

section
namespace Go.Vc
variable {aB dm:Type}{kv:aB->Value}{cU:dm->Value}{z:dm}
section
variable [DecidableEq aB]{P:Program}{t k e:TypeId}(T:yR P t k e kv cU z)
include T
end
section
variable {P:Program}{w:World}{r bm since clock c0:Nat}{seen:Array Nat}{es:List (dD aB dm)}
end
end Go.Vc
end

section
namespace Go.Proofs.YtfijlibaeahlaaaGreatDoor
open Go.Vc
structure dw where
 worker:Int
 msg:bP
instance:ι dw:=ι.via (β:=Int × bP) (λx=>(x.worker,x.msg)) (λy=>⟨y.1,y.2⟩) (λ_=>rfl)
structure ah where
 node:Int
 worker:Int
 state:ByteArray
 out:List dw
instance:ι ah:=ι.via (β:=Int × Int × ByteArray × List dw) (λx=>(x.node,x.worker,x.state,x.out)) (λy=>⟨y.1,y.2.1,y.2.2.1,y.2.2.2⟩) (λ_=>rfl)
structure bn where
 ch:Int
 msg:bP
instance:ι bn:=ι.via (β:=Int × bP) (λx=>(x.ch,x.msg)) (λy=>⟨y.1,y.2⟩) (λ_=>rfl)
abbrev dw.cells(x:dw)(p:Option Addr)(c:Nat):List Value:=.int .i64 x.worker :: x.msg.cells p c
abbrev dw.v(x:dw)(p:Option Addr)(c:Nat):Value:=.agg (x.cells p c).toArray
abbrev bn.cells(x:bn)(p:Option Addr)(c:Nat):List Value:=.int .i64 x.ch :: x.msg.cells p c
abbrev bn.v(x:bn)(p:Option Addr)(c:Nat):Value:=.agg (x.cells p c).toArray
abbrev ah.cells(x:ah)(p:Option Addr)(c:Nat):List Value:=[.int .i64 x.node,.int .i64 x.worker,.string x.state,.slice p x.out.length c]
abbrev ah.v(x:ah)(p:Option Addr)(c:Nat):Value:=.agg #[.int .i64 x.node,.int .i64 x.worker,.string x.state,.slice p x.out.length c]
section
variable {M:List Nat}{w:World}{cs:List Value}
theorem MZ{x:dw}(h:ι.rep M w cs x):∃ p c,cs=x.cells p c/\V x.worker/\x.msg.ξ.length<=c/\c<=maxLen/\x.msg.lP/\ζ M w p x.msg.ξ:=by
 obtain ⟨_,_,rfl,⟨rfl,h1⟩,h⟩:=h;obtain ⟨p,c,rfl,h2,h3,h4,h5⟩:=aCP h;exact ⟨p,c,rfl,h1,h2,h3,h4,h5⟩
theorem RP{x:dw}{p:Option Addr}{c:Nat}(h1:V x.worker)(h2:x.msg.ξ.length<=c)(h3:c<=maxLen)(h4:x.msg.lP)(h5:ζ M w p x.msg.ξ):ι.rep M w (x.cells p c) x :=
 ⟨[_],_,rfl,⟨rfl,h1⟩,aHP h4 h2 h3 h5⟩
theorem FJ{x:bn}(h:ι.rep M w cs x):∃ p c,cs=x.cells p c/\V x.ch/\x.msg.ξ.length<=c/\c<=maxLen/\x.msg.lP/\ζ M w p x.msg.ξ:=by
 obtain ⟨_,_,rfl,⟨rfl,h1⟩,h⟩:=h;obtain ⟨p,c,rfl,h2,h3,h4,h5⟩:=aCP h;exact ⟨p,c,rfl,h1,h2,h3,h4,h5⟩
theorem RN{x:bn}{p:Option Addr}{c:Nat}(h1:V x.ch)(h2:x.msg.ξ.length<=c)(h3:c<=maxLen)(h4:x.msg.lP)(h5:ζ M w p x.msg.ξ):ι.rep M w (x.cells p c) x :=
 ⟨[_],_,rfl,⟨rfl,h1⟩,aHP h4 h2 h3 h5⟩
theorem FV{x:ah}(h:ι.rep M w cs x):∃ p c,cs=x.cells p c/\V x.node/\V x.worker/\x.state.size<=maxLen/\x.out.length<=c/\c<=maxLen/\ζ M w p x.out:=by
 obtain ⟨_,_,rfl,⟨rfl,h1⟩,_,_,rfl,⟨rfl,h2⟩,_,_,rfl,⟨rfl,h3⟩,p,c,rfl,h4,h5,h6⟩:=h;exact ⟨p,c,rfl,h1,h2,h3,h4,h5,h6⟩
theorem RO{x:ah}{p:Option Addr}{c:Nat}(h1:V x.node)(h2:V x.worker)(h3:x.state.size<=maxLen)(h4:x.out.length<=c)(h5:c<=maxLen)(h6:ζ M w p x.out):ι.rep M w (x.cells p c) x :=
 ⟨[_],_,rfl,⟨rfl,h1⟩,[_],_,rfl,⟨rfl,h2⟩,[_],_,rfl,⟨rfl,h3⟩,p,c,rfl,h4,h5,h6⟩
theorem aII{x:dw}{p:Option Addr}{c:Nat}(h:ι.rep M w (x.cells p c) x):ζ M w p x.msg.ξ:=by
 obtain ⟨p',c',e,_,_,_,_,h1⟩:=MZ h;simp only [dw.cells,bP.cells,List.cons.injEq,Value.slice.injEq] at e;rw [e.2.2.2.2.2.2.1.1];exact h1
theorem a7C{x:bn}{p:Option Addr}{c:Nat}(h:ι.rep M w (x.cells p c) x):ζ M w p x.msg.ξ:=by
 obtain ⟨p',c',e,_,_,_,_,h1⟩:=FJ h;simp only [bn.cells,bP.cells,List.cons.injEq,Value.slice.injEq] at e;rw [e.2.2.2.2.2.2.1.1];exact h1
theorem a8A{x:ah}{p:Option Addr}{c:Nat}(h:ι.rep M w (x.cells p c) x):ζ M w p x.out:=by
 obtain ⟨p',c',e,_,_,_,_,_,h1⟩:=FV h;simp only [ah.cells,List.cons.injEq,Value.slice.injEq] at e;rw [e.2.2.2.1.1];exact h1
end
theorem aYm(M:List Nat)(w:World)(cs:List Value)(x:dw)(h:ι.rep M w cs x):(cs.all λu=>dJ u)=true:=by
 obtain ⟨_,_,rfl,_⟩:=MZ h;rfl
theorem Ji(M:List Nat)(w:World)(cs:List Value)(x:bn)(h:ι.rep M w cs x):(cs.all λu=>dJ u)=true:=by
 obtain ⟨_,_,rfl,_⟩:=FJ h;rfl
theorem K3(M:List Nat)(w:World)(cs:List Value)(x:ah)(h:ι.rep M w cs x):(cs.all λu=>dJ u)=true:=by
 obtain ⟨_,_,rfl,_⟩:=FV h;rfl
theorem a8w(M:List Nat)(w:World)(cs:List Value)(x:Int)(h:ι.rep M w cs x):(cs.all λu=>dJ u)=true:=by
 obtain ⟨rfl,_⟩:=h;rfl
def a6B(P:Program)(ts t:TypeId)(au:Option Addr)(ψ Θ:Nat)(W:World)(R:List Own)(Φ:Y)(J:Value->World->Prop):Prop :=
 U au.isNone (∀ w0 ν,Ctx W w0 (R++ν) Φ->J (.slice none 0 0) w0) (∀ (k2:Nat) w3 fW,Ctx W w3 (Own.blk k2 [] t :: R++fW) Φ->∃ dL bl aG iN,Sem.run P (builtin Builtin.append #[ts,ts] ts #[false,false] #[.slice (some (Addr.mk k2 0 none)) 0 0,.slice au ψ Θ]) w3=Result.ok (Next.value (.slice dL bl aG)) iN/\∃ aT aZ,O aZ/\Ctx W iN (aT++fW) aZ/\∀ nH dR,Ctx W nH (aT++dR) aZ->J (.slice dL bl aG) nH)
theorem a6C{Φ:Y}[O Φ]{P:Program}{f:FuncId}{α:Type}[ι α]{ts t:TypeId}{bytes:Nat}{p:Option Addr}{cap:Nat}{l:List α}
  (run:∀ ⦃W w:World⦄ ⦃R:List Own⦄ ⦃Φ:Y⦄ [O Φ] ⦃J:Value->World->Prop⦄,Ctx W w R Φ->a6B P ts t p l.length cap W R Φ J->Calls P f #[.slice p l.length cap] w λe w'=>∃ v,e=.returned v/\J v w')
  (hb:tL P ts t (ι.ty α).size bytes=true) (h1:∀ M w cs (x:α),ι.rep M w cs x->(cs.all λu=>dJ u)=true) (hΦ:∀ M w,Φ M w->ζ M w p l) (hlen:l.length<100000000) (hby:bytes<=1000) :
  nR Φ P f #[.slice p l.length cap] l t:=by
 refine .there (λM w h=>(hΦ M w h).there) λeG=>?_;refine Jn run λW R=>?_;refine U.intro (λhn=>λw F c=>?_) (λhn=>?_)
 .have hl:l=[]:=by
   cases l with
   | nil=>rfl
   | cons=>obtain ⟨b,o,e⟩:=eG (by simp);rw [e] at hn;cases hn
  subst hl;exact ⟨none,0,[],rfl,(c.left.zF t (ι.ty α).size).add Δ.nil⟩
 .intro k w F c;obtain ⟨p',cap',w',cs,hrun,c'⟩:=Ctx.vE (P:=P) (ts:=ts) (ty:=ts) (kb:=#[false,false]) (bytes:=bytes) (c2:=cap) c hb h1 hΦ hlen hby;exact ⟨_,_,_,_,hrun,_,_,γ,c',λw F c=>⟨p',cap',cs,rfl,c.left⟩⟩
theorem Uz{Φ:Y}[O Φ]{P:Program}{f:FuncId}{args:Array Value}{α:Type}[ι α]{l:List α}{t:TypeId}(h:nR Φ P f args l t):ij Φ P f args l id :=
 ⟨λW w S c=>h.use c λp cap cs w' B=>by
  obtain ⟨c2,h1,_,h2,h3⟩:=Ctx.freeze B B.Γ.2;exact ⟨p,cap,rfl,h2,h3,(c2.fst).add h1⟩⟩
section
variable {Φ:Y}
theorem aNs[O Φ]{p:Option Addr}{cap:Nat}{l:List dw}(hΦ:∀ M w,Φ M w->ζ M w p l)(hlen:l.length<100000000):
  nR Φ prog F.ZN #[.slice p l.length cap] l 45 :=
 a6C (ts:=34) (bytes:=72) (aMx p l.length cap) (by kernel_rfl) aYm hΦ hlen (by decide)
theorem aNq[O Φ]{p:Option Addr}{cap:Nat}{l:List Int}(hΦ:∀ M w,Φ M w->ζ M w p l)(hlen:l.length<100000000):
  nR Φ prog F.mH #[.slice p l.length cap] l 3 :=
 a6C (ts:=22) (bytes:=8) (aMz p l.length cap) (by kernel_rfl) a8w hΦ hlen (by decide)
theorem aYo{cs d v:List Value}{o k:Nat}(h:∀ j,j<d.length->cs[o+j]? = d[j]?)(hk:k+v.length<=d.length)(ho:o+d.length<=cs.length):dM cs (o+k) v=dM cs o (dM d k v):=by
 apply List.ext_getElem?;intro i;have hd:(dM d k v).length=d.length:=GZ _ _ _;by_cases h1:i<o\/o+d.length<=i
 .rw [sO _ _ _ _ (by omega),sO _ _ _ _ (by rw [hd];omega)]
 .obtain ⟨j,rfl⟩:∃ j,i=o+j:=⟨i - o,by omega⟩;have hj:j<d.length:=by omega
  rw [Aa _ _ _ _ (by rw [hd];omega) (by rw [hd];omega)];by_cases h2:j<k\/k+v.length<=j
  .rw [sO _ _ _ _ (by omega),sO _ _ _ _ (by omega)];exact h j hj
  .obtain ⟨t,rfl⟩:∃ t,j=k+t:=⟨j - k,by omega⟩;rw [show o+(k+t)=o+k+t by omega,Aa _ _ _ _ (by omega) (by omega),Aa _ _ _ _ (by omega) (by omega)]
theorem FB{α:Type}[ι α]{M:List Nat}{w:World}{cs d:List Value}{l:List α}(he:Δ M w cs l){i:Nat}(hi:i<l.length)(hd:(cs.drop (i*(ι.ty α).size)).take (ι.ty α).size=d):d.length=(ι.ty α).size/\i*(ι.ty α).size+d.length<=cs.length/\∀ j,j<d.length->cs[i*(ι.ty α).size+j]? = d[j]? := by
 have hlen:d.length=(ι.ty α).size:=by rw [<-hd];exact ι.len (he.2 i hi)
 have hle:(i+1)*(ι.ty α).size<=cs.length:=by rw [he.1];exact Nat.mul_le_mul_right _ hi
 rw [Nat.add_mul,Nat.one_mul] at hle;refine ⟨hlen,by omega,λj hj=>?_⟩;rw [<-hd,List.getElem?_take_of_lt (by omega),List.getElem?_drop]
theorem Ym{α:Type}[ι α]{M:List Nat}{w:World}{cs d v:List Value}{l:List α}{k i:Nat}(he:Δ M w cs l)(hi:i<l.length)(hd:(cs.drop (i*(ι.ty α).size)).take (ι.ty α).size=d)(hk:k+v.length<=d.length)(hr:ι.rep M w (dM d k v) l[i]):
  Δ M w (dM cs (i*(ι.ty α).size+k) v) l:=by
 obtain ⟨h1,h2,h3⟩:=FB he hi hd;rw [aYo h3 hk h2];have:=he.setAt i hi hr
 rwa [List.set_getElem_self] at this
theorem zG{W w:World}{S:List Own}{Φ:Y}{p:Option Addr}{n cap:Nat}{cs:List Value}{t:TypeId}{size:Nat}(c:Ctx W w (.buf p n cap cs t size :: S) Φ):0<cs.length->∃ b,p=some ⟨b,0,none⟩:=λh=>by
 obtain ⟨b,h1,_⟩:=c.vD 0 rfl h;exact ⟨b,h1⟩
end
def iD(l:List Int):List UInt8:=l.flatMap λx=>(aK x).data.toList
def iI(l:List Int):List UInt8:=(gi (l.length:Int)).data.toList++(91 :: (iD l++[93]))
theorem a8y(a b:List Int):iD (a++b)=iD a++iD b:=by simp [iD]
theorem a8z(x:Int):iD [x]=(aK x).data.toList:=by simp [iD]
theorem QK:∀ {l:List Int},(∀ x∈l,V x)->(iD l).length<=l.length*21
 | [],_=>by simp [iD]
 | x :: l,h=>by
  have ih:=QK (l:=l) λy hy=>h y (by simp [hy]);have hx:=cC (h x (by simp));show ((aK x).data.toList++iD l).length<=_;rw [List.length_append,cF,List.length_cons,Nat.add_mul];omega
theorem aYw(l:List UInt8)(c:UInt8):(⟨l.toArray⟩:ByteArray)++ByteArray.mk #[c]=⟨(l++[c]).toArray⟩:=by
 apply ByteArray.ext;apply Array.toList_inj.1;simp [ByteArray.data_append]
theorem Mh{M:List Nat}{w:World}{p:Option Addr}{l:List Int}(h:ζ M w p l):∀ x∈l,V x:=λx hx=>by
 obtain ⟨i,hi,rfl⟩:=List.getElem_of_mem hx;obtain ⟨_,_,_,_,_,_,_,hr⟩:=h i hi;exact hr
theorem UW(a b:List UInt8):bs a++bs b=bs (a++b):=by
 apply ByteArray.ext;apply Array.toList_inj.1;simp [bs,ByteArray.data_append]
def q5:Nat->bu->List Int->List Int × bu
 | 0,st,acc=>(acc,st)
 | k+1,st,acc=>if st.2=true then (acc,st) else q5 k (ax st).2 (acc++[(ax st).1])
theorem aWh{k:Nat}{st:bu}{acc:List Int}(h:st.2=true):q5 k st acc=(acc,st):=by
 cases k with
 | zero=>rfl
 | succ k=>unfold q5;rw [if_pos h]
theorem a95{k:Nat}{st:bu}{acc:List Int}(h:st.2=false):q5 (k+1) st acc=q5 k (ax st).2 (acc++[(ax st).1]):=by
 rw [q5.eq_2,if_neg (by rw [h];simp)]
def vm(st:bu):List Int × bu :=
 let a:=fB 91 0 st
 let b:=q5 a.1.toNat a.2 []
 let c:=pL 93 b.2
 (if c.2 then [] else b.1,c)
theorem a96:∀ (l acc:List Int) (t:List UInt8),(∀ x∈l,V x)->q5 l.length (iD l++t,false) acc=(acc++l,(t,false))
 | [],acc,t,_=>by rw [List.append_nil];rfl
 | x :: l,acc,t,h=>by
  have e:iD (x :: l)++t=(aK x).data.toList++(iD l++t):=by simp [iD]
  rw [e,List.length_cons,a95 rfl,uA (h x (by simp))];simp only;rw [a96 l _ t λy hy=>h y (by simp [hy]),aq];rfl
theorem aXp{l:List Int}{t:List UInt8}(h:∀ x∈l,V x)(hl:(l.length:Int)<=9223372036854775807):vm (iI l++t,false)=(l,(t,false)):=by
 have e:iI l++t=Lib.itoa (l.length:Int)++91 :: (iD l++(93 :: t)):=by
  unfold iI gi;simp
 unfold vm;rw [e,R2 (.inr (.inr rfl)) (by unfold V;omega) (by omega)];simp only [Int.toNat_natCast];rw [a96 l [] _ h,List.nil_append];simp only [pL];rfl
theorem aYL(st:bu):(ax st).2.1.length<=st.1.length:=rA 59 (-9223372036854775808) st
theorem aYK(st:bu):(ax st).2=([],true)/\(ax st).1=0\/(ax st).2.1.length+2<=st.1.length/\(ax st).2.2=st.2:=by
 unfold ax fB;split
 .rename_i n r h;obtain ⟨⟨h1,_⟩,h2⟩:=(R1 (.inr (.inl rfl))).1 h;have:=XB h1
  right
  rw [h2,List.length_append,List.length_cons];simp only;exact ⟨by omega,trivial⟩
 .exact .inl ⟨rfl,rfl⟩
section
variable {Φ:Y}{W w:World}{R S G:List Own}{p:Option Addr}{cap:Nat}
theorem aXI[O Φ](hT:∀ M w,Φ M w->oP M w){l:List Int}(eG:ri p l.length)(hΦ:∀ M w,Φ M w->ζ M w p l)(hl:l.length<=10000000)(hi:∀ x∈l,V x):ay Φ prog F.a0f #[.slice p l.length cap,.func (.func F.ki) #[] #[]] (.string ⟨(iI l).toArray⟩):=by
 refine dN (aNj p l.length cap F.ki #[]) λW R=>λb w G B=>?_;have Q7:=A6 (n:=(l.length:Int)) (by unfold V;omega);have PA:(ByteArray.mk #[91]).size=1:=rfl;have JZ:(ByteArray.mk #[93]).size=1:=rfl;refine (TY hT (l.length:Int) (by unfold V;omega)).bE B ⟨by show (gi _).size+1<=_;omega,λw G B=>?_⟩;refine tH (gi (l.length:Int)++ByteArray.mk #[91]) oG.nil (oG.fresh B) (by rw [av,PA];simp only [List.length_nil];omega) λν w hB B=>⟨_,_,rfl,ν++R,Φ,γ,by rw [aq];exact B,?_⟩
 rw [List.nil_append] at hB;clear B;obtain ⟨pre,hpre⟩:∃ pre,(gi (l.length:Int)++ByteArray.mk #[91]).data.toList=pre:=⟨_,rfl⟩;have hpl:pre.length<=21:=by rw [<-hpre,cF,av,PA];omega
 rw [hpre] at hB;refine bK (λen R' Z k=>∃ (i:Nat) (υ:List Own),en=i/\i<=l.length/\wL b (pre++iD (l.take i)) υ/\R'=υ++R/\Z=Φ/\k=l.length - i) ⟨⟨_,_,_,γ,λw G B=>B,0,ν,rfl,Nat.zero_le _,by rw [List.take_zero,show iD []=[] from rfl,List.append_nil];exact hB,rfl,rfl,rfl⟩,?_⟩;clear hB;rintro en ck b7 k _ ⟨i,υ,rfl,hi',hB,rfl,rfl,rfl⟩;have hlen:=QK (l:=l.take i) λx hx=>hi x (List.mem_of_mem_take hx);rw [List.length_take] at hlen
 refine U.intro (λhlt=>?_) (λhge=>λw G B=>?_)
 .have hlt:i<l.length:=by have:=aD hlt;omega
  obtain ⟨b',o',hp⟩:=eG (by omega);have hx:=cC (hi l[i] (List.getElem_mem _));have hstep:iD (l.take (i+1))=iD (l.take i)++(aK l[i]).data.toList:=by rw [List.take_succ_eq_append_getElem hlt,a8y,a8z]
  refine ⟨by omega,aL b' o' hp λw G B=>⟨l[i],by rw [Int.toNat_natCast];exact Mc (by rw [<-hp];exact hΦ _ _ B.Γ) hlt,λw G B=>⟨by kernel_rfl,(mV (.inl ⟨hT,hi l[i] (List.getElem_mem _)⟩)).bE B λw G B=>?_⟩⟩⟩;refine tH (aK l[i]) hB (B.re (aq _ _ _)) (by rw [List.length_append];omega) λyN w Bq B=>⟨_,_,rfl,yN++R,b7,γ,by rw [aq];exact B,by unfold V;omega,_,b7,l.length - (i+1),γ,λw G B=>B,⟨i+1,yN,by omega,hlt,?_,rfl,rfl,rfl⟩,by omega⟩
  rw [hstep,<-aq];exact Bq
 .have hge:i=l.length:=by have:=aO hge;omega
  subst hge;rw [List.take_length] at hB;refine ON hB (B.re (aq _ _ _)) λw B=>⟨_,rfl,R,b7,γ,B,by rw [qI,JZ,List.length_append];rw [List.take_length] at hlen;show pre.length+(iD l).length+1<=9223372036854775807;omega,λw G B=>⟨?_,B.left⟩⟩;rw [aYw,<-hpre];unfold iI;simp [ByteArray.data_append]
theorem Tc[O Φ](hT:∀ M w,Φ M w->oP M w){l:List Int}(hΦ:∀ M w,Φ M w->ζ M w p l)(hl:l.length<=10000000):ay Φ prog F.NN #[.slice p l.length cap] (.string ⟨(iI l).toArray⟩) :=
 .there (λM w h=>(hΦ M w h).there) λeG=>⟨λW w S c=>(dN (aNX p l.length cap) λW R=>λw G B=>(aXI hT eG hΦ hl (Mh (hΦ _ _ c.Γ))).bE B λw G B=>⟨rfl,B.left⟩).go W w S c⟩
set_option maxHeartbeats 1000000 in
theorem aOS[O Φ]{l:List Int}(eG:ri p l.length)(hΦ:∀ M w,Φ M w->ζ M w p l)(hl:l.length<=10000000)(hi:∀ x∈l,V x):ay Φ prog F.FD #[.slice p l.length cap] (.string ⟨(iI l).toArray⟩):=by
 have hg:=P5 l.length (by omega);have hi':Lib.itoa (l.length:Int)=Lib.decDigits l.length:=by unfold Lib.itoa;rw [if_neg (by omega)];rfl
 have e:(0:Int) - l.length = -((l.length:Nat):Int):=by omega
 rw [<-e,<-hi'] at hg;have hn:=A6 (n:=(l.length:Int)) (by unfold V;omega);refine dN (aMP p l.length cap) λW R=>⟨by unfold V;omega,λw G B=>(fE.in hg).bE B ⟨?_,?_⟩⟩
 .show (gi (l.length:Int)).size+1<=9223372036854775807;omega
 clear B;obtain ⟨pre,hpre⟩:∃ pre,(gi (l.length:Int)).data.toList=pre:=⟨_,rfl⟩;have hpl:pre.length<=20:=by rw [<-hpre,cF];omega
 refine bK (λs en R' Z k=>∃ i:Nat,en=i/\i<=l.length/\s=bs (pre++91 :: iD (l.take i))/\R'=R/\Z=Φ/\k=l.length - i) ⟨⟨_,_,_,γ,λw G B=>B,0,rfl,Nat.zero_le _,?_,rfl,rfl,rfl⟩,?_⟩
 .rw [<-hpre];exact (UW (gi (l.length:Int)).data.toList [91]).trans (by rw [List.take_zero];rfl)
 rintro s en ν θ k _ ⟨i,rfl,hi2,rfl,rfl,rfl,rfl⟩;have hlen:=QK (l:=l.take i) λx hx=>hi x (List.mem_of_mem_take hx);rw [List.length_take] at hlen;have hsz:(bs (pre++91 :: iD (l.take i))).size=pre.length+((iD (l.take i)).length+1):=by rw [dx,List.length_append,List.length_cons]
 refine U.intro (λhlt=>?_) (λhge=>⟨?_,λw G B=>⟨?_,B.left⟩⟩)
 .have hlt:i<l.length:=by have:=aD hlt;omega
  obtain ⟨b,o,hp⟩:=eG (by omega);have hx:=cC (hi l[i] (List.getElem_mem hlt));refine ⟨by omega,aL b o hp λw G B=>⟨l[i],by rw [Int.toNat_natCast];exact Mc (by rw [<-hp];exact hΦ _ _ B.Γ) hlt,λw G B=>(fE.in (mU l[i] (hi l[i] (List.getElem_mem hlt)))).bE B ⟨?_,by unfold V;omega,_,θ,l.length - (i+1),γ,λw G B=>B,⟨i+1,by omega,hlt,?_,rfl,rfl,rfl⟩,by omega⟩⟩⟩
  .show (bs (pre++91 :: iD (l.take i))).size+(aK l[i]).size<=9223372036854775807;rw [hsz];omega
  .rw [List.take_succ_eq_append_getElem hlt,a8y,a8z];exact (UW _ (aK l[i]).data.toList).trans (by rw [aq,List.cons_append])
 .show (bs (pre++91 :: iD (l.take i))).size+1<=9223372036854775807;rw [hsz];omega
 .have hge:i=l.length:=by have:=aO hge;omega
  rw [hge,List.take_length];have h2:bs (pre++91 :: iD l)++bs [93]=bs (iI l):=by
   rw [UW,aq,List.cons_append];unfold iI;rw [hpre]
  exact congrArg Value.string h2
theorem Tb[O Φ]{l:List Int}(hΦ:∀ M w,Φ M w->ζ M w p l)(hl:l.length<=10000000):ay Φ prog F.FD #[.slice p l.length cap] (.string ⟨(iI l).toArray⟩) :=
 .there (λM w h=>(hΦ M w h).there) λeG=>⟨λW w S c=>(aOS eG hΦ hl (Mh (hΦ _ _ c.Γ))).go W w S c⟩
end
section
variable {W w:World}{R G S:List Own}{Φ PS:Y}{b:Nat}{st:bu}
theorem aYC[O PS]{op:Option Addr}{aN kb:Nat}{o:List Int}{x:Int}(ho:o.length<10000000)(B:Ctx W w (.blk kb [.int .i64 x] 3 :: wU op aN o :: R++G) PS):
  ∃ p c w',Sem.run prog (builtin Builtin.append #[22,22] 22 #[false,false] #[.slice op o.length aN,.slice (some ⟨kb,0,none⟩) 1 1]) w=.ok (.value (.slice p (o++[x]).length c)) w'/\Ctx W w' (wU p c (o++[x]) :: R++G) PS:=by
 obtain ⟨p',cap',w',hrun,_,cJ⟩:=Ctx.vB (P:=prog) (ts:=22) (ty:=22) (kb:=#[false,false]) (size:=1) (bytes:=8) B (by kernel_rfl) (by omega) rfl rfl (by omega) (by omega);have e:o.length+1=(o++[x]).length:=by simp
 have em:o.map XA++[.int .i64 x]=(o++[x]).map XA:=by rw [List.map_append];rfl
 rw [e] at hrun cJ;rw [em] at cJ;exact ⟨p',cap',w',hrun,cJ⟩
set_option maxHeartbeats 1000000 in
theorem aOG[O Φ](hΦ:∀ M w,Φ M w->fG M w)(hl:st.1.length<=10000000)(c:Ctx W w (rd b st :: S) Φ){K:c6}
  (hk:∀ p c w',(vm st).1.length<=c->c<=maxLen->Ctx W w' (rd b (vm st).2 :: S) (λM w=>Φ M w/\ζ M w p (vm st).1)->K (.returned (.slice p (vm st).1.length c)) w') :
  ω F.a0e #[aA b 0,.func (.func F.iO) #[aA b 0] #[]] w K:=by
 refine cn (aOM b 0 F.iO #[aA b 0] (J:=K∘.returned) (R:=rd b st :: S) c ?_);clear c;refine λw G B=>R3 (S:=S) hΦ 91 0 (by omega) B ?_;clear B;have hlen:=rA 91 0 st;have hnn:=Rn (e:=91) (.inr (.inr rfl)) st;rw [show (91:Int).toNat.toUInt8=91 from rfl];have hall:vm st=(if (pL 93 (q5 (fB 91 0 st).1.toNat (fB 91 0 st).2 []).2).2 then [] else (q5 (fB 91 0 st).1.toNat (fB 91 0 st).2 []).1,pL 93 (q5 (fB 91 0 st).1.toNat (fB 91 0 st).2 []).2):=rfl
 obtain ⟨⟨n0,kC⟩,hst⟩:∃ x,fB 91 0 st=x:=⟨_,rfl⟩;rw [hst] at hlen hnn hall ⊢;simp only at hlen hnn hall ⊢;refine bK (λp n c m R' Z k=>∃ (s1:bu) (acc:List Int),n=acc.length/\R'=wU p c acc :: rd b s1 :: S/\Z=Φ/\k=m.toNat/\0<=m/\m<=9223372036854775807/\s1.1.length<=st.1.length/\(s1.2=false->acc.length*2+s1.1.length<=st.1.length)/\acc.length*2<=st.1.length+2/\(∀ x∈acc,V x)/\q5 n0.toNat kC []=q5 m.toNat s1 acc)
  ⟨⟨wU none 0 [] :: rd b kC :: S,Φ,_,γ,λw G B=>B.sI 3 1,kC,[],rfl,rfl,rfl,rfl,hnn.1,hnn.2,hlen,λ_=>by simp only [List.length_nil];omega,by simp,by simp,rfl⟩,?_⟩
 rintro p n c m ν θ k _ ⟨s1,acc,rfl,rfl,rfl,rfl,hm0,KE,vP,q4,acw,hai,hit⟩;refine λw G B=>⟨s1.2,λ_=>B.get 1 rfl rfl,?_⟩;clear B;refine U.intro (λdH=>λw G B=>⟨by kernel_rfl,?_⟩) (λhstop=>?_)
 .rw [Bool.and_eq_true] at dH;have hpos:=aD dH.1;have dz:s1.2=false:=by simpa using dH.2
  have q4:=q4 dz;refine tG (S:=wU p c acc :: S) hΦ (by omega) B.swap ?_;clear B;refine λkb w G B=>?_;have bG:Ctx W w (.blk kb [.int .i64 (ax s1).1] 3 :: wU p c acc :: (rd b (ax s1).2 :: S)++G) θ:=B.perm ((List.Perm.swap _ _ _).cons _);obtain ⟨p',c',w',hrun,cJ⟩:=aYC (by omega) bG;refine ⟨p',_,c',w',hrun,_,θ,γ,cJ,by unfold V;omega,_,θ,(m - 1).toNat,γ,λw G B=>B,⟨(ax s1).2,acc++[(ax s1).1],rfl,rfl,rfl,rfl,by omega,by omega,?_,?_,?_,?_,?_⟩,by omega⟩
  .have:=aYL s1;omega
  .intro hg2;rw [List.length_append,List.length_singleton];rcases aYK s1 with ⟨e,_⟩|⟨e,_⟩
   .rw [e] at hg2;cases hg2
   .omega
  .rw [List.length_append,List.length_singleton];omega
  .intro x hx;rcases List.mem_append.1 hx with hx|hx
   .exact hai x hx
   .rw [List.mem_singleton.1 hx];exact vv _
  .rw [hit,show m.toNat=(m - 1).toNat+1 by omega,a95 dz]
 .have hend:q5 n0.toNat kC []=(acc,s1):=by
   rw [hit];rcases Bool.and_eq_false_iff.1 hstop with h|h
   .have:=aO h;rw [show m.toNat=0 by omega];rfl
   .exact aWh (by simpa using h)
  rw [hend] at hall;simp only at hall;refine λw G B=>a6G (S:=wU p c acc :: S) 93 B.swap ?_;clear B;refine λw G B=>⟨(pL 93 s1).2,B.get 0 rfl rfl,U.intro (λhb=>λw G B=>?_) (λhb=>λw G B=>?_)⟩
  .have e:vm st=([],pL 93 s1):=by rw [hall,if_pos hb]
   rw [e] at hk;have J4:Ctx W w (wU p c acc :: rd b (pL 93 s1) :: S) θ:=B.swap.left;exact hk none 0 w (Nat.le_refl _) (Nat.zero_le _) (J4.eN.weak λM w h=>⟨h,ζ.nil⟩)
  .have e:vm st=(acc,pL 93 s1):=by rw [hall,if_neg (by rw [hb];simp)]
   rw [e] at hk;have J4:Ctx W w (wU p c acc :: rd b (pL 93 s1) :: S) θ:=B.swap.left;obtain ⟨cW,hs,_,g1,g2⟩:=Ctx.freeze (α:=Int) J4 (a92 acc hai);exact hk p c w g1 g2 (cW.add hs)
theorem aOT[O Φ](hΦ:∀ M w,Φ M w->fG M w)(hl:st.1.length<=10000000){out:List Int}{s1:bu}(e:vm st=(out,s1))(c:Ctx W w (rd b st :: S++G) Φ){K:Option Addr->Nat->Nat->List Own->Y->Prop}
  (hk:∀ p c,out.length<=c->c<=maxLen->O (λM w=>Φ M w/\ζ M w p out)->K p out.length c (rd b s1 :: S) (λM w=>Φ M w/\ζ M w p out)) :
  ω F.mK #[aA b 0] w λe w'=>∃ p n c,e=.returned (.slice p n c)/\∃ R' Z,O Z/\Ctx W w' (R'++G) Z/\K p n c R' Z:=by
 refine cn (aNd b 0 (J:=λu w'=>∃ p n c,(Ending.returned u)=.returned (.slice p n c)/\∃ R' Z,O Z/\Ctx W w' (R'++G) Z/\K p n c R' Z) (R:=rd b st :: (S++G)) c ?_);clear c;refine λw yQ B=>aOG (S:=(S++G)++yQ) hΦ hl B λp c w g1 g2 B=>?_;rw [e] at g1 B ⊢;exact ⟨p,_,c,rfl,rd b s1 :: (S++G),_,γ,B,λw acP B=>⟨p,_,c,rfl,rd b s1 :: S,_,γ,Ctx.left (S:=rd b s1 :: (S++G)) B,hk p c g1 g2 γ⟩⟩
end
section
variable {Φ:Y}
theorem aNr[O Φ]{p:Option Addr}{cap:Nat}{l:List bF}(hΦ:∀ M w,Φ M w->ζ M w p l)(hlen:l.length<100000000):ij Φ prog F.Gb #[.slice p l.length cap] l id:=Uz (a2B p cap l hΦ hlen)
theorem U'[O Φ]{m:bP}{p:Option Addr}{cap:Nat}(hΦ:∀ M w,Φ M w->ζ M w p m.ξ)(hlen:m.ξ.length<100000000)(hrows:∀ x∈m.ξ,x.row.length<100000000):
  ij Φ prog F.Iw #[m.v p cap] m.ξ (λs=>.agg #[.int .i64 m.kind,.int .i64 m.node,.int .i64 m.dS,.int .i64 m.bucket,.int .i64 m.n,s]):=by
 refine x5 (aM5 m.kind m.node m.dS m.bucket m.n p m.ξ.length cap) λW R=>?_;intro _ _ w G B;refine (a2A p cap m.ξ hΦ hlen).use B λp1 iV news w B=>⟨p1,m.ξ.length,iV,rfl,.buf p1 m.ξ.length iV news 113 3 :: R,λM w=>Φ M w/\Δ M w news m.ξ,γ,B,?_⟩;have KI:0<m.ξ.length->∃ b,p1=some ⟨b,0,none⟩:=λh=>zG B (by rw [B.Γ.2.1];exact Nat.mul_pos h (by decide));clear B;refine bK (λn R' Z k=>∃ (i:Nat) (cs:List Value),n=i/\i<=m.ξ.length/\R'=.buf p1 m.ξ.length iV cs 113 3 :: R/\Z=(λM w=>Φ M w/\Δ M w cs m.ξ)/\k=m.ξ.length - i)
  ⟨⟨_,_,_,γ,λw F c=>c,0,news,rfl,Nat.zero_le _,rfl,rfl,rfl⟩,?_⟩
 rintro n ν θ k _ ⟨i,cs,rfl,hi,rfl,rfl,rfl⟩;refine U.intro (λhlt=>?_) (λhge=>λw G B=>?_)
 .have hlt:i<m.ξ.length:=by have:=aD hlt;omega
  obtain ⟨b1,eA⟩:=KI (by omega);refine ⟨⟨by omega,by omega⟩,aL b1 0 eA λw G B=>?_⟩;obtain ⟨q,c,hq,ey,gY,ht,hn,_⟩:=aUg B.Γ.2 hlt;obtain ⟨_,g2,g3⟩:=FB B.Γ.2 hlt hq;refine ⟨m.ξ[i].time,q,m.ξ[i].row.length,c,m.ξ[i].n,B.F2 0 rfl eA (o:=0+i*3) (λj hj=>by rw [Nat.zero_add];exact (g3 j hj).trans (List.getElem?_eq_getElem hj)),λ_=>⟨_,_,γ,λw G B=>B,λw G B=>?_⟩⟩;refine (aNr (Φ:=λM w=>Φ M w/\Δ M w cs m.ξ) (p:=q) (cap:=c) (l:=m.ξ[i].row) (λM w h=>aUm h.2 hlt hq) (hrows _ (List.getElem_mem hlt))).use B λp2 cap2 w h1 h2 B=>⟨p2,_,cap2,rfl,.buf p1 m.ξ.length iV cs 113 3 :: R,_,γ,B,λw G B=>B.fst,⟨by omega,by omega⟩,aL b1 0 eA λw G B=>⟨B.Io 0 rfl eA (by rw [Int.toNat_natCast,Nat.zero_add];have:(m.ξ[i].cells q c).length=3:=rfl;have e:(ι.ty μ).size=3:=rfl;rw [e] at g2;omega),λw' hw'=>?_⟩⟩
  rw [Int.toNat_natCast,Nat.zero_add] at hw';have eE:(ι.ty μ).size=3:=rfl;have cJ:=B.F1 0 rfl eA (by rw [eE] at g2;have:(m.ξ[i].cells q c).length=3:=rfl;omega) (o:=i*3+1) (vs:=[.slice p2 m.ξ[i].row.length cap2]) (by rw [eE] at g2;have:(m.ξ[i].cells q c).length=3:=rfl;simp only [List.length_singleton];omega) hw';have hel:∀ M w,Δ M w cs m.ξ->ζ M w p2 m.ξ[i].row->Δ M w (dM cs (i*3+1) [.slice p2 m.ξ[i].row.length cap2]) m.ξ:=λM w a b=>Ym (k:=1) a hlt hq (by show 1+1<=3;omega) (AR (p:=p2) (c:=cap2) h1 h2 ht hn b)
  generalize dM cs (i*3+1) [.slice p2 m.ξ[i].row.length cap2]=cs' at cJ hel;exact ⟨_,λM w=>Φ M w/\Δ M w cs' m.ξ,γ,cJ.weak λM w h=>⟨h.1.1,hel M w h.1.2 h.2⟩,by unfold V;omega,_,_,m.ξ.length - (i+1),γ,λw G B=>B,⟨i+1,cs',by omega,hlt,rfl,rfl,rfl⟩,by omega⟩
 .have hge:i=m.ξ.length:=by have:=aO hge;omega
  obtain ⟨c2,h1,_,h2,h3⟩:=Ctx.freeze B B.Γ.2;exact ⟨p1,iV,rfl,h2,h3,((c2.fst).add h1).left⟩
theorem aUn{M:List Nat}{w:World}{cs:List Value}{l:List dw}(h:Δ M w cs l){j:Nat}(hj:j<l.length):∃ q c,(cs.drop (j*7)).take 7=l[j].cells q c/\V l[j].worker/\l[j].msg.ξ.length<=c/\c<=maxLen/\l[j].msg.lP:=by
 have:=h.2 j hj;rw [show (ι.ty dw).size=7 from rfl] at this;obtain ⟨q,c,h1,h2,h3,h4,h5,_⟩:=MZ this;exact ⟨q,c,h1,h2,h3,h4,h5⟩
theorem aUo{M:List Nat}{w:World}{cs:List Value}{l:List dw}(h:Δ M w cs l){j:Nat}(hj:j<l.length){q:Option Addr}{c:Nat}(e:(cs.drop (j*7)).take 7=l[j].cells q c):ζ M w q l[j].msg.ξ:=by
 have:=h.2 j hj;rw [show (ι.ty dw).size=7 from rfl,e] at this;exact aII this
def HS(m:bP):Prop:=m.ξ.length<100000000/\∀ x∈m.ξ,x.row.length<100000000
def HR(h:ah):Prop:=h.out.length<100000000/\∀ x∈h.out,HS x.msg
theorem a6F[O Φ]{x:ah}{p:Option Addr}{cap:Nat}(hΦ:∀ M w,Φ M w->ζ M w p x.out)(hf:HR x):
  ij Φ prog F.Ot #[x.v p cap] x.out (λs=>.agg #[.int .i64 x.node,.int .i64 x.worker,.string x.state,s]):=by
 refine x5 (aM4 x.node x.worker x.state p x.out.length cap) λW R=>?_;intro _ _ w G B;refine (aNs (cap:=cap) hΦ hf.1).use B λp1 iV news w B=>⟨p1,x.out.length,iV,rfl,.buf p1 x.out.length iV news 45 7 :: R,λM w=>Φ M w/\Δ M w news x.out,γ,B,?_⟩;have KI:0<x.out.length->∃ b,p1=some ⟨b,0,none⟩:=λh=>zG B (by rw [B.Γ.2.1];exact Nat.mul_pos h (by decide));clear B;refine bK (λn R' Z k=>∃ (i:Nat) (cs:List Value),n=i/\i<=x.out.length/\R'=.buf p1 x.out.length iV cs 45 7 :: R/\Z=(λM w=>Φ M w/\Δ M w cs x.out)/\k=x.out.length - i)
  ⟨⟨_,_,_,γ,λw F c=>c,0,news,rfl,Nat.zero_le _,rfl,rfl,rfl⟩,?_⟩
 rintro n ν θ k _ ⟨i,cs,rfl,hi,rfl,rfl,rfl⟩;refine U.intro (λhlt=>?_) (λhge=>λw G B=>?_)
 .have hlt:i<x.out.length:=by have:=aD hlt;omega
  obtain ⟨b1,eA⟩:=KI (by omega);have qd:(ι.ty dw).size=7:=rfl;refine ⟨⟨by omega,by omega⟩,aL b1 0 eA λw G B=>?_⟩;obtain ⟨q,c,hq,hwk,ey,gY,hok⟩:=aUn B.Γ.2 hlt;obtain ⟨_,g2,g3⟩:=FB B.Γ.2 hlt hq;rw [qd,show (x.out[i].cells q c).length=7 from rfl] at g2;have K5:=hf.2 _ (List.getElem_mem hlt);refine ⟨x.out[i].worker,x.out[i].msg.kind,x.out[i].msg.node,x.out[i].msg.dS,x.out[i].msg.bucket,x.out[i].msg.n,q,x.out[i].msg.ξ.length,c,B.F2 0 rfl eA (o:=0+i*7) (λj hj=>by rw [Nat.zero_add];exact (g3 j hj).trans (List.getElem?_eq_getElem hj)),λ_=>⟨_,_,γ,λw G B=>B,λw G B=>?_⟩⟩
  refine (U' (Φ:=λM w=>Φ M w/\Δ M w cs x.out) (m:=x.out[i].msg) (p:=q) (cap:=c) (λM w h=>aUo h.2 hlt hq) K5.1 K5.2).use B λp2 cap2 w h1 h2 B=>⟨_,_,_,_,_,p2,_,cap2,rfl,.buf p1 x.out.length iV cs 45 7 :: R,_,γ,B,λw G B=>B.fst,⟨by omega,by omega⟩,aL b1 0 eA λw G B=>⟨B.Io 0 rfl eA (by rw [Int.toNat_natCast,Nat.zero_add];omega),λw' hw'=>?_⟩⟩;rw [Int.toNat_natCast,Nat.zero_add] at hw';have cJ:=B.F1 0 rfl eA (by omega) (o:=i*7+1) (vs:=x.out[i].msg.cells p2 cap2) (by show i*7+1+6<=_;omega) hw'
  have hel:∀ M w,Δ M w cs x.out->ζ M w p2 x.out[i].msg.ξ->Δ M w (dM cs (i*7+1) (x.out[i].msg.cells p2 cap2)) x.out:=λM w a b=>Ym (k:=1) a hlt hq (by show 1+6<=7;omega) (RP (p:=p2) (c:=cap2) hwk h1 h2 hok b);generalize dM cs (i*7+1) (x.out[i].msg.cells p2 cap2)=cs' at cJ hel;exact ⟨_,λM w=>Φ M w/\Δ M w cs' x.out,γ,cJ.weak λM w h=>⟨h.1.1,hel M w h.1.2 h.2⟩,by unfold V;have:=hf.1;omega,_,_,x.out.length - (i+1),γ,λw G B=>B,⟨i+1,cs',by omega,hlt,rfl,rfl,rfl⟩,by omega⟩
 .have hge:i=x.out.length:=by have:=aO hge;omega
  obtain ⟨c2,h1,_,h2,h3⟩:=Ctx.freeze B B.Γ.2;exact ⟨p1,iV,rfl,h2,h3,((c2.fst).add h1).left⟩
end
def J0(x y:ah):Int:=nC [cR x.node y.node,cR x.worker y.worker]
def ez(x y:ah):Prop:=x.node<y.node\/x.node=y.node/\x.worker<y.worker
instance(x y:ah):Decidable (ez x y):=inferInstanceAs (Decidable (_\/_))
def qH(x y:ah):Bool:=decide (x.node=y.node)&&decide (x.worker=y.worker)
theorem Ow(a b:Int):(a<b/\cR a b = -1)\/(a=b/\cR a b=0)\/(b<a/\cR a b=1):=by unfold cR;split<;>(try split)<;>omega
theorem a6J(x y:ah):J0 x y=if cR x.node y.node≠0 then cR x.node y.node else if cR x.worker y.worker≠0 then cR x.worker y.worker else 0:=rfl
theorem a6I(x y:ah):J0 x y<0 ↔ ez x y:=by
 rw [a6J];unfold ez;rcases Ow x.node y.node with ⟨h1,e1⟩|⟨h1,e1⟩|⟨h1,e1⟩<;>rcases Ow x.worker y.worker with ⟨h2,e2⟩|⟨h2,e2⟩|⟨h2,e2⟩<;>rw [e1,e2]<;>simp<;>omega
theorem aQm(x y:ah):J0 x y=0 ↔ qH x y=true:=by
 rw [a6J];unfold qH;simp only [Bool.and_eq_true,decide_eq_true_eq];rcases Ow x.node y.node with ⟨h1,e1⟩|⟨h1,e1⟩|⟨h1,e1⟩<;>rcases Ow x.worker y.worker with ⟨h2,e2⟩|⟨h2,e2⟩|⟨h2,e2⟩<;>rw [e1,e2]<;>simp<;>omega
theorem aQn(a b:Int):V (cR a b):=by unfold cR V;split<;>(try split)<;>omega
def yM(l:List ah):Prop:=l.Pairwise ez
def hG(l:List ah)(h:ah):Nat:=(l.filter λx=>decide (ez x h)).length
def vA(l:List ah)(h:ah):Bool:=l.any λx=>qH x h
theorem LN{x y z:ah}(h1:ez x y)(h2:ez y z):ez x z:=by unfold ez at *;omega
theorem aCF{l:List ah}{h:ah}{i:Nat}(hi:i<=l.length)(h1:∀ q (hq:q<l.length),q<i->ez l[q] h)(h2:∀ q (hq:q<l.length),i<=q->¬ ez l[q] h):hG l h=i:=by
 unfold hG
 conv=>lhs;rw [<-List.take_append_drop i l]
 rw [List.filter_append,List.length_append];have e1:(l.take i).filter (λx=>decide (ez x h))=l.take i:=List.filter_eq_self.2 λx hx=>by
  obtain ⟨q,hq,rfl⟩:=List.getElem_of_mem hx;rw [List.length_take] at hq;rw [List.getElem_take];exact decide_eq_true (h1 q (by omega) (by omega))
 have e2:(l.drop i).filter (λx=>decide (ez x h))=[]:=List.filter_eq_nil_iff.2 λx hx=>by
  obtain ⟨q,hq,rfl⟩:=List.getElem_of_mem hx;rw [List.length_drop] at hq;rw [List.getElem_drop];simp only [decide_eq_true_eq];exact h2 (i+q) (by omega) (by omega)
 rw [e1,e2,List.length_take,List.length_nil];omega
theorem aPt{l:List ah}{h:ah}{i:Nat}(ha:yM l)(h1:∀ q (hq:q<l.length),q<i->ez l[q] h)(h2:∀ q (hq:q<l.length),i<=q->¬ ez l[q] h):vA l h=(match l[i]? with|some x=>qH x h|none=>false):=by
 have hs:∀ x:ah,qH x h=true->¬ ez x h:=λx hx=>by
  unfold qH at hx;simp only [Bool.and_eq_true,decide_eq_true_eq] at hx;unfold ez;omega
 cases hi:l[i]? with
 | none =>
  unfold vA;rw [List.any_eq_false];intro x hx he;obtain ⟨q,hq,rfl⟩:=List.getElem_of_mem hx;have:=List.getElem?_eq_none_iff.1 hi;exact hs _ he (h1 q hq (by omega))
 | some y =>
  obtain ⟨l9,hy⟩:=List.getElem?_eq_some_iff.1 hi;simp only;cases xG:qH y h with
  | true =>
   unfold vA;rw [List.any_eq_true];exact ⟨y,List.mem_of_getElem? hi,xG⟩
  | false =>
   unfold vA;rw [List.any_eq_false];intro x hx he;obtain ⟨q,hq,rfl⟩:=List.getElem_of_mem hx;rcases Nat.lt_trichotomy q i with hlt|rfl|hgt
   .exact hs _ he (h1 q hq hlt)
   .rw [hy,xG] at he;cases he
   .have h3:=List.pairwise_iff_getElem.1 ha i q l9 hq hgt;rw [hy] at h3;have h4:=h2 i l9 (Nat.le_refl _);rw [hy] at h4;unfold qH at he;simp only [Bool.and_eq_true,decide_eq_true_eq] at he;unfold ez at h3 h4;omega
section
variable {Φ:Y}
theorem a6S{x y:ah}{p q:Option Addr}{c d:Nat}:fE prog F.Ou #[x.v p c,y.v q d] (.int .i64 (J0 x y)):=by
 refine l7 (aM6 x.node x.worker x.state p x.out.length c y.node y.worker y.state q y.out.length d) λW R Φ _=>λ_ _=>⟨R,Φ,γ,λw G B=>B,λw G B=>?_⟩;refine (J1 x.node y.node).use B λw B=>⟨_,rfl,R,Φ,γ,B,λw G B=>B,λw G B=>?_⟩;refine (J1 x.worker y.worker).use B λw B=>⟨_,rfl,R,Φ,γ,B,λk w G B=>?_⟩;refine YO [cR x.node y.node,cR x.worker y.worker] 2 (by intro z hz;simp only [List.mem_cons,List.not_mem_nil,or_false] at hz;rcases hz with rfl|rfl<;>exact aQn _ _) (by simp) B λw B=>⟨_,rfl,R,Φ,γ,B,λw G B=>⟨rfl,B.left⟩⟩
end
section
variable {α:Type}[ι α]{M:List Nat}{w:World}{cs d:List Value}{l:List α}
theorem aUf(h:Δ M w cs l)(i:Nat)(hi:i<=l.length):Δ M w (cs.take (i*(ι.ty α).size)) (l.take i):=by
 have hle:i*(ι.ty α).size<=l.length*(ι.ty α).size:=Nat.mul_le_mul_right _ hi;refine ⟨by rw [List.length_take,List.length_take,h.1,Nat.min_eq_left hi,Nat.min_eq_left hle],λj hj=>?_⟩;rw [List.length_take] at hj;have h2:=h.2 j (by omega);have h3:(j+1)*(ι.ty α).size<=i*(ι.ty α).size:=Nat.mul_le_mul_right _ (by omega);rw [Nat.add_mul,Nat.one_mul] at h3;rw [List.getElem_take,List.drop_take,List.take_take,Nat.min_eq_left (by omega)]
 exact h2
theorem aUe(h:Δ M w cs l)(i:Nat)(hi:i<=l.length):Δ M w (cs.drop (i*(ι.ty α).size)) (l.drop i):=by
 refine ⟨by rw [List.length_drop,List.length_drop,h.1,Nat.sub_mul],λj hj=>?_⟩;rw [List.length_drop] at hj;have h2:=h.2 (i+j) (by omega);rw [List.getElem_drop,List.drop_drop,show i*(ι.ty α).size+j*(ι.ty α).size=(i+j)*(ι.ty α).size by rw [Nat.add_mul]];exact h2
theorem a6m{x:α}(h:Δ M w cs l)(hx:ι.rep M w d x)(i:Nat)(hi:i<=l.length):Δ M w (cs.take (i*(ι.ty α).size)++d++cs.drop (i*(ι.ty α).size)) (l.take i++x :: l.drop i):=by
 have h1:=((aUf h i hi).snoc hx).append (aUe h i hi);rw [aq] at h1 ⊢;rw [aq] at h1;exact h1
end
theorem PF{α:Type}[ι α]{M:List Nat}{w:World}{cs:List Value}{l:List α}(h1:∀ M w cs (x:α),ι.rep M w cs x->(cs.all λu=>dJ u)=true)(h:Δ M w cs l):∀ u∈cs,dJ u=true:=by
 intro u hu;obtain ⟨k,hk,rfl⟩:=List.getElem_of_mem hu;have hpos:0<(ι.ty α).size:=ι.pos;have hl:=h.1;have hj:k / (ι.ty α).size<l.length:=by rw [Nat.div_lt_iff_lt_mul hpos];omega
 have h2:=h1 _ _ _ _ (h.2 _ hj);have hm:=Nat.mod_lt k hpos;have he:=Nat.div_add_mod k (ι.ty α).size;rw [Nat.mul_comm] at he;refine List.all_eq_true.1 h2 _ (List.mem_of_getElem? (i:=k % (ι.ty α).size) ?_);rw [List.getElem?_take_of_lt hm,List.getElem?_drop,he];exact List.getElem?_eq_getElem hk
theorem aQ2{α:Type}[ι α]{W:World}{Φ:Y}[O Φ]{p:Option Addr}{n cap:Nat}{cs:List Value}{t:TypeId}{l:List α}{M:List Nat}{w:World}(h:Go.Vc.sY W [.buf p n cap cs t (ι.ty α).size] Φ M w)(he:∀ M w,Φ M w->Δ M w cs l):ζ M w p l :=
 (Go.Vc.sY.parked h (List.mem_singleton.2 rfl)).sl (he _ _ h.1)
theorem aQ1{α:Type}[ι α]{W:World}{Φ:Y}[O Φ]{b:Nat}{cs:List Value}{t:TypeId}{l:List α}{M:List Nat}{w:World}(h:Go.Vc.sY W [.blk b cs t] Φ M w)(he:∀ M w,Δ M w cs l):ζ M w (some ⟨b,0,none⟩) l :=
 (Go.Vc.sY.parked h (List.mem_singleton.2 rfl)).a55 (he _ _)
section
variable {Φ:Y}
theorem Yk{M:List Nat}{w:World}{b o:Nat}{cs:List (List Value)}{l:List ah}(h:aP b o cs l M w){j:Nat}(hj:j<l.length):∃ p c,cs.getD j []=l[j].cells p c/\V l[j].node/\V l[j].worker/\l[j].state.size<=maxLen/\l[j].out.length<=c/\c<=maxLen/\aQ w b (o+j*4) (l[j].cells p c):=by
 obtain ⟨_,h1,h2⟩:=h j hj;obtain ⟨p,c,e,g1,g2,g3,g4,g5,_⟩:=FV h2;exact ⟨p,c,e,g1,g2,g3,g4,g5,by rw [e] at h1;exact h1⟩
theorem Yl{M:List Nat}{w:World}{b o:Nat}{cs:List (List Value)}{l:List ah}(h:aP b o cs l M w){j:Nat}(hj:j<l.length){p:Option Addr}{c:Nat}(e:cs.getD j []=l[j].cells p c):ζ M w p l[j].out:=by
 have:=(h j hj).2.2;rw [e] at this;exact a8A this
theorem GI{M:List Nat}{w:World}{b o:Nat}{cs:List (List Value)}{l:List ah}(h:aP b o cs l M w){j:Nat}(hj:j<l.length){p:Option Addr}{c:Nat}(e:cs.getD j []=l[j].cells p c):aQ w b (o+j*4) (l[j].cells p c):=by
 have:=(h j hj).2.1;rw [e] at this;exact this
theorem aWa{f:FuncId}{args:Array Value}{v:Value}{b o:Nat}{cs:List (List Value)}{l:List ah}(hΦ:∀ M w,Φ M w->aP b o cs l M w)
  (h:(∀ j,(hj:j<l.length)->∃ p c,cs.getD j []=l[j].cells p c)->ay Φ prog f args v):ay Φ prog f args v :=
 ⟨λW w S c=>(h λj hj=>by obtain ⟨p,c,h1,_⟩:=Yk (hΦ _ _ c.Γ) hj;exact ⟨p,c,h1⟩).go W w S c⟩
theorem aYq(t:TypeId)(k:Nat)(h:k<9223372036854775808)(w:World):Sem.run prog (binOp BinOp.shr t (.int .u64 (IntKind.u64.wrap (k:Int))) (.int .u64 1)) w=.ok (.int .u64 ((k / 2:Nat):Int)) w:=by
 have e:IntKind.u64.wrap (k:Int)=k:=by simp [IntKind.wrap,IntKind.signed,IntKind.bits];omega
 rw [e];show Sem.run prog (Op.shift .shr .u64 (k:Int) .u64 1) w=_;unfold Op.shift;simp [Sem.run_pure];show (k:Int).fdiv 2=_;rw [Int.fdiv_eq_ediv_of_nonneg _ (by decide)]
theorem aPk[O Φ]{p:Option Addr}{cap:Nat}{l:List ah}{h:ah}{q:Option Addr}{d:Nat}(hΦ:∀ M w,Φ M w->ζ M w p l)(ha:yM l)(hl:l.length<=100000000):
  ay Φ prog F.ZM #[.slice p l.length cap,h.v q d,.func (.func F.Ou) #[] #[]] (.tuple #[.int .i64 (hG l h),.bool (vA l h)]):=by
 refine .pinned hΦ λb o cs hp=>?_;refine aWa (b:=b) (o:=o) (cs:=cs) (l:=l) (λM w h=>h.2) λhcs=>?_;obtain ⟨Ψ,hΨ⟩:∃ Ψ:Y,Ψ=(λM w=>Φ M w/\aP b o cs l M w):=⟨_,rfl⟩;have bw:O Ψ:=by rw [hΨ];exact oq Φ (λM w=>aP b o cs l M w)
 have Fs:∀ M w,Ψ M w->aP b o cs l M w:=λM w h=>by rw [hΨ] at h;exact h.2
 rw [<-hΨ];refine dN (aMt p l.length cap h.node h.worker h.state q h.out.length d F.Ou #[]) λW R=>λ_=>?_;refine bK (λzC a52 R' Z n=>∃ i j:Nat,zC=i/\a52=j/\i<=j/\j<=l.length/\(∀ q (hq:q<l.length),q<i->ez l[q] h)/\(∀ q (hq:q<l.length),j<=q->¬ ez l[q] h)/\R'=R/\Z=Ψ/\n=j - i)
  ⟨⟨R,Ψ,_,bw,λw G B=>B,0,l.length,rfl,rfl,Nat.zero_le _,Nat.le_refl _,λq h h2=>by omega,λq h h2=>by omega,rfl,rfl,rfl⟩,?_⟩
 rintro zC a52 ν θ n _ ⟨i,j,rfl,rfl,hij,hj,h1,h2,rfl,rfl,rfl⟩;refine U.intro (λhlt=>?_) (λhge=>?_)
 .have hlt:i<j:=by have:=aD hlt;omega
  have e:((i:Int)+(j:Int))=((i+j:Nat):Int):=by omega
  rw [e];refine ⟨by unfold V;omega,(((i+j) / 2:Nat):Int),λw=>aYq _ _ (by omega) w,?_⟩;rw [NR (k:=(i+j) / 2) (by omega)];obtain ⟨m,hm⟩:∃ m,(i+j) / 2=m:=⟨_,rfl⟩;rw [hm];have aVw:i<=m:=by omega
  have adE:m<j:=by omega
  have hml:m<l.length:=by omega
  obtain ⟨p1,c1,e1⟩:=hcs m hml;refine ⟨ν,θ,bw,λw G B=>B,⟨by omega,by omega⟩,aL b o (hp (by omega)) ⟨l[m].node,l[m].worker,l[m].state,p1,l[m].out.length,c1,λw G B=>⟨_,_,_,_,_,_,by rw [Int.toNat_natCast];exact GI (Fs _ _ B.Γ) hml e1,rfl⟩,λw G B=>⟨by kernel_rfl,?_⟩⟩⟩;refine (a6S (x:=l[m]) (y:=h) (p:=p1) (q:=q) (c:=c1) (d:=d)).use B λw B=>⟨_,rfl,ν,θ,bw,B,U.intro (λhc=>?_) (λhc=>?_)⟩
  .have hc:=(a6I _ _).1 (aD hc);refine ⟨by unfold V;omega,ν,θ,j - (m+1),bw,λw G B=>B,⟨m+1,j,by omega,rfl,by omega,hj,λq h hq=>?_,h2,rfl,rfl,rfl⟩,by omega⟩;by_cases e:q=m
   .subst e;exact hc
   .exact LN (List.pairwise_iff_getElem.1 ha q m h hml (by omega)) hc
  .have hc:¬ ez l[m] h:=λhh=>aO hc ((a6I _ _).2 hh);refine ⟨ν,θ,m - i,bw,λw G B=>B,⟨i,m,rfl,rfl,aVw,by omega,h1,λq h hq=>?_,rfl,rfl,rfl⟩,by omega⟩;by_cases e:q=m
   .subst e;exact hc
   .exact λh3=>hc (LN (List.pairwise_iff_getElem.1 ha m q hml h (by omega)) h3)
 .have hge:i=j:=by have:=aO hge;omega
  subst hge;have za:hG l h=i:=aCF hj h1 h2;have a7p:=aPt ha h1 h2;refine ⟨ν,θ,bw,λw G B=>B,U.intro (λhlt=>?_) (λhn=>λw G B=>?_)⟩
  .have hlt:i<l.length:=by have:=aD hlt;omega
   obtain ⟨p1,c1,e1⟩:=hcs i hlt;refine ⟨⟨by omega,by omega⟩,aL b o (hp (by omega)) ⟨l[i].node,l[i].worker,l[i].state,p1,l[i].out.length,c1,λw G B=>⟨_,_,_,_,_,_,by rw [Int.toNat_natCast];exact GI (Fs _ _ B.Γ) hlt e1,rfl⟩,λw G B=>⟨by kernel_rfl,?_⟩⟩⟩;refine (a6S (x:=l[i]) (y:=h) (p:=p1) (q:=q) (c:=c1) (d:=d)).use B λw B=>⟨_,rfl,ν,θ,bw,B,λw G B=>B,λw G B=>⟨?_,B.left⟩⟩;rw [za,a7p,List.getElem?_eq_getElem hlt]
   simp only;rw [show decide (J0 l[i] h=0)=qH l[i] h by rw [Bool.eq_iff_iff,decide_eq_true_eq];exact aQm _ _]
  .have hn:l.length<=i:=by have:=aO hn;omega
   refine ⟨?_,B.left⟩;rw [za,a7p,List.getElem?_eq_none hn]
end
theorem aEW:(prog.funcs[75]?).isSome=true:=by kernel_rfl
theorem aOC:Nv prog 4 23 23 3 36 56 75 :=
 ⟨by kernel_rfl,by kernel_rfl,by kernel_rfl,by omega,by omega,⟨(prog.funcs[75]?).get aEW,4,(Option.some_get aEW).symm,by kernel_rfl,by kernel_rfl,by kernel_rfl,by kernel_rfl⟩⟩
theorem aEV:(prog.funcs[80]?).isSome=true:=by kernel_rfl
theorem aOB:Nv prog 7 24 24 3 40 72 80 :=
 ⟨by kernel_rfl,by kernel_rfl,by kernel_rfl,by omega,by omega,⟨(prog.funcs[80]?).get aEV,4,(Option.some_get aEV).symm,by kernel_rfl,by kernel_rfl,by kernel_rfl,by kernel_rfl⟩⟩
section
variable {W w:World}{S:List Own}{Φ:Y}
theorem aOE[O Φ]{p:Option Addr}{cap:Nat}{cs:List Value}{l:List ah}{x:ah}{q:Option Addr}{d fk:Nat}{tvb:TypeId}{i:Nat}(hi:i<=l.length)(hn:l.length<=100000)(B:Ctx W w (.buf p l.length cap cs 36 4 :: .blk fk (x.cells q d) tvb :: S) Φ)(he:∀ M w,Φ M w->Δ M w cs l){K:c6}
  (hK:∀ p' cap' w',Ctx W w' (.buf p' (l.length+1) cap' (cs.take (i*4)++x.cells q d++cs.drop (i*4)) 36 4 :: S) Φ->K (.returned (.slice p' (l.length+1) cap')) w') :
  ω F.ZW #[.slice p l.length cap,.int .i64 i,.slice (some ⟨fk,0,none⟩) 1 1] w K:=by
 obtain ⟨bp,hnc,hcm⟩:=B.ry 0 rfl;have hel:=he _ _ B.Γ;have h:Fb prog 4 23 23 3 75 F.aIU p l.length cap i (some ⟨fk,0,none⟩) 1 1 W (.buf p l.length cap cs 36 4 :: .blk fk (x.cells q d) tvb :: S) Φ (λu w'=>K (.returned u) w') :=
  a8q aOC hi (vs:=x.cells q d) (tvb:=tvb) (S:=S) rfl (λu hu=>List.all_eq_true.1 (show ((x.cells q d).all λu=>dJ u)=true from rfl) u hu) (PF K3 hel) hn hnc hcm (λh=>zG B (by rw [bp];exact Nat.mul_pos h (by decide))) bp λp' cap' w G bH=>hK p' cap' w ((Ctx.left (F:=G) bH).sub (List.Sublist.cons_cons _ (List.sublist_cons_self _ _)))
 have h2:T8 p l.length cap i (some ⟨fk,0,none⟩) 1 1 W (.buf p l.length cap cs 36 4 :: .blk fk (x.cells q d) tvb :: S) Φ (λu w'=>K (.returned u) w'):=by
  unfold T8;unfold Fb at h;exact h
 exact cn (aN9 p l.length cap i (some ⟨fk,0,none⟩) 1 1 (J:=K∘.returned) B h2)
theorem aOD[O Φ]{p:Option Addr}{cap:Nat}{cs:List Value}{l:List bn}{x:bn}{q:Option Addr}{d fk:Nat}{tvb:TypeId}{i:Nat}(hi:i<=l.length)(hn:l.length<=100000)(B:Ctx W w (.buf p l.length cap cs 40 7 :: .blk fk (x.cells q d) tvb :: S) Φ)(he:∀ M w,Φ M w->Δ M w cs l){K:c6}
  (hK:∀ p' cap' w',Ctx W w' (.buf p' (l.length+1) cap' (cs.take (i*7)++x.cells q d++cs.drop (i*7)) 40 7 :: S) Φ->K (.returned (.slice p' (l.length+1) cap')) w') :
  ω F.Rh #[.slice p l.length cap,.int .i64 i,.slice (some ⟨fk,0,none⟩) 1 1] w K:=by
 obtain ⟨bp,hnc,hcm⟩:=B.ry 0 rfl;have hel:=he _ _ B.Γ;have h:Fb prog 7 24 24 3 80 F.aIT p l.length cap i (some ⟨fk,0,none⟩) 1 1 W (.buf p l.length cap cs 40 7 :: .blk fk (x.cells q d) tvb :: S) Φ (λu w'=>K (.returned u) w') :=
  a8q aOB hi (vs:=x.cells q d) (tvb:=tvb) (S:=S) rfl (λu hu=>List.all_eq_true.1 (show ((x.cells q d).all λu=>dJ u)=true from rfl) u hu) (PF Ji hel) hn hnc hcm (λh=>zG B (by rw [bp];exact Nat.mul_pos h (by decide))) bp λp' cap' w G bH=>hK p' cap' w ((Ctx.left (F:=G) bH).sub (List.Sublist.cons_cons _ (List.sublist_cons_self _ _)))
 have h2:T7 p l.length cap i (some ⟨fk,0,none⟩) 1 1 W (.buf p l.length cap cs 40 7 :: .blk fk (x.cells q d) tvb :: S) Φ (λu w'=>K (.returned u) w'):=by
  unfold T7;unfold Fb at h;exact h
 exact cn (aN8 p l.length cap i (some ⟨fk,0,none⟩) 1 1 (J:=K∘.returned) B h2)
end
structure cL where
 n:Int
 kind:Int
 place:List Int
 pos:List Int
 closed:List Int
 held:List ah
 δ:List bn
 output:List μ
 inst:Int
 done:List Bool
def jC(l:List ah)(h:ah):List ah:=l.take (hG l h)++h :: l.drop (hG l h)
def iY(l:List bn)(c:Int):Nat:=(l.takeWhile λx=>decide (x.ch<=c)).length
def jB(l:List bn)(f:bn):List bn:=l.take (iY l f.ch)++f :: l.drop (iY l f.ch)
def sM(x:cL)(h:ah):Int × cL:=if vA x.held h=true then (5,x) else if x.inst<=(x.held.length:Int) then (6,x) else (0,{ x with held:=jC x.held h })
def qF(x:cL)(f:bn):Int × cL:=if x.kind≠1 then (1,x) else if f.ch<0\/(x.done.length:Int)<=f.ch then (3,x) else if x.done.getD f.ch.toNat false=true then (7,x) else (0,{ x with δ:=jB x.δ f })
def pz(x:cL)(c:Int):Int × cL:=if c<0\/(x.done.length:Int)<=c then (3,x) else if x.done.getD c.toNat false=true then (5,x) else (0,{ x with done:=x.done.set c.toNat true })
def nD(x:cL)(l:List μ):cL:={ x with output:=v8 x.output l }
def oW(x:cL):Bool:=decide (x.inst<=(x.held.length:Int))&&(decide (x.kind≠1) || !x.done.contains false)
structure gp where
 b:Nat
 pp:Option Addr
 pc:Nat
 ak:Option Addr
 qc:Nat
 rp:Option Addr
 rc:Nat
 hp:Option Addr
 hc:Nat
 hcs:List Value
 fp:Option Addr
 b6:Nat
 cm:List Value
 op:Option Addr
 aN:Nat
 db:Nat
abbrev gE(l:List Bool):List Value:=l.map λb=>.bool b
abbrev cV(m:gp)(x:cL):List Value:=[.int .i64 x.n,.int .i64 x.kind,.slice m.pp x.place.length m.pc,.slice m.ak x.pos.length m.qc,.slice m.rp x.closed.length m.rc,.slice m.hp x.held.length m.hc,.slice m.fp x.δ.length m.b6,.slice m.op x.output.length m.aN,.int .i64 x.inst,.slice (some ⟨m.db,0,none⟩) x.done.length x.done.length]
abbrev aU(m:gp)(x:cL)(S:List Own):List Own:=.blk m.b (cV m x) 64 :: .buf m.hp x.held.length m.hc m.hcs 36 4 :: .buf m.fp x.δ.length m.b6 m.cm 40 7 :: .blk m.db (gE x.done) 4 :: S
structure cz(m:gp)(x:cL)(M:List Nat)(w:World):Prop where
 place:ζ M w m.pp x.place
 pos:ζ M w m.ak x.pos
 closed:ζ M w m.rp x.closed
 held:Δ M w m.hcs x.held
 δ:Δ M w m.cm x.δ
 out:ζ M w m.op x.output
instance(m:gp)(x:cL):O (λM w=>cz m x M w):=⟨λhs h=>⟨h.place.eK hs,h.pos.eK hs,h.closed.eK hs,O.step (Φ:=λM w=>Δ M w m.hcs x.held) hs h.held,O.step (Φ:=λM w=>Δ M w m.cm x.δ) hs h.δ,h.out.eK hs⟩⟩
structure EE(x:cL):Prop where
 rq:yM x.held
 IX:x.δ.Pairwise λa b=>a.ch<=b.ch
 held:x.held.length<=1000
 δ:x.δ.length<=1000
 done:x.done.length<=1000
 Jh:∀ h∈x.held,HR h
 Jg:∀ f∈x.δ,HS f.msg
 caps:x.place.length<=1000/\x.pos.length<=1000/\x.closed.length<=1000
section
variable {W w:World}{S G:List Own}{Φ:Y}
theorem QJ(l:List ah)(h:ah):(jC l h).length=l.length+1:=by
 have:=List.length_filter_le (λx=>decide (ez x h)) l;unfold jC hG;rw [List.length_append,List.length_cons,List.length_take,List.length_drop];omega
theorem aCG(l:List ah)(h:ah):hG l h<=l.length:=List.length_filter_le _ _
theorem Y1(l:List bn)(c:Int):iY l c<=l.length:=by
 unfold iY;exact (List.takeWhile_sublist _).length_le
theorem QI(l:List bn)(f:bn):(jB l f).length=l.length+1:=by
 have:=Y1 l f.ch;unfold jB;rw [List.length_append,List.length_cons,List.length_take,List.length_drop];omega
theorem xQ{b:Nat}{cs:List Value}{t:TypeId}{Ψ:Y}[O Ψ](B:Ctx W w ((.blk b cs t :: S)++G) Ψ):Ctx W w ([.blk b cs t]++G) (λ_ _=>True) :=
 (B.weak λ_ _ _=>trivial).sub (List.Sublist.cons_cons _ (List.sublist_append_right _ _))
theorem Qg{b:Nat}{cs:List Value}{t:TypeId}{o:Own}{Ψ:Y}[O Ψ](B:Ctx W w ((o :: .blk b cs t :: S)++G) Ψ):Ctx W w ([.blk b cs t]++G) (λ_ _=>True) :=
 (B.weak λ_ _ _=>trivial).sub ((List.Sublist.cons_cons _ (List.sublist_append_right _ _)).cons _)
theorem aPa[O Φ]{m:gp}{x:cL}{h:ah}{q:Option Addr}{d:Nat}(B:Ctx W w (aU m x S) (λM w=>Φ M w/\cz m x M w))(hok:EE x)(hΦ:∀ M w,Φ M w->ζ M w q h.out)(hf:HR h)(hI:V h.node/\V h.worker/\h.state.size<=maxLen){K:c6}
  (hk:∀ e x' m' w',sM x h=(e,x')->m'.b=m.b->m'.aN=m.aN->Ctx W w' (aU m' x' S) (λM w=>Φ M w/\cz m' x' M w)->K (.returned (.int .i64 e)) w') :
  ω F.Uu #[aA m.b 0,h.v q d] w K:=by
 refine cn (aLw m.b 0 h.node h.worker h.state q h.out.length d (J:=K∘.returned) B ?_);clear B;obtain ⟨Ψ,hΨ⟩:∃ Ψ:Y,Ψ=(λM w=>Φ M w/\cz m x M w):=⟨_,rfl⟩;have bw:O Ψ:=by rw [hΨ];exact oq Φ (λM w=>cz m x M w)
 have p0:∀ M w,Ψ M w->Φ M w:=λM w h=>by rw [hΨ] at h;exact h.1
 have eJ:∀ M w,Ψ M w->cz m x M w:=λM w h=>by rw [hΨ] at h;exact h.2
 rw [<-hΨ];refine λ_=>⟨[.blk m.b (cV m x) 64],λ_ _=>True,γ,λw G B=>xQ B,m.hp,x.held.length,m.hc,λw G B=>⟨_,_,_,B.get 0 rfl rfl,rfl⟩,λw G B=>?_⟩;refine (aPk (Φ:=Go.Vc.sY W [.buf m.hp x.held.length m.hc m.hcs 36 4] Ψ) (p:=m.hp) (cap:=m.hc) (l:=x.held) (h:=h) (q:=q) (d:=d) (λM w h=>aQ2 h λM w h=>(eJ M w h).held) hok.rq (by have:=hok.held;omega)).use (Ctx.aside (Q:=[.buf m.hp x.held.length m.hc m.hcs 36 4]) B.swap) λw B=>⟨_,_,rfl,aU m x S,Ψ,bw,(Ctx.aIs B).swap,U.intro (λha=>λw G B=>?_) (λha=>λw G B=>⟨m.hp,x.held.length,m.hc,B.get 0 rfl rfl,x.inst,B.get 0 rfl rfl,U.intro (λhi=>λw G B=>?_) (λhi=>?_)⟩)⟩
 .refine hk 5 x m w (by unfold sM;rw [if_pos ha]) rfl rfl ?_;rw [<-hΨ];exact Ctx.left (F:=G) B
 .refine hk 6 x m w (by unfold sM;rw [if_neg (by rw [ha];simp),if_pos (aD hi)]) rfl rfl ?_;rw [<-hΨ];exact Ctx.left (F:=G) B
 clear B;refine ⟨[.blk m.b (cV m x) 64],λ_ _=>True,γ,λw G B=>xQ B,m.hp,x.held.length,m.hc,λw G B=>⟨_,_,_,B.get 0 rfl rfl,rfl⟩,λw G B=>?_⟩;refine (a6F (Φ:=Ψ) (x:=h) (p:=q) (cap:=d) (λM w h=>hΦ M w (p0 M w h)) hf).use B λp2 c2 w h1 h2 B=>⟨_,_,_,p2,_,c2,rfl,aU m x S,λM w=>Ψ M w/\ζ M w p2 h.out,γ,B,λw G B=>xQ B,λk=>⟨λw G B=>Qg B,λw G B=>?_⟩⟩;have bG:=B.perm (List.perm_middle (l₁:=[Own.blk k (h.cells p2 c2) 36,.blk m.b (cV m x) 64]))
 refine aOE (x:=h) (q:=p2) (d:=c2) (aCG _ _) (by have:=hok.held;omega) ((bG.perm (List.Perm.refl _)):Ctx W w (.buf m.hp x.held.length m.hc m.hcs 36 4 :: .blk k (h.cells p2 c2) 36 :: .blk m.b (cV m x) 64 :: .buf m.fp x.δ.length m.b6 m.cm 40 7 :: .blk m.db (gE x.done) 4 :: (S++G)) (λM w=>Ψ M w/\ζ M w p2 h.out)) (λM w h=>(eJ M w h.1).held) λp' cap' w' B=>⟨p',_,cap',rfl,.blk m.b (cV m x) 64 :: .buf p' (x.held.length+1) cap' (m.hcs.take (hG x.held h*4)++h.cells p2 c2++m.hcs.drop (hG x.held h*4)) 36 4 :: .buf m.fp x.δ.length m.b6 m.cm 40 7 :: .blk m.db (gE x.done) 4 :: S,λM w=>Ψ M w/\ζ M w p2 h.out,γ,B.swap,λw G B=>xQ B,λw G B=>⟨B.can 0 rfl (by show 0+5+1<=10;omega),λw' hw'=>⟨.blk m.b ((cV m x).set (0+5) (.slice p' (x.held.length+1) cap')) 64 :: .buf p' (x.held.length+1) cap' (m.hcs.take (hG x.held h*4)++h.cells p2 c2++m.hcs.drop (hG x.held h*4)) 36 4 :: .buf m.fp x.δ.length m.b6 m.cm 40 7 :: .blk m.db (gE x.done) 4 :: S,λM w=>Ψ M w/\ζ M w p2 h.out,γ,B.put 0 hw' rfl,λw G B=>?_⟩⟩⟩
 refine hk 0 { x with held:=jC x.held h } { m with hp:=p',hc:=cap',hcs:=m.hcs.take (hG x.held h*4)++h.cells p2 c2++m.hcs.drop (hG x.held h*4) } w (by unfold sM;rw [if_neg (by rw [ha];simp),if_neg (aO hi)]) rfl rfl ?_;have e:aU { m with hp:=p',hc:=cap',hcs:=m.hcs.take (hG x.held h*4)++h.cells p2 c2++m.hcs.drop (hG x.held h*4) } { x with held:=jC x.held h } S=.blk m.b ((cV m x).set (0+5) (.slice p' (x.held.length+1) cap')) 64 :: .buf p' (x.held.length+1) cap' (m.hcs.take (hG x.held h*4)++h.cells p2 c2++m.hcs.drop (hG x.held h*4)) 36 4 :: .buf m.fp x.δ.length m.b6 m.cm 40 7 :: .blk m.db (gE x.done) 4 :: S:=by
  simp only [aU,cV,QJ];rfl
 rw [e];refine (Ctx.left (F:=G) B).weak λM w hh=>⟨p0 M w hh.1,?_⟩;have hF:=eJ M w hh.1;exact ⟨hF.place,hF.pos,hF.closed,a6m hF.held (RO hI.1 hI.2.1 hI.2.2 h1 h2 hh.2) _ (aCG _ _),hF.δ,hF.out⟩
theorem a6n{M:List Nat}{w:World}{cs:List Value}{l:List bn}(h:Δ M w cs l){j:Nat}(hj:j<l.length):∃ q c,(cs.drop (j*7)).take 7=l[j].cells q c/\V l[j].ch/\l[j].msg.ξ.length<=c/\c<=maxLen/\l[j].msg.lP:=by
 have:=h.2 j hj;rw [show (ι.ty bn).size=7 from rfl] at this;obtain ⟨q,c,h1,h2,h3,h4,h5,_⟩:=FJ this;exact ⟨q,c,h1,h2,h3,h4,h5⟩
theorem Y0{l:List bn}{c:Int}{i:Nat}(hi:i<=l.length)(h1:∀ q (hq:q<l.length),q<i->l[q].ch<=c)(h2:∀ (hq:i<l.length),¬ l[i].ch<=c):iY l c=i:=by
 unfold iY;have e:l.takeWhile (λx=>decide (x.ch<=c))=l.take i:=by
  conv=>lhs;rw [<-List.take_append_drop i l]
  rw [List.takeWhile_append_of_pos]
  .rcases Nat.lt_or_ge i l.length with hlt|hge
   .rw [List.drop_eq_getElem_cons hlt,List.takeWhile_cons_of_neg (by simpa using h2 hlt),List.append_nil]
   .rw [List.drop_of_length_le hge,List.takeWhile_nil,List.append_nil]
  .intro x hx;obtain ⟨q,hq,rfl⟩:=List.getElem_of_mem hx;rw [List.length_take] at hq;rw [List.getElem_take];exact decide_eq_true (h1 q (by omega) (by omega))
 rw [e,List.length_take];omega
theorem Ik{l:List Bool}{i:Nat}(h:i<l.length):(gE l)[i]? = some (.bool (l.getD i false)):=by
 rw [List.getElem?_map,List.getElem?_eq_getElem h,List.getD_eq_getElem?_getD,List.getElem?_eq_getElem h];rfl
theorem aPY[O Φ]{m:gp}{x:cL}{f:bn}{q:Option Addr}{d:Nat}(B:Ctx W w (aU m x S) (λM w=>Φ M w/\cz m x M w))(hok:EE x)(hΦ:∀ M w,Φ M w->ζ M w q f.msg.ξ)(hf:HS f.msg)(hI:V f.ch/\f.msg.lP){K:c6}
  (hk:∀ e x' m' w',qF x f=(e,x')->m'.b=m.b->m'.aN=m.aN->Ctx W w' (aU m' x' S) (λM w=>Φ M w/\cz m' x' M w)->K (.returned (.int .i64 e)) w') :
  ω F.Ut #[aA m.b 0,f.v q d] w K:=by
 refine cn (aLv m.b 0 f.ch f.msg.kind f.msg.node f.msg.dS f.msg.bucket f.msg.n q f.msg.ξ.length d (J:=K∘.returned) B ?_);clear B;obtain ⟨Ψ,hΨ⟩:∃ Ψ:Y,Ψ=(λM w=>Φ M w/\cz m x M w):=⟨_,rfl⟩;have bw:O Ψ:=by rw [hΨ];exact oq Φ (λM w=>cz m x M w)
 have p0:∀ M w,Ψ M w->Φ M w:=λM w h=>by rw [hΨ] at h;exact h.1
 have eJ:∀ M w,Ψ M w->cz m x M w:=λM w h=>by rw [hΨ] at h;exact h.2
 rw [<-hΨ];have hfl:=hok.δ;refine λ_ w G B=>⟨x.kind,B.get 0 rfl rfl,U.intro (λh1=>λw G B=>?_) (λh1=>λw G B=>⟨some ⟨m.db,0,none⟩,x.done.length,x.done.length,λ_=>B.get 0 rfl rfl,U.intro (λh2=>λw G B=>?_) (λh2=>λw G B=>⟨some ⟨m.db,0,none⟩,x.done.length,x.done.length,B.get 0 rfl rfl,?_⟩)⟩)⟩
 .refine hk 1 x m w (by unfold qF;rw [if_pos (aD h1)]) rfl rfl ?_;rw [<-hΨ];exact Ctx.left (F:=G) B
 .have h2:f.ch<0\/(x.done.length:Int)<=f.ch:=by simpa using h2
  refine hk 3 x m w (by unfold qF;rw [if_neg (aO h1),if_pos h2]) rfl rfl ?_;rw [<-hΨ];exact Ctx.left (F:=G) B
 have h2:¬ (f.ch<0\/(x.done.length:Int)<=f.ch):=by simpa using h2
 have hlt:f.ch.toNat<x.done.length:=by omega
 refine ⟨⟨by omega,by omega⟩,aL m.db 0 rfl ⟨x.done.getD f.ch.toNat false,B.get 3 rfl (by rw [Nat.zero_add];exact Ik hlt),U.intro (λh3=>λw G B=>?_) (λh3=>λw G B=>?_)⟩⟩
 .refine hk 7 x m w (by unfold qF;rw [if_neg (aO h1),if_neg h2,if_pos h3]) rfl rfl ?_;rw [<-hΨ];exact Ctx.left (F:=G) B
 refine (U' (Φ:=Ψ) (m:=f.msg) (p:=q) (cap:=d) (λM w h=>hΦ M w (p0 M w h)) hf.1 hf.2).use B λp2 c2 w g1 g2 B=>⟨_,_,_,_,_,p2,_,c2,rfl,aU m x S,λM w=>Ψ M w/\ζ M w p2 f.msg.ξ,γ,B,?_⟩;clear B;obtain ⟨fl,nq⟩:∃ fl:Y,fl=(λM w=>Ψ M w/\ζ M w p2 f.msg.ξ):=⟨_,rfl⟩;have rC:O fl:=by rw [nq];exact γ
 have k2:∀ M w,fl M w->Ψ M w/\ζ M w p2 f.msg.ξ:=λM w h=>by rw [nq] at h;exact h
 rw [<-nq];refine bK (λn R' Z k=>∃ i:Nat,n=i/\i<=x.δ.length/\R'=aU m x S/\Z=fl/\k=x.δ.length - i/\∀ j (hj:j<x.δ.length),j<i->x.δ[j].ch<=f.ch) ⟨⟨_,fl,_,rC,λw F c=>c,0,rfl,Nat.zero_le _,rfl,rfl,rfl,λj _ h=>by omega⟩,?_⟩;rintro n ν θ k _ ⟨i,rfl,hi,rfl,rfl,rfl,hle⟩;refine λw G B=>⟨m.fp,x.δ.length,m.b6,B.get 0 rfl rfl,m.fp,x.δ.length,m.b6,λ_=>B.get 0 rfl rfl,λh=>⟨by omega,by have:=aD h;omega⟩,?_⟩;have next:∀ (hlt:i<x.δ.length),x.δ[i].ch<=f.ch->(V ((i:Int)+1)/\∃ mZ mR n8,O mR/\(∀ uc OI,Ctx W uc (aU m x S++OI) θ->Ctx W uc (mZ++OI) mR)/\(∃ i':Nat,(i:Int)+1=i'/\i'<=x.δ.length/\mZ=aU m x S/\mR=θ/\n8=x.δ.length - i'/\∀ j (hj:j<x.δ.length),j<i'->x.δ[j].ch<=f.ch)/\n8<x.δ.length - i):=λhlt hc =>
  ⟨by unfold V;omega,_,θ,x.δ.length - (i+1),rC,λw G B=>B,⟨i+1,by omega,hlt,rfl,rfl,rfl,λj hj hji=>by
   by_cases e:j=i
   .subst e;exact hc
   .exact hle j hj (by omega)⟩,by omega⟩
 have exit:iY x.δ f.ch=i->(∃ jS oF,O oF/\(∀ w R,Ctx W w (aU m x S++R) θ->Ctx W w (jS++R) oF)/\∃ sK sD jG,(∀ w R,Ctx W w (jS++R) oF->∃ xg ou ov,w.cell? (Addr.mk m.b (0+6) none)=some (.slice xg ou ov)/\Value.slice xg ou ov=Value.slice sK sD jG) /\
   ∀ (xP:Nat),(∀ w R,Ctx W w (Own.blk xP (f.cells p2 c2) 40 :: aU m x S++R) θ->Ctx W w (jS++R) oF)/\∀ w R,Ctx W w (Own.blk xP (f.cells p2 c2) 40 :: aU m x S++R) θ->ω F.Rh #[.slice sK sD jG,.int .i64 i,.slice (some (Addr.mk xP 0 none)) 1 1] w λe w'=>∃ MF kV vc,e=.returned (.slice MF kV vc)/\∃ wR EC,O EC/\Ctx W w' (wR++R) EC /\
    (∀ w R,Ctx W w (wR++R) EC->Ctx W w (jS++R) oF)/\∀ w R,Ctx W w (wR++R) EC->bJ w m.b (0+6) 1/\∀ w',w'=w.setCell (Addr.mk m.b (0+6) none) (.slice MF kV vc)->∃ v7 rR,O rR/\Ctx W w' (v7++R) rR/\∀ w R,Ctx W w (v7++R) rR->K (.returned (.int .i64 0)) w):=by
  intro za;subst za;refine ⟨[.blk m.b (cV m x) 64],λ_ _=>True,γ,λw G B=>xQ B,m.fp,x.δ.length,m.b6,λw G B=>⟨_,_,_,B.get 0 rfl rfl,rfl⟩,λk=>⟨λw G B=>Qg B,λw G B=>?_⟩⟩;have bG:=B.perm (List.perm_middle (l₁:=[Own.blk k (f.cells p2 c2) 40,.blk m.b (cV m x) 64,.buf m.hp x.held.length m.hc m.hcs 36 4]));refine aOD (x:=f) (q:=p2) (d:=c2) (Y1 _ _) (by have:=hok.δ;omega) ((bG.perm (List.Perm.refl _)):Ctx W w (.buf m.fp x.δ.length m.b6 m.cm 40 7 :: .blk k (f.cells p2 c2) 40 :: .blk m.b (cV m x) 64 :: .buf m.hp x.held.length m.hc m.hcs 36 4 :: .blk m.db (gE x.done) 4 :: (S++G)) θ) (λM w h=>(eJ M w (k2 M w h).1).δ) λp' cap' w' B=>?_
  have bH:=B.perm (List.perm_middle (l₁:=[Own.blk m.b (cV m x) 64,.buf m.hp x.held.length m.hc m.hcs 36 4])).symm;refine ⟨p',_,cap',rfl,.blk m.b (cV m x) 64 :: .buf m.hp x.held.length m.hc m.hcs 36 4 :: .buf p' (x.δ.length+1) cap' (m.cm.take (iY x.δ f.ch*7)++f.cells p2 c2++m.cm.drop (iY x.δ f.ch*7)) 40 7 :: .blk m.db (gE x.done) 4 :: S,θ,rC,bH,λw G B=>xQ B,λw G B=>⟨B.can 0 rfl (by show 0+6+1<=10;omega),λw' hw'=>⟨.blk m.b ((cV m x).set (0+6) (.slice p' (x.δ.length+1) cap')) 64 :: .buf m.hp x.held.length m.hc m.hcs 36 4 :: .buf p' (x.δ.length+1) cap' (m.cm.take (iY x.δ f.ch*7)++f.cells p2 c2++m.cm.drop (iY x.δ f.ch*7)) 40 7 :: .blk m.db (gE x.done) 4 :: S,θ,rC,B.put 0 hw' rfl,λw G B=>?_⟩⟩⟩
  refine hk 0 { x with δ:=jB x.δ f } { m with fp:=p',b6:=cap',cm:=m.cm.take (iY x.δ f.ch*7)++f.cells p2 c2++m.cm.drop (iY x.δ f.ch*7) } w (by unfold qF;rw [if_neg (aO h1),if_neg h2,if_neg (by rw [h3];simp)]) rfl rfl ?_;have e:aU { m with fp:=p',b6:=cap',cm:=m.cm.take (iY x.δ f.ch*7)++f.cells p2 c2++m.cm.drop (iY x.δ f.ch*7) } { x with δ:=jB x.δ f } S=.blk m.b ((cV m x).set (0+6) (.slice p' (x.δ.length+1) cap')) 64 :: .buf m.hp x.held.length m.hc m.hcs 36 4 :: .buf p' (x.δ.length+1) cap' (m.cm.take (iY x.δ f.ch*7)++f.cells p2 c2++m.cm.drop (iY x.δ f.ch*7)) 40 7 :: .blk m.db (gE x.done) 4 :: S:=by
   simp only [aU,cV,QI];rfl
  rw [e];refine (Ctx.left (F:=G) B).weak λM w hh=>⟨p0 M w (k2 M w hh).1,?_⟩;have hF:=eJ M w (k2 M w hh).1;exact ⟨hF.place,hF.pos,hF.closed,hF.held,a6m hF.δ (RN hI.1 g1 g2 hI.2 (k2 M w hh).2) _ (Y1 _ _),hF.out⟩
 rcases Nat.lt_or_ge i x.δ.length with hlt|hge
 .obtain ⟨fb,a8E⟩:=zG (B.perm (List.perm_middle (l₁:=[Own.blk m.b (cV m x) 64,.buf m.hp x.held.length m.hc m.hcs 36 4])):Ctx W w (.buf m.fp x.δ.length m.b6 m.cm 40 7 :: .blk m.b (cV m x) 64 :: .buf m.hp x.held.length m.hc m.hcs 36 4 :: .blk m.db (gE x.done) 4 :: (S++G)) θ) (by rw [(eJ _ _ (k2 _ _ B.Γ).1).δ.1];exact Nat.mul_pos (by omega) (by decide));have hel:=(eJ _ _ (k2 _ _ B.Γ).1).δ;obtain ⟨q1,c1,hq1,_⟩:=a6n hel hlt
  obtain ⟨_,_,g3⟩:=FB hel hlt hq1;refine aL fb 0 a8E ⟨x.δ[i].ch,λ_=>?_,U.intro (λhb=>?_) (λhb=>?_)⟩
  .rw [Int.toNat_natCast];have:=B.F2 2 rfl a8E (o:=0+i*7) (vs:=x.δ[i].cells q1 c1) (λj hj=>by rw [Nat.zero_add];exact (g3 j hj).trans (List.getElem?_eq_getElem hj)) 0 (by show 0<7;omega);exact this
  .have hb:(i:Int)<(x.δ.length:Int)/\x.δ[i].ch<=f.ch:=by simpa using hb
   exact next hlt hb.2
  .refine exit (Y0 hi hle λh=>?_);have hb:¬ ((i:Int)<(x.δ.length:Int)/\x.δ[i].ch<=f.ch):=by simpa using hb
   exact λhc=>hb ⟨by omega,hc⟩
 .have hni:¬ (i:Int)<(x.δ.length:Int):=by omega
  refine aYA (decide_eq_false hni) λb o=>⟨0,λh=>absurd (aD h) hni,U.intro (λhb=>?_) (λhb=>exit (Y0 hi hle λh=>by omega))⟩;rw [decide_eq_false hni] at hb;cases hb
theorem aO3[O Φ]{m:gp}{x:cL}{c:Int}(B:Ctx W w (aU m x S) (λM w=>Φ M w/\cz m x M w)){K:c6}
  (hk:∀ e x' w',pz x c=(e,x')->Ctx W w' (aU m x' S) (λM w=>Φ M w/\cz m x' M w)->K (.returned (.int .i64 e)) w') :
  ω F.Ur #[aA m.b 0,.int .i64 c] w K:=by
 refine cn (aLt m.b 0 c (J:=K∘.returned) B ?_);clear B;have hst:O (λM w=>Φ M w/\cz m x M w):=γ;refine λw G B=>⟨some ⟨m.db,0,none⟩,x.done.length,x.done.length,λ_=>B.get 0 rfl rfl,U.intro (λh2=>λw G B=>?_) (λh2=>λw G B=>⟨some ⟨m.db,0,none⟩,x.done.length,x.done.length,B.get 0 rfl rfl,?_⟩)⟩
 .have h2:c<0\/(x.done.length:Int)<=c:=by simpa using h2
  exact hk 3 x w (by unfold pz;rw [if_pos h2]) (Ctx.left (F:=G) B)
 have h2:¬ (c<0\/(x.done.length:Int)<=c):=by simpa using h2
 have hlt:c.toNat<x.done.length:=by omega
 refine ⟨⟨by omega,by omega⟩,aL m.db 0 rfl λw G B=>⟨x.done.getD c.toNat false,B.get 3 rfl (by rw [Nat.zero_add];exact Ik hlt),U.intro (λh3=>λw G B=>?_) (λh3=>λw G B=>⟨some ⟨m.db,0,none⟩,x.done.length,x.done.length,B.get 0 rfl rfl,⟨by omega,by omega⟩,aL m.db 0 rfl λw G B=>⟨B.can 3 rfl (by rw [List.length_map];omega),λw' hw'=>⟨.blk m.b (cV m x) 64 :: .buf m.hp x.held.length m.hc m.hcs 36 4 :: .buf m.fp x.δ.length m.b6 m.cm 40 7 :: .blk m.db ((gE x.done).set (0+c.toNat) (.bool true)) 4 :: S,_,hst,B.put 3 hw' rfl,λw G B=>?_⟩⟩⟩)⟩⟩
 .exact hk 5 x w (by unfold pz;rw [if_neg h2,if_pos h3]) (Ctx.left (F:=G) B)
 .refine hk 0 { x with done:=x.done.set c.toNat true } w (by unfold pz;rw [if_neg h2,if_neg (by rw [h3];simp)]) ?_;have e:aU m { x with done:=x.done.set c.toNat true } S=.blk m.b (cV m x) 64 :: .buf m.hp x.held.length m.hc m.hcs 36 4 :: .buf m.fp x.δ.length m.b6 m.cm 40 7 :: .blk m.db ((gE x.done).set (0+c.toNat) (.bool true)) 4 :: S:=by
   simp only [aU,cV,List.length_set,gE,Nat.zero_add,List.map_set]
  rw [e];exact (Ctx.left (F:=G) B).weak λM w h=>⟨h.1,h.2.place,h.2.pos,h.2.closed,h.2.held,h.2.δ,h.2.out⟩
end
section
variable {W w:World}{S G:List Own}{Φ:Y}
def Ev(l:List μ):Prop:=∀ x∈l,x.row.length<=1000000
theorem aOW[O Φ]{m:gp}{x:cL}{q:Option Addr}{l:List μ}{d:Nat}(B:Ctx W w (aU m x S) (λM w=>Φ M w/\cz m x M w))(hΦ:∀ M w,Φ M w->ζ M w q l)(hc:x.output.length<=m.aN/\m.aN<=maxLen)(hd:l.length<=d/\d<=maxLen)(h1:x.output.length<=400000)(h2:l.length<=400000)(h3:Ev x.output)(h4:Ev l){K:c6}
  (hk:∀ m' w',m'.b=m.b->(v8 x.output l).length<=m'.aN->m'.aN<=maxLen->Ctx W w' (aU m' (nD x l) S) (λM w=>Φ M w/\cz m' (nD x l) M w)->K (.returned (.tuple #[])) w') :
  ω F.Us #[aA m.b 0,.slice q l.length d] w K:=by
 refine cn (aLu m.b 0 q l.length d (J:=K∘.returned) B ?_);clear B;refine λw G B=>⟨m.op,x.output.length,m.aN,B.get 0 rfl rfl,λw G B=>?_⟩;refine (aLk (Φ:=λM w=>Φ M w/\cz m x M w) m.op m.aN x.output q d l (λM w h=>h.2.out) (λM w h=>hΦ M w h.1) hc.1 hc.2 hd.1 hd.2 h1 h2 h3 h4).use B λp c w g1 g2 B=>⟨p,_,c,rfl,aU m x S,_,γ,B,λw G B=>⟨B.can 0 rfl (by show 0+7+1<=10;omega),λw' hw'=>?_⟩⟩;have hst:O (λM w=>(Φ M w/\cz m x M w)/\ζ M w p (v8 x.output l)):=γ
 refine ⟨aU { m with op:=p,aN:=c } (nD x l) S,_,hst,B.put 0 hw' rfl,λw G B=>hk { m with op:=p,aN:=c } w rfl g1 g2 ?_⟩;exact (Ctx.left (F:=G) B).weak λM w h=>⟨h.1.1,h.1.2.place,h.1.2.pos,h.1.2.closed,h.1.2.held,h.1.2.δ,h.2⟩
theorem aO0[O Φ]{p:Option Addr}{c:Nat}{l:List Bool}(hΦ:∀ M w,Φ M w->ζ M w p l)(hl:l.length<=1000000):ay Φ prog F.ZR #[.slice p l.length c,.bool false] (.bool (l.contains false)):=by
 have hidx:∃ n:Int,ay Φ prog F.ZV #[.slice p l.length c,.bool false] (.int .i64 n)/\decide (0<=n)=l.contains false:=by
  by_cases hc:l.contains false=true
  .have hm:false∈l:=by simpa using hc
   obtain ⟨k,hk,hkv,hmin⟩:∃ k,∃ hk:k<l.length,l[k]=false/\∀ j (hj:j<l.length),j<k->l[j]=true:=by
    have key:∀ (l:List Bool),false∈l->∃ k,∃ hk:k<l.length,l[k]=false/\∀ j (hj:j<l.length),j<k->l[j]=true:=by
     intro l
     induction l with
     | nil=>intro h;cases h
     | cons b l ih =>
      intro h;cases b with
      | false=>exact ⟨0,by simp,rfl,λj _ h=>by omega⟩
      | true =>
       obtain ⟨k,hk,h1,h2⟩:=ih (by simpa using h);refine ⟨k+1,by simpa using hk,by simpa using h1,λj hj og=>?_⟩;cases j with
       | zero=>rfl
       | succ j=>simpa using h2 j (by simpa using hj) (by omega)
    exact key l hm
   refine ⟨k,?_,by rw [hc];simp⟩;refine .there (λM w h=>(hΦ M w h).there) λeG=>?_;refine dN (a27 p l.length c false) λW R=>?_;refine bK (λn R' Z m=>∃ i:Nat,n=i/\i<=k/\R'=R/\Z=Φ/\m=l.length - i) ⟨⟨R,Φ,_,γ,λw F c=>c,0,rfl,Nat.zero_le _,rfl,rfl,rfl⟩,?_⟩;rintro n ν θ m _ ⟨i,rfl,hi,rfl,rfl,rfl⟩;obtain ⟨b,o,rfl⟩:=eG (by omega);have l9:i<l.length:=by omega
   refine U.intro (λ_=>⟨⟨by omega,by omega⟩,aL b o rfl λw F B=>⟨l[i],?_,U.intro (λh=>λw F B=>⟨?_,B.left⟩) (λh=>⟨by unfold V;omega,ν,θ,l.length - (i+1),γ,λw F c=>c,⟨i+1,by omega,?_,rfl,rfl,rfl⟩,by omega⟩)⟩⟩) (λh=>absurd (aO h) (by omega))
   .rw [Int.toNat_natCast];obtain ⟨b',o',cs,e,_,h3,h4⟩:=hΦ _ _ B.Γ i l9;cases e;have h4:cs=[.bool l[i]]:=h4;subst h4;have:=h3 0 (by simp);simpa [show (ι.ty Bool).size=1 from rfl] using this
   .have h:l[i]=false:=by simpa using h
    have:i=k:=by
     rcases Nat.lt_or_ge i k with hlt|hge
     .have:=hmin i l9 hlt;rw [h] at this;cases this
     .omega
    rw [this]
   .rcases Nat.lt_or_ge i k with hlt|hge
    .exact hlt
    .have e:i=k:=by omega
     subst e;rw [hkv] at h;cases h
  .refine ⟨-1,?_,by simpa using hc⟩;have hall:∀ j (hj:j<l.length),l[j]=true:=λj hj=>by
    cases h:l[j] with
    | true=>rfl
    | false=>exact absurd (by simpa using h ▸ List.getElem_mem hj) hc
   refine .there (λM w h=>(hΦ M w h).there) λeG=>?_;refine dN (a27 p l.length c false) λW R=>?_;refine bK (λn R' Z m=>∃ i:Nat,n=i/\i<=l.length/\R'=R/\Z=Φ/\m=l.length - i) ⟨⟨R,Φ,_,γ,λw F c=>c,0,rfl,Nat.zero_le _,rfl,rfl,rfl⟩,?_⟩;rintro n ν θ m _ ⟨i,rfl,hi,rfl,rfl,rfl⟩;refine U.intro (λhlt=>?_) (λh=>λw F B=>⟨rfl,B.left⟩);have l9:i<l.length:=by have:=aD hlt;omega
   obtain ⟨b,o,rfl⟩:=eG (by omega);refine ⟨⟨by omega,by omega⟩,aL b o rfl λw F B=>⟨l[i],?_,U.intro (λh=>?_) (λh=>⟨by unfold V;omega,ν,θ,l.length - (i+1),γ,λw F c=>c,⟨i+1,by omega,l9,rfl,rfl,rfl⟩,by omega⟩)⟩⟩
   .rw [Int.toNat_natCast];obtain ⟨b',o',cs,e,_,h3,h4⟩:=hΦ _ _ B.Γ i l9;cases e;have h4:cs=[.bool l[i]]:=h4;subst h4;have:=h3 0 (by simp);simpa [show (ι.ty Bool).size=1 from rfl] using this
   .rw [hall i l9] at h;cases h
 obtain ⟨n,hn,hd⟩:=hidx;rw [<-hd];exact dN (aN4 p l.length c false) λW R=>λw G B=>hn.Ge B λw G B=>⟨rfl,B.left⟩
theorem aQB{M:List Nat}{w:World}(l:List Bool):Δ M w (gE l) l:=by
 refine ⟨by rw [List.length_map];exact (Nat.mul_one _).symm,λj hj=>?_⟩;show ((gE l).drop (j*1)).take 1=[.bool l[j]];rw [Nat.mul_one,List.drop_eq_getElem_cons (by rw [List.length_map];exact hj),List.take_succ_cons,List.take_zero,List.getElem_map]
theorem Nn[O Φ]{m:gp}{x:cL}(B:Ctx W w (aU m x S) (λM w=>Φ M w/\cz m x M w))(hl:x.done.length<=1000){K:c6}
  (hk:∀ w',Ctx W w' (aU m x S) (λM w=>Φ M w/\cz m x M w)->K (.returned (.bool (oW x))) w') :
  ω F.oV #[aA m.b 0] w K:=by
 refine cn (aLs m.b 0 (J:=K∘.returned) B ?_);clear B;obtain ⟨Ψ,hΨ⟩:∃ Ψ:Y,Ψ=(λM w=>Φ M w/\cz m x M w):=⟨_,rfl⟩;have bw:O Ψ:=by rw [hΨ];exact oq Φ (λM w=>cz m x M w)
 rw [<-hΨ] at hk ⊢;refine ⟨[.blk m.b (cV m x) 64],λ_ _=>True,γ,λw G B=>xQ B,x.inst,λw G B=>⟨_,B.get 0 rfl rfl,rfl⟩,m.hp,x.held.length,m.hc,λw G B=>⟨_,_,_,B.get 0 rfl rfl,rfl⟩,U.intro (λh1=>⟨x.kind,λw G B=>⟨_,B.get 0 rfl rfl,rfl⟩,U.intro (λh2=>λw G B=>?_) (λh2=>⟨some ⟨m.db,0,none⟩,x.done.length,x.done.length,λw G B=>⟨_,_,_,B.get 0 rfl rfl,rfl⟩,λw G B=>?_⟩)⟩) (λh1=>λw G B=>?_)⟩
 .have:=hk w (Ctx.left (F:=G) B);unfold oW at this
  rwa [h1,h2] at this
 .have bG:=B.perm (List.perm_middle (l₁:=[Own.blk m.b (cV m x) 64,.buf m.hp x.held.length m.hc m.hcs 36 4,.buf m.fp x.δ.length m.b6 m.cm 40 7]));refine (aO0 (Φ:=Go.Vc.sY W [.blk m.db (gE x.done) 4] Ψ) (p:=some ⟨m.db,0,none⟩) (c:=x.done.length) (l:=x.done) (λM w h=>aQ1 h λM w=>aQB x.done) (by omega)).use (Ctx.aside (Q:=[.blk m.db (gE x.done) 4]) bG) λw B=>⟨_,rfl,aU m x S,Ψ,bw,?_,λw G B=>?_⟩
  .exact (Ctx.aIs B).perm (List.perm_middle (l₁:=[Own.blk m.b (cV m x) 64,.buf m.hp x.held.length m.hc m.hcs 36 4,.buf m.fp x.δ.length m.b6 m.cm 40 7])).symm
  .have:=hk w (Ctx.left (F:=G) B);unfold oW at this
   rwa [h1,h2,Bool.true_and,Bool.false_or] at this
 .have:=hk w (Ctx.left (F:=G) B);unfold oW at this
  rwa [h1,Bool.false_and] at this
structure ei where
 n:Int
 kind:Int
 place:List Int
 pos:List Int
 closed:List Int
 held:List ah
 δ:List bn
 output:List μ
instance:ι ei:=ι.via (β:=Int × Int × List Int × List Int × List Int × List ah × List bn × List μ) (λx=>(x.n,x.kind,x.place,x.pos,x.closed,x.held,x.δ,x.output)) (λy=>⟨y.1,y.2.1,y.2.2.1,y.2.2.2.1,y.2.2.2.2.1,y.2.2.2.2.2.1,y.2.2.2.2.2.2.1,y.2.2.2.2.2.2.2⟩) (λ_=>rfl)
def iZ(c:ei)(inst chans:Int):cL:=⟨c.n,c.kind,c.place,c.pos,c.closed,[],[],[],inst,List.replicate (max chans 0).toNat false⟩
end
structure kF where
 pp:Option Addr
 pc:Nat
 ak:Option Addr
 qc:Nat
 rp:Option Addr
 rc:Nat
 hp:Option Addr
 hc:Nat
 fp:Option Addr
 b6:Nat
 op:Option Addr
 aN:Nat
abbrev Iy(p:kF)(x:ei):List Value:=[.int .i64 x.n,.int .i64 x.kind,.slice p.pp x.place.length p.pc,.slice p.ak x.pos.length p.qc,.slice p.rp x.closed.length p.rc,.slice p.hp x.held.length p.hc,.slice p.fp x.δ.length p.b6,.slice p.op x.output.length p.aN]
abbrev tP(p:kF)(x:ei):Value:=.agg #[.int .i64 x.n,.int .i64 x.kind,.slice p.pp x.place.length p.pc,.slice p.ak x.pos.length p.qc,.slice p.rp x.closed.length p.rc,.slice p.hp x.held.length p.hc,.slice p.fp x.δ.length p.b6,.slice p.op x.output.length p.aN]
structure bt(p:kF)(x:ei)(M:List Nat)(w:World):Prop where
 place:ζ M w p.pp x.place
 pos:ζ M w p.ak x.pos
 closed:ζ M w p.rp x.closed
 held:ζ M w p.hp x.held
 δ:ζ M w p.fp x.δ
 out:ζ M w p.op x.output
instance(p:kF)(x:ei):O (λM w=>bt p x M w):=⟨λhs h=>⟨h.place.eK hs,h.pos.eK hs,h.closed.eK hs,h.held.eK hs,h.δ.eK hs,h.out.eK hs⟩⟩
structure TB(p:kF)(x:ei):Prop where
 place:x.place.length<=p.pc/\p.pc<=maxLen
 pos:x.pos.length<=p.qc/\p.qc<=maxLen
 closed:x.closed.length<=p.rc/\p.rc<=maxLen
 held:x.held.length<=p.hc/\p.hc<=maxLen
 δ:x.δ.length<=p.b6/\p.b6<=maxLen
 out:x.output.length<=p.aN/\p.aN<=maxLen
def aKt:Value:=.agg #[.int .i64 0,.int .i64 0,.slice none 0 0,.slice none 0 0,.slice none 0 0,.slice none 0 0,.slice none 0 0,.slice none 0 0]
def mF(x:cL):ei:=⟨x.n,x.kind,x.place,x.pos,x.closed,x.held,x.δ,bk x.output⟩
section
variable {W w:World}{S G:List Own}{Φ:Y}
theorem bW{Ψ:Y}[O Ψ]{R:List Own}(B:Ctx W w (R++G) Ψ):Ctx W w ([]++G) (λ_ _=>True):=(Ctx.right B).weak λ_ _ _=>trivial
theorem EF[O Φ]{p:Option Addr}{cap:Nat}{l:List Int}(hΦ:∀ M w,Φ M w->ζ M w p l)(hlen:l.length<=100000):ij Φ prog F.mH #[.slice p l.length cap] l id:=Uz (aNq hΦ (by omega))
theorem aOR[O Φ](B:Ctx W w S Φ){p:kF}{c:ei}{inst chans:Int}(hΦ:∀ M w,Φ M w->bt p c M w)(a7Y:c.place.length<=1000/\c.pos.length<=1000/\c.closed.length<=1000)(FU:chans<=1000){K:c6}
  (hk:∀ m w',m.aN=0->Ctx W w' (aU m (iZ c inst chans) S) (λM w=>Φ M w/\cz m (iZ c inst chans) M w)->K (.returned (aA m.b 0)) w') :
  ω F.Ux #[tP p c,.int .i64 inst,.int .i64 chans] w K:=by
 refine cn (aM1 c.n c.kind p.pp c.place.length p.pc p.ak c.pos.length p.qc p.rp c.closed.length p.rc p.hp c.held.length p.hc p.fp c.δ.length p.b6 p.op c.output.length p.aN inst chans (J:=K∘.returned) B ?_);clear B;intro _;refine bK (λkb o R' Z=>o=0/\∃ pp pc ak qc rp rc,R'=.blk kb [.int .i64 c.n,.int .i64 c.kind,.slice pp c.place.length pc,.slice ak c.pos.length qc,.slice rp c.closed.length rc,.slice none 0 0,.slice none 0 0,.slice none 0 0] 27 :: S/\Z=λM w=>((Φ M w/\ζ M w pp c.place)/\ζ M w ak c.pos)/\ζ M w rp c.closed) ⟨?_,?_⟩
 .have leaf : ∀ {k : Nat} {pp : Option Addr} {pc : Nat} {ak : Option Addr} {qc : Nat} {rp : Option Addr} {rc : Nat} {w : World} {G : List Own}, Ctx W w ((Own.blk k [.int .i64 0, .int .i64 0, .slice none 0 0, .slice none 0 0, .slice none 0 0, .slice none 0 0, .slice none 0 0, .slice none 0 0] 27 :: S) ++ G) (λM w => ((Φ M w /\ ζ M w pp c.place) /\ ζ M w ak c.pos) /\ ζ M w rp c.closed) ->
    bJ w k 0 8/\∀ kg,kg=w.setCells k 0 [.int .i64 c.n,.int .i64 c.kind,.slice pp c.place.length pc,.slice ak c.pos.length qc,.slice rp c.closed.length rc,.slice none 0 0,.slice none 0 0,.slice none 0 0]->∃ e6 e5,O e5/\Ctx W kg (e6++G) e5/\∃ dr ep,O ep/\(∀ jf gD,Ctx W jf (e6++gD) e5->Ctx W jf (dr++gD) ep) /\
     ((0:Nat)=0/\∃ pp pc ak qc rp rc,dr=.blk k [.int .i64 c.n,.int .i64 c.kind,.slice pp c.place.length pc,.slice ak c.pos.length qc,.slice rp c.closed.length rc,.slice none 0 0,.slice none 0 0,.slice none 0 0] 27 :: S/\ep=λM w=>((Φ M w/\ζ M w pp c.place)/\ζ M w ak c.pos)/\ζ M w rp c.closed):=by
   intro k pp pc ak qc rp rc w G B;refine ⟨B.can 0 rfl (by show 0+8<=8;omega),λw' hw'=>⟨.blk k [.int .i64 c.n,.int .i64 c.kind,.slice pp c.place.length pc,.slice ak c.pos.length qc,.slice rp c.closed.length rc,.slice none 0 0,.slice none 0 0,.slice none 0 0] 27 :: S,_,γ,B.RH 0 hw' rfl,_,_,γ,λw G B=>B,rfl,pp,pc,ak,qc,rp,rc,rfl,rfl⟩⟩
  have c1:∀ {Ψ:Y} [O Ψ],(∀ M w,Ψ M w->Φ M w)->ij Ψ prog F.mH #[.slice p.pp c.place.length p.pc] c.place id:=λh=>EF (λM w x=>(hΦ M w (h M w x)).place) (by omega);have c2:∀ {Ψ:Y} [O Ψ],(∀ M w,Ψ M w->Φ M w)->ij Ψ prog F.mH #[.slice p.ak c.pos.length p.qc] c.pos id:=λh=>EF (λM w x=>(hΦ M w (h M w x)).pos) (by omega);have c3:∀ {Ψ:Y} [O Ψ],(∀ M w,Ψ M w->Φ M w)->ij Ψ prog F.mH #[.slice p.rp c.closed.length p.rc] c.closed id:=λh=>EF (λM w x=>(hΦ M w (h M w x)).closed) (by omega)
  refine ⟨[],λ_ _=>True,γ,λw G B=>bW B,λw G B=>(c1 λ_ _ h=>h).to B λp1 l1 _ _ jd=>⟨λw G B=>bW B,λw G B=>(c2 λ_ _ h=>h.1).to B λp2 l2 _ _ nF=>⟨λw G B=>bW B,λw G B=>(c3 λ_ _ h=>h.1.1).to B λp3 l3 _ _ sP=>⟨λw G B=>bW B,λk=>⟨λw G B=>bW B,λw G B=>leaf B⟩,trivial⟩,?_⟩,?_⟩,?_⟩
  .exact ⟨λk=>⟨λw G B=>bW B,λw G B=>(c3 λ_ _ h=>h.1.1).to B λp3 l3 _ _ sP=>⟨λw G B=>bW B,λw G B=>leaf B⟩,trivial⟩,trivial⟩
  .exact ⟨λk=>⟨λw G B=>bW B,λw G B=>(c2 λ_ _ h=>h.1).to B λp2 l2 _ _ nF=>⟨λw G B=>bW B,λw G B=>(c3 λ_ _ h=>h.1.1).to B λp3 l3 _ _ sP=>⟨λw G B=>bW B,λw G B=>leaf B⟩,trivial⟩,trivial⟩,trivial⟩
  .exact ⟨λk=>⟨λw G B=>bW B,λw G B=>(c1 λ_ _ h=>h).to B λp1 l1 _ _ jd=>⟨λw G B=>bW B,λw G B=>(c2 λ_ _ h=>h.1).to B λp2 l2 _ _ nF=>⟨λw G B=>bW B,λw G B=>(c3 λ_ _ h=>h.1.1).to B λp3 l3 _ _ sP=>⟨λw G B=>bW B,λw G B=>leaf B⟩,trivial⟩,trivial⟩,trivial⟩,trivial⟩
 rintro kb o ν θ jd ⟨rfl,pp,pc,ak,qc,rp,rc,rfl,rfl⟩;refine ⟨[.blk kb [.int .i64 c.n,.int .i64 c.kind,.slice pp c.place.length pc,.slice ak c.pos.length qc,.slice rp c.closed.length rc,.slice none 0 0,.slice none 0 0,.slice none 0 0] 27],λ_ _=>True,γ,λw G B=>xQ B,c.n,c.kind,pp,_,pc,ak,_,qc,rp,_,rc,none,0,0,none,0,0,none,0,0,λw G B=>⟨_,_,_,_,_,_,_,_,_,_,_,_,_,_,_,_,_,_,_,_,B.DS 0 rfl,rfl⟩,⟨by omega,by omega,by omega,by omega⟩,λkd=>⟨λw G B=>Qg B,λk w G B=>?_⟩⟩
 refine hk ⟨k,pp,pc,ak,qc,rp,rc,none,0,[],none,0,[],none,0,kd⟩ w rfl ?_;have bG:Ctx W w (.blk k (cV ⟨k,pp,pc,ak,qc,rp,rc,none,0,[],none,0,[],none,0,kd⟩ (iZ c inst chans)) 64 :: .blk kd (gE (iZ c inst chans).done) 4 :: S) (λM w=>((Φ M w/\ζ M w pp c.place)/\ζ M w ak c.pos)/\ζ M w rp c.closed):=by
  have bH:=(Ctx.left (F:=G) B).sub (S':=.blk k [.int .i64 c.n,.int .i64 c.kind,.slice pp c.place.length pc,.slice ak c.pos.length qc,.slice rp c.closed.length rc,.slice none 0 0,.slice none 0 0,.slice none 0 0,.int .i64 inst,.slice (some (Addr.mk kd 0 none)) (max chans 0).toNat (max chans 0).toNat] 64 :: .blk kd (List.replicate (max chans 0).toNat (.bool false)) 4 :: S) (List.Sublist.cons_cons _ (List.Sublist.cons_cons _ (List.sublist_cons_self _ _)))
  have e1:gE (iZ c inst chans).done=List.replicate (max chans 0).toNat (.bool false):=by
   unfold iZ;rw [gE,List.map_replicate]
  have e2:(iZ c inst chans).done.length=(max chans 0).toNat:=by unfold iZ;rw [List.length_replicate]
  rw [e1];unfold cV;rw [e2];exact bH
 have cW:=((bG.sI 40 7).sI 36 4);have wZ:=(cW.perm (List.perm_middle (l₁:=[Own.buf none 0 0 [] 36 4,.buf none 0 0 [] 40 7])));exact wZ.weak λM w h=>⟨h.1.1.1,h.1.1.2,h.1.2,h.2,Δ.nil,Δ.nil,ζ.nil⟩
end
def w7(s:dw):List UInt8:=(aK s.worker).data.toList++(bx (fK s.msg)).data.toList
def eB(l:List dw):List UInt8:=l.flatMap w7
def x8(h:ah):ByteArray:=aK h.node++aK h.worker++bx h.state++cY (h.out.length:Int)
def qi(h:ah):List UInt8:=(x8 h).data.toList++eB h.out
def cZ(l:List ah):List UInt8:=l.flatMap qi
def vK(f:bn):List UInt8:=(aK f.ch).data.toList++(bx (fK f.msg)).data.toList
def e8(l:List bn):List UInt8:=l.flatMap vK
def nj(x:ei):ByteArray:=aK x.n++aK x.kind++⟨(iI x.place).toArray⟩++⟨(iI x.pos).toArray⟩++⟨(iI x.closed).toArray⟩++cY (x.held.length:Int)
def zE(x:ei):List UInt8:=(nj x).data.toList++cZ x.held++(cY (x.δ.length:Int)).data.toList++e8 x.δ
def qa(x:ei):List UInt8:=zE x++(bx (bs (bQ x.output))).data.toList
structure HV(h:ah):Prop where
 node:V h.node
 worker:V h.worker
 state:h.state.size<=1000
 out:h.out.length<=1000
 msg:∀ s∈h.out,V s.worker/\Good s.msg
structure uh(x:ei):Prop where
 n:V x.n
 kind:V x.kind
 place:x.place.length<=1000/\∀ y∈x.place,V y
 pos:x.pos.length<=1000/\∀ y∈x.pos,V y
 closed:x.closed.length<=1000/\∀ y∈x.closed,V y
 held:x.held.length<=1000/\∀ h∈x.held,HV h
 δ:x.δ.length<=1000/\∀ f∈x.δ,V f.ch/\Good f.msg
 out:x.output.length<=400/\(∀ d∈x.output,Fit d)/\(bQ x.output).length<=100000000
theorem xY{l:List Int}(hl:l.length<=1000)(hi:∀ x∈l,V x):(ByteArray.mk (iI l).toArray).size<=30000:=by
 have h1:=A6 (n:=(l.length:Int)) (by unfold V;omega);have h2:=QK hi;rw [qI];unfold iI;rw [List.length_append,cF,List.length_cons,List.length_append,List.length_singleton];omega
theorem aYl{s:dw}(h1:V s.worker)(h:Good s.msg):(w7 s).length<=30400:=by
 have h2:=cC h1;have h3:=h.text;unfold w7;rw [List.length_append,cF,cF];omega
theorem Lj:∀ {l:List dw},(∀ s∈l,V s.worker/\Good s.msg)->(eB l).length<=l.length*30400
 | [],_=>by simp [eB]
 | s :: l,h=>by
  have h1:=aYl (h s (by simp)).1 (h s (by simp)).2;have h2:=Lj (l:=l) λy hy=>h y (by simp [hy]);have e:eB (s :: l)=w7 s++eB l:=by simp [eB]
  rw [e,List.length_append,List.length_cons];omega
theorem Px{h:ah}(hg:HV h):(x8 h).size<=2000:=by
 have h1:=cC hg.node;have h2:=cC hg.worker;have h3:=mJ (s:=h.state) (by have:=hg.state;omega);have h4:=p7 (n:=(h.out.length:Int)) (by have:=hg.out;unfold V;omega);have:=hg.state;unfold x8;rw [av,av,av];omega
theorem aVk{h:ah}(hg:HV h):(qi h).length<=31000000:=by
 have h1:=Px hg;have h2:=Lj hg.msg;have h3:h.out.length*30400<=1000*30400:=Nat.mul_le_mul_right _ hg.out;unfold qi;rw [List.length_append,cF];omega
theorem Py:∀ {l:List ah},(∀ h∈l,HV h)->(cZ l).length<=l.length*31000000
 | [],_=>by simp [cZ]
 | s :: l,h=>by
  have h1:=aVk (h s (by simp));have h2:=Py (l:=l) λy hy=>h y (by simp [hy]);have e:cZ (s :: l)=qi s++cZ l:=by simp [cZ]
  rw [e,List.length_append,List.length_cons];omega
theorem aV6{f:bn}(h1:V f.ch)(h:Good f.msg):(vK f).length<=30400:=by
 have h2:=cC h1;have h3:=h.text;unfold vK;rw [List.length_append,cF,cF];omega
theorem Jj:∀ {l:List bn},(∀ f∈l,V f.ch/\Good f.msg)->(e8 l).length<=l.length*30400
 | [],_=>by simp [e8]
 | s :: l,h=>by
  have h1:=aV6 (h s (by simp)).1 (h s (by simp)).2;have h2:=Jj (l:=l) λy hy=>h y (by simp [hy]);have e:e8 (s :: l)=vK s++e8 l:=by simp [e8]
  rw [e,List.length_append,List.length_cons];omega
theorem Pw{x:ei}(hg:uh x):(nj x).size<=100000:=by
 have h1:=cC hg.n;have h2:=cC hg.kind;have h3:=xY hg.place.1 hg.place.2;have h4:=xY hg.pos.1 hg.pos.2;have h5:=xY hg.closed.1 hg.closed.2;have h6:=p7 (n:=(x.held.length:Int)) (by have:=hg.held.1;unfold V;omega);unfold nj;rw [av,av,av,av,av];omega
theorem a8B(l:List ah)(h:ah):cZ (l++[h])=cZ l++qi h:=by simp [cZ]
theorem aET(l:List dw)(s:dw):eB (l++[s])=eB l++w7 s:=by simp [eB]
theorem a7D(l:List bn)(f:bn):e8 (l++[f])=e8 l++vK f:=by simp [e8]
theorem IV(a b:ByteArray):(a++b).data.toList=a.data.toList++b.data.toList:=by simp [ByteArray.data_append]
theorem a56{x:ei}(hg:uh x):(zE x).length<=40000000000:=by
 have h1:=Pw hg;have h2:=Py hg.held.2;have h3:=p7 (n:=(x.δ.length:Int)) (by have:=hg.δ.1;unfold V;omega);have h4:=Jj hg.δ.2;have h5:x.held.length*31000000<=1000*31000000:=Nat.mul_le_mul_right _ hg.held.1;have h6:x.δ.length*30400<=1000*30400:=Nat.mul_le_mul_right _ hg.δ.1;unfold zE;rw [List.length_append,List.length_append,List.length_append,cF,cF];omega
section
theorem RF{M:List Nat}{w:World}{b o:Nat}{cs:List (List Value)}{l:List dw}(h:aP b o cs l M w){j:Nat}(hj:j<l.length):∃ p c,cs.getD j []=l[j].cells p c/\l[j].msg.ξ.length<=c/\c<=maxLen:=by
 obtain ⟨_,h1,h2⟩:=h j hj;obtain ⟨p,c,e,_,g2,g3,_⟩:=MZ h2;exact ⟨p,c,e,g2,g3⟩
theorem GJ{M:List Nat}{w:World}{b o:Nat}{cs:List (List Value)}{l:List dw}(h:aP b o cs l M w){j:Nat}(hj:j<l.length){p:Option Addr}{c:Nat}(e:cs.getD j []=l[j].cells p c):ζ M w p l[j].msg.ξ:=by
 have:=(h j hj).2.2;rw [e] at this;exact aII this
theorem xh{M:List Nat}{w:World}{b o:Nat}{cs:List (List Value)}{l:List dw}(h:aP b o cs l M w){j:Nat}(hj:j<l.length){p:Option Addr}{c:Nat}(e:cs.getD j []=l[j].cells p c):aQ w b (o+j*7) (l[j].cells p c):=by
 have:=(h j hj).2.1;rw [e] at this;exact this
theorem aY6{M:List Nat}{w:World}{b o:Nat}{cs:List (List Value)}{l:List bn}(h:aP b o cs l M w){j:Nat}(hj:j<l.length):∃ p c,cs.getD j []=l[j].cells p c/\l[j].msg.ξ.length<=c/\c<=maxLen:=by
 obtain ⟨_,h1,h2⟩:=h j hj;obtain ⟨p,c,e,_,g2,g3,_⟩:=FJ h2;exact ⟨p,c,e,g2,g3⟩
theorem RE{M:List Nat}{w:World}{b o:Nat}{cs:List (List Value)}{l:List bn}(h:aP b o cs l M w){j:Nat}(hj:j<l.length){p:Option Addr}{c:Nat}(e:cs.getD j []=l[j].cells p c):ζ M w p l[j].msg.ξ:=by
 have:=(h j hj).2.2;rw [e] at this;exact a7C this
theorem DO{M:List Nat}{w:World}{b o:Nat}{cs:List (List Value)}{l:List bn}(h:aP b o cs l M w){j:Nat}(hj:j<l.length){p:Option Addr}{c:Nat}(e:cs.getD j []=l[j].cells p c):aQ w b (o+j*7) (l[j].cells p c):=by
 have:=(h j hj).2.1;rw [e] at this;exact this
theorem QH{Φ:Y}{f:FuncId}{args:Array Value}{v:Value}{b o:Nat}{cs:List (List Value)}{l:List ah}{b2 o2:Nat}{cs2:List (List Value)}{r:List bn}(hΦ:∀ M w,Φ M w->aP b o cs l M w)(hΨ:∀ M w,Φ M w->aP b2 o2 cs2 r M w)
  (h:(∀ j,(hj:j<l.length)->∃ p c,cs.getD j []=l[j].cells p c/\l[j].out.length<=c/\c<=maxLen)->(∀ j,(hj:j<r.length)->∃ p c,cs2.getD j []=r[j].cells p c/\r[j].msg.ξ.length<=c/\c<=maxLen)->ay Φ prog f args v):ay Φ prog f args v :=
 ⟨λW w S c=>(h (λj hj=>by obtain ⟨p,c,h1,_,_,_,h5,h6,_⟩:=Yk (hΦ _ _ c.Γ) hj;exact ⟨p,c,h1,h5,h6⟩) (λj hj=>aY6 (hΨ _ _ c.Γ) hj)).go W w S c⟩
end
section
variable {Φ:Y}
set_option maxHeartbeats 2000000 in
theorem HP[O Φ](hT:∀ M w,Φ M w->oP M w){p:kF}{x:ei}(hΦ:∀ M w,Φ M w->bt p x M w)(hg:uh x):
  ay Φ prog F.l5 #[tP p x] (.string (bs (qa x))):=by
 refine .pinned (λM w h=>(hΦ M w h).held) λg o cs hp=>.pinned (λM w h=>(hΦ M w h.1).δ) λg2 o2 cs2 xC=>?_;refine QH (b:=g) (o:=o) (cs:=cs) (l:=x.held) (b2:=g2) (o2:=o2) (cs2:=cs2) (r:=x.δ) (λM w h=>h.1.2) (λM w h=>h.2) λhcs Jz=>?_;obtain ⟨Ψ,hΨ⟩:∃ Ψ:Y,Ψ=(λM w=>(Φ M w/\aP g o cs x.held M w)/\aP g2 o2 cs2 x.δ M w):=⟨_,rfl⟩;have bw:O Ψ:=by rw [hΨ];exact oq (λM w=>Φ M w/\aP g o cs x.held M w) (λM w=>aP g2 o2 cs2 x.δ M w)
 have eJ:∀ M w,Ψ M w->bt p x M w:=λM w h=>by rw [hΨ] at h;exact hΦ M w h.1.1
 have gz:∀ M w,Ψ M w->oP M w:=λM w h=>by rw [hΨ] at h;exact hT M w h.1.1
 have Ct:∀ M w,Ψ M w->aP g o cs x.held M w:=λM w h=>by rw [hΨ] at h;exact h.1.2
 have vf:∀ M w,Ψ M w->aP g2 o2 cs2 x.δ M w:=λM w h=>by rw [hΨ] at h;exact h.2
 rw [<-hΨ];have a0h:=cC hg.n;have z2:=cC hg.kind;have z3:=xY hg.place.1 hg.place.2;have z4:=xY hg.pos.1 hg.pos.2;have z5:=xY hg.closed.1 hg.closed.2;have z0:=hg.held.1;have aKr:=hg.δ.1;have a0i:=p7 (n:=(x.held.length:Int)) (by unfold V;omega);have abP:=p7 (n:=(x.δ.length:Int)) (by unfold V;omega);have abR:=Pw hg;have abQ:=a56 hg;have a0m:∀ i,(cZ (x.held.take i)).length<=31000000000:=λi=>by
  have h1:=Py (l:=x.held.take i) λy hy=>hg.held.2 y (List.mem_of_mem_take hy);rw [List.length_take] at h1;omega
 have a0l:∀ i,(e8 (x.δ.take i)).length<=30400000:=λi=>by
  have h1:=Jj (l:=x.δ.take i) λy hy=>hg.δ.2 y (List.mem_of_mem_take hy);rw [List.length_take] at h1;omega
 have hpl:=hg.place.1;have a8S:=hg.pos.1;have bp:=hg.closed.1;refine dN (aLr x.n x.kind p.pp x.place.length p.pc p.ak x.pos.length p.qc p.rp x.closed.length p.rc p.hp x.held.length p.hc p.fp x.δ.length p.b6 p.op x.output.length p.aN) λW R=>?_;refine λ_ k0=>⟨[],λ_ _=>True,γ,λw G B=>bW B,λw G B=>?_⟩;refine (mV (.inl ⟨gz,hg.n⟩)).bE B ⟨λw G B=>bW B,λw G B=>(mV (.inl ⟨gz,hg.kind⟩)).bE B ⟨λw G B=>bW B,(by show _<=(9223372036854775807:Nat);(try simp only [av]);omega),λw G B=>(Tc gz (λM w h=>(eJ M w h).place) (by omega)).bE B ⟨λw G B=>bW B,(by show _<=(9223372036854775807:Nat);(try simp only [av]);omega),λw G B=>(Tc gz (λM w h=>(eJ M w h).pos) (by omega)).bE B ⟨λw G B=>bW B,(by show _<=(9223372036854775807:Nat);(try simp only [av]);omega),λw G B=>(Tc gz (λM w h=>(eJ M w h).closed) (by omega)).bE B ⟨λw G B=>bW B,(by show _<=(9223372036854775807:Nat);(try simp only [av]);omega),λw G B=>(Hi (.inl ⟨gz,by unfold V;omega⟩)).bE B ⟨λw G B=>bW B,(by show _<=(9223372036854775807:Nat);(try simp only [av]);omega),λw G B=>?_⟩⟩⟩⟩⟩⟩
 clear a0h z2 z3 z4 z5 a0i;refine tH (nj x) oG.nil (oG.fresh B) (by simp only [List.length_nil];omega) λν w hB B=>⟨_,_,rfl,ν++R,Ψ,bw,by rw [aq];exact B,?_⟩;rw [List.nil_append] at hB;clear B;refine bK (λiH R' Z k=>∃ (i:Nat) (υ:List Own),iH=i/\i<=x.held.length/\wL k0 ((nj x).data.toList++cZ (x.held.take i)) υ/\R'=υ++R/\Z=Ψ/\k=x.held.length - i) ⟨⟨_,_,_,bw,λw G B=>B,0,ν,rfl,Nat.zero_le _,by rw [List.take_zero,show cZ []=[] from rfl,List.append_nil];exact hB,rfl,rfl,rfl⟩,?_⟩
 clear hB;rintro iH ck b7 k _ ⟨i,υ,rfl,hi,hB,rfl,rfl,rfl⟩;have a0n:=a0m i;refine U.intro (λhlt=>?_) (λhge=>λw G B=>?_)
 .have hlt:i<x.held.length:=by have:=aD hlt;omega
  obtain ⟨p1,c1,e1,_,_⟩:=hcs i hlt;have hh:=hg.held.2 _ (List.getElem_mem hlt);obtain ⟨h,Wg⟩:∃ h,h=x.held[i]:=⟨_,rfl⟩;have y1:=cC hh.node;have aKq:=cC hh.worker;have y0:=hh.state;have aKp:=hh.out;have abK:=mJ (s:=x.held[i].state) (by omega);have abL:=p7 (n:=(x.held[i].out.length:Int)) (by unfold V;omega);have abM:=Px hh;refine ⟨⟨by omega,by omega⟩,aL g o (hp (by omega)) λw G B=>⟨_,_,_,p1,_,c1,by rw [Int.toNat_natCast];exact GI (Ct _ _ B.Γ) hlt e1,λ_=>⟨[],λ_ _=>True,γ,λw G B=>bW B,λw G B=>?_⟩⟩⟩
  refine (mV (.inl ⟨gz,hh.node⟩)).bE B ⟨λw G B=>bW B,λw G B=>(mV (.inl ⟨gz,hh.worker⟩)).bE B ⟨λw G B=>bW B,(by show _<=(9223372036854775807:Nat);(try simp only [av]);omega),λw G B=>(BF (.inl ⟨gz,by unfold V;omega⟩) (by omega)).bE B ⟨λw G B=>bW B,(by show _<=(9223372036854775807:Nat);(try simp only [av]);omega),λw G B=>(Hi (.inl ⟨gz,by unfold V;omega⟩)).bE B ⟨λw G B=>bW B,(by show _<=(9223372036854775807:Nat);(try simp only [av]);omega),λw G B=>?_⟩⟩⟩⟩
  refine tH (x8 x.held[i]) hB (B.re (aq _ _ _)) (by rw [List.length_append,cF];omega) λyN w Bq B=>?_;obtain ⟨g3,gj,tT,xD,B⟩:=B.r6 (Yl (Ct _ _ B.Γ) hlt e1);have J':∀ j,(hj:j<x.held[i].out.length)->∃ p c,tT.getD j []=x.held[i].out[j].cells p c/\x.held[i].out[j].msg.ξ.length<=c/\c<=maxLen:=λj hj=>RF B.Γ.2 hj;obtain ⟨fl,nq⟩:∃ fl:Y,fl=(λM w=>b7 M w/\aP g3 gj tT x.held[i].out M w):=⟨_,rfl⟩;have rC:O fl:=by rw [nq];exact @oq b7 (λM w=>aP g3 gj tT x.held[i].out M w) bw (X8 g3 gj tT x.held[i].out)
  have k2:∀ M w,fl M w->b7 M w/\aP g3 gj tT x.held[i].out M w:=λM w h=>by rw [nq] at h;exact h
  rw [<-nq] at B;refine ⟨_,_,rfl,yN++R,fl,rC,by rw [aq];exact B,?_⟩;clear B hB;have a0o:∀ j,(eB (x.held[i].out.take j)).length<=30400000:=λj=>by
   have h1:=Lj (l:=x.held[i].out.take j) λy hy=>hh.msg y (List.mem_of_mem_take hy);rw [List.length_take] at h1;omega
  refine bK (λiH R' Z k=>∃ (j:Nat) (υ:List Own),iH=j/\j<=x.held[i].out.length/\wL k0 ((nj x).data.toList++cZ (x.held.take i)++(x8 x.held[i]).data.toList++eB (x.held[i].out.take j)) υ/\R'=υ++R/\Z=fl/\k=x.held[i].out.length - j) ⟨⟨_,_,_,rC,λw G B=>B,0,yN,rfl,Nat.zero_le _,by rw [List.take_zero,show eB []=[] from rfl,List.append_nil];exact Bq,rfl,rfl,rfl⟩,?_⟩;clear Bq;rintro iH eT fD k _ ⟨j,a1z,rfl,hj,Br,rfl,rfl,rfl⟩
  have abT:=a0o j;refine U.intro (λe3=>?_) (λzY=>⟨by unfold V;omega,_,b7,x.held.length - (i+1),bw,λw G B=>B.weak λM w h=>(k2 M w h).1,⟨i+1,a1z,by omega,hlt,?_,rfl,rfl,rfl⟩,by omega⟩)
  .have e3:j<x.held[i].out.length:=by have:=aD e3;omega
   obtain ⟨aC,c4,bR,_,_⟩:=J' j e3;obtain ⟨hwk,dz⟩:=hh.msg _ (List.getElem_mem e3);have u1:=cC hwk;have u2:=dz.text;have u3:=dz.msg;have u4:=(pG dz.right).1;have Df:=dz.bytes;refine ⟨⟨by omega,by omega⟩,aL g3 gj (xD (by omega)) λw G B=>⟨_,_,_,_,_,_,aC,_,c4,by rw [Int.toNat_natCast];exact xh (k2 _ _ B.Γ).2 e3 bR,λ_=>⟨[],λ_ _=>True,γ,λw G B=>bW B,λw G B=>?_⟩⟩⟩;refine (mV (.inl ⟨λM w h=>gz M w (k2 M w h).1,hwk⟩)).bE B ⟨λw G B=>bW B,λw G B=>?_⟩
   refine (a2O (m:=x.held[i].out[j].msg) (λM w h=>gz M w (k2 M w h).1) (λM w h=>GJ (k2 M w h).2 e3 bR) dz.ok (by omega) dz.fit (by omega)).bE B λw G B=>?_;refine (BF (s:=fK x.held[i].out[j].msg) (.inl ⟨λM w h=>gz M w (k2 M w h).1,by unfold V;omega⟩) (by omega)).bE B ⟨(by show _<=(9223372036854775807:Nat);(try simp only [av]);omega),λw G B=>?_⟩;refine tH (aK x.held[i].out[j].worker++bx (fK x.held[i].out[j].msg)) Br (B.re (aq _ _ _)) (by rw [List.length_append,List.length_append,List.length_append,cF,cF,av];omega) λHO w Jp B=>⟨_,_,rfl,HO++R,fD,rC,by rw [aq];exact B,by unfold V;omega,_,fD,x.held[i].out.length - (j+1),rC,λw G B=>B,⟨j+1,HO,by omega,e3,?_,rfl,rfl,rfl⟩,by omega⟩
   rw [List.take_succ_eq_append_getElem e3,aET,<-aq];unfold w7;rw [IV] at Jp;exact Jp
  .have zY:j=x.held[i].out.length:=by have:=aO zY;omega
   rw [List.take_succ_eq_append_getElem hlt,a8B,<-aq];rw [zY,List.take_length,aq ((nj x).data.toList++cZ (x.held.take i))] at Br;exact Br
 have hge:i=x.held.length:=by have:=aO hge;omega
 subst hge;rw [List.take_length] at hB a0n;refine (Hi (.inl ⟨gz,by unfold V;omega⟩)).bE B λw G B=>?_;refine tH (cY (x.δ.length:Int)) hB (B.re (aq _ _ _)) (by rw [List.length_append,cF];omega) λyN w Bq B=>⟨_,_,rfl,yN++R,b7,bw,by rw [aq];exact B,?_⟩;clear B hB;refine bK (λiH R' Z k=>∃ (i:Nat) (υ:List Own),iH=i/\i<=x.δ.length/\wL k0 ((nj x).data.toList++cZ x.held++(cY (x.δ.length:Int)).data.toList++e8 (x.δ.take i)) υ/\R'=υ++R/\Z=b7/\k=x.δ.length - i) ⟨⟨_,_,_,bw,λw G B=>B,0,yN,rfl,Nat.zero_le _,by rw [List.take_zero,show e8 []=[] from rfl,List.append_nil];exact Bq,rfl,rfl,rfl⟩,?_⟩
 clear Bq;rintro iH eT fD k _ ⟨i,a1z,rfl,hi,Br,rfl,rfl,rfl⟩;have abS:=a0l i;refine U.intro (λhlt=>?_) (λhge=>⟨[],λ_ _=>True,γ,λw G B=>bW B,λw G B=>?_⟩)
 .have hlt:i<x.δ.length:=by have:=aD hlt;omega
  obtain ⟨aC,c4,bR,_,_⟩:=Jz i hlt;obtain ⟨hwk,dz⟩:=hg.δ.2 _ (List.getElem_mem hlt);have u1:=cC hwk;have u2:=dz.text;have u3:=dz.msg;have u4:=(pG dz.right).1;have Df:=dz.bytes;refine ⟨⟨by omega,by omega⟩,aL g2 o2 (xC (by omega)) λw G B=>⟨_,_,_,_,_,_,aC,_,c4,by rw [Int.toNat_natCast];exact DO (vf _ _ B.Γ) hlt bR,λ_=>⟨[],λ_ _=>True,γ,λw G B=>bW B,λw G B=>?_⟩⟩⟩;refine (mV (.inl ⟨gz,hwk⟩)).bE B ⟨λw G B=>bW B,λw G B=>?_⟩
  refine (a2O (m:=x.δ[i].msg) gz (λM w h=>RE (vf M w h) hlt bR) dz.ok (by omega) dz.fit (by omega)).bE B λw G B=>?_;refine (BF (s:=fK x.δ[i].msg) (.inl ⟨gz,by unfold V;omega⟩) (by omega)).bE B ⟨(by show _<=(9223372036854775807:Nat);(try simp only [av]);omega),λw G B=>?_⟩;refine tH (aK x.δ[i].ch++bx (fK x.δ[i].msg)) Br (B.re (aq _ _ _)) (by rw [List.length_append,List.length_append,List.length_append,cF,cF,av];omega) λHO w Jp B=>⟨_,_,rfl,HO++R,fD,bw,by rw [aq];exact B,by unfold V;omega,_,fD,x.δ.length - (i+1),bw,λw G B=>B,⟨i+1,HO,by omega,hlt,?_,rfl,rfl,rfl⟩,by omega⟩
  rw [List.take_succ_eq_append_getElem hlt,a7D,<-aq];unfold vK;rw [IV] at Jp;exact Jp
 have hge:i=x.δ.length:=by have:=aO hge;omega
 subst hge;rw [List.take_length] at Br;have hout:=hg.out;have aVZ:(bs (bQ x.output)).size=(bQ x.output).length:=dx _;have zt:=mJ (s:=bs (bQ x.output)) (by omega);refine ON Br (B.re (aq _ _ _)) λw B=>⟨_,rfl,R,fD,bw,B,λw G B=>bW B,λw G B=>?_⟩;refine (TA p.op p.aN x.output (λ_=>gz) (λM w h=>(eJ M w h).out) hout.1 hout.2.1).bE B λw G B=>?_;refine (BF (s:=bs (bQ x.output)) (.inl ⟨gz,by unfold V;omega⟩) (by omega)).bE B ⟨?_,λw G B=>⟨?_,B.left⟩⟩
 .show (bs (zE x)).size+(bx (bs (bQ x.output))).size<=9223372036854775807;rw [dx];omega
 .show Value.string (bs (zE x)++bx (bs (bQ x.output)))=_;rw [tN];rfl
end
end Go.Proofs.YtfijlibaeahlaaaGreatDoor
end

