/-
 The encodings of ints,texts,values and rows: in plain Lean,and walked.
-/
import Derived.Test.YtfccagphnfceiaaGreatDoorCRf5
import Derived.Lib.ItoaNum
import Derived.Lib.ConvBytes
import Derived.Lib.AtoiErrMem
import Derived.Test.YtfccagphnfceiaaGreatDoorCRf4
import Derived.Lib.AppendZeros
import Derived.Lib.SliceRun

set_option linter.unusedVariables false
set_option linter.unusedSimpArgs false
section
namespace Go.Vc
theorem aU.aYT {Φ:PW} {P:Program} {f:FuncId} {args:Array Value} {v:Value} {p:Prop} (eT:∀ M w,Φ M w->p) (h:p->aU Φ P f args v):aU Φ P f args v :=
 ⟨λW w S c=>(h (eT _ _ c.gW)).go W w S c⟩
end Go.Vc
namespace Go.Proofs.YtfccagphnfceiaaGreatDoor
open Go.Vc
def EC (n:Int):ByteArray:=⟨(Lib.itoa n).toArray⟩
def cH (n:Int):ByteArray:=EC n++ByteArray.mk #[59]
def AO (n:Int):ByteArray:=if n<0 then ByteArray.mk #[] else cH n
def gM (s:ByteArray):ByteArray:=EC s.size++ByteArray.mk #[58]++s++ByteArray.mk #[44]
def FP (v:cG):ByteArray:=cH v.kind++cH v.num++gM v.text
def mE (r:List cG):List UInt8:=r.flatMap λv=>(FP v).data.toList
def WZ (r:List cG):List UInt8:=(AO r.length).data.toList++mE r
def D0 (r:List cG):ByteArray:=⟨(WZ r).toArray⟩
theorem aZ (a b:ByteArray):(a++b).size=a.size+b.size:=ByteArray.size_append
theorem r3 (l:List UInt8):(ByteArray.mk l.toArray).size=l.length:=by simp [ByteArray.size]
theorem fB (a:ByteArray):a.data.toList.length=a.size:=by rw [Array.length_toList];rfl
theorem D1:∀ (k u:Nat),u<10 ^ k->0<k->Lib.nDigits u<=k
 | 0,u,_,h=>by omega
 | k+1,u,h,_=>by
  by_cases h1:u<10
  ·rw [Lib.nDigits_small h1];omega
  ·rw [Lib.nDigits_big h1]
   have hk:0<k:=by
    rcases Nat.eq_zero_or_pos k with rfl|h2
    ·simp at h;omega
    ·exact h2
   have:=D1 k (u / 10) (by rw [Nat.pow_succ] at h;omega) hk
   omega
theorem yG {n:Int} (h:aR n):1<=(Lib.itoa n).length/\(Lib.itoa n).length<=20:=by
 unfold aR at h
 unfold Lib.itoa
 split
 ·have h1:=D1 19 n.natAbs (by omega) (by decide)
  have h2:=Lib.nDigits_pos n.natAbs
  rw [List.length_cons,Lib.decDigits_length];omega
 ·have h1:=D1 19 n.toNat (by omega) (by decide)
  have h2:=Lib.nDigits_pos n.toNat
  rw [Lib.decDigits_length];omega
theorem H8 {n:Int} (h:aR n):1<=(EC n).size/\(EC n).size<=20:=by
 unfold EC;rw [r3];exact yG h
theorem cT {n:Int} (h:aR n):2<=(cH n).size/\(cH n).size<=21:=by
 have:=H8 h
 have e:(ByteArray.mk #[59]).size=1:=rfl
 unfold cH;rw [aZ,e];omega
theorem OK {n:Int} (h:aR n):(AO n).size<=21:=by
 unfold AO
 split
 ·exact Nat.zero_le _
 ·exact (cT h).2
theorem nZ {s:ByteArray} (h:s.size<=9223372036854775807):(gM s).size<=s.size+22/\s.size+3<=(gM s).size:=by
 have:=H8 (n:=s.size) (by unfold aR;omega)
 have e:(ByteArray.mk #[58]).size=1:=rfl
 have e2:(ByteArray.mk #[44]).size=1:=rfl
 unfold gM;rw [aZ,aZ,aZ,e,e2];omega
theorem YI {v:cG} (h1:aR v.kind) (h2:aR v.num) (h:v.text.size<=9223372036854775807):(FP v).size<=v.text.size+64:=by
 have a:=cT h1
 have b:=cT h2
 have c:=nZ h
 unfold FP;rw [aZ,aZ];omega
theorem YJ (a b:List cG):mE (a++b)=mE a++mE b:=by simp [mE]
theorem a8N (v:cG):mE [v]=(FP v).data.toList:=by simp [mE]
theorem YK {m:Nat}:∀ {r:List cG},(∀ v∈r,(aR v.kind/\aR v.num)/\v.text.size<=m)->m<=9223372036854775807->(mE r).length<=r.length*(m+64)
 | [],_,_=>by simp [mE]
 | v :: r,h,hm=>by
  have h1:=YK (r:=r) (λu hu=>h u (List.mem_cons_of_mem _ hu)) hm
  obtain ⟨⟨a,b⟩,c⟩:=h v List.mem_cons_self
  have h2:=YI a b (by omega)
  have e:mE (v :: r)=(FP v).data.toList++mE r:=by simp [mE]
  rw [e,List.length_append,fB,List.length_cons,Nat.add_mul]
  omega
theorem a2D {m:Nat} {r:List cG} (h:∀ v∈r,(aR v.kind/\aR v.num)/\v.text.size<=m) (hm:m<=9223372036854775807) (hr:r.length<=1000000):(WZ r).length<=21+r.length*(m+64):=by
 have h1:=YK h hm
 have h2:=OK (n:=(r.length:Int)) (by unfold aR;omega)
 unfold WZ;rw [List.length_append,fB];omega
theorem aFV {M:List Nat} {w:World} {cs:List Value} {v:cG} (h:Gv.rep M w cs v):cs=[.int .i64 v.kind,.int .i64 v.num,.string v.text]/\aR v.kind/\aR v.num/\v.text.size<=maxLen:=by
 obtain ⟨_,_,rfl,⟨rfl,h1⟩,_,_,rfl,⟨rfl,h2⟩,rfl,h3⟩:=h
 exact ⟨rfl,h1,h2,h3⟩
theorem aBC {M:List Nat} {w:World} {p:Option Addr} {l:List cG} (h:Sl M w p l):∀ v∈l,(aR v.kind/\aR v.num)/\v.text.size<=maxLen:=by
 intro v hv
 obtain ⟨i,hi,rfl⟩:=List.getElem_of_mem hv
 obtain ⟨_,_,_,_,_,_,hr⟩:=h i hi
 obtain ⟨_,h1,h2,h3⟩:=aFV hr
 exact ⟨⟨h1,h2⟩,h3⟩
abbrev aOS:String:=((Rows.commitAnywhereRow.laid.map Prod.fst).drop 2).headD default
abbrev RI:PW:=Tab Tryz.prog aOS .u64 Lib.pow10Tab
theorem a67 {Φ:PW} [aA Φ] (eT:∀ M w,Φ M w->RI M w) (n:Int) (h:aR n):aU Φ Tryz.prog F.strconv_Itoa #[.int .i64 n] (.string (EC n)) :=
 aFI (name:=aOS) (λn h0 h1 w ht=>Any.strconv_Itoa Tryz.aBB n h0 h1 w ht) eT n h
theorem a5a (i:Nat) (hi:i<100):pS Tryz.prog F.strconv_Itoa #[.int .i64 i] (.string (EC i)) :=
 Quiet.aHO ⟨λw=>by
  have h:=Any.strconv_Itoa_small { Tryz.aFU with } i hi w
  rw [<-Lib.itoa_nonneg] at h
  exact h⟩
def Dec (Φ:PW) (n:Int):Prop:=(∀ M w,Φ M w->RI M w)/\aR n\/∃ i:Nat,i<100/\n=i
theorem a2E {Φ:PW} [aA Φ] {n:Int} (h:Dec Φ n):aU Φ Tryz.prog F.strconv_Itoa #[.int .i64 n] (.string (EC n)):=by
 rcases h with ⟨h1,h2⟩|⟨i,hi,rfl⟩
 ·exact a67 h1 n h2
 ·exact (a5a i hi).in
theorem Dec.i64 {Φ:PW} {n:Int} (h:Dec Φ n):aR n:=by
 rcases h with ⟨_,h2⟩|⟨i,hi,rfl⟩
 ·exact h2
 ·unfold aR;omega
theorem vM {Φ:PW} [aA Φ] {n:Int} (h:Dec Φ n):aU Φ Tryz.prog F.iX #[.int .i64 n] (.string (cH n)):=by
 refine dS (WK n) λW R=>?_
 have:=H8 h.i64
 exact λw G cx=>(a2E h).use cx λw cx=>⟨_,rfl,R,Φ,inferInstance,cx,by show (EC n).size+1<=_;omega,λw G cx=>⟨rfl,cx.left⟩⟩
theorem aBD {Φ:PW} [aA Φ] {n:Int} (h:Dec Φ n):aU Φ Tryz.prog F.F6 #[.int .i64 n] (.string (AO n)):=by
 refine dS (WM n) λW R=>Br.intro (λhn=>λw G cx=>⟨?_,cx.left⟩) (λhn=>λw G cx=>(vM h).use cx λw cx=>⟨_,rfl,R,Φ,inferInstance,cx,λw G cx=>⟨?_,cx.left⟩⟩)
 ·unfold AO;rw [if_pos (of_decide_eq_true hn)]
 ·unfold AO;rw [if_neg (of_decide_eq_false hn)]
theorem S5 {Φ:PW} [aA Φ] {s:ByteArray} (h:Dec Φ s.size) (hs:s.size<=1000000000000000):aU Φ Tryz.prog F.tW #[.string s] (.string (gM s)):=by
 refine dS (TG s) λW R=>?_
 have h1:=H8 h.i64
 have e:(ByteArray.mk #[58]).size=1:=rfl
 have e2:(ByteArray.mk #[44]).size=1:=rfl
 exact λw G cx=>(a2E h).use cx λw cx=>⟨_,rfl,R,Φ,inferInstance,cx,by show (EC s.size).size+1<=_;omega,by show (EC s.size++ByteArray.mk #[58]).size+s.size<=_;rw [aZ,e];omega,by show (EC s.size++ByteArray.mk #[58]++s).size+1<=_;rw [aZ,aZ,e];omega,λw G cx=>⟨rfl,cx.left⟩⟩
theorem aBE {Φ:PW} [aA Φ] (v:cG) (eT:∀ M w,Φ M w->RI M w) (h1:aR v.kind) (h2:aR v.num) (hs:v.text.size<=1000000000000):aU Φ Tryz.prog F.zO #[v.v] (.string (FP v)):=by
 refine dS (O8 v.kind v.num v.text) λW R=>?_
 have a:=cT h1
 have b:=cT h2
 have c:=nZ (s:=v.text) (by omega)
 exact λ_=>⟨R,Φ,inferInstance,λw G cx=>cx,λw G cx=>(vM (.inl ⟨eT,h1⟩)).use cx λw cx=>⟨_,rfl,R,Φ,inferInstance,cx,λw G cx=>cx,λw G cx=>(vM (.inl ⟨eT,h2⟩)).use cx λw cx=>⟨_,rfl,R,Φ,inferInstance,cx,λw G cx=>cx,by show (cH v.kind).size+(cH v.num).size<=_;omega,
  λw G cx=>(S5 (.inl ⟨eT,by unfold aR;omega⟩) (by omega)).use cx λw cx=>⟨_,rfl,R,Φ,inferInstance,cx,λw G cx=>cx,by show (cH v.kind++cH v.num).size+(gM v.text).size<=_;rw [aZ];omega,λw G cx=>⟨rfl,cx.left⟩⟩⟩⟩⟩
theorem a2F {Φ:PW} [aA Φ] (p:Option Addr) (cap:Nat) (r:List cG) (hT:∀ M w,Φ M w->RI M w) (eT:∀ M w,Φ M w->Sl M w p r) (hr:r.length<=1000000) (ht:∀ v∈r,v.text.size<=10000) :
  aU Φ Tryz.prog F.rR #[.slice p r.length cap] (.string (D0 r)):=by
 refine .there (λM w h=>(eT M w h).there) λK4=>.aYT (λM w h=>aBC (eT M w h)) λhi=>?_
 have hv:∀ v∈r,(aR v.kind/\aR v.num)/\v.text.size<=10000:=λv h=>⟨(hi v h).1,ht v h⟩
 have hL:=a2D hv (by decide) hr
 have hL:(WZ r).length<=20000000000:=by
  have:r.length*(10000+64)<=1000000*10064:=Nat.mul_le_mul hr (Nat.le_refl _)
  omega
 have b7q:(AO r.length).data.toList.length<=20000000000:=by unfold WZ at hL;rw [List.length_append] at hL;omega
 refine dS (HP p r.length cap) λW R=>?_
 refine λb w G cx=>(aBD (Φ:=Φ) (.inl ⟨hT,by unfold aR;omega⟩)).use cx λw cx=>⟨_,rfl,.blk b [.pointer none,.slice none 0 0] 165 :: R,Φ,inferInstance,cx,λw G cx=>?_⟩
 refine mD (AO r.length) Bd.nil (Bd.fresh cx) (by rw [<-fB];simp only [List.length_nil];omega) λR1 w hB cx=>⟨_,_,rfl,R1++R,Φ,inferInstance,by rw [List.append_assoc];exact cx,?_⟩
 rw [List.nil_append] at hB
 clear cx
 refine bY (λiI R' aF k=>∃ (i:Nat) (Q:List Own),iI=i/\i<=r.length/\BdT b ((AO r.length).data.toList++mE (r.take i)) Q/\R'=Q++R/\aF=Φ/\k=r.length - i) ⟨⟨_,Φ,_,inferInstance,λw G cx=>cx,0,R1,rfl,Nat.zero_le _,by rw [List.take_zero,show mE []=[] from rfl,List.append_nil];exact hB,rfl,rfl,rfl⟩,?_⟩
 rintro iI R2 pI k _ ⟨i,Q,rfl,hi,hQ,rfl,rfl,rfl⟩
 refine Br.intro (λhlt=>?_) (λhge=>λw G cx=>?_)
 ·have hlt:i<r.length:=by have:=of_decide_eq_true hlt;omega
  obtain ⟨g,o,rfl⟩:=K4 (by omega)
  obtain ⟨⟨h1,h2⟩,h3⟩:=hv r[i] (List.getElem_mem hlt)
  have hsz:=YI h1 h2 (by omega)
  have hlen:((AO r.length).data.toList++mE (r.take (i+1))).length<=20000000000:=by
   have e:mE r=mE (r.take (i+1))++mE (r.drop (i+1)):=by rw [<-YJ,List.take_append_drop]
   unfold WZ at hL
   rw [e,List.length_append,List.length_append] at hL
   rw [List.length_append];omega
  have hstep:mE (r.take (i+1))=mE (r.take i)++(FP r[i]).data.toList:=by rw [List.take_succ_eq_append_getElem hlt,YJ,a8N]
  refine ⟨by omega,aJ g o rfl λw G cx=>⟨r[i].kind,r[i].num,r[i].text,by rw [Int.toNat_natCast];exact U7 (eT _ _ cx.gW) hlt,λ_ w G cx=>(aBE (Φ:=pI) r[i] hT h1 h2 (by omega)).use cx λw cx=>⟨_,rfl,Q++R,pI,inferInstance,cx,λw G cx=>?_⟩⟩⟩
  refine mD (FP r[i]) hQ (cx.re (List.append_assoc _ _ _)) (by rw [hstep,<-List.append_assoc,List.length_append,fB] at hlen;omega) λQ' w hQ' cx=>⟨_,_,rfl,Q'++R,pI,inferInstance,by rw [List.append_assoc];exact cx,by unfold aR;omega,_,pI,r.length - (i+1),inferInstance,λw G cx=>cx,⟨i+1,Q',by omega,hlt,?_,rfl,rfl,rfl⟩,by omega⟩
  rw [hstep,<-List.append_assoc];exact hQ'
 ·have hge:i=r.length:=by have:=of_decide_eq_false hge;omega
  subst hge
  rw [List.take_length] at hQ
  exact K6 hQ (cx.re (List.append_assoc _ _ _)) λw cx=>⟨_,rfl,R,pI,inferInstance,cx,λw G cx=>⟨rfl,cx.left⟩⟩
end Go.Proofs.YtfccagphnfceiaaGreatDoor
end

section
namespace Go.Vc
def a68 (b:Nat) (l:List UInt8):PW:=λM w=>∀ j,(hj:j<l.length)->b ∉ M/\w.cell? ⟨b,j,none⟩=some (.int .u8 (l[j].toNat:Int))
instance a69 (b:Nat) (l:List UInt8):aA (a68 b l):=⟨fun {M M' w w'} hs h j hj=>by
 obtain ⟨h1,h2⟩:=h j hj
 have hlt:b<w.heap.size:=by
  rcases Nat.lt_or_ge b w.heap.size with h'|h'
  ·exact h'
  ·simp [World.cell?,Array.getElem?_eq_none h'] at h2
 refine ⟨λhm=>?_,hs.XO.cell h2 h1⟩
 rcases hs.sub b hm with h|h
 ·exact h1 h
 ·omega⟩
theorem YL {w:World} {e:TypeId} {s:ByteArray}:kD [] w (Lib.bytesWorld w e s) :=
 have h:=Lib.bytesWorld_below w e s
 ⟨h.os,h.tape,h.output,h.size,λk hk _=>h.block k hk⟩
theorem Ctx.bytes {W w:World} {S:List Own} {Φ:PW} [aA Φ] (c:Ctx W w S Φ) (e:TypeId) (s:ByteArray):Ctx W (Lib.bytesWorld w e s) S (λM w'=>Φ M w'/\a68 w.heap.size s.data.toList M w'):=by
 refine (c.call YL).add λj hj=>⟨λhm=>absurd (c.lt hm) (Nat.lt_irrefl _),?_⟩
 have hj2:j<s.size:=by
  rw [Array.length_toList] at hj
  exact hj
 rw [Lib.bytesWorld_cell w e s j hj2,show s.data.toList.getD j 0=s.data.toList[j] by rw [List.getD,List.getElem?_eq_getElem hj];rfl]
end Go.Vc
namespace Go.Proofs.YtfccagphnfceiaaGreatDoor
open Go.Vc
section
variable {Φ:PW} {p:Option Addr} {cap:Nat} {r:List cG} {l:List aV}
end
end Go.Proofs.YtfccagphnfceiaaGreatDoor
end

section
namespace Go.Proofs.YtfccagphnfceiaaGreatDoor
open Go.Vc
structure aKB where
 no:Int
 mark:Int
 stop:Nat
abbrev aKB.cells (x:aKB):List Value:=[.int .i64 x.no,.int .i64 x.mark,.int .i64 x.stop]
structure a2G where
 lines:List aM
 dZ:List aKB
abbrev aOT:Type:=Int × ByteArray
def aM.at (x:aM):aOT:=(x.time,D0 x.row)
def aOU:List aM->aOT->Int
 | [],_=>0
 | x :: l,k=>(if x.at=k then x.n else 0)+aOU l k
structure LP where
 lb:Nat
 lp:Option Addr
 lc:Nat
 cs:List Value
 bp:Option Addr
 bc:Nat
 mb:Nat
 es:List aBm
 vN:Nat
structure b7r (q:LP) (st:a2G):Prop where
 map:aOF q.es q.vN
 cnt:∀ k,getM q.es k=aOU st.lines k
 lpt:0<st.lines.length->∃ g,q.lp=some ⟨g,0,none⟩
 bpt:0<st.dZ.length->∃ g,q.bp=some ⟨g,0,none⟩
 aOO:st.lines.length<=q.lc/\q.lc<=maxLen
 cells:∀ i (h:i<st.lines.length),∃ p c,(q.cs.drop (i*7)).take 7=st.lines[i].cells p c/\st.lines[i].row.length<=c/\c<=maxLen/\st.lines[i].In
 len:q.cs.length=st.lines.length*7
structure aOV (st:a2G):Prop where
 lines:st.lines.length<=150000
 dZ:st.dZ.length<=600000
 row:∀ x∈st.lines,x.row.length<=13
 text:∀ x∈st.lines,∀ v∈x.row,v.text.size<=300
 stop:∀ b∈st.dZ,b.stop<=st.lines.length
theorem aOV.rows {st:a2G} (h:aOV st):∀ x∈st.lines,x.row.length<=1000000:=λx hx=>by have:=h.row x hx;omega
section
variable {Φ:PW} {q:LP} {st:a2G} {W w:World} {R S G:List Own}
end
end Go.Proofs.YtfccagphnfceiaaGreatDoor
end

section
namespace Go.Proofs.YtfccagphnfceiaaGreatDoor
open Go.Vc
theorem qO {M:List Nat} {w:World} {cs:List Value} {l:List aM} (h:aQ M w cs l):cs.length=l.length*7:=h.1
theorem a5b {M:List Nat} {w:World} {cs:List Value} {l:List aM} (h:aQ M w cs l):(cs.all λu=>pG u)=true:=by
 have h1:=qO h
 refine List.all_eq_true.2 λu hu=>?_
 obtain ⟨j,hj,rfl⟩:=List.getElem_of_mem hu
 have hi:j / 7<l.length:=by omega
 obtain ⟨p,c,e,_⟩:=a8J h hi
 have ha:(((cs.drop (j / 7*7)).take 7).all λu=>pG u)=true:=by rw [e];rfl
 have hm:cs[j]∈(cs.drop (j / 7*7)).take 7:=by
  refine List.mem_iff_getElem?.2 ⟨j % 7,?_⟩
  rw [List.getElem?_take_of_lt (by omega),List.getElem?_drop,show j / 7*7+j % 7=j by omega,List.getElem?_eq_getElem hj]
 exact List.all_eq_true.1 ha _ hm
structure Src (S:List Own) (Φ:PW) (p:Option Addr) (l:List aM) (cs:List Value):Prop where
 ptr:0<l.length->∃ b o,p=some ⟨b,o,none⟩
 rd:∀ {W w:World} {G:List Own} {b o:Nat},p=some ⟨b,o,none⟩->Ctx W w (S++G) Φ->∀ j v,cs[j]? = some v->w.cell? ⟨b,o+j,none⟩=some v
 el:∀ M w,Φ M w->aQ M w cs l
section
variable {Φ:PW} {q:LP} {st:a2G} {W w:World} {R S G:List Own} {p:Option Addr} {cap:Nat} {l:List aM} {cs:List Value}
theorem Src.more {Ψ:PW} (h:Src S Φ p l cs) (hi:∀ M w,Ψ M w->Φ M w):Src S Ψ p l cs:=⟨h.ptr,λe c=>h.rd e (c.weak hi),λM w x=>h.el M w (hi M w x)⟩
theorem Src.app (h:Src S Φ p l cs):Src (S++R) Φ p l cs:=⟨h.ptr,λe c=>h.rd e (c.re (List.append_assoc _ _ _)),h.el⟩
def yV (p:Option Addr) (l:List aM) (cs:List Value):PW:=λM w=>(∀ b o,p=some ⟨b,o,none⟩->0<l.length->fZ b o cs M w)/\aQ M w cs l
instance aBF (p:Option Addr) (l:List aM) (cs:List Value):aA (yV p l cs):=⟨λhs h=>⟨λb o e h0=>aA.step (Φ:=λM w=>fZ b o cs M w) hs (h.1 b o e h0),aA.step (Φ:=λM w=>aQ M w cs l) hs h.2⟩⟩
theorem QC (c:Ctx W w S Φ) (h:Sl (dom S) w p l):∃ cs,Ctx W w S (λM w=>Φ M w/\yV p l cs M w):=by
 rcases Nat.eq_zero_or_pos l.length with h0|h0
 ·have hl:l=[]:=List.eq_nil_of_length_eq_zero h0
  subst hl
  exact ⟨[],c.add ⟨λ_ _ _ h=>by simp at h,aQ.nil⟩⟩
 ·obtain ⟨b,o,news,hp,g1,g2,g3,g4⟩:=h.cells U9 h0
  obtain ⟨b',o',_,e',hb,hr,_⟩:=h 0 h0
  rw [hp] at e'
  cases e'
  refine ⟨news,c.add ⟨λb' o' e _=>?_,g3⟩⟩
  rw [hp] at e
  cases e
  refine ⟨hb,λj hj=>g2 j _ (List.getElem?_eq_getElem hj),?_⟩
  have hsz:(Gv.ty aM).size=7:=rfl
  rw [hsz] at g1
  have:=g2 0 _ (List.getElem?_eq_getElem (by omega))
  rcases Nat.lt_or_ge b w.heap.size with h'|h'
  ·exact h'
  ·simp [World.cell?,Array.getElem?_eq_none h'] at this
theorem uU (K4:Q8 p l.length) (hf:∀ M w,Φ M w->yV p l cs M w):Src [] Φ p l cs where
 ptr:=K4
 rd:=fun {W w G b o} e c j v hj=>by
  have hl:=qO (hf _ _ c.gW).2
  have hjl:j<cs.length:=(List.getElem?_eq_some_iff.1 hj).1
  have:=((hf _ _ c.gW).1 b o e (by omega)).2.1 j hjl
  rw [this,<-hj,List.getElem?_eq_getElem hjl]
 el:=λM w h=>(hf M w h).2
theorem D2 [aA Φ] (src:Src S Φ p l cs) (hlen:l.length<=1000000) (c:Ctx W w S Φ) :
  Calls Tryz.prog F.bG #[.slice p l.length cap] w λe w'=>∃ p' c' cs',e=.returned (.slice p' l.length c')/\Ctx W w' (cR p' l.length c' cs' :: S) (λM w=>Φ M w/\aQ M w cs' l):=by
 refine (pR p l.length cap (J:=λv w'=>∃ p' c' cs',v=.slice p' l.length c'/\Ctx W w' (cR p' l.length c' cs' :: S) (λM w=>Φ M w/\aQ M w cs' l)) c ?_).mono λe w' ⟨v,he,p',c',cs',hv,rest⟩=>⟨p',c',cs',by rw [he,hv],rest⟩
 clear c
 refine Br.intro (λhn=>λw F c=>?_) (λhn=>λk w F c=>?_)
 ·have hl:l=[]:=by
   rcases Nat.eq_zero_or_pos l.length with h0|h0
   ·exact List.eq_nil_of_length_eq_zero h0
   ·obtain ⟨b,o,e⟩:=src.ptr h0
    rw [e] at hn;cases hn
  subst hl
  exact ⟨none,0,[],rfl,(c.left.a8d 31 7).add aQ.nil⟩
 ·have c':Ctx W w (cR (some ⟨k,0,none⟩) 0 0 [] :: (S++F)) Φ:=c.a14 0 0 7 rfl (by simp) (by simp [maxLen])
  obtain ⟨i,z,e1,e2,e3,e4,e5,e6⟩:=nV (P:=Tryz.prog) (ts:=22) (t:=31) (size:=7) (bytes:=72) (by kernel_rfl)
  rcases Nat.eq_zero_or_pos l.length with h0|h0
  ·have hl:l=[]:=List.eq_nil_of_length_eq_zero h0
   subst hl
   exact ⟨_,_,_,w,kI (c'.LU 0 rfl e1 e2 p cap),cR (some ⟨k,0,none⟩) 0 0 [] :: S,_,cU Φ (λM w=>aQ M w [] ([]:List aM)),c'.add aQ.nil,λw G c=>⟨some ⟨k,0,none⟩,0,[],rfl,c.left⟩⟩
  ·obtain ⟨b,o,hp⟩:=src.ptr h0
   have hel:=src.el _ _ c'.gW
   have DI:=qO hel
   obtain ⟨p',cap',w',hrun,cx⟩:=c'.append 0 rfl (ty:=22) e1 e2 e3 e4 e5 (a:=⟨b,o,none⟩) (m:=l.length) (c2:=cap) (news:=cs) h0 DI (λj u hj=>by rw [addr_add];exact src.rd hp c'.drop1 j u hj) (λu hu=>List.all_eq_true.1 (a5b hel) u hu) (by rw [e6];omega) (by omega)
   rw [<-hp,Nat.zero_add] at hrun
   rw [Nat.zero_add] at cx
   exact ⟨_,_,_,w',kI hrun,cR p' l.length cap' cs :: S,_,cU Φ (λM w=>aQ M w cs l),cx.weak λM w h=>⟨h,src.el M w h⟩,λw G c=>⟨p',cap',cs,rfl,c.left⟩⟩
theorem YM [aA Φ] {r:List cG} [eT:Has Φ (λM w=>Sl M w p r)] (hlen:r.length<=1000000):jP Φ Tryz.prog F.bT #[.slice p r.length cap] r id :=
 ⟨λW w S c=>(a8I (Φ:=Φ) p cap r (λM w h=>eT.go M w h) (by omega)).use c λp1 aKC ds w cx=>by
  obtain ⟨c2,hs,_,h2,h3⟩:=Ctx.freeze (α:=cG) cx cx.gW.2
  exact ⟨p1,aKC,rfl,h2,h3,(c2.add hs).weak λM w h=>⟨h.1.1,h.2⟩⟩⟩
theorem aHV {W w w':World} {S:List Own} {Φ:PW} [aA Φ] {g n cap:Nat} {cs:List Value} {l:List aM} (cx:Ctx W w (cR (some ⟨g,0,none⟩) n cap cs :: S) (λM w=>Φ M w/\aQ M w cs l)) {i:Nat} (hi:i<l.length) {p:Option Addr} {c:Nat}
  (h1:l[i].row.length<=c) (h2:c<=maxLen) (hs:∀ M w,Φ M w->Sl M w p l[i].row) (e:w'=w.setCell ⟨g,i*7+3,none⟩ (.slice p l[i].row.length c)) :
  ∃ cs',Ctx W w' (cR (some ⟨g,0,none⟩) n cap cs' :: S) (λM w=>Φ M w/\aQ M w cs' l):=by
 have hl:=a44 cx.gW.2
 obtain ⟨p0,c0,hp,_,_,h3,_⟩:=a8J cx.gW.2 hi
 have h:=cx.a0Q 0 rfl rfl (vs:=[.slice p l[i].row.length c]) (o:=i*7+3) (by omega) (by simp only [List.length_cons,List.length_nil];omega) e
 have hrows:=zY (vs:=l[i].cells p0 c0) hp
 rw [a8K (l[i].cells p0 c0) 3 cs (i*7) _ (by show 3<7;decide) hrows,show (l[i].cells p0 c0).set 3 (.slice p l[i].row.length c)=l[i].cells p c from rfl] at h
 refine ⟨_,h.weak λM w h=>⟨h.1,?_⟩⟩
 have:=h.2.setAt i hi (MK h1 h2 h3 (hs M w h.1))
 rw [List.set_getElem_self] at this
 exact this
end
end Go.Proofs.YtfccagphnfceiaaGreatDoor
end

section
namespace Go.Proofs.YtfccagphnfceiaaGreatDoor
open Go.Vc
theorem aFW {seg:List aV} {k0:Key} (h:∀ x∈seg,x.key=k0) (k:Key) (hk:k≠k0):j7 seg k=0:=BN λx hx e=>hk (by rw [<-e,h x hx])
theorem Norm.snoc {c:List aV} {x:aV} (h:Norm c) (h1:∀ y∈c,U3 y.key x.key<0) (h2:x.n≠0) (h3:aR x.n):Norm (c++[x]):=by
 refine ⟨List.pairwise_append.2 ⟨h.asc,List.pairwise_singleton _ _,λy hy z hz=>?_⟩,λy hy=>?_,λy hy=>?_⟩
 ·rw [List.mem_singleton.1 hz,BM];exact h1 y hy
 ·rcases List.mem_append.1 hy with hy|hy
  ·exact h.nz y hy
  ·rw [List.mem_singleton.1 hy];exact h2
 ·rcases List.mem_append.1 hy with hy|hy
  ·exact h.i64 y hy
  ·rw [List.mem_singleton.1 hy];exact h3
theorem UD {A seg C:List aV} {k0:Key} {N:Int} (h:∀ x∈seg,x.key=k0) (hN:N=gF seg k0) (k:Key) :
  (gF (A++(⟨k0.1,k0.2,N⟩ :: C)) k=gF (A++(seg++C)) k)/\(N=0->gF (A++C) k=gF (A++(seg++C)) k):=by
 have key:(((if k0=k then N else 0):Int) - j7 seg k) % 18446744073709551616=0:=by
  by_cases hk:k0=k
  ·subst hk
   rw [if_pos rfl,hN]
   exact a0U _
  ·rw [if_neg hk,aFW h k (λe=>hk e.symm)]
   rfl
 have e1:j7 (A++(⟨k0.1,k0.2,N⟩ :: C)) k=j7 A k+((if k0=k then N else 0)+j7 C k):=by rw [FN];rfl
 have e2:j7 (A++(seg++C)) k=j7 A k+(j7 seg k+j7 C k):=by rw [FN,FN]
 refine ⟨?_,λh0=>?_⟩
 ·unfold gF
  rw [e1,e2]
  exact MJ (by omega)
 ·unfold gF
  rw [FN,e2]
  refine MJ ?_
  rw [h0] at key
  have:((if k0=k then (0:Int) else 0))=0:=by split<;>rfl
  omega
structure K7 (l:List aV) (es outs:List DE) (i:Nat):Prop where
 le:i<=es.length
 norm:Norm (outs.map DE.d)
 lt:∀ x∈outs,∀ y∈es.drop i,U3 x.d.key y.d.key<0
 find:∀ k,gF (outs.map DE.d++(es.drop i).map DE.d) k=gF l k
 few:outs.length<=i
theorem K7.step {l:List aV} {es outs:List DE} {i:Nat} (h:K7 l es outs i) {X:DE} (hX:X∈es.drop i) {j:Nat} (hij:i+j<=es.length) (hj:1<=j) (hk:∀ y∈(es.drop i).take j,y.d.key=X.d.key) {N:Int} (hN:N=gF (((es.drop i).take j).map DE.d) X.d.key)
  (hgt:∀ y∈es.drop (i+j),U3 X.d.key y.d.key<0):(N=0->K7 l es outs (i+j))/\(N≠0->∀ (p:Option Addr) (c:Nat),K7 l es (outs++[⟨⟨X.d.time,X.d.row,N⟩,p,c⟩]) (i+j)):=by
 have hdr:es.drop i=(es.drop i).take j++es.drop (i+j):=by rw [<-List.drop_drop,List.take_append_drop]
 have hkm:∀ x∈((es.drop i).take j).map DE.d,x.key=X.d.key:=λx hx=>by
  obtain ⟨y,hy,rfl⟩:=List.mem_map.1 hx
  exact hk y hy
 have hsub:∀ y∈es.drop (i+j),y∈es.drop i:=λy hy=>by rw [hdr];exact List.mem_append_right _ hy
 have hf:∀ k,gF (outs.map DE.d++(((es.drop i).take j).map DE.d++(es.drop (i+j)).map DE.d)) k=gF l k:=λk=>by
  rw [<-List.map_append,<-hdr];exact h.find k
 refine ⟨λh0=>⟨hij,h.norm,λx hx y hy=>h.lt x hx y (hsub y hy),λk=>?_,by have:=h.few;omega⟩,λh0 p c=>⟨hij,?_,λx hx y hy=>?_,λk=>?_,by rw [List.length_append];have:=h.few;simp;omega⟩⟩
 ·rw [<-hf k]
  exact (UD (A:=outs.map DE.d) (C:=(es.drop (i+j)).map DE.d) hkm hN k).2 h0
 ·rw [List.map_append]
  refine Norm.snoc h.norm (λy hy=>?_) h0 (by rw [hN];exact U5 _)
  obtain ⟨z,hz,rfl⟩:=List.mem_map.1 hy
  exact h.lt z hz X hX
 ·rcases List.mem_append.1 hx with hx|hx
  ·exact h.lt x hx y (hsub y hy)
  ·rw [List.mem_singleton.1 hx];exact hgt y hy
 ·rw [<-hf k,List.map_append,List.append_assoc]
  exact (UD (A:=outs.map DE.d) (C:=(es.drop (i+j)).map DE.d) hkm hN k).1
end Go.Proofs.YtfccagphnfceiaaGreatDoor
end

section
namespace Go.Proofs.YtfccagphnfceiaaGreatDoor
open Go.Vc
def aYU (x:aV):aV:=⟨x.time,x.row,CD (0 - x.n)⟩
def b7s (a b:List aV):List aV:=QA (a++b.map aYU)
theorem a8O {x y:aV}:x=y ↔ (x.time=y.time/\(x.row=y.row/\x.n=y.n)):=by cases x;cases y;simp
instance:DecidableEq aV:=λ_ _=>decidable_of_iff _ a8O.symm
end Go.Proofs.YtfccagphnfceiaaGreatDoor
end

section
namespace Go.Vc
section
variable {W w:World} {S:List Own} {Φ:PW}
theorem Ctx.aKD [aA Φ] {P:Program} {α:Type} [Gv α] {q:Option Addr} {l:List α} {c2:Nat} {p:Option Addr} {n cap:Nat} {cs:List Value} {t:TypeId} {bytes:Nat} (c:Ctx W w (.buf p n cap cs t (Gv.ty α).size :: S) Φ)
  {ts ty:TypeId} {kb:Array Bool} (hb:WV P ts t (Gv.ty α).size bytes=true) (h1:∀ M w cs (x:α),Gv.rep M w cs x->(cs.all λu=>pG u)=true) (NQ:∀ M w,Φ M w->Sl M w q l) (hlen:n+l.length<100000000) (hbytes:bytes<=1000) :
  ∃ p' cap' w' news,Sem.run P (builtin Builtin.append #[ts,ts] ty kb #[.slice p n cap,.slice q l.length c2]) w=.ok (.value (.slice p' (n+l.length) cap')) w' /\
   Ctx W w' (.buf p' (n+l.length) cap' (cs++news) t (Gv.ty α).size :: S) (λM w=>Φ M w/\aQ M w news l):=by
 rcases Nat.eq_zero_or_pos l.length with h0|h0
 ·obtain ⟨i,z,e1,e2,e3,e4,e5,e6⟩:=nV hb
  have hl:l=[]:=List.eq_nil_of_length_eq_zero h0
  subst hl
  refine ⟨p,cap,w,[],kI (c.LU 0 rfl e1 e2 q c2),?_⟩
  rw [List.append_nil]
  exact c.add aQ.nil
 ·obtain ⟨p',cap',w',news,h2,_,c3⟩:=c.aHQ (ty:=ty) (kb:=kb) (c2:=c2) hb h1 NQ h0 hlen hbytes
  exact ⟨p',cap',w',news,h2,c3⟩
end
end Go.Vc
namespace Go.Proofs.YtfccagphnfceiaaGreatDoor
open Go.Vc
end Go.Proofs.YtfccagphnfceiaaGreatDoor
end

section
namespace Go.Proofs.YtfccagphnfceiaaGreatDoor
open Go.Vc
def YN (kind:Int) (key:List Int):Bool := !decide (kind<0)&&(!decide (3<=kind)&&(!decide ((0:Int)<key.length)||(decide (kind=1) && !decide (a42 key<0))))
abbrev MN (kind:Int) (key:List Int):j0:=⟨kind,key,[],[],0,[]⟩
theorem OL {q:KP} {st:j0} {W w:World} {S:List Own} {Φ:PW} (c:Ctx W w (dP q st++S) Φ) (hk:st.key.length<=q.kc/\q.kc<=maxLen) (ha:st.aside.length<=q.ac/\q.ac<=maxLen):AX q st where
 lpt:=λh=>by
  obtain ⟨g,hg,_⟩:=c.jF 2 rfl (by rw [(c.xM 2 rfl).1];omega)
  exact ⟨g,hg⟩
 bpt:=λh=>by
  obtain ⟨g,hg,_⟩:=c.jF 1 rfl (by rw [(c.xM 1 rfl).1];omega)
  exact ⟨g,hg⟩
 aOO:=(c.xM 2 rfl).2
 aOP:=(c.xM 1 rfl).2
 aBw:=hk
 aOQ:=ha
 len:=(c.xM 2 rfl).1
section
variable {Φ:PW} {q:KP} {st:j0} {W w:World} {R S G:List Own} {p:Option Addr} {cap:Nat} {l:List aM} {cs:List Value}
set_option maxHeartbeats 1000000 in
theorem a5c [aA Φ] (src:Src S Φ p l cs) (hlen:l.length<=1000000) (hrow:∀ x∈l,x.row.length<=1000000) (c:Ctx W w S Φ) :
  Calls Tryz.prog F.tV #[.slice p l.length cap] w λe w'=>∃ p' c' cs',e=.returned (.slice p' l.length c')/\Ctx W w' (cR p' l.length c' cs' :: S) (λM w=>Φ M w/\aQ M w cs' l):=by
 refine (RC p l.length cap (J:=λv w'=>∃ p' c' cs',v=.slice p' l.length c'/\Ctx W w' (cR p' l.length c' cs' :: S) (λM w=>Φ M w/\aQ M w cs' l)) c ?_).mono λe w' ⟨v,he,p',c',cs',hv,rest⟩=>⟨p',c',cs',by rw [he,hv],rest⟩
 clear c
 refine λw G c=>(D2 (S:=S++G) src.app hlen c).mono λe w' ⟨p1,c1,cs1,he,cx⟩=>⟨p1,l.length,c1,he,cR p1 l.length c1 cs1 :: S,(λM w=>Φ M w/\aQ M w cs1 l),inferInstance,cx,?_⟩
 clear c
 have hel:=cx.gW.2
 have hpt:0<l.length->∃ g,p1=some ⟨g,0,none⟩:=λh0=>aHT cx (by rw [qO hel];omega)
 clear cx hel
 refine bY (λiI R' aF m=>∃ i UE,iI=(i:Nat)/\i<=l.length/\R'=cR p1 l.length c1 UE :: S/\aF=(λM w=>Φ M w/\aQ M w UE l)/\m=l.length - i) ⟨⟨_,_,_,cU Φ (λM w=>aQ M w cs1 l),λw G cx=>cx,0,cs1,rfl,Nat.zero_le _,rfl,rfl,rfl⟩,?_⟩
 rintro iI R1 bH m _ ⟨i,UE,rfl,hi,rfl,rfl,rfl⟩
 refine Br.intro (λhlt=>?_) (λhge=>λw G cx=>⟨p1,c1,UE,rfl,cx.left⟩)
 have hlt:i<l.length:=by have:=of_decide_eq_true hlt;omega
 obtain ⟨g,rfl⟩:=hpt (by omega)
 have hst:aA (λM w=>Φ M w/\aQ M w UE l):=cU Φ (λM w=>aQ M w UE l)
 refine ⟨by omega,aJ g 0 rfl λw G cx=>?_⟩
 obtain ⟨p0,c0,hp,_,_,_,_⟩:=a8J cx.gW.2 hlt
 refine ⟨l[i].no,l[i].batch,l[i].time,p0,l[i].row.length,c0,l[i].n,l[i].iR,l[i].why,?_,λ_ w G cx=>?_⟩
 ·have:=aOM (W:=W) (w:=w) (Φ:=λM w=>Φ M w/\aQ M w UE l) (S:=S++G) cx hp
  rw [show 0+(i:Int).toNat*7=i*7 by omega]
  exact this
 have hrd:∀ M w,(Φ M w/\aQ M w UE l)->Sl M w p0 l[i].row:=λM w h=>by
  have:=h.2.2 i hlt
  rw [show (Gv.ty aM).size=7 from rfl,hp] at this
  exact U8 this
 have hh:Has (λM w=>Φ M w/\aQ M w UE l) (λM w=>Sl M w p0 l[i].row):=⟨hrd⟩
 refine (YM (r:=l[i].row) (hrow _ (List.getElem_mem _))).to cx λp3 c3 f1 f2 st3=>?_
 clear cx
 refine ⟨by omega,aJ g 0 rfl λw G cx=>⟨?_,λw2 F3=>?_⟩⟩
 ·have hl:=qO cx.gW.1.2
  exact aHU (S:=S++G) cx (by omega)
 ·have cx2:Ctx W w (cR (some ⟨g,0,none⟩) l.length c1 UE :: (S++G)) (λM w=>(Φ M w/\Sl M w p3 l[i].row)/\aQ M w UE l):=cx.weak λM w h=>⟨⟨h.1.1,h.2⟩,h.1.2⟩
  have st5:aA (λM w=>Sl M w p3 l[i].row):=LR p3 l[i].row
  have st4:aA (λM w=>Φ M w/\Sl M w p3 l[i].row):=@cU Φ (λM w=>Sl M w p3 l[i].row) _ st5
  obtain ⟨UF,cx3⟩:=aHV (w':=w2) (Φ:=λM w=>Φ M w/\Sl M w p3 l[i].row) cx2 hlt f1 f2 (λM w h=>h.2) (by rw [F3];congr 2;omega)
  exact ⟨cR (some ⟨g,0,none⟩) l.length c1 UF :: S,_,cU Φ (λM w=>aQ M w UF l),cx3.weak λM w h=>⟨h.1.1,h.2⟩,by unfold aR;omega,_,_,l.length - (i+1),cU Φ (λM w=>aQ M w UF l),λw G cx=>cx,⟨i+1,UF,rfl,hlt,rfl,rfl,rfl⟩,by omega⟩
theorem YO [aA Φ] [eT:Has Φ (λM w=>Sl M w p l)] (hlen:l.length<=1000000) (hrow:∀ x∈l,x.row.length<=1000000):jP Φ Tryz.prog F.tV #[.slice p l.length cap] l id :=
 .there (λM w h=>(eT.go M w h).there) λK4=>⟨λW w S c=>by
  obtain ⟨cs,c1⟩:=QC c (eT.go _ _ c.gW)
  refine (a5c (S:=S) (Φ:=λM w=>Φ M w/\yV p l cs M w) (uU (Φ:=λM w=>Φ M w/\yV p l cs M w) K4 (λM w h=>h.2)).app hlen hrow c1).mono λe w' ⟨p',c',cs',he,cx⟩=>?_
  obtain ⟨c2,hs,_,h2,h3⟩:=Ctx.freeze (α:=aM) cx cx.gW.2
  exact ⟨p',c',he,h2,h3,(c2.add hs).weak λM w h=>⟨h.1.1.1,h.2⟩⟩⟩
theorem YP [aA Φ] {l:List Int} [eT:Has Φ (λM w=>Sl M w p l)] (hlen:l.length<=17592186044416):jP Φ Tryz.prog F.cI #[.slice p l.length cap] l id :=
 ⟨λW w S c=>(a8G (Φ:=Φ) (cap:=cap) eT.go (by omega)).use c λp1 aKC ds w cx=>by
  obtain ⟨c2,hs,_,h2,h3⟩:=Ctx.freeze (α:=Int) cx cx.gW.2
  exact ⟨p1,aKC,rfl,h2,h3,(c2.add hs).weak λM w h=>⟨h.1.1,h.2⟩⟩⟩
theorem a2I (kind:Int) (key:List Int):WX (MN kind key):=⟨List.Pairwise.nil,by simp,by simp,by simp⟩
theorem aKE [aA Φ] {kind:Int} {key:List Int} [eT:Has Φ (λM w=>Sl M w p key)] (hlen:key.length<=17592186044416) (c:Ctx W w (R++G) Φ) {K:Option Addr->List Own->PW->Prop}
  (h0:YN kind key=false->K none R Φ)
  (h1:∀ q:KP,YN kind key=true->AX q (MN kind key)->aA (λM w=>Φ M w/\nF q (MN kind key) M w)->K (some ⟨q.sb,0,none⟩) (dP q (MN kind key)++R) (λM w=>Φ M w/\nF q (MN kind key) M w)) :
  Calls Tryz.prog F.M6 #[.int .i64 kind,.slice p key.length cap] w λe w'=>∃ p,e=.returned (.pointer p)/\∃ R' aF,aA aF/\Ctx W w' (R'++G) aF/\K p R' aF:=by
 refine (WO kind p key.length cap (R:=R++G) (J:=λv w'=>∃ p,v=.pointer p/\∃ R' aF,aA aF/\Ctx W w' (R'++G) aF/\K p R' aF) c ?_).mono λe w' ⟨v,he,p,hv,rest⟩=>⟨p,by rw [he,hv],rest⟩
 clear c
 have bad:YN kind key=false->∀ {w:World} {G2:List Own},Ctx W w ((R++G)++G2) Φ->∃ p,Value.pointer none=.pointer p/\∃ R' aF,aA aF/\Ctx W w (R'++G) aF/\K p R' aF:=λh {w G2} cx=>⟨none,rfl,R,Φ,inferInstance,cx.left,h0 h⟩
 have good:YN kind key=true->∀ {w:World} {G2:List Own},Ctx W w ((R++G)++G2) Φ->Calls Tryz.prog F.cI #[.slice p key.length cap] w λe17 w18=>∃ (p19:Option Addr),∃ (k20:Nat),∃ (CT:Nat),e17=.returned (.slice p19 k20 CT)/\∃ (zQ:List Own),∃ (lX:PW),aA lX/\Ctx W w18 (zQ++G2) lX/\∀ (W5:Nat) (w25:World) (R26:List Own),Ctx W w25 (Own.blk W5 [.int .i64 kind,.slice p19 k20 CT,.slice none 0 0,.slice none 0 0,.int .i64 0,.slice none 0 0] 92 :: zQ++R26) lX->∃ p,Value.pointer (some (Addr.mk W5 0 none))=.pointer p/\∃ R' aF,aA aF/\Ctx W w25 (R'++G) aF/\K p R' aF:=λh {w G2} cx=>by
  refine (YP (l:=key) hlen).to cx λp1 c1 g1 g2 st1=>?_
  intro k w3 G3 cx
  have cx:=Ctx.left (S:=.blk k _ 92 :: (R++G)) (F:=G3) cx
  have c2:=(cx.yC 31 7).yC 3 1
  obtain ⟨q,hqe⟩:∃ q:KP,q=⟨k,p1,c1,none,0,none,0,[],none,0⟩:=⟨_,rfl⟩
  have c3:Ctx W w3 ((dP q (MN kind key)++R)++G) (λM w=>Φ M w/\nF q (MN kind key) M w):=by
   rw [hqe]
   refine Ctx.weak (Φ:=λM w=>Φ M w/\Sl M w p1 key) (c2.perm ?_) λM w h=>⟨h.1,aQ.nil,h.2,λi hi=>absurd hi (by simp)⟩
   exact (List.Perm.trans (List.perm_middle (l₁:=[_,_]) (a:=_)) (List.Perm.refl _))
  have hq:AX q (MN kind key):=OL (S:=R++G) (c3.re (by simp)) (by rw [hqe];exact ⟨g1,g2⟩) (by rw [hqe];exact ⟨Nat.le_refl _,Nat.zero_le _⟩)
  have:=h1 q h hq inferInstance
  refine ⟨some ⟨k,0,none⟩,rfl,dP q (MN kind key)++R,_,inferInstance,c3,?_⟩
  rw [show k=q.sb by rw [hqe]]
  exact this
 unfold YN at bad good
 refine Br.intro (λh=>λw G2 cx=>bad (by rw [h];rfl) cx) (λa1=>?_)
 rw [a1] at bad good
 refine Br.intro (λh=>λw G2 cx=>bad (by rw [h];rfl) cx) (λa2=>?_)
 rw [a2] at bad good
 refine Br.intro (λh3=>?_) (λh3=>λw G2 cx=>good (by rw [h3];rfl) cx)
 rw [h3] at bad good
 refine Br.intro (λh=>λw G2 cx=>bad (by rw [decide_eq_false (of_decide_eq_true h)];rfl) cx) (λa4=>λw G2 cx=>?_)
 have h3:=of_decide_eq_true h3
 rw [decide_eq_true (Decidable.not_not.1 (of_decide_eq_false a4))] at bad good
 refine (aKp (l:=key) (by omega) hlen).WW cx ?_
 clear cx
 exact Br.intro (λh=>λw G2 cx=>bad (by rw [h];rfl) cx) (λa5=>λw G2 cx=>good (by rw [a5];rfl) cx)
theorem aKF (hq:AX q st) (hF:∀ M w,Φ M w->aQ M w q.cs st.lines):Src (dP q st) Φ q.lp st.lines q.cs where
 ptr:=λh=>by obtain ⟨g,hg⟩:=hq.lpt h;exact ⟨g,0,hg⟩
 rd:=fun {W w G b o} e c j v hj=>by
  have hjl:j<q.cs.length:=(List.getElem?_eq_some_iff.1 hj).1
  have:=hq.len
  obtain ⟨g,hg⟩:=hq.lpt (by omega)
  rw [hg] at e
  cases e
  rw [Nat.zero_add]
  exact c.a4V 2 rfl hg hj
 el:=λM w h=>hF M w h
end
end Go.Proofs.YtfccagphnfceiaaGreatDoor
end

section
namespace Go.Proofs.YtfccagphnfceiaaGreatDoor
set_option maxRecDepth 100000
open Go.Vc
def YQ  (W:World) (R:List Own) (Φ:PW) (J:Value->World->Prop):Prop :=
 ∀ (k0 k1 k2:Nat) (w3:World) (R4:List Own),Ctx W w3 (Own.blk k2 [Value.map (some k0),Value.slice none 0 0,Value.map (some k1),Value.int IntKind.i64 0,Value.bool false,Value.int IntKind.i64 0,Value.slice none 0 0] 97 :: Own.obj k1 (Obj.map #[] 0) :: Own.obj k0 (Obj.map #[] 0) :: R++R4) Φ->J (.pointer (some (Addr.mk k2 0 none))) w3
theorem X0  {W w:World} {R:List Own} {Φ:PW} [aA Φ] {J:Value->World->Prop} (c:Ctx W w R Φ) (h:YQ  W R Φ J):Calls Tryz.prog F.F4 #[] w λe w'=>∃ v,e=.returned v/\J v w' :=
 aB (H:={ keep:=some [0] }) (by rw [show aW Tryz.prog W { keep:=some [0] } F.F4 #[] R Φ J=YQ  W R Φ J by kernel_rfl];exact h) c
def BO (dB dO:Nat) (r4:Option Addr) (gN tC:Nat) (W:World) (R:List Own) (Φ:PW) (J:Value->World->Prop):Prop :=
 Zd W R Φ λw0=>∃ c2,w0.cell? (Addr.mk dB (dO+4) none)=some (.bool c2)/\Br c2 (Zr W R Φ J (Value.tuple #[])) (∀ w5 R6,Ctx W w5 (R++R6) Φ->aE w5 dB (dO+4) 1/\∀ (w7:World),w7=w5.setCell (Addr.mk dB (dO+4) none) (Value.bool true)->∃ R8 CC,aA CC/\Ctx W w7 (R8++R6) CC/\∀ YC EP,Ctx W YC (R8++EP) CC->aE YC dB (dO+5) 1/\∀ (M7:World),M7=YC.setCell (Addr.mk dB (dO+5) none) (Value.int IntKind.i64 0)->∃ R13 ED,aA ED/\Ctx W M7 (R13++EP) ED/\Zd W R13 ED λME=>∃ p17 ER FG,ME.cell? (Addr.mk dB (dO+1) none)=some (.slice p17 ER FG)/\vZ λ(I20:Int->List Own->PW->Nat->Prop)=>(Zs W R13 ED (I20 0))/\∀ WR CS I28 k29,aA I28->I20 WR CS I28 k29->Br (decide (WR<(↑ER:Int))) ((0<=WR /\ WR<(↑ER:Int))/\jD none p17 λk30 k31=>Zd W CS I28 λKX=>∃ n34 Q4,dH KX k30 (k31+WR.toNat*2) [.int .i64 n34,.int .i64 Q4]/\∀ (b:Nat),∃ KW FF,aA FF/\Wk W CS I28 KW FF/\aR (Q4*64)/\∃ (p40:Option Nat),(Zd W KW FF λw41=>∃ (p43:Option Nat),w41.cell? (Addr.mk dB dO none)=some (Value.map p43)/\Value.map p43=Value.map p40)/\∃ (s44 s45:ByteArray),(Zd W KW FF λVY=>∃ (s48 s49:ByteArray),(∀ (w50:World),w50.heap=VY.heap->Sem.run Tryz.prog (Instr.lookup 93 (Value.map p40) (Value.int IntKind.i64 n34) false) w50=Result.ok (Value.agg #[.string s48,.string s49]) w50)/\Value.agg #[.string s48,.string s49]=Value.agg #[.string s44,.string s45])/\∀ (YA:Nat),Wk W (Own.blk YA [Value.string (ByteArray.mk #[]),Value.string (ByteArray.mk #[])] 112 :: CS) I28 (KW) FF/\∀ w54 R55,Ctx W w54 (Own.blk YA [Value.string (ByteArray.mk #[]),Value.string (ByteArray.mk #[])] 112 :: CS++R55) I28->aE w54 YA 0 2/\∀ (w56:World),w56=w54.setCells YA 0 [.string s44,.string s45]->∃ R57 BP,aA BP/\Ctx W w56 (R57++R55) BP/\Wk W R57 BP KW FF/\Zd W R57 BP λw61=>((!decide ((↑gN:Int)=0))=true->(↑gN:Int)≠0)/\((!decide ((↑gN:Int)=0))=true->0<=WR.tmod (↑gN:Int)/\WR.tmod (↑gN:Int)<(↑gN:Int))/\jD (some !decide ((↑gN:Int)=0)) r4 λk63 k64=>∃ (n65:Int),((!decide ((↑gN:Int)=0))=true->w61.cell? (Addr.mk k63 (k64+(WR.tmod (↑gN:Int)).toNat) none)=some (.int .i64 n65))/\∃ (n66:Int),((!decide ((↑gN:Int)=0))=true->∀ (w67:World),Sem.run Tryz.prog (binOp BinOp.and 3 (Value.int IntKind.i64 n65) (Value.int IntKind.i64 1)) w67=Result.ok (Value.int IntKind.i64 n66) w67)/\∃ (s68:ByteArray),((!(decide ((↑gN:Int)=0)||decide (n66=0)))=true->w61.cell? (Addr.mk YA 0 none)=some (.string s68))/\Br (decide ((↑gN:Int)=0)||decide (n66=0)||decide ((↑s68.size:Int)<=Q4*64)) (aR (WR+1)/\Zb W R57 BP k29 (I20 (WR+1))) (∃ R74 aBH,aA aBH/\Wk W R57 BP R74 aBH/\∃ (s78:ByteArray),(Zd W R74 aBH λw79=>∃ s81,w79.cell? (Addr.mk YA 1 none)=some (.string s81)/\Value.string s81=Value.string s78)/\∃ (s82:ByteArray),(Zd W R74 aBH λw83=>∃ s85,w83.cell? (Addr.mk YA 0 none)=some (.string s85)/\Value.string s85=Value.string s82)/\aR (Q4*64+64)/\∃ (s86:ByteArray),(Zd W R74 aBH λw87=>∃ s89,w87.cell? (Addr.mk YA 0 none)=some (.string s89)/\Value.string s89=Value.string s86)/\(0<=Q4*64/\Q4*64<=min (Q4*64+64) (↑s86.size:Int)/\min (Q4*64+64) (↑s86.size:Int)<=(↑s82.size:Int))/\Zc W R57 BP Tryz.prog F.F5 #[.string s78,.int .i64 (Q4*64),.string (s82.extract (Q4*64).toNat (min (Q4*64+64) (↑s86.size:Int)).toNat)] λe92 q=>∃ s94,e92=.returned (.string s94)/\q λR95 aKH=>∀ w97 R98,Ctx W w97 (R95++R98) aKH->aE w97 YA 1 1/\∀ (w99:World),w99=w97.setCell (Addr.mk YA 1 none) (Value.string s94)->∃ a2L MO,aA MO/\Ctx W w99 (a2L++R98) MO/\Zd W a2L MO λaFE=>∃ aOZ aO0,dH aFE YA 0 [.string aOZ,.string aO0]/\Zd W a2L MO λa8x=>∃ (a4S:Option Nat),a8x.cell? (Addr.mk dB dO none)=some (Value.map a4S)/\∀ a8R aO1,Ctx W a8R (a2L++aO1) MO->∃ (aF0:World),Sem.run Tryz.prog (Instr.mapUpdate 93 (Value.map a4S) (Value.int IntKind.i64 n34) (Value.agg #[.string aOZ,.string aO0])) a8R=Result.ok () aF0/\∃ a8S aBI,aA aBI/\Ctx W aF0 (a8S++aO1) aBI/\aR (WR+1)/\Zb W a8S aBI k29 (I20 (WR+1)))) (Zd W CS I28 λaF1=>∃ (aO2:Option Nat),aF1.cell? (Addr.mk dB dO none)=some (Value.map aO2)/\∀ aF2 aO3,Ctx W aF2 (CS++aO3) I28->∃ (aF3:Option Addr) (aF4:World),Sem.run Tryz.prog (Instr.range 93 (Value.map aO2)) aF2=Result.ok (Value.pointer aF3) aF4/\∃ aO4 aBJ,aA aBJ/\Ctx W aF4 (aO4++aO3) aBJ/\vZ λ(aKJ:List Own->PW->Nat->Prop)=>(Zs W aO4 aBJ (aKJ))/\∀ a01 aKK aO5,aA aKK->aKJ a01 aKK aO5->∀ aKL a8T,Ctx W aKL (a01++a8T) aKK->(∃ (a8U:World),Sem.run Tryz.prog (Instr.next (Value.pointer aF3) false 0) aKL=Result.ok (Value.tuple #[.bool false]) a8U/\∃ aBK aBL,aA aBL/\Ctx W a8U (aBK++a8T) aBL/\∀ (aO6:Nat) (a8V:World) (aBM:List Own),Ctx W a8V (Own.obj aO6 (Obj.map #[] 0) :: aBK++aBM) aBL->aE a8V dB (dO+1) 1/\∀ (aO7:World),aO7=a8V.setCell (Addr.mk dB (dO+1) none) (Value.slice none 0 0)->∃ aO8 aBN,aA aBN/\Ctx W aO7 (aO8++aBM) aBN/\∀ a8W IB,Ctx W a8W (aO8++IB) aBN->aE a8W dB (dO+2) 1/\∀ (aO9:World),aO9=a8W.setCell (Addr.mk dB (dO+2) none) (Value.map (some aO6))->∃ aPa aBO,aA aBO/\Ctx W aO9 (aPa++IB) aBO/\Zr W aPa aBO J (Value.tuple #[])) \/ ∃ (aYZ aY0:Value) (aPb:World),Sem.run Tryz.prog (Instr.next (Value.pointer aF3) false 0) aKL=Result.ok (Value.tuple #[.bool true,aYZ,aY0]) aPb/\∃ aPc aBP,aA aBP/\Ctx W aPb (aPc++a8T) aBP/\∀ aPd aPe,Ctx W aPd (aPc++aPe) aBP->∃ (n162:Int) (aF5 a02:ByteArray) (aF6:World),Sem.run Tryz.prog (Instr.entry (Value.pointer aF3)) aPd=Result.ok (Value.tuple #[.int .i64 n162,Value.agg #[.string aF5,.string a02]]) aF6/\∃ a2M IX,aA IX/\Ctx W aF6 (a2M++aPe) IX/\∀ (b:Nat) (a8X:World) (aF7:List Own),Ctx W a8X (a2M++aF7) IX->∃ (a8Y:Option Nat),a8X.cell? (Addr.mk dB dO none)=some (Value.map a8Y)/\∀ aPf aBQ,Ctx W aPf (a2M++aBQ) IX->∃ (aPg:World),Sem.run Tryz.prog (Instr.mapUpdate 93 (Value.map a8Y) (Value.int IntKind.i64 n162) (Value.agg #[.string a02,.string a02])) aPf = Result.ok () aPg/\∃ a5f QD,aA QD/\Ctx W aPg (a5f++aBQ) QD/\Zb W a5f QD aO5 (aKJ)))
theorem FQ (dB dO:Nat) (r4:Option Addr) (gN tC:Nat) {W w:World} {R:List Own} {Φ:PW} [aA Φ] {J:Value->World->Prop} (c:Ctx W w R Φ) (h:BO dB dO r4 gN tC W R Φ J):Calls Tryz.prog F.j9 #[.pointer (some ⟨dB,dO,none⟩),.slice r4 gN tC] w λe w'=>∃ v,e=.returned v/\J v w' :=
 aB (H:={ keep:=some [0,1,4,5,6,7,8,9,13,23,24,25,26,60,88,90],bW:=[5,6,9],cF:=[(5,[.held [(0,true),(4,true),(7,true),(1,true),(5,true),(8,true),(2,true),(9,true),(3,true),(6,true),(10,false),(11,false)],.aO [12] none]),(7,[.held [(0,true),(2,true),(3,true),(5,true),(6,true),(8,true),(1,true),(4,true),(7,true),(9,true),(10,true),(11,true),(12,true)],.aO [] (some 13),.aO [14] (some 15)]),(8,[.aO [0,4,6,1,5,2,3] (some 7)]),(13,[.aO [0,4,5,7,1,6,8,2,9,3] (some 10)])],loops:=[(11,[],[]),(3,[(25,.one (.int .i64))],[])] }) (by rw [show aW Tryz.prog W { keep:=some [0,1,4,5,6,7,8,9,13,23,24,25,26,60,88,90],bW:=[5,6,9],cF:=[(5,[.held [(0,true),(4,true),(7,true),(1,true),(5,true),(8,true),(2,true),(9,true),(3,true),(6,true),(10,false),(11,false)],.aO [12] none]),(7,[.held [(0,true),(2,true),(3,true),(5,true),(6,true),(8,true),(1,true),(4,true),(7,true),(9,true),(10,true),(11,true),(12,true)],.aO [] (some 13),.aO [14] (some 15)]),(8,[.aO [0,4,6,1,5,2,3] (some 7)]),(13,[.aO [0,4,5,7,1,6,8,2,9,3] (some 10)])],loops:=[(11,[],[]),(3,[(25,.one (.int .i64))],[])] } F.j9 #[.pointer (some ⟨dB,dO,none⟩),.slice r4 gN tC] R Φ J=BO dB dO r4 gN tC W R Φ J by kernel_rfl];exact h) c
def BQ (dB dO:Nat) (W:World) (R:List Own) (Φ:PW) (J:Value->World->Prop):Prop :=
 ∀ w0 R1,Ctx W w0 (R++R1) Φ->aE w0 dB (dO+4) 1/\∀ (w2:World),w2=w0.setCell (Addr.mk dB (dO+4) none) (Value.bool false)->∃ R3 Φ4,aA Φ4/\Ctx W w2 (R3++R1) Φ4/\Zr W R3 Φ4 J (Value.tuple #[])
theorem FR (dB dO:Nat) {W w:World} {R:List Own} {Φ:PW} [aA Φ] {J:Value->World->Prop} (c:Ctx W w R Φ) (h:BQ dB dO W R Φ J):Calls Tryz.prog F.qF #[.pointer (some ⟨dB,dO,none⟩)] w λe w'=>∃ v,e=.returned v/\J v w' :=
 aB (H:={ keep:=some [] }) (by rw [show aW Tryz.prog W { keep:=some [] } F.qF #[.pointer (some ⟨dB,dO,none⟩)] R Φ J=BQ dB dO W R Φ J by kernel_rfl];exact h) c
def UG (dB dO:Nat) (file:Int) (W:World) (R:List Own) (Φ:PW) (J:Value->World->Prop):Prop :=
 ∀ (k0:Nat) (w1:World) (R2:List Own),Ctx W w1 (Own.blk k0 [Value.pointer (some (Addr.mk dB dO none)),Value.int IntKind.i64 file,Value.int IntKind.i64 0,Value.string (ByteArray.mk #[]),Value.bool false] 119 :: R++R2) Φ->Calls Tryz.prog F.nN #[.pointer (some (Addr.mk dB dO none)),.int .i64 file,.int .i64 0,.int .i64 5] w1 λe3 w4=>∃ s5 n6,e3=.returned (Value.tuple #[.string s5,.int .i64 n6])/\∃ R7 E2,aA E2/\Ctx W w4 (R7++R2) E2/\Br (decide (n6≠0)) (Zr W R7 E2 J (Value.tuple #[.pointer none,.int .i64 n6])) (Zd W R7 E2 λQY=>∃ (u13:UInt8),((!decide (s5=ByteArray.mk #[]))=true->(0:Int)<=0/\s5.data.toList.get?Internal 0=some u13)/\Br (decide (s5=ByteArray.mk #[])||decide ((↑u13.toNat:Int)=0)) (Zr W R7 E2 J (Value.tuple #[.pointer (some (Addr.mk k0 0 none)),.int .i64 0])) (Zd W R7 E2 λY4=>∃ (u18:UInt8),((!decide ((↑s5.size:Int)<5))=true->(0:Int)<=0/\s5.data.toList.get?Internal 0=some u18)/\∃ (u19:UInt8),((!decide ((↑s5.size:Int)<5)&&decide ((↑u18.toNat:Int)≠1))=true->(0:Int)<=0/\s5.data.toList.get?Internal 0=some u19)/\Br (decide ((↑s5.size:Int)<5)||decide ((↑u18.toNat:Int)≠1)&&decide ((↑u19.toNat:Int)≠2)) (Zr W R7 E2 J (Value.tuple #[.pointer none,.int .i64 2])) (vZ λ(I22:Int->Int->List Own->PW->Nat->Prop)=>(Zs W R7 E2 (I22 0 4))/\∀ n28 WQ TI I31 k32,aA I31->I22 n28 WQ TI I31 k32->Br (decide (0<WQ)) (∃ (WS:Int),(∀ (w34:World),Sem.run Tryz.prog (binOp BinOp.shl 3 (Value.int IntKind.i64 n28) (Value.int IntKind.u64 8)) w34=Result.ok (Value.int IntKind.i64 WS) w34)/\∃ (u35:UInt8),(0<=WQ/\s5.data.toList.get?Internal WQ.toNat=some u35)/\∃ (n36:Int),(∀ (HR:World),Sem.run Tryz.prog (binOp BinOp.or 3 (Value.int IntKind.i64 WS) (Value.int IntKind.i64 (IntKind.i64.wrap (↑u35.toNat:Int)))) HR=Result.ok (Value.int IntKind.i64 n36) HR)/\aR (WQ - 1)/\Zb W TI I31 k32 (I22 n36 (WQ - 1))) (Br (decide (65536<n28)) (Zr W TI I31 J (Value.tuple #[.pointer none,.int .i64 2])) (∃ (u45:UInt8),((0:Int)<=0/\s5.data.toList.get?Internal 0=some u45)/\∀ VY KT,Ctx W VY (TI++KT) I31->aE VY k0 2 1/\∀ (w48:World),w48=VY.setCell (Addr.mk k0 2 none) (Value.int IntKind.i64 (IntKind.i64.wrap (↑u45.toNat:Int)))->∃ R49 FT,aA FT/\Ctx W w48 (R49++KT) FT/\Zd W R49 FT λw51=>∃ n53,w51.cell? (Addr.mk k0 2 none)=some (.int .i64 n53)/\(0<=n53/\n53<3)/\Zd W R49 FT λw54=>∃ n56,w54.cell? (Addr.mk 0 (0+n53.toNat) none)=some (.int .i64 n56)/\Zc W R49 FT Tryz.prog F.nN #[.pointer (some (Addr.mk dB dO none)),.int .i64 file,.int .i64 n56,.int .i64 n28] λe59 q=>∃ s61 n62,e59=.returned (Value.tuple #[.string s61,.int .i64 n62])/\q λWA yW=>∀ w65 R66,Ctx W w65 (WA++R66) yW->aE w65 k0 3 1/\∀ (w67:World),w67=w65.setCell (Addr.mk k0 3 none) (Value.string s61)->∃ R68 a8Z,aA a8Z/\Ctx W w67 (R68++R66) a8Z/\Zd W R68 a8Z λw70=>∃ (s72:ByteArray),(decide (n62=0)=true->w70.cell? (Addr.mk k0 3 none)=some (.string s72))/\Br (decide (n62=0)&&decide ((↑s72.size:Int) < n28)) (Zr W R68 a8Z J (Value.tuple #[.pointer none,.int .i64 2])) (Br (decide (n62≠0)) (Zr W R68 a8Z J (Value.tuple #[.pointer none,.int .i64 n62])) (Zr W R68 a8Z J (Value.tuple #[.pointer (some (Addr.mk k0 0 none)),.int .i64 0]))))))))
theorem UH (dB dO:Nat) (file:Int) {W w:World} {R:List Own} {Φ:PW} [aA Φ] {J:Value->World->Prop} (c:Ctx W w R Φ) (h:UG dB dO file W R Φ J):Calls Tryz.prog F.BB #[.pointer (some ⟨dB,dO,none⟩),.int .i64 file] w λe w'=>∃ v,e=.returned v/\J v w' :=
 aB (H:={ keep:=some [0,1,4,5,6,7,8,9,10,22,30,44,46,57,90,92],loops:=[(11,[(9,.one (.int .i64)),(10,.one (.int .i64))],[])] }) (by rw [show aW Tryz.prog W { keep:=some [0,1,4,5,6,7,8,9,10,22,30,44,46,57,90,92],loops:=[(11,[(9,.one (.int .i64)),(10,.one (.int .i64))],[])] } F.BB #[.pointer (some ⟨dB,dO,none⟩),.int .i64 file] R Φ J=UG dB dO file W R Φ J by kernel_rfl];exact h) c
def FU (cB cO:Nat) (s:ByteArray) (W:World) (R:List Own) (Φ:PW) (J:Value->World->Prop):Prop :=
 Br (decide (65536<(↑s.size:Int))) (Zr W R Φ J (.int .i64 6)) (vZ λ(I2:List Own->PW->Prop)=>(Zd W R Φ λw3=>∃ c5,w3.cell? (Addr.mk cB (cO+4) none)=some (.bool c5)/\∃ (n6:Int),((!c5)=true->w3.cell? (Addr.mk cB (cO+2) none)=some (.int .i64 n6))/\Br (!c5&&decide (0<n6)) (∃ R7 E2,aA E2/\Wk W R Φ R7 E2/\∃ (UI:Option Addr),(Zd W R7 E2 λM7=>∃ p14,M7.cell? (Addr.mk cB cO none)=some (.pointer p14)/\Value.pointer p14=Value.pointer UI)/\∃ (nT:Int),(Zd W R7 E2 λY4=>∃ W7,Y4.cell? (Addr.mk cB (cO+1) none)=some (.int .i64 W7)/\Value.int IntKind.i64 W7=Value.int IntKind.i64 nT)/\∀ PV O6,Ctx W PV (R++O6) Φ->Calls Tryz.prog F.iW #[.pointer UI,.int .i64 nT] PV λe21 w22=>∃ BG,e21=.returned (.int .i64 BG)/\∃ xE mQ, aA mQ/\Ctx W w22 (xE++O6) mQ/\Br (decide (BG≠0)) (Zr W xE mQ J (.int .i64 BG)) (∀ HN X1,Ctx W HN (xE++X1) mQ->aE HN cB (cO+4) 1/\∀ (TM:World),TM=HN.setCell (Addr.mk cB (cO+4) none) (Value.bool true)->∃ HZ wV,aA wV/\Ctx W TM (HZ++X1) wV/\∃ AW mP,aA mP/\Wk W HZ wV AW mP/\I2 AW mP)) (∃ R37 JW,aA JW/\Wk W R Φ R37 JW/\I2 R37 JW))/\∀ (KY:List Own) (I42:List Nat->World->Prop),aA I42->I2 KY I42->vZ λ(I43:Int->List Own->PW->Prop)=>(Zd W KY I42 λS4=>∃ YR,S4.cell? (Addr.mk cB (cO+2) none)=some (.int .i64 YR)/\Br (decide (YR=1)) (∃ KT AM,aA AM/\Wk W KY I42 KT AM/\I43 2 KT AM) (∃ R51 TP,aA TP/\Wk W KY I42 R51 TP/\I43 1 R51 TP))/\∀ (n55:Int) (R56:List Own) (I57:List Nat->World -> Prop),aA I57->I43 n55 R56 I57->∃ GY pO,aA pO/\Wk W R56 I57 GY pO/\(0<=n55/\n55<3)/\∃ (n62:Int),(Zd W GY pO λw63=>∃ n65,w63.cell? (Addr.mk 0 (0+n55.toNat) none)=some (.int .i64 n65)/\Value.int IntKind.i64 n65=Value.int IntKind.i64 n62)/\∃ (p66:Option Addr),(Zd W GY pO λw67=>∃ p69,w67.cell? (Addr.mk cB cO none)=some (.pointer p69)/\Value.pointer p69=Value.pointer p66)/\∃ (n70:Int),(Zd W GY pO λw71=>∃ n73,w71.cell? (Addr.mk cB (cO+1) none)=some (.int .i64 n73)/\Value.int IntKind.i64 n73=Value.int IntKind.i64 n70)/\Zc W R56 I57 Tryz.prog F.lU #[.pointer p66,.int .i64 n70,.int .i64 n62,.string s] λe76 q=>∃ n78,e76=.returned (.int .i64 n78)/\q λR79 JX=>Br (decide (n78≠0)) (Zr W R79 JX J (.int .i64 n78)) (∃ R83 aF9,aA aF9/\Wk W R79 JX R83 aF9/\∃ (p87:Option Addr),(Zd W R83 aF9 λw88=>∃ p90,w88.cell? (Addr.mk cB cO none)=some (.pointer p90)/\Value.pointer p90=Value.pointer p87)/\∃ (n91:Int),(Zd W R83 aF9 λw92=>∃ n94,w92.cell? (Addr.mk cB (cO+1) none)=some (.int .i64 n94)/\Value.int IntKind.i64 n94=Value.int IntKind.i64 n91)/\Zc W R79 JX Tryz.prog F.iW #[.pointer p87,.int .i64 n91] λe97 q=>∃ n99,e97=.returned (.int .i64 n99)/\q λa2L MO=>Br (decide (n99≠0)) (Zr W a2L MO J (.int .i64 n99)) (∃ OM a2N,aA a2N/\Wk W a2L MO OM a2N/\∃ (a4S:Option Addr),(Zd W OM a2N λa8R=>∃ aPq,a8R.cell? (Addr.mk cB cO none)=some (.pointer aPq)/\Value.pointer aPq=Value.pointer a4S)/\∃ (n112:Int),(Zd W OM a2N λaY4=>∃ n115,aY4.cell? (Addr.mk cB (cO+1) none)=some (.int .i64 n115)/\Value.int IntKind.i64 n115=Value.int IntKind.i64 n112)/\Zc W a2L MO Tryz.prog F.zN #[.int .i64 n55,.string s] λaY5 q=>∃ a82,aY5=.returned (.string a82)/\q λaPr aHX=>Wk W aPr aHX OM a2N/\Zc W aPr aHX Tryz.prog F.lU #[.pointer a4S,.int .i64 n112,.int .i64 0,.string a82] λaKP q=>∃ n129,aKP=.returned (.int .i64 n129)/\q λa03 MP=>Br (decide (n129≠0)) (Zr W a03 MP J (.int .i64 n129)) (∀ aKQ a83,Ctx W aKQ (a03++a83) MP->aE aKQ cB (cO+2) 1/\∀ (aBU:World),aBU=aKQ.setCell (Addr.mk cB (cO+2) none) (Value.int IntKind.i64 n55)->∃ a2O IY,aA IY/\Ctx W aBU (a2O++a83) IY/\∀ a8U aBK,Ctx W a8U (a2O++aBK) IY->aE a8U cB (cO+3) 1/\∀ (a2P:World),a2P=a8U.setCell (Addr.mk cB (cO+3) none) (Value.string s)->∃ aBV aBW,aA aBW/\Ctx W a2P (aBV++aBK) aBW/\∀ ON UJ,Ctx W ON (aBV++UJ) aBW->aE ON cB (cO+4) 1/\∀ (a04:World),a04=ON.setCell (Addr.mk cB (cO+4) none) (Value.bool false)->∃ RJ FV,aA FV/\Ctx W a04 (RJ++UJ) FV/\∃ IB wE,aA wE/\Wk W RJ FV IB wE/\∃ (aPs:Option Addr),(Zd W IB wE λa5i=>∃ aPt,a5i.cell? (Addr.mk cB cO none)=some (.pointer aPt) /\ Value.pointer aPt=Value.pointer aPs)/\∃ (n157:Int),(Zd W IB wE λaY6=>∃ n160,aY6.cell? (Addr.mk cB (cO+1) none)=some (.int .i64 n160)/\Value.int IntKind.i64 n160=Value.int IntKind.i64 n157)/\Zc W RJ FV Tryz.prog F.iW #[.pointer aPs,.int .i64 n157] λaY7 q=>∃ n165,aY7=.returned (.int .i64 n165)/\q λa2M IX=>∀ a8X aF7,Ctx W a8X (a2M++aF7) IX->aE a8X cB (cO+4) 1/\∀ (aPu:World),aPu=a8X.setCell (Addr.mk cB (cO+4) none) (Value.bool (decide (n165=0)))->∃ a2Q MQ,aA MQ/\Ctx W aPu (a2Q++aF7) MQ/\Zr W a2Q MQ J (.int .i64 n165)))))
theorem K8 (cB cO:Nat) (s:ByteArray) {W w:World} {R:List Own} {Φ:PW} [aA Φ] {J:Value->World->Prop} (c:Ctx W w R Φ) (h:FU cB cO s W R Φ J):Calls Tryz.prog F.pN #[.pointer (some ⟨cB,cO,none⟩),.string s] w λe w'=>∃ v,e=.returned v/\J v w' :=
 aB (H:={ keep:=some [0,1,4,5,6,7,8,9,10,13,25,36,45,60,72,87],cF:=[(4,[.held [(0,true),(4,true),(1,true),(5,true),(2,true),(6,true),(3,true),(7,true)],.aO [] (some 8),.aO [9] none]),(11,[.held [(0,true),(4,true),(8,true),(11,true),(1,true),(5,true),(9,true),(2,true),(6,true),(10,true),(3,true),(7,true)],.aO [] (some 12),.aO [13] none]),(14,[.held [(0,true),(4,true),(1,true),(5,true),(2,true),(6,true),(3,true),(7,true)],.aO [] (some 8),.aO [9] none]),(17,[.held [(0,true),(4,true),(8,true),(9,true),(1,true),(5,true),(2,true),(6,true),(3,true),(7,true),(10,false)],.aO [] (some 11),.aO [12] none]),(21,[.held [(0,true),(4,true),(1,true),(5,true),(2,true),(6,true),(3,true),(7,true)],.aO [] (some 8),.aO [9] none])],QW:=[(8,[],[]),(11,[(6,.one (.int .i64))],[])] }) (by rw [show aW Tryz.prog W { keep:=some [0,1,4,5,6,7,8,9,10,13,25,36,45,60,72,87],cF:=[(4,[.held [(0,true),(4,true),(1,true),(5,true),(2,true),(6,true),(3,true),(7,true)],.aO [] (some 8),.aO [9] none]),(11,[.held [(0,true),(4,true),(8,true),(11,true),(1,true),(5,true),(9,true),(2,true),(6,true),(10,true),(3,true),(7,true)],.aO [] (some 12),.aO [13] none]),(14,[.held [(0,true),(4,true),(1,true),(5,true),(2,true),(6,true),(3,true),(7,true)],.aO [] (some 8),.aO [9] none]),(17,[.held [(0,true),(4,true),(8,true),(9,true),(1,true),(5,true),(2,true),(6,true),(3,true),(7,true),(10,false)],.aO [] (some 11),.aO [12] none]),(21,[.held [(0,true),(4,true),(1,true),(5,true),(2,true),(6,true),(3,true),(7,true)],.aO [] (some 8),.aO [9] none])],QW:=[(8,[],[]),(11,[(6,.one (.int .i64))],[])] } F.pN #[.pointer (some ⟨cB,cO,none⟩),.string s] R Φ J=FU cB cO s W R Φ J by kernel_rfl];exact h) c
def DR (dB dO:Nat) (f:Int) (W:World) (R:List Own) (Φ:PW) (J:Value->World->Prop):Prop :=
 vZ λ(I0:List Own->PW->Prop)=>(Zc W R Φ Tryz.prog F.nS #[.pointer (some (Addr.mk dB dO none))] λe3 q=>∃ c5,e3=.returned (.bool c5)/\q λR6 Y6=>Br c5 (Zd W R6 Y6 λw8=>∃ p10 Y2 k12,w8.cell? (Addr.mk dB (dO+6) none)=some (.slice p10 Y2 k12)/\Zc W R6 Y6 Tryz.prog F.j9 #[.pointer (some (Addr.mk dB dO none)),.slice p10 Y2 k12] λe15 q=>e15=.returned (Value.tuple #[])/\q λPU xX=>∃ KU tX,aA tX/\Wk W PU xX KU tX/\I0 KU tX) (∃ PX wT,aA wT/\Wk W R6 Y6 PX wT/\I0 PX wT))/\∀ (CS:List Own) (I28:List Nat->World->Prop),aA I28->I0 CS I28->Zc W CS I28 Tryz.prog F.mM #[.pointer (some (Addr.mk dB dO none)),.int .i64 f] λe31 q=>∃ WS,e31=.returned (.int .i64 WS)/\q λS1 yU=>Br (decide (WS≠0)) (Zr W S1 yU J (.int .i64 WS)) (Zd W S1 yU λw38=>∃ n40,w38.cell? (Addr.mk dB (dO+3) none)=some (.int .i64 n40)/\Br (decide (0<n40)) (Zd W S1 yU λw41=>∃ n43,w41.cell? (Addr.mk dB (dO+3) none)=some (.int .i64 n43)/\aR (n43 - 1)/\∀ S4 R45,Ctx W S4 (S1++R45) yU->aE S4 dB (dO+3) 1/\∀ (VY:World),VY=S4.setCell (Addr.mk dB (dO+3) none) (Value.int IntKind.i64 (n43 - 1))->∃ KT AM,aA AM/\Ctx W VY (KT++R45) AM/\Zr W KT AM J (.int .i64 10)) (Zd W S1 yU λw51=>∃ (p53:Option Nat),w51.cell? (Addr.mk dB dO none)=some (Value.map p53)/\Zd W S1 yU λw54=>∃ (s56 s57:ByteArray),(∀ (w58:World),w58.heap=w54.heap->Sem.run Tryz.prog (Instr.lookup 93 (Value.map p53) (Value.int IntKind.i64 f) false) w58=Result.ok (Value.agg #[.string s56,.string s57]) w58)/\Zc W S1 yU Tryz.prog F.oF #[.pointer (some (Addr.mk dB dO none)),.int .i64 f,.string s56] λe61 q=>e61=.returned (Value.tuple #[])/\q λWA yW=>Zr W WA yW J (.int .i64 0)))
theorem IC (dB dO:Nat) (f:Int) {W w:World} {R:List Own} {Φ:PW} [aA Φ] {J:Value->World->Prop} (c:Ctx W w R Φ) (h:DR dB dO f W R Φ J):Calls Tryz.prog F.iW #[.pointer (some ⟨dB,dO,none⟩),.int .i64 f] w λe w'=>∃ v,e=.returned v/\J v w' :=
 aB (H:={ keep:=some [0,1,4,5,7,18,24],QW:=[(3,[],[])] }) (by rw [show aW Tryz.prog W { keep:=some [0,1,4,5,7,18,24],QW:=[(3,[],[])] } F.iW #[.pointer (some ⟨dB,dO,none⟩),.int .i64 f] R Φ J=DR dB dO f W R Φ J by kernel_rfl];exact h) c
def FW (cB cO:Nat) (W:World) (R:List Own) (Φ:PW) (J:Value->World->Prop):Prop :=
 Zd W R Φ λw0=>∃ s2,w0.cell? (Addr.mk cB (cO+3) none)=some (.string s2)/\∃ n3,w0.cell? (Addr.mk cB (cO+2) none)=some (.int .i64 n3)/\Zr W R Φ J (Value.tuple #[.string s2,.bool (decide (0<n3))])
theorem K9 (cB cO:Nat) {W w:World} {R:List Own} {Φ:PW} [aA Φ] {J:Value->World->Prop} (c:Ctx W w R Φ) (h:FW cB cO W R Φ J):Calls Tryz.prog F.uJ #[.pointer (some ⟨cB,cO,none⟩)] w λe w'=>∃ v,e=.returned v/\J v w' :=
 aB (H:={ keep:=some [0,2,3] }) (by rw [show aW Tryz.prog W { keep:=some [0,2,3] } F.uJ #[.pointer (some ⟨cB,cO,none⟩)] R Φ J=FW cB cO W R Φ J by kernel_rfl];exact h) c
def YS (s:ByteArray) (eK:Int) (t:ByteArray) (W:World) (R:List Own) (Φ:PW) (J:Value->World->Prop):Prop :=
 Br (decide (t=ByteArray.mk #[])) (Zr W R Φ J (.string s)) (aR (eK+(↑t.size:Int))/\(0<=max (↑s.size:Int) (eK+(↑t.size:Int))/\max (↑s.size:Int) (eK+(↑t.size:Int))<=max (↑s.size:Int) (eK+(↑t.size:Int))/\1*max (↑s.size:Int) (eK+(↑t.size:Int))<=281474976710656/\max (↑s.size:Int) (eK+(↑t.size:Int))<=9223372036854775807)/\∀ (k2:Nat) (w3:World) (R4:List Own),Ctx W w3 (Own.blk k2 (List.replicate (max (↑s.size:Int) (eK+(↑t.size:Int))).toNat (Value.int IntKind.u8 0)) 5 :: R++R4) Φ->∃ (n5:Int) (w6:World),Sem.run Tryz.prog (builtin Builtin.copy #[129,9] 3 #[false,false] #[.slice (some (Addr.mk k2 0 none)) (max (↑s.size:Int) (eK+(↑t.size:Int))).toNat (max (↑s.size:Int) (eK+(↑t.size:Int))).toNat,.string s]) w3=.ok (.value (.int .i64 n5)) w6/\∃ R7 E2,aA E2/\Ctx W w6 (R7++R4) E2/\(0<=eK/\eK<=(↑(max (↑s.size:Int) (eK+(↑t.size:Int))).toNat:Int)/\(max (↑s.size:Int) (eK+(↑t.size:Int))).toNat<=(max (↑s.size:Int) (eK+(↑t.size:Int))).toNat)/\∀ w9 pP,Ctx W w9 (R7++pP) E2->∃ (JS:Int) (M7:World),Sem.run Tryz.prog (builtin Builtin.copy #[129,9] 3 #[false,false] #[.slice (pH (some (Addr.mk k2 0 none)) 1 eK.toNat (max (↑s.size:Int) (eK+(↑t.size:Int))).toNat) ((max (↑s.size:Int) (eK+(↑t.size:Int))).toNat - eK.toNat) ((max (↑s.size:Int) (eK+(↑t.size:Int))).toNat - eK.toNat),.string t]) w9=.ok (.value (.int .i64 JS)) M7/\∃ R13 ED,aA ED/\Ctx W M7 (R13++pP) ED/\∀ ME E5,Ctx W ME (R13++E5) ED->∃ (s17:ByteArray) (w18:World),Sem.run Tryz.prog (convert 129 9 (Value.slice (some (Addr.mk k2 0 none)) (max (↑s.size:Int) (eK+(↑t.size:Int))).toNat (max (↑s.size:Int) (eK + (↑t.size:Int))).toNat)) ME=Result.ok (Value.string s17) w18/\∃ KU tX,aA tX/\Ctx W w18 (KU++E5) tX/\Zr W KU tX J (.string s17))
theorem X2 (s:ByteArray) (eK:Int) (t:ByteArray) {W w:World} {R:List Own} {Φ:PW} [aA Φ] {J:Value->World->Prop} (c:Ctx W w R Φ) (h:YS s eK t W R Φ J):Calls Tryz.prog F.F5 #[.string s,.int .i64 eK,.string t] w λe w'=>∃ v,e=.returned v/\J v w' :=
 aB (H:={ keep:=some [0,1,2,6,7,9] }) (by rw [show aW Tryz.prog W { keep:=some [0,1,2,6,7,9] } F.F5 #[.string s,.int .i64 eK,.string t] R Φ J=YS s eK t W R Φ J by kernel_rfl];exact h) c
def DS (dB dO:Nat) (f:Int) (eK:Int) (size:Int) (W:World) (R:List Own) (Φ:PW) (J:Value->World->Prop):Prop :=
 Zc W R Φ Tryz.prog F.mM #[.pointer (some (Addr.mk dB dO none)),.int .i64 f] λe2 q=>∃ n4,e2=.returned (.int .i64 n4)/\q λR5 iQ=>Br (decide (n4≠0)) (Zr W R5 iQ J (Value.tuple #[.string (ByteArray.mk #[]),Value.int IntKind.i64 n4])) (Zd W R5 iQ λw9=>Br (decide (eK<0)||decide (size<0)) (Zr W R5 iQ J (Value.tuple #[.string (ByteArray.mk #[]),Value.int IntKind.i64 1])) (Zd W R5 iQ λw13=>∃ (p15:Option Nat),w13.cell? (Addr.mk dB dO none)=some (Value.map p15)/\Zd W R5 iQ λY4=>∃ (CW s19:ByteArray),(∀ (W8:World),W8.heap=Y4.heap->Sem.run Tryz.prog (Instr.lookup 93 (Value.map p15) (Value.int IntKind.i64 f) false) W8=Result.ok (Value.agg #[.string CW,.string s19]) W8)/\(0<=min eK (↑CW.size:Int)/\min eK (↑CW.size:Int)<=(↑CW.size:Int)/\CW.size<=CW.size)/\(0<=min size (↑(CW.extract (min eK (↑CW.size:Int)).toNat CW.size).size:Int)/\min size (↑(CW.extract (min eK (↑CW.size:Int)).toNat CW.size).size:Int)<=(↑(CW.extract (min eK (↑CW.size:Int)).toNat CW.size).size:Int))/\Zr W R5 iQ J (Value.tuple #[.string ((CW.extract (min eK (↑CW.size:Int)).toNat CW.size).extract 0 (min size (↑(CW.extract (min eK (↑CW.size:Int)).toNat CW.size).size:Int)).toNat),.int .i64 0])))
theorem ID (dB dO:Nat) (f:Int) (eK:Int) (size:Int) {W w:World} {R:List Own} {Φ:PW} [aA Φ] {J:Value->World->Prop} (c:Ctx W w R Φ) (h:DS dB dO f eK size W R Φ J):Calls Tryz.prog F.nN #[.pointer (some ⟨dB,dO,none⟩),.int .i64 f,.int .i64 eK,.int .i64 size] w λe w'=>∃ v,e=.returned v/\J v w' :=
 aB (H:={ keep:=some [0,1,2,3,8,9,10,11,16,23] }) (by rw [show aW Tryz.prog W { keep:=some [0,1,2,3,8,9,10,11,16,23] } F.nN #[.pointer (some ⟨dB,dO,none⟩),.int .i64 f,.int .i64 eK,.int .i64 size] R Φ J=DS dB dO f eK size W R Φ J by kernel_rfl];exact h) c
def BR (dB dO:Nat) (f:Int) (eK:Int) (s:ByteArray) (W:World) (R:List Own) (Φ:PW) (J:Value->World->Prop):Prop :=
 Zc W R Φ Tryz.prog F.nS #[.pointer (some (Addr.mk dB dO none))] λe2 q=>∃ c4,e2=.returned (.bool c4)/\q λR5 iQ=>Zc W R5 iQ Tryz.prog F.qI #[.pointer (some (Addr.mk dB dO none)),.int .i64 f,.int .i64 eK,.string s] λe9 q=>∃ JS,e9=.returned (.int .i64 JS)/\q λuO j3=>Br c4 (Zd W uO j3 λMA=>∃ p16 k17 ER,MA.cell? (Addr.mk dB (dO+6) none)=some (.slice p16 k17 ER)/\Zc W uO j3 Tryz.prog F.j9 #[.pointer (some (Addr.mk dB dO none)),.slice p16 k17 ER] λe21 q=>e21=.returned (Value.tuple #[])/\q λPX wT=>Zr W PX wT J (.int .i64 9)) (Zr W uO j3 J (.int .i64 JS))
theorem FX (dB dO:Nat) (f:Int) (eK:Int) (s:ByteArray) {W w:World} {R:List Own} {Φ:PW} [aA Φ] {J:Value->World->Prop} (c:Ctx W w R Φ) (h:BR dB dO f eK s W R Φ J):Calls Tryz.prog F.lU #[.pointer (some ⟨dB,dO,none⟩),.int .i64 f,.int .i64 eK,.string s] w λe w'=>∃ v,e=.returned v/\J v w' :=
 aB (H:={ keep:=some [0,1,2,3,8,9,10,18] }) (by rw [show aW Tryz.prog W { keep:=some [0,1,2,3,8,9,10,18] } F.lU #[.pointer (some ⟨dB,dO,none⟩),.int .i64 f,.int .i64 eK,.string s] R Φ J=BR dB dO f eK s W R Φ J by kernel_rfl];exact h) c
def MR (slot:Int) (s:ByteArray) (W:World) (R:List Own) (Φ:PW) (J:Value->World->Prop):Prop :=
 ∀ (k0:Nat),vZ λ(I1:Option Addr->Nat->Nat->Int->List Own->PW->Nat->Prop)=>(∃ R2 Φ3 k4,aA Φ3/\Wk W (Own.blk k0 [.int IntKind.u8 (IntKind.u8.wrap slot)] 5 :: R) Φ (R2) Φ3/\I1 (some (Addr.mk k0 0 none)) 1 1 (↑s.size:Int) R2 Φ3 k4)/\∀ p7 k8 k9 Q3 EP I12 JY,aA I12->I1 p7 k8 k9 Q3 EP I12 JY->Br (decide ((↑k8:Int)<5)) (∀ (JV:Nat) (ME:World) (E5:List Own),Ctx W ME (Own.blk JV [.int IntKind.u8 (IntKind.u8.wrap Q3)] 5 :: EP++E5) I12->∃ (p17:Option Addr) (ER FG:Nat) (W8:World),Sem.run Tryz.prog (builtin Builtin.append #[129,129] 129 #[false,false] #[.slice p7 k8 k9,.slice (some (Addr.mk JV 0 none)) 1 1]) ME=.ok (.value (.slice p17 ER FG)) W8/\∃ L3 uA,aA uA/\Ctx W W8 (L3++E5) uA/\∃ (BG:Int),(∀ (TC:World),Sem.run Tryz.prog (binOp BinOp.shr 3 (Value.int IntKind.i64 Q3) (Value.int IntKind.u64 8)) TC=Result.ok (Value.int IntKind.i64 BG) TC)/\Zb W L3 uA JY (I1 p17 ER FG BG)) (∀ TM HZ,Ctx W TM (EP++HZ) I12->∃ (s32:ByteArray) (w33:World),Sem.run Tryz.prog (convert 129 9 (Value.slice p7 k8 k9)) TM=Result.ok (Value.string s32) w33/\∃ S1 yU,aA yU/\Ctx W w33 (S1++HZ) yU/\Zr W S1 yU J (.string s32))
theorem OO (slot:Int) (s:ByteArray) {W w:World} {R:List Own} {Φ:PW} [aA Φ] {J:Value->World->Prop} (c:Ctx W w R Φ) (h:MR slot s W R Φ J):Calls Tryz.prog F.zN #[.int .i64 slot,.string s] w λe w'=>∃ v,e=.returned v/\J v w' :=
 aB (H:={ keep:=some [0,1,4,5,6,14],loops:=[(3,[(5,.one (.slice)),(6,.one (.int .i64))],[])] }) (by rw [show aW Tryz.prog W { keep:=some [0,1,4,5,6,14],loops:=[(3,[(5,.one (.slice)),(6,.one (.int .i64))],[])] } F.zN #[.int .i64 slot,.string s] R Φ J=MR slot s W R Φ J by kernel_rfl];exact h) c
def BS (n:Int) (W:World) (R:List Own) (Φ:PW) (J:Value->World->Prop):Prop :=
 Br (decide (n<0)) (Zc W R Φ Tryz.prog F.gH #[.int .i64 n] λe2 q=>∃ s4,e2=.returned (.string s4)/\q λR5 iQ=>((ByteArray.mk #[OfNat.ofNat 45]).size+s4.size).le 9223372036854775807/\((ByteArray.mk #[OfNat.ofNat 45]++s4).size+(ByteArray.mk #[OfNat.ofNat 59]).size).le 9223372036854775807/\Zr W R5 iQ J (.string (ByteArray.mk #[OfNat.ofNat 45]++s4++ByteArray.mk #[OfNat.ofNat 59]))) (aR (0 - n)/\Zc W R Φ Tryz.prog F.gH #[.int .i64 (0 - n)] λe11 q=>∃ s13,e11=.returned (.string s13)/\q λR14 M8=>(s13.size+(ByteArray.mk #[OfNat.ofNat 59]).size).le 9223372036854775807/\Zr W R14 M8 J (.string (s13++ByteArray.mk #[OfNat.ofNat 59])))
theorem FY (n:Int) {W w:World} {R:List Own} {Φ:PW} [aA Φ] {J:Value->World->Prop} (c:Ctx W w R Φ) (h:BS n W R Φ J):Calls Tryz.prog F.jA #[.int .i64 n] w λe w'=>∃ v,e=.returned v/\J v w' :=
 aB (H:={ keep:=some [0,2,4] }) (by rw [show aW Tryz.prog W { keep:=some [0,2,4] } F.jA #[.int .i64 n] R Φ J=BS n W R Φ J by kernel_rfl];exact h) c
def DT (dB dO:Nat) (W:World) (R:List Own) (Φ:PW) (J:Value->World->Prop):Prop :=
 Zd W R Φ λw0=>∃ c2,w0.cell? (Addr.mk dB (dO+4) none)=some (.bool c2)/\∃ (n3:Int),((!c2)=true->w0.cell? (Addr.mk dB (dO+5) none)=some (.int .i64 n3))/\Br (c2||decide (n3=0)) (Zr W R Φ J (.bool false)) (Zd W R Φ λw6=>∃ n8,w6.cell? (Addr.mk dB (dO+5) none)=some (.int .i64 n8)/\aR (n8 - 1)/\∀ w9 pP,Ctx W w9 (R++pP) Φ->aE w9 dB (dO+5) 1/\∀ (QY:World),QY=w9.setCell (Addr.mk dB (dO+5) none) (Value.int IntKind.i64 (n8 - 1))->∃ uO j3,aA j3/\Ctx W QY (uO++pP) j3/\Zd W uO j3 λMA=>∃ MC,MA.cell? (Addr.mk dB (dO+5) none)=some (.int .i64 MC)/\Zr W uO j3 J (.bool (decide (MC=0))))
theorem IE (dB dO:Nat) {W w:World} {R:List Own} {Φ:PW} [aA Φ] {J:Value->World->Prop} (c:Ctx W w R Φ) (h:DT dB dO W R Φ J):Calls Tryz.prog F.nS #[.pointer (some ⟨dB,dO,none⟩)] w λe w'=>∃ v,e=.returned v/\J v w' :=
 aB (H:={ keep:=some [0,2,13] }) (by rw [show aW Tryz.prog W { keep:=some [0,2,13] } F.nS #[.pointer (some ⟨dB,dO,none⟩)] R Φ J=DT dB dO W R Φ J by kernel_rfl];exact h) c
def FZ (dB dO:Nat) (f:Int) (W:World) (R:List Own) (Φ:PW) (J:Value->World->Prop):Prop :=
 Zd W R Φ λw0=>∃ c2,w0.cell? (Addr.mk dB (dO+4) none)=some (.bool c2)/\Br c2 (Zr W R Φ J (.int .i64 9)) (Zd W R Φ λw5=>Br (decide (f<0)||decide (16<=f)) (Zr W R Φ J (.int .i64 1)) (Zr W R Φ J (.int .i64 0)))
theorem KA (dB dO:Nat) (f:Int) {W w:World} {R:List Own} {Φ:PW} [aA Φ] {J:Value->World->Prop} (c:Ctx W w R Φ) (h:FZ dB dO f W R Φ J):Calls Tryz.prog F.mM #[.pointer (some ⟨dB,dO,none⟩),.int .i64 f] w λe w'=>∃ v,e=.returned v/\J v w' :=
 aB (H:={ keep:=some [0,1,4,5,10] }) (by rw [show aW Tryz.prog W { keep:=some [0,1,4,5,10] } F.mM #[.pointer (some ⟨dB,dO,none⟩),.int .i64 f] R Φ J=FZ dB dO f W R Φ J by kernel_rfl];exact h) c
def zZ (dB dO:Nat) (f:Int) (s:ByteArray) (W:World) (R:List Own) (Φ:PW) (J:Value->World->Prop):Prop :=
 ∀ (k0:Nat) (w1:World) (R2:List Own),Ctx W w1 (Own.blk k0 [.int .i64 f] 3 :: R++R2) Φ->∃ n3,w1.cell? (Addr.mk k0 0 none)=some (.int .i64 n3)/\Zd W (Own.blk k0 [.int .i64 f] 3 :: R) Φ λw4=>∃ (p6:Option Nat),w4.cell? (Addr.mk dB dO none)=some (Value.map p6)/\∀ w7 R8,Ctx W w7 (Own.blk k0 [.int .i64 f] 3 :: R++R8) Φ->∃ (w9:World),Sem.run Tryz.prog (Instr.mapUpdate 93 (Value.map p6) (Value.int IntKind.i64 n3) (Value.agg #[.string s,.string s])) w7=Result.ok () w9/\∃ pP lK,aA lK/\Ctx W w9 (pP++R8) lK/\Zd W pP lK λM7=>∃ p14 k15 RB,M7.cell? (Addr.mk dB (dO+1) none)=some (.slice p14 k15 RB)/\Zc W pP lK Tryz.prog F.cM #[.slice p14 k15 RB,Value.func (Fn.func 165) #[] #[.pointer (some (Addr.mk k0 0 none))]] λe19 q=>∃ p21 E0 k23,e19=.returned (.slice p21 E0 k23)/\q λxE mQ=>∀ JR CS,Ctx W JR (xE++CS) mQ->aE JR dB (dO+1) 1/\∀ (HN:World),HN=JR.setCell (Addr.mk dB (dO+1) none) (Value.slice p21 E0 k23)->∃ X1 IF,aA IF/\Ctx W HN (X1++CS) IF/\Zd W X1 IF λw31=>∃ (p33:Option Nat),w31.cell? (Addr.mk dB (dO+2) none)=some (Value.map p33)/\Zc W X1 IF Tryz.prog F.bJ #[Value.map p33,Value.func (Fn.func 167) #[] #[.pointer (some (Addr.mk k0 0 none))]] λe36 q=>e36=.returned (Value.tuple #[])/\q λHO rF=>Zr W HO rF J (Value.tuple #[])
theorem EE (dB dO:Nat) (f:Int) (s:ByteArray) {W w:World} {R:List Own} {Φ:PW} [aA Φ] {J:Value->World->Prop} (c:Ctx W w R Φ) (h:zZ dB dO f s W R Φ J):Calls Tryz.prog F.oF #[.pointer (some ⟨dB,dO,none⟩),.int .i64 f,.string s] w λe w'=>∃ v,e=.returned v/\J v w' :=
 aB (H:={ keep:=some [0,2,4],cF:=[(1,[.aO [0,4,5,6,1,7,2,3] (some 8)])] }) (by rw [show aW Tryz.prog W { keep:=some [0,2,4],cF:=[(1,[.aO [0,4,5,6,1,7,2,3] (some 8)])] } F.oF #[.pointer (some ⟨dB,dO,none⟩),.int .i64 f,.string s] R Φ J=zZ dB dO f s W R Φ J by kernel_rfl];exact h) c
def BT (dB dO:Nat) (f:Int) (eK:Int) (s:ByteArray) (W:World) (R:List Own) (Φ:PW) (J:Value->World->Prop):Prop :=
 Zc W R Φ Tryz.prog F.mM #[.pointer (some (Addr.mk dB dO none)),.int .i64 f] λe2 q=>∃ n4,e2=.returned (.int .i64 n4)/\q λR5 iQ=>Br (decide (n4≠0)) (Zr W R5 iQ J (.int .i64 n4)) (Br (decide (eK<0)) (Zr W R5 iQ J (.int .i64 1)) (Zd W R5 iQ λQY=>((!decide (16777216<eK))=true->aR (16777216 - eK))/\Br (decide (16777216<eK)||decide (16777216 - eK<(↑s.size:Int))) (Zr W R5 iQ J (.int .i64 6)) (Br (decide (s=ByteArray.mk #[])) (Zr W R5 iQ J (.int .i64 0)) (Zd W R5 iQ λw17=>∃ (p19:Option Nat),w17.cell? (Addr.mk dB dO none)=some (Value.map p19)/\Zd W R5 iQ λW8=>∃ (s22 s23:ByteArray),(∀ (TC : World),TC.heap=W8.heap->Sem.run Tryz.prog (Instr.lookup 93 (Value.map p19) (Value.int IntKind.i64 f) false) TC=Result.ok (Value.agg #[.string s22,.string s23]) TC)/\∀ (b:Nat) (w25:World) (R26:List Own),Ctx W w25 (R5++R26) iQ->Calls Tryz.prog F.F5 #[.string s22,.int .i64 eK,.string s] w25 λe27 HN=>∃ s29,e27=.returned (.string s29)/\∃ TI FE,aA FE/\Ctx W HN (TI++R26) FE/\Zd W TI FE λKX=>∃ (p34:Option Nat),KX.cell? (Addr.mk dB dO none)=some (Value.map p34)/\∀ KS KW,Ctx W KS (TI++KW) FE->∃ (HR:World),Sem.run Tryz.prog (Instr.mapUpdate 93 (Value.map p34) (Value.int IntKind.i64 f) (Value.agg #[.string s29,.string s23])) KS=Result.ok () HR/\∃ HO rF,aA rF/\Ctx W HR (HO++KW) rF/\((64:Int)=0->False)/\aR (eK.tdiv 64)/\vZ λ(I40:Int->List Own->PW->Nat->Prop) => (Zs W HO rF (I40 (eK.tdiv 64)))/\∀ YR KT I48 k49,aA I48->I40 YR KT I48 k49->aR (eK+(↑s.size:Int))/\aR (eK+(↑s.size:Int) - 1)/\((64:Int)=0->False)/\aR ((eK+(↑s.size:Int) - 1).tdiv 64)/\Br (decide (YR<=(eK+(↑s.size:Int) - 1).tdiv 64)) (∀ (TE:Nat) (w51:World) (R52:List Own),Ctx W w51 (Own.blk TE [.int .i64 0,.int .i64 0] 110 :: KT++R52) I48->aE w51 TE 0 2/\∀ (w53:World),w53=w51.setCells TE 0 [.int .i64 f,.int .i64 YR]->∃ W4 AJ,aA AJ/\Ctx W w53 (W4++R52) AJ/\Zd W W4 AJ λw56=>∃ (p58:Option Nat),w56.cell? (Addr.mk dB (dO+2) none)=some (Value.map p58)/\∃ n59 n60,dH w56 TE 0 [.int .i64 n59,.int .i64 n60]/\∃ (c61:Bool),(∀ (w62:World),w62.heap=w56.heap->Sem.run Tryz.prog (Instr.lookup 94 (Value.map p58) (Value.agg #[.int .i64 n59,.int .i64 n60]) false) w62=Result.ok (Value.bool c61) w62)/\Br (!c61) (∃ WA yW,aA yW/\Wk W W4 AJ WA yW/\∃ R67 EF,aA EF/\Wk W W4 AJ R67 EF/\∃ (n71 n72:Int),(Zd W WA yW λw73=>∃ n75 n76,dH w73 TE 0 [.int .i64 n75,.int .i64 n76]/\Value.agg #[.int .i64 n75,.int .i64 n76]=Value.agg #[.int .i64 n71,.int .i64 n72])/\∃ (n77 n78:Int),(Zd W R67 EF λw79=>∃ n81 n82,dH w79 TE 0 [.int .i64 n81,.int .i64 n82]/\Value.agg #[.int .i64 n81,.int .i64 n82]=Value.agg #[.int .i64 n77,.int .i64 n78])/\∃ (p83:Option Nat),(Zd W R67 EF λw84=>∃ (p86:Option Nat),w84.cell? (Addr.mk dB (dO+2) none)=some (Value.map p86)/\Value.map p86=Value.map p83)/\∃ (p87:Option Addr) (k88 k89:Nat),(Zd W R67 EF λw90=>∃ p92 k93 k94,w90.cell? (Addr.mk dB (dO+1) none)=some (.slice p92 k93 k94)/\Value.slice p92 k93 k94=Value.slice p87 k88 k89)/\∀ (k95:Nat),Wk W (Own.blk k95 [.int .i64 n77,.int .i64 n78] 110 :: W4) AJ (WA) yW/\Wk W (Own.blk k95 [.int .i64 n77,.int .i64 n78] 110 :: W4) AJ (R67) EF/\∀ a8v M9,Ctx W a8v (Own.blk k95 [.int .i64 n77,.int .i64 n78] 110 :: W4++M9) AJ->∃ (aBZ:Option Addr) (aB0 a84:Nat) (a2s:World),Sem.run Tryz.prog (builtin Builtin.append #[95,95] 95 #[false,false] #[.slice p87 k88 k89,.slice (some (Addr.mk k95 0 none)) 1 1]) a8v=.ok (.value (.slice aBZ aB0 a84)) a2s/\∃ a4Q a2R,aA a2R/\Ctx W a2s (a4Q++M9) a2R/\Wk W a4Q a2R WA yW/\Wk W a4Q a2R R67 EF/\∀ a0O E6,Ctx W a0O (a4Q++E6) a2R->aE a0O dB (dO+1) 1/\∀ (aGc:World),aGc=a0O.setCell (Addr.mk dB (dO+1) none) (Value.slice aBZ aB0 a84)->∃ X3 BU,aA BU/\Ctx W aGc (X3++E6) BU/\Wk W X3 BU WA yW/\True/\∀ aF1 G0,Ctx W aF1 (X3++G0) BU->∃ (aZc:Bool) (n122:Int) (aPB:World),Sem.run Tryz.prog (Instr.mapEntry 94 (Value.map p83) (Value.agg #[.int .i64 n71,.int .i64 n72])) aF1=Result.ok (Value.tuple #[.bool aZc,.int .i64 n122]) aPB/\∃ aB1 YT,aA YT/\Ctx W aPB (aB1++G0) YT/\Wk W aB1 YT WA yW/\True/\∀ aPC aB2,Ctx W aPC (aB1++aB2) YT->∃ (aPD:World),Sem.run Tryz.prog (Instr.entryStore 94 (Value.map p83) (Value.int IntKind.i64 n122) (Value.bool true)) aPC=Result.ok () aPD/\∃ aKT a7f,aA a7f/\Ctx W aPD (aKT++aB2) a7f/\Wk W aKT a7f WA yW/\True/\aR (YR+1)/\Zb W aKT a7f k49 (I40 (YR+1))) (aR (YR+1)/\Zb W W4 AJ k49 (I40 (YR+1)))) (Zr W KT I48 J (.int .i64 0))))))
theorem G7 (dB dO:Nat) (f:Int) (eK:Int) (s:ByteArray) {W w:World} {R:List Own} {Φ:PW} [aA Φ] {J:Value->World->Prop} (c:Ctx W w R Φ) (h:BT dB dO f eK s W R Φ J):Calls Tryz.prog F.qI #[.pointer (some ⟨dB,dO,none⟩),.int .i64 f,.int .i64 eK,.string s] w λe w'=>∃ v,e=.returned v/\J v w' :=
 aB (H:={ keep:=some [0,1,2,3,8,9,10,11,12,17,19,22,32,62,74],bW:=[10],cF:=[(12,[.aO [0,4,5,1,2,3] (some 6)]),(18,[.XV [10,4,9] 15 [] [0,1,5,6,10,2,7,3,8,4,9] [(11,[]),(12,[13,14]),(15,[]),(16,[17]),(18,[])]])],loops:=[(14,[(11,.one (.int .i64))],[])] }) (by rw [show aW Tryz.prog W { keep:=some [0,1,2,3,8,9,10,11,12,17,19,22,32,62,74],bW:=[10],cF:=[(12,[.aO [0,4,5,1,2,3] (some 6)]),(18,[.XV [10,4,9] 15 [] [0,1,5,6,10,2,7,3,8,4,9] [(11,[]),(12,[13,14]),(15,[]),(16,[17]),(18,[])]])],loops:=[(14,[(11,.one (.int .i64))],[])] } F.qI #[.pointer (some ⟨dB,dO,none⟩),.int .i64 f,.int .i64 eK,.string s] R Φ J=BT dB dO f eK s W R Φ J by kernel_rfl];exact h) c
def A0 (s:ByteArray) (W:World) (R:List Own) (Φ:PW) (J:Value->World->Prop):Prop :=
 ∀ (k0:Nat) (w1:World) (R2:List Own),Ctx W w1 (Own.blk k0 [.string s,.bool false] 193 :: R++R2) Φ->J (.pointer (some (Addr.mk k0 0 none))) w1
theorem EG (s:ByteArray) {W w:World} {R:List Own} {Φ:PW} [aA Φ] {J:Value->World->Prop} (c:Ctx W w R Φ) (h:A0 s W R Φ J):Calls Tryz.prog F.kT #[.string s] w λe w'=>∃ v,e=.returned v/\J v w' :=
 aB (H:={ keep:=some [0,2] }) (by rw [show aW Tryz.prog W { keep:=some [0,2] } F.kT #[.string s] R Φ J=A0 s W R Φ J by kernel_rfl];exact h) c
def r5 (rB rO:Nat) (W:World) (R:List Own) (Φ:PW) (J:Value->World->Prop):Prop :=
 Zc W R Φ Tryz.prog F.fD #[.pointer (some (Addr.mk rB rO none)),.int IntKind.u8 59] λe2 q=>∃ n4,e2=.returned (.int .i64 n4)/\q λR5 iQ=>Zr W R5 iQ J (.int .i64 n4)
theorem wW (rB rO:Nat) {W w:World} {R:List Own} {Φ:PW} [aA Φ] {J:Value->World->Prop} (c:Ctx W w R Φ) (h:r5 rB rO W R Φ J):Calls Tryz.prog F.aK #[.pointer (some ⟨rB,rO,none⟩)] w λe w'=>∃ v,e=.returned v/\J v w' :=
 aB (H:={ keep:=some [0,2] }) (by rw [show aW Tryz.prog W { keep:=some [0,2] } F.aK #[.pointer (some ⟨rB,rO,none⟩)] R Φ J=r5 rB rO W R Φ J by kernel_rfl];exact h) c
def pV (rB rO:Nat) (W:World) (R:List Own) (Φ:PW) (J:Value->World->Prop):Prop :=
 Zc W R Φ Tryz.prog F.eV #[.pointer (some (Addr.mk rB rO none)),.int IntKind.u8 58] λe2 q=>∃ n4,e2=.returned (.int .i64 n4)/\q λR5 iQ=>Zd W R5 iQ λw7=>∃ c9,w7.cell? (Addr.mk rB (rO+1) none)=some (.bool c9)/\∃ (s10:ByteArray),((!c9)=true->w7.cell? (Addr.mk rB rO none)=some (.string s10))/\Br (c9||decide ((↑s10.size:Int)<=n4)) (Zc W R5 iQ Tryz.prog F.b8 #[.pointer (some (Addr.mk rB rO none))] λe13 q=>∃ nT,e13=.returned (.int .i64 nT)/\q λE5 aB3=>Zr W E5 aB3 J (.string (ByteArray.mk #[]))) (Zd W R5 iQ λW8=>∃ s22,W8.cell? (Addr.mk rB rO none)=some (.string s22)/\(0<=n4/\n4 <= (↑s22.size:Int))/\Zd W R5 iQ λYB=>∃ s25,YB.cell? (Addr.mk rB rO none)=some (.string s25)/\(0<=n4/\n4<=(↑s25.size:Int)/\s25.size<=s25.size)/\∀ JR CS,Ctx W JR (R5++CS) iQ->aE JR rB rO 1/\∀ (HN:World),HN=JR.setCell (Addr.mk rB rO none) (Value.string (s25.extract n4.toNat s25.size))->∃ X1 IF,aA IF/\Ctx W HN (X1++CS) IF/\Zc W X1 IF Tryz.prog F.gT #[.pointer (some (Addr.mk rB rO none)),.int IntKind.u8 44] λe33 q=>∃ c35,e33=.returned (.bool c35)/\q λKW FF=>Br (!c35) (Zr W KW FF J (.string (ByteArray.mk #[]))) (Zr W KW FF J (.string (s22.extract 0 n4.toNat))))
theorem vO (rB rO:Nat) {W w:World} {R:List Own} {Φ:PW} [aA Φ] {J:Value->World->Prop} (c:Ctx W w R Φ) (h:pV rB rO W R Φ J):Calls Tryz.prog F.bU #[.pointer (some ⟨rB,rO,none⟩)] w λe w'=>∃ v,e=.returned v/\J v w' :=
 aB (H:={ keep:=some [0,2,3,4,19,39] }) (by rw [show aW Tryz.prog W { keep:=some [0,2,3,4,19,39] } F.bU #[.pointer (some ⟨rB,rO,none⟩)] R Φ J=pV rB rO W R Φ J by kernel_rfl];exact h) c
def pW (rB rO:Nat) (W:World) (R:List Own) (Φ:PW) (J:Value->World->Prop):Prop :=
 Zd W R Φ λw0=>∃ c2,w0.cell? (Addr.mk rB (rO+1) none)=some (.bool c2)/\∃ (s3:ByteArray),((!c2)=true->w0.cell? (Addr.mk rB rO none)=some (.string s3))/\Zr W R Φ J (.bool (!c2&&decide (s3=ByteArray.mk #[])))
theorem vP (rB rO:Nat) {W w:World} {R:List Own} {Φ:PW} [aA Φ] {J:Value->World->Prop} (c:Ctx W w R Φ) (h:pW rB rO W R Φ J):Calls Tryz.prog F.dL #[.pointer (some ⟨rB,rO,none⟩)] w λe w'=>∃ v,e=.returned v/\J v w' :=
 aB (H:={ keep:=some [0,2] }) (by rw [show aW Tryz.prog W { keep:=some [0,2] } F.dL #[.pointer (some ⟨rB,rO,none⟩)] R Φ J=pW rB rO W R Φ J by kernel_rfl];exact h) c
def r6 (rB rO:Nat) (W:World) (R:List Own) (Φ:PW) (J:Value->World->Prop):Prop :=
 Zc W R Φ Tryz.prog F.eV #[.pointer (some (Addr.mk rB rO none)),.int IntKind.u8 59] λe2 q=>∃ n4,e2=.returned (.int .i64 n4)/\q λR5 iQ=>Zr W R5 iQ J (.int .i64 n4)
theorem wX (rB rO:Nat) {W w:World} {R:List Own} {Φ:PW} [aA Φ] {J:Value->World->Prop} (c:Ctx W w R Φ) (h:r6 rB rO W R Φ J):Calls Tryz.prog F.eM #[.pointer (some ⟨rB,rO,none⟩)] w λe w'=>∃ v,e=.returned v/\J v w' :=
 aB (H:={ keep:=some [0,2] }) (by rw [show aW Tryz.prog W { keep:=some [0,2] } F.eM #[.pointer (some ⟨rB,rO,none⟩)] R Φ J=r6 rB rO W R Φ J by kernel_rfl];exact h) c
def pX (rB rO:Nat) (W:World) (R:List Own) (Φ:PW) (J:Value->World->Prop):Prop :=
 Zd W R Φ λw0=>∃ s2,w0.cell? (Addr.mk rB rO none)=some (.string s2)/\Zr W R Φ J (.int .i64 (↑s2.size:Int))
theorem vQ (rB rO:Nat) {W w:World} {R:List Own} {Φ:PW} [aA Φ] {J:Value->World->Prop} (c:Ctx W w R Φ) (h:pX rB rO W R Φ J):Calls Tryz.prog F.iE #[.pointer (some ⟨rB,rO,none⟩)] w λe w'=>∃ v,e=.returned v/\J v w' :=
 aB (H:={ keep:=some [0,2] }) (by rw [show aW Tryz.prog W { keep:=some [0,2] } F.iE #[.pointer (some ⟨rB,rO,none⟩)] R Φ J=pX rB rO W R Φ J by kernel_rfl];exact h) c
def uV (s:ByteArray) (W:World) (R:List Own) (Φ:PW) (J:Value->World->Prop):Prop :=
 Zc W R Φ Tryz.prog F.kT #[.string s] λe2 q=>∃ p4,e2=.returned (.pointer p4)/\q λR5 iQ=>Zc W R5 iQ Tryz.prog F.eM #[.pointer p4] λe9 q=>∃ JS,e9=.returned (.int .i64 JS)/\q λuO j3=>vZ λ(I14:Option Addr->Nat->Nat->Int->List Own->PW->Nat->Prop)=>(Zs W uO j3 (I14 none 0 0 0))/\∀ RZ CT E0 BG xE I25 TD,aA I25->I14 RZ CT E0 BG xE I25 TD->Zd W xE I25 λw27=>Br (decide (BG<JS)&&decide (BG<(↑s.size:Int))) (∀ (b:Nat) (w29:World) (TI:List Own),Ctx W w29 (xE++TI) I25->Calls Tryz.prog F.aK #[.pointer p4] w29 λe31 KX=>∃ WS,e31=.returned (.int .i64 WS)/\∃ S1 yU,aA yU/\Ctx W KX (S1++TI) yU/\Zc W S1 yU Tryz.prog F.aK #[.pointer p4] λe38 q=>∃ n40,e38=.returned (.int .i64 n40)/\q λKY AK=>Zc W KY AK Tryz.prog F.bU #[.pointer p4] λe45 q=>∃ s47,e45=.returned (.string s47)/\q λR48 aZe=>∀ (TE:Nat) (w51:World) (R52:List Own),Ctx W w51 (Own.blk TE [.int .i64 WS,.int .i64 n40,.string s47] 147 :: R48++R52) aZe->∃ (p53:Option Addr) (k54 k55:Nat) (w56:World),Sem.run Tryz.prog (builtin Builtin.append #[29,29] 29 #[false,false] #[.slice RZ CT E0,.slice (some (Addr.mk TE 0 none)) 1 1]) w51=.ok (.value (.slice p53 k54 k55)) w56/\∃ R57 BP,aA BP/\Ctx W w56 (R57++R52) BP /\ aR (BG+1)/\Zb W R57 BP TD (I14 p53 k54 k55 (BG+1))) (Zc W xE I25 Tryz.prog F.dL #[.pointer p4] λe66 q=>∃ c68,e66=.returned (.bool c68)/\q λR69 UK=>Br (!c68) (Zr W R69 UK J (Value.tuple #[.slice none 0 0,.bool false])) (Br (decide ((↑CT:Int)≠JS)) (Zr W R69 UK J (Value.tuple #[.slice none 0 0,.bool false])) (Zr W R69 UK J (Value.tuple #[.slice RZ CT E0,.bool true]))))
theorem AP (s:ByteArray) {W w:World} {R:List Own} {Φ:PW} [aA Φ] {J:Value->World->Prop} (c:Ctx W w R Φ) (h:uV s W R Φ J):Calls Tryz.prog F.fX #[.string s] w λe w'=>∃ v,e=.returned v/\J v w' :=
 aB (H:={ keep:=some [0,2,3,4,5,6,7,8,21,46],bW:=[8],split:=[12],loops:=[(5,[(6,.one (.slice)),(7,.one (.int .i64))],[])] }) (by rw [show aW Tryz.prog W { keep:=some [0,2,3,4,5,6,7,8,21,46],bW:=[8],split:=[12],loops:=[(5,[(6,.one (.slice)),(7,.one (.int .i64))],[])] } F.fX #[.string s] R Φ J=uV s W R Φ J by kernel_rfl];exact h) c
def wF (n:Int) (W:World) (R:List Own) (Φ:PW) (J:Value->World->Prop):Prop :=
 ((10:Int)=0->False)/\aR (48 - n.tmod 10)/\∀ (k0:Nat) (w1:World) (R2:List Own),Ctx W w1 (Own.blk k0 [.int IntKind.u8 (IntKind.u8.wrap (48 - n.tmod 10))] 5 :: R++R2) Φ->∃ (s3:ByteArray) (w4:World),Sem.run Tryz.prog (convert 129 9 (Value.slice (some (Addr.mk k0 0 none)) 1 1)) w1=Result.ok (Value.string s3) w4/\∃ R5 iQ,aA iQ/\Ctx W w4 (R5++R2) iQ/\Br (decide (-10<n)) (Zr W R5 iQ J (.string s3)) (((10:Int)=0->False)/\aR (n.tdiv 10)/\Zc W R5 iQ Tryz.prog F.gH #[.int .i64 (n.tdiv 10)] λe11 q=>∃ s13,e11=.returned (.string s13)/\q λR14 M8=>(s13.size+s3.size).le 9223372036854775807/\Zr W R14 M8 J (.string (s13++s3)))
theorem BV (n:Int) {W w:World} {R:List Own} {Φ:PW} [aA Φ] {J:Value->World->Prop} (c:Ctx W w R Φ) (h:wF n W R Φ J):Calls Tryz.prog F.gH #[.int .i64 n] w λe w'=>∃ v,e=.returned v/\J v w' :=
 aB (H:={ keep:=some [0,2,3,11] }) (by rw [show aW Tryz.prog W { keep:=some [0,2,3,11] } F.gH #[.int .i64 n] R Φ J=wF n W R Φ J by kernel_rfl];exact h) c
def fV (sP:Option Addr) (sN sC:Nat) (IG:FuncId) (MS:Array Value) (W:World) (R:List Own) (Φ:PW) (J:Value->World->Prop):Prop :=
 Zc W R Φ Tryz.prog F.cS #[.slice sP sN sC,Value.func (Fn.func IG) #[] MS] λe2 q=>∃ n4,e2=.returned (.int .i64 n4)/\q λR5 iQ=>Br (decide (n4 = -1)) (Zr W R5 iQ J (.slice sP sN sC)) (aR (n4+1)/\vZ λ(I9:Int->Int->List Own->PW->Nat->Prop)=>(Zs W R5 iQ (I9 n4 (n4+1)))/\∀ nT MC PU I18 FG,aA I18->I9 nT MC PU I18 FG->Br (decide (MC<(↑sN:Int))) (Zi MC sN sP λk20 CT=>Zd W PU I18 λw22=>∃ n24 n25,dH w22 k20 (CT+MC.toNat*2) [.int .i64 n24,.int .i64 n25]/\∀ (b:Nat) (JR:World) (CS:List Own),Ctx W JR (PU++CS) I18->qT Tryz.prog IG=true/\Calls Tryz.prog IG (Array.mk (Value.agg #[.int .i64 n24,.int .i64 n25] :: MS.toList)) JR λe28 w29=>∃ c30,e28=.returned (.bool c30)/\∃ HZ wV,aA wV/\Ctx W w29 (HZ++CS) wV/\Br (!c30) (Zi nT sN sP λW6 Y9=>∀ KS KW,Ctx W KS (HZ++KW) wV->aE KS W6 (Y9+nT.toNat*2) 2/\∀ (HR:World),HR=KS.setCells W6 (Y9+nT.toNat*2) [.int .i64 n24,.int .i64 n25]->∃ HO rF,aA rF/\Ctx W HR (HO++KW) rF/\aR (nT+1)/\aR (MC+1)/\Zb W HO rF FG (I9 (nT+1) (MC+1))) (aR (MC+1)/\Zb W HZ wV FG (I9 nT (MC+1)))) ((0<=nT/\nT<=(↑sN:Int)/\sN<=sC)/\∀ w50 R51,Ctx W w50 (PU++R51) I18->∃ (w52:World),Sem.run Tryz.prog (builtin Builtin.clear #[95] 0 #[false] #[.slice (pH sP 2 nT.toNat sC) (sN - nT.toNat) (sC - nT.toNat)]) w50=.ok (.value (Value.tuple #[])) w52/\∃ R53 KB,aA KB/\Ctx W w52 (R53++R51) KB/\(0<=nT/\nT<=(↑sC:Int))/\Zr W R53 KB J (.slice (pH sP 2 0 sC) nT.toNat sC)))
theorem jW (sP:Option Addr) (sN sC:Nat) (IG:FuncId) (MS:Array Value) {W w:World} {R:List Own} {Φ:PW} [aA Φ] {J:Value->World->Prop} (c:Ctx W w R Φ) (h:fV sP sN sC IG MS W R Φ J):Calls Tryz.prog F.cM #[.slice sP sN sC,.func (.func IG) #[] MS] w λe w'=>∃ v,e=.returned v/\J v w' :=
 aB (H:={ keep:=some [0,1,4,5,6,7,12,19,29],wrap:=[28],bW:=[7],loops:=[(5,[(5,.one (.int .i64)),(6,.one (.int .i64))],[])] }) (by rw [show aW Tryz.prog W { keep:=some [0,1,4,5,6,7,12,19,29],wrap:=[28],bW:=[7],loops:=[(5,[(5,.one (.int .i64)),(6,.one (.int .i64))],[])] } F.cM #[.slice sP sN sC,.func (.func IG) #[] MS] R Φ J=fV sP sN sC IG MS W R Φ J by kernel_rfl];exact h) c
def wG (p0 p1:Int) (kB kO:Nat) (W:World) (R:List Own) (Φ:PW) (J:Value->World->Prop):Prop :=
 ∀ (b:Nat) (w0:World) (R1:List Own),Ctx W w0 (R++R1) Φ->∃ n2,w0.cell? (Addr.mk kB kO none)=some (.int .i64 n2)/\Zr W R Φ J (.bool (decide (p0=n2)))
theorem BW (p0 p1:Int) (kB kO:Nat) {W w:World} {R:List Own} {Φ:PW} [aA Φ] {J:Value->World->Prop} (c:Ctx W w R Φ) (h:wG p0 p1 kB kO W R Φ J):Calls Tryz.prog F.qM #[.agg #[.int .i64 p0,.int .i64 p1],.pointer (some ⟨kB,kO,none⟩)] w λe w'=>∃ v,e=.returned v/\J v w' :=
 aB (H:={ keep:=some [1,2,3],bW:=[2] }) (by rw [show aW Tryz.prog W { keep:=some [1,2,3],bW:=[2] } F.qM #[.agg #[.int .i64 p0,.int .i64 p1],.pointer (some ⟨kB,kO,none⟩)] R Φ J=wG p0 p1 kB kO W R Φ J by kernel_rfl];exact h) c
def dX (m:Option Nat) (IG:FuncId) (MS:Array Value) (W:World) (R:List Own) (Φ:PW) (J:Value->World->Prop):Prop :=
 ∀ w0 R1,Ctx W w0 (R++R1) Φ->∃ (p2:Option Addr) (w3:World),Sem.run Tryz.prog (Instr.range 94 (Value.map m)) w0=Result.ok (Value.pointer p2) w3/\∃ R4 Φ5,aA Φ5/\Ctx W w3 (R4++R1) Φ5/\vZ λ(I6:List Own->PW->Nat->Prop)=>(Zs W R4 Φ5 (I6))/\∀ uO I13 JV,aA I13->I6 uO I13 JV->∀ ME E5,Ctx W ME (uO++E5) I13->(∃ (w17:World),Sem.run Tryz.prog (Instr.next (Value.pointer p2) false 0) ME=Result.ok (Value.tuple #[.bool false]) w17/\∃ WN RA,aA RA/\Ctx W w17 (WN++E5) RA/\Zr W WN RA J (Value.tuple #[]))\/∃ (v22 v23:Value) (TC:World),Sem.run Tryz.prog (Instr.next (Value.pointer p2) false 0) ME=Result.ok (Value.tuple #[.bool true,v22,v23]) TC/\∃ R25 aB5,aA aB5/\Ctx W TC (R25++E5) aB5/\∀ w27 OA,Ctx W w27 (R25++OA) aB5->∃ (WQ W0 : Int) (c31:Bool) (KX:World),Sem.run Tryz.prog (Instr.entry (Value.pointer p2)) w27=Result.ok (Value.tuple #[Value.agg #[.int .i64 WQ,.int .i64 W0],Value.bool c31]) KX/\∃ AW mP,aA mP/\Ctx W KX (AW++OA) mP/\∀ (b:Nat) (KS:World) (KW:List Own),Ctx W KS (AW++KW) mP->qT Tryz.prog IG=true/\Calls Tryz.prog IG (Array.mk (Value.agg #[.int .i64 WQ,.int .i64 W0] :: Value.bool c31 :: MS.toList)) KS λe37 w38=>∃ c39,e37=.returned (.bool c39)/\∃ R40 RD,aA RD/\Ctx W w38 (R40++KW) RD/\Br c39 (∀ w42 R43,Ctx W w42 (R40++R43) RD->∃ (S4:World),Sem.run Tryz.prog (builtin Builtin.delete #[94,110] 0 #[false,false] #[Value.map m,Value.agg #[.int .i64 WQ,.int .i64 W0]]) w42=.ok (.value (Value.tuple #[])) S4/\∃ R45 UL,aA UL/\Ctx W S4 (R45++R43) UL/\Zb W R45 UL JV (I6)) (Zb W R40 RD JV (I6))
theorem gV (m:Option Nat) (IG:FuncId) (MS:Array Value) {W w:World} {R:List Own} {Φ:PW} [aA Φ] {J:Value->World->Prop} (c:Ctx W w R Φ) (h:dX m IG MS W R Φ J):Calls Tryz.prog F.bJ #[.map m,.func (.func IG) #[] MS] w λe w'=>∃ v,e=.returned v/\J v w' :=
 aB (H:={ keep:=some [0,1,4,5,7,9,16],wrap:=[16],bW:=[4],loops:=[(1,[],[])] }) (by rw [show aW Tryz.prog W { keep:=some [0,1,4,5,7,9,16],wrap:=[16],bW:=[4],loops:=[(1,[],[])] } F.bJ #[.map m,.func (.func IG) #[] MS] R Φ J=dX m IG MS W R Φ J by kernel_rfl];exact h) c
def wH (p0 p1:Int) (x:Bool) (kB kO:Nat) (W:World) (R:List Own) (Φ:PW) (J:Value->World->Prop):Prop :=
 ∀ (b:Nat) (w0:World) (R1:List Own),Ctx W w0 (R++R1) Φ->∃ n2,w0.cell? (Addr.mk kB kO none)=some (.int .i64 n2)/\Zr W R Φ J (.bool (decide (p0=n2)))
theorem BX (p0 p1:Int) (x:Bool) (kB kO:Nat) {W w:World} {R:List Own} {Φ:PW} [aA Φ] {J:Value->World->Prop} (c:Ctx W w R Φ) (h:wH p0 p1 x kB kO W R Φ J):Calls Tryz.prog F.qN #[.agg #[.int .i64 p0,.int .i64 p1],.bool x,.pointer (some ⟨kB,kO,none⟩)] w λe w'=>∃ v,e=.returned v/\J v w' :=
 aB (H:={ keep:=some [2,3,5],bW:=[3] }) (by rw [show aW Tryz.prog W { keep:=some [2,3,5],bW:=[3] } F.qN #[.agg #[.int .i64 p0,.int .i64 p1],.bool x,.pointer (some ⟨kB,kO,none⟩)] R Φ J=wH p0 p1 x kB kO W R Φ J by kernel_rfl];exact h) c
def oR (rB rO:Nat) (nU:Int) (W:World) (R:List Own) (Φ:PW) (J:Value->World->Prop):Prop :=
 vZ λ(I0:Int->List Own->PW->Nat->Prop)=>(Zs W R Φ (I0 0))/\∀ n6 R7 I8 k9,aA I8->I0 n6 R7 I8 k9->Zd W R7 I8 λYC=>∃ s12,YC.cell? (Addr.mk rB rO none)=some (.string s12)/\∃ (s13:ByteArray),((decide (n6<(↑s12.size:Int))&&decide (n6<21))=true->YC.cell? (Addr.mk rB rO none)=some (.string s13))/\∃ (u14:UInt8),((decide (n6<(↑s12.size:Int))&&decide (n6<21))=true->0<=n6/\s13.data.toList.get?Internal n6.toNat=some u14)/\Br (decide (n6<(↑s12.size:Int))&&decide (n6<21)&&decide ((↑u14.toNat:Int)≠nU)) (aR (n6+1)/\Zb W R7 I8 k9 (I0 (n6+1))) (Zd W R7 I8 λW8=>∃ s22,W8.cell? (Addr.mk rB rO none)=some (.string s22)/\Br (decide ((↑s22.size:Int)<=n6)) (Zc W R7 I8 Tryz.prog F.b8 #[.pointer (some (Addr.mk rB rO none))] λe25 q=>∃ n27,e25=.returned (.int .i64 n27)/\q λOA sK=>Zr W OA sK J (.int .i64 n27)) (Zd W R7 I8 λKX=>∃ s34,KX.cell? (Addr.mk rB rO none)=some (.string s34)/\∃ (u35:UInt8),(0<=n6/\s34.data.toList.get?Internal n6.toNat=some u35)/\Br (decide ((↑u35.toNat:Int)≠nU)) (Zc W R7 I8 Tryz.prog F.b8 #[.pointer (some (Addr.mk rB rO none))] λe38 q=>∃ n40,e38=.returned (.int .i64 n40)/\q λKY AK=>Zr W KY AK J (.int .i64 n40)) (Zd W R7 I8 λw45=>∃ s47,w45.cell? (Addr.mk rB rO none)=some (.string s47)/\(0<=n6/\n6 <= (↑s47.size:Int))/\Zc W R7 I8 Tryz.prog F.oI #[.string (s47.extract 0 n6.toNat)] λe50 q=>∃ n52 c53,e50=.returned (Value.tuple #[.int .i64 n52,.bool c53])/\q λW4 AJ=>Br (!c53) (Zc W W4 AJ Tryz.prog F.b8 #[.pointer (some (Addr.mk rB rO none))] λe58 q=>∃ n60,e58=.returned (.int .i64 n60)/\q λR61 aZh=>Zr W R61 aZh J (.int .i64 n60)) (Zd W W4 AJ λw65=>∃ s67,w65.cell? (Addr.mk rB rO none)=some (.string s67)/\aR (n6+1)/\(0<=n6+1/\n6+1<=(↑s67.size:Int)/\s67.size<=s67.size)/\∀ w68 R69,Ctx W w68 (W4++R69) AJ->aE w68 rB rO 1/\∀ (w70:World),w70=w68.setCell (Addr.mk rB rO none) (Value.string (s67.extract (n6+1).toNat s67.size))->∃ R71 UM,aA UM/\Ctx W w70 (R71++R69) UM/\Zr W R71 UM J (.int .i64 n52)))))
theorem uW (rB rO:Nat) (nU:Int) {W w:World} {R:List Own} {Φ:PW} [aA Φ] {J:Value->World->Prop} (c:Ctx W w R Φ) (h:oR rB rO nU W R Φ J):Calls Tryz.prog F.fD #[.pointer (some ⟨rB,rO,none⟩),.int .u8 nU] w λe w'=>∃ v,e=.returned v/\J v w' :=
 aB (H:={ keep:=some [0,1,4,5,6,7,28,37,47,61],loops:=[(2,[(5,.one (.int .i64))],[])] }) (by rw [show aW Tryz.prog W { keep:=some [0,1,4,5,6,7,28,37,47,61],loops:=[(2,[(5,.one (.int .i64))],[])] } F.fD #[.pointer (some ⟨rB,rO,none⟩),.int .u8 nU] R Φ J=oR rB rO nU W R Φ J by kernel_rfl];exact h) c
def o3 (rB rO:Nat) (nU:Int) (W:World) (R:List Own) (Φ:PW) (J:Value->World->Prop):Prop :=
 Zc W R Φ Tryz.prog F.fD #[.pointer (some (Addr.mk rB rO none)),.int IntKind.u8 nU] λe2 q=>∃ n4,e2=.returned (.int .i64 n4)/\q λR5 iQ=>Br (decide (n4<0)) (Zc W R5 iQ Tryz.prog F.b8 #[.pointer (some (Addr.mk rB rO none))] λe9 q=>∃ JS,e9=.returned (.int .i64 JS)/\q λuO j3=>Zr W uO j3 J (.int .i64 JS)) (Zr W R5 iQ J (.int .i64 n4))
theorem uB (rB rO:Nat) (nU:Int) {W w:World} {R:List Own} {Φ:PW} [aA Φ] {J:Value->World->Prop} (c:Ctx W w R Φ) (h:o3 rB rO nU W R Φ J):Calls Tryz.prog F.eV #[.pointer (some ⟨rB,rO,none⟩),.int .u8 nU] w λe w'=>∃ v,e=.returned v/\J v w' :=
 aB (H:={ keep:=some [0,1,4,5,10] }) (by rw [show aW Tryz.prog W { keep:=some [0,1,4,5,10] } F.eV #[.pointer (some ⟨rB,rO,none⟩),.int .u8 nU] R Φ J=o3 rB rO nU W R Φ J by kernel_rfl];exact h) c
def pY (rB rO:Nat) (W:World) (R:List Own) (Φ:PW) (J:Value->World->Prop):Prop :=
 ∀ w0 R1,Ctx W w0 (R++R1) Φ->aE w0 rB rO 1/\∀ (w2:World),w2=w0.setCell (Addr.mk rB rO none) (Value.string (ByteArray.mk #[]))->∃ R3 Φ4,aA Φ4/\Ctx W w2 (R3++R1) Φ4/\∀ w5 R6,Ctx W w5 (R3++R6) Φ4->aE w5 rB (rO+1) 1/\∀ (w7:World),w7=w5.setCell (Addr.mk rB (rO+1) none) (Value.bool true)->∃ R8 CC,aA CC/\Ctx W w7 (R8++R6) CC/\Zr W R8 CC J (.int .i64 0)
theorem vR (rB rO:Nat) {W w:World} {R:List Own} {Φ:PW} [aA Φ] {J:Value->World->Prop} (c:Ctx W w R Φ) (h:pY rB rO W R Φ J):Calls Tryz.prog F.b8 #[.pointer (some ⟨rB,rO,none⟩)] w λe w'=>∃ v,e=.returned v/\J v w' :=
 aB (H:={ keep:=some [0,2] }) (by rw [show aW Tryz.prog W { keep:=some [0,2] } F.b8 #[.pointer (some ⟨rB,rO,none⟩)] R Φ J=pY rB rO W R Φ J by kernel_rfl];exact h) c
def oS (rB rO:Nat) (nU:Int) (W:World) (R:List Own) (Φ:PW) (J:Value->World->Prop):Prop :=
 Zd W R Φ λw0=>∃ s2,w0.cell? (Addr.mk rB rO none)=some (.string s2)/\Br (decide ((↑s2.size:Int)=0)) (Zc W R Φ Tryz.prog F.b8 #[.pointer (some (Addr.mk rB rO none))] λe5 q=>∃ n7,e5=.returned (.int .i64 n7)/\q λR8 CC=>Zr W R8 CC J (.bool false)) (Zd W R Φ λM7=>∃ s14,M7.cell? (Addr.mk rB rO none)=some (.string s14)/\∃ (u15:UInt8),((0:Int)<=0/\s14.data.toList.get?Internal 0=some u15)/\Br (decide ((↑u15.toNat:Int)≠nU)) (Zc W R Φ Tryz.prog F.b8 #[.pointer (some (Addr.mk rB rO none))] λe18 q=>∃ YD,e18=.returned (.int .i64 YD)/\q λL3 uA=>Zr W L3 uA J (.bool false)) (Zd W R Φ λw25=>∃ s27,w25.cell? (Addr.mk rB rO none)=some (.string s27)/\((0:Int)<=1/\1<=(↑s27.size:Int)/\s27.size<=s27.size)/\∀ HN X1,Ctx W HN (R++X1) Φ->aE HN rB rO 1/\∀ (TM:World),TM=HN.setCell (Addr.mk rB rO none) (Value.string (s27.extract 1 s27.size))->∃ HZ wV,aA wV/\Ctx W TM (HZ++X1) wV/\Zr W HZ wV J (.bool true)))
theorem uX (rB rO:Nat) (nU:Int) {W w:World} {R:List Own} {Φ:PW} [aA Φ] {J:Value->World->Prop} (c:Ctx W w R Φ) (h:oS rB rO nU W R Φ J):Calls Tryz.prog F.gT #[.pointer (some ⟨rB,rO,none⟩),.int .u8 nU] w λe w'=>∃ v,e=.returned v/\J v w' :=
 aB (H:={ keep:=some [0,1,4,10,19] }) (by rw [show aW Tryz.prog W { keep:=some [0,1,4,10,19] } F.gT #[.pointer (some ⟨rB,rO,none⟩),.int .u8 nU] R Φ J=oS rB rO nU W R Φ J by kernel_rfl];exact h) c
def gA (sP:Option Addr) (sN sC:Nat) (fF:FuncId) (fC:Array Value) (W:World) (R:List Own) (Φ:PW) (J:Value->World->Prop):Prop :=
 vZ λ(I0:Int->List Own->PW->Nat->Prop)=>(Zs W R Φ (I0 0))/\∀ n6 R7 I8 k9,aA I8->I0 n6 R7 I8 k9->Br (decide (n6<(↑sN:Int))) (Zi n6 sN sP λxD Y2=>Zd W R7 I8 λM7=>∃ EO nT,dH M7 xD (Y2+n6.toNat*2) [.int .i64 EO,.int .i64 nT]/\∀ Y4 PU,Ctx W Y4 (R7++PU) I8->qT Tryz.prog fF=true/\Calls Tryz.prog fF (Array.mk (Value.agg #[.int .i64 EO,.int .i64 nT] :: fC.toList)) Y4 λe18 PV=>∃ c20,e18=.returned (.bool c20)/\∃ L3 uA,aA uA/\Ctx W PV (L3++PU) uA/\Br c20 (Zr W L3 uA J (.int .i64 n6)) (aR (n6+1)/\Zb W L3 uA k9 (I0 (n6+1)))) (Zr W R7 I8 J (.int .i64 (-1)))
theorem kE (sP:Option Addr) (sN sC:Nat) (fF:FuncId) (fC:Array Value) {W w:World} {R:List Own} {Φ:PW} [aA Φ] {J:Value->World->Prop} (c:Ctx W w R Φ) (h:gA sP sN sC fF fC W R Φ J):Calls Tryz.prog F.cS #[.slice sP sN sC,.func (.func fF) #[] fC] w λe w'=>∃ v,e=.returned v/\J v w' :=
 aB (H:={ keep:=some [0,1,4,5,7,8,9,16],wrap:=[16],loops:=[(2,[(8,.one (.int .i64))],[])] }) (by rw [show aW Tryz.prog W { keep:=some [0,1,4,5,7,8,9,16],wrap:=[16],loops:=[(2,[(8,.one (.int .i64))],[])] } F.cS #[.slice sP sN sC,.func (.func fF) #[] fC] R Φ J=gA sP sN sC fF fC W R Φ J by kernel_rfl];exact h) c
end Go.Proofs.YtfccagphnfceiaaGreatDoor
end

section
namespace Go.Proofs.YtfccagphnfceiaaGreatDoor
open Go.Vc
theorem IZ:∀ a b:List UInt8,Op.bytesLess a b=decide (Lib.compareBytes a b<0)
 | [],[]=>by simp [Op.bytesLess,Lib.compareBytes]
 | [],_ :: _=>by simp [Op.bytesLess,Lib.compareBytes]
 | _ :: _,[]=>by simp [Op.bytesLess,Lib.compareBytes]
 | a :: ar,b :: br=>by
  unfold Op.bytesLess Lib.compareBytes
  rw [IZ ar br]
  by_cases h1:a<b
  ·simp [h1]
  ·by_cases h2:b<a
   ·rw [if_neg h1,if_pos h2]
    have:a≠b:=λe=>by subst e;exact h1 h2
    simp [h1,this]
   ·have:a=b:=by
     have h1':¬ a.toNat<b.toNat:=h1
     have h2':¬ b.toNat<a.toNat:=h2
     exact UInt8.toNat_inj.1 (by omega)
    rw [if_neg h1,if_neg h2]
    simp [this]
theorem MT (a b:List UInt8):Lib.compareBytes a b=0 ↔ a=b:=xF.eq a b
theorem vS (a b:List UInt8) : -1<=Lib.compareBytes a b/\Lib.compareBytes a b<=1:=xF.bd a b
theorem OP (a b:ByteArray):Op.bytesLess a.toList b.toList=decide (IA a b<0):=by rw [IZ,Lib.toList_data,Lib.toList_data];rfl
theorem a2S (a b:ByteArray):(!(Op.bytesLess a.toList b.toList||a.toList == b.toList))=decide (0<IA a b):=by
 rw [OP]
 have h2:(a.toList == b.toList)=decide (IA a b=0):=by
  rw [Bool.eq_iff_iff,beq_iff_eq,decide_eq_true_eq]
  unfold IA
  rw [MT,Lib.toList_data,Lib.toList_data]
 rw [h2]
 by_cases h:IA a b<0
 ·simp [h];omega
 ·by_cases h':IA a b=0
  ·simp [h']
  ·rw [decide_eq_false h,decide_eq_false h',decide_eq_true (show 0<IA a b by omega)];rfl
theorem UN (x:Int) (r:List Int):orI (x :: r)=if x≠0 then x else orI r:=rfl
theorem aGd (x y:cG):pS Tryz.prog F.kH #[x.v,y.v] (.int .i64 (EB x y)):=by
 refine pT (AL x.kind x.num x.text y.kind y.num y.text) λW R Φ _=>?_
 have h3:=vS x.text.data.toList y.text.data.toList
 unfold EB cmpL
 rw [UN,UN,UN]
 refine λ_ _=>Br.intro (λh=>λw G c=>⟨?_,c.left⟩) (λh=>Br.intro (λh2=>λw G c=>⟨?_,c.left⟩) (λh2=>Br.intro (λh3=>λw G c=>⟨?_,c.left⟩) (λh3=>Br.intro (λh4=>λw G c=>⟨?_,c.left⟩) (λh4=>Br.intro (λh5=>λw G c=>⟨?_,c.left⟩) (λh5=>⟨_,λw=>by rw [binOp_string_gtr];rfl,Br.intro (λh6=>λw G c=>⟨?_,c.left⟩) (λh6=>λw G c=>⟨?_,c.left⟩)⟩)))))
 ·have h:=of_decide_eq_true h
  have:vL x.kind y.kind = -1:=by unfold vL;rw [if_pos h]
  rw [this];rfl
 all_goals have h:=of_decide_eq_false h
 ·have h2:=of_decide_eq_true h2
  have:vL x.kind y.kind=1:=by unfold vL;rw [if_neg h,if_pos h2]
  rw [this];rfl
 all_goals have h2:=of_decide_eq_false h2
 all_goals have e1:vL x.kind y.kind=0:=by unfold vL;rw [if_neg h,if_neg h2]
 all_goals rw [e1]
 ·have h3:=of_decide_eq_true h3
  have:vL x.num y.num = -1:=by unfold vL;rw [if_pos h3]
  rw [this];rfl
 all_goals have h3:=of_decide_eq_false h3
 ·have h4:=of_decide_eq_true h4
  have:vL x.num y.num=1:=by unfold vL;rw [if_neg h3,if_pos h4]
  rw [this];rfl
 all_goals have h4:=of_decide_eq_false h4
 all_goals have e2:vL x.num y.num=0:=by unfold vL;rw [if_neg h3,if_neg h4]
 all_goals rw [e2]
 ·have h5:Op.bytesLess x.text.toList y.text.toList=true:=h5
  rw [OP] at h5
  have h5:=of_decide_eq_true h5
  have:IA x.text y.text = -1:=by have : -1<=IA x.text y.text:=(vS _ _).1;omega
  rw [this];rfl
 all_goals have h5:Op.bytesLess x.text.toList y.text.toList=false:=h5
 all_goals rw [OP] at h5
 all_goals have h5:=of_decide_eq_false h5
 ·rw [a2S] at h6
  have h6:=of_decide_eq_true h6
  have:IA x.text y.text=1:=by have:IA x.text y.text<=1:=(vS _ _).2;omega
  rw [this];rfl
 ·rw [a2S] at h6
  have h6:=of_decide_eq_false h6
  have:IA x.text y.text=0:=by omega
  rw [this];rfl
theorem aB7 {l r:List cG} {i:Nat} (h:l.length<=i) (hr:r.length<=i):rY (l.drop i) (r.drop i)=0:=by
 rw [List.drop_of_length_le h,List.drop_of_length_le hr];rfl
theorem a5k {l r:List cG} {i:Nat} (hi:l.length<=i) (hr:i<r.length):rY (l.drop i) (r.drop i) = -1:=by
 rw [List.drop_eq_getElem_cons hr,List.drop_of_length_le hi];rfl
theorem RL {Φ:PW} [aA Φ] (p q:Option Addr) (cap cap2:Nat) (l r:List cG) (eT:∀ M w,Φ M w->Sl M w p l) (M3:∀ M w,Φ M w->Sl M w q r) (hlen:l.length<=9223372036854775807) :
  aU Φ Tryz.prog F.iC #[.slice p l.length cap,.slice q r.length cap2] (.int .i64 (rY l r)):=by
 refine .there (λM w h=>(eT M w h).there) λK4=>.there (λM w h=>(M3 M w h).there) λaKW=>?_
 refine dS (vK p l.length cap q r.length cap2) λW R=>?_
 refine bY (λn R' aF k=>∃ i:Nat,n=i/\i<=l.length/\i<=r.length/\R'=R/\aF=Φ/\k=l.length - i/\rY l r=rY (l.drop i) (r.drop i)) ⟨⟨R,Φ,_,inferInstance,λw F c=>c,0,rfl,Nat.zero_le _,Nat.zero_le _,rfl,rfl,rfl,rfl⟩,?_⟩
 rintro n R1 bH k _ ⟨i,rfl,hi,hr,rfl,rfl,rfl,hcm⟩
 refine λw G cx=>Br.intro (λhlt=>?_) (λhge=>?_)
 ·rw [Bool.and_eq_true] at hlt
  have hl:i<l.length:=by have:=of_decide_eq_true hlt.1;omega
  have hr2:i<r.length:=by have:=of_decide_eq_true hlt.2;omega
  obtain ⟨b,o,rfl⟩:=K4 (by omega)
  obtain ⟨b2,o2,rfl⟩:=aKW (by omega)
  rw [a8C hl hr2] at hcm
  refine ⟨R1,bH,inferInstance,λ_ _ c=>c,by omega,aJ b o rfl ⟨by omega,aJ b2 o2 rfl ⟨l[i].kind,l[i].num,l[i].text,λw G cx=>⟨_,_,_,U7 (eT _ _ cx.gW) hl,rfl⟩,r[i].kind,r[i].num,r[i].text,λw G cx=>⟨_,_,_,U7 (M3 _ _ cx.gW) hr2,rfl⟩,λw G cx=>(aGd l[i] r[i]).use cx λw cx=>⟨_,rfl,R1,bH,inferInstance,cx,
   Br.intro (λhn=>λw F cx=>⟨?_,cx.left⟩) (λhn=>⟨by unfold aR;omega,R1,bH,l.length - (i+1),inferInstance,λw F c=>c,⟨i+1,rfl,hl,hr2,rfl,rfl,rfl,?_⟩,by omega⟩)⟩⟩⟩⟩
  ·have hn:EB l[i] r[i]≠0:=by simpa using hn
   rw [hcm,if_pos hn]
  ·have hn:¬ EB l[i] r[i]≠0:=by simpa using hn
   rw [hcm,if_neg hn]
 ·have hge:l.length<=i\/r.length<=i:=by
   rw [Bool.and_eq_false_iff] at hge
   rcases hge with h|h
   ·left;have:=of_decide_eq_false h;omega
   ·right;have:=of_decide_eq_false h;omega
  refine Br.intro (λh=>λw G cx=>⟨?_,cx.left⟩) (λh=>Br.intro (λh2=>λw G cx=>⟨?_,cx.left⟩) (λh2=>λw G cx=>⟨?_,cx.left⟩))
  ·have h:=of_decide_eq_true h
   rw [hcm,a5k (by omega) (by omega)]
  ·have h2:=of_decide_eq_true h2
   rw [hcm,a8B (by omega) (by omega)]
  ·have h:=of_decide_eq_false h
   have h2:=of_decide_eq_false h2
   rw [hcm,aB7 (by omega) (by omega)]
end Go.Proofs.YtfccagphnfceiaaGreatDoor
end

section
namespace Go.Proofs.YtfccagphnfceiaaGreatDoor
open Go.Vc
def A1 {α:Type} (p:α->Bool):Nat->List α->Int
 | _,[] => -1
 | i,x :: r=>if p x=true then (i:Int) else A1 p (i+1) r
theorem KC {α:Type} (p:α->Bool) (l:List α) (i:Nat) (hi:i<l.length):A1 p i (l.drop i)=if p l[i]=true then (i:Int) else A1 p (i+1) (l.drop (i+1)):=by
 rw [List.drop_eq_getElem_cons hi];rfl
theorem H9 {α:Type} (p:α->Bool):∀ (l:List α) (i:Nat),decide (0<=A1 p i l)=l.any p
 | [],_=>rfl
 | x :: r,i=>by
  unfold A1
  rw [List.any_cons]
  cases h:p x with
  | true=>simp
  | false=>simp only [Bool.false_or];rw [if_neg (by simp)];exact H9 p r (i+1)
end Go.Proofs.YtfccagphnfceiaaGreatDoor
end

section
namespace Go.Vc
section
variable {P:Program} {W w w':World} {S F:List Own} {Φ Ψ:PW}
end
end Go.Vc
namespace Go.Proofs.YtfccagphnfceiaaGreatDoor
open Go.Vc
end Go.Proofs.YtfccagphnfceiaaGreatDoor
end

section
namespace Go.Proofs.YtfccagphnfceiaaGreatDoor
open Go.Vc
def aKX (l:List aV) (j:Nat):Bool:=match l[j]? with
 | none=>false
 | some y=>decide (y.n≠0)&&match j with
  | 0=>true
  | i+1=>match l[i]? with
   | none=>false
   | some x=>decide (a2w x y<0)
def aGe (l:List aV):Bool:=(List.range l.length).all λj=>aKX l j
end Go.Proofs.YtfccagphnfceiaaGreatDoor
end

section
namespace Go.Proofs.YtfccagphnfceiaaGreatDoor
open Go.Vc
theorem Ctx.cells {W w:World} {S:List Own} {Φ:PW} {g o:Nat} {cs:List (List Value)} {l:List aV} (c:Ctx W w S Φ) (h:∀ M w,Φ M w->Pin g o cs l M w) :
  ∀ j,(hj:j<l.length)->∃ p c,cs.getD j []=l[j].cells p c/\l[j].row.length<=c/\c<=maxLen/\aR l[j].time/\aR l[j].n:=λj hj=>by
 obtain ⟨p,q,h1,h2,h3,h4,h5,_⟩:=a8H (h _ _ c.gW) hj
 exact ⟨p,q,h1,h2,h3,h4,h5⟩
end Go.Proofs.YtfccagphnfceiaaGreatDoor
end

section
namespace Go.Proofs.YtfccagphnfceiaaGreatDoor
open Go.Vc
def dz (x:aV):DE:=⟨x,none,0⟩
theorem aPI (s:List aV):(s.map dz).map DE.d=s:=by
 rw [List.map_map]
 exact List.map_id s
abbrev CO (l s outs:List aV) (i:Nat):Prop:=K7 l (s.map dz) (outs.map dz) i
theorem CO.step {l s outs:List aV} {i:Nat} (h:CO l s outs i) {X:aV} (hX:X∈s.drop i) {j:Nat} (hij:i+j<=s.length) (hj:1<=j) (hk:∀ y∈(s.drop i).take j,y.key=X.key) {N:Int} (hN:N=gF ((s.drop i).take j) X.key)
  (hgt:∀ y∈s.drop (i+j),U3 X.key y.key<0):(N=0->CO l s outs (i+j))/\(N≠0->CO l s (outs++[⟨X.time,X.row,N⟩]) (i+j)):=by
 have h1:=K7.step h (X:=dz X) (by rw [<-List.map_drop];exact List.mem_map_of_mem hX) (j:=j) (by rw [List.length_map];exact hij) hj
  (λy hy=>by rw [<-List.map_drop,<-List.map_take] at hy;obtain ⟨z,hz,rfl⟩:=List.mem_map.1 hy;exact hk z hz) (N:=N) (by rw [<-List.map_drop,<-List.map_take,aPI];exact hN)
  (λy hy=>by rw [<-List.map_drop] at hy;obtain ⟨z,hz,rfl⟩:=List.mem_map.1 hy;exact hgt z hz)
 refine ⟨h1.1,λh0=>?_⟩
 have:=h1.2 h0 none 0
 unfold CO
 rw [List.map_append]
 exact this
theorem CO.end {l s outs:List aV} (h:CO l s outs s.length):QA l=outs:=by
 have h1:=h.norm
 have h2:=h.find
 rw [aPI] at h1 h2
 refine aBt h1 λk=>?_
 have:=h2 k
 rwa [<-List.map_drop,List.drop_length,List.map_nil,List.map_nil,List.append_nil] at this
theorem CO.few {l s outs:List aV} {i:Nat} (h:CO l s outs i):outs.length<=i:=by
 have:=K7.few h
 rwa [List.length_map] at this
end Go.Proofs.YtfccagphnfceiaaGreatDoor
end

section
namespace Go.Proofs.YtfccagphnfceiaaGreatDoor
open Go.Vc
section
variable {Φ:PW} {q:LP} {st:a2G} {W w:World} {R S G:List Own} {p:Option Addr} {cap:Nat} {l:List aM} {cs:List Value}
theorem UO (src:Src S Φ p l cs) {i:Nat} (hi:i<l.length) {r:Option Addr} {rc:Nat} (he:(cs.drop (i*7)).take 7=l[i].cells r rc) {M:List Nat} (h:Φ M w):Sl M w r l[i].row:=by
 have:=(src.el M w h).2 i hi
 rw [show (Gv.ty aM).size=7 from rfl,he] at this
 exact U8 this
end
end Go.Proofs.YtfccagphnfceiaaGreatDoor
end

section
namespace Go.Proofs.YtfccagphnfceiaaGreatDoor
open Go.Vc
theorem aKY (n:Int):pS Tryz.prog F.GX #[.int .i64 n] (.agg #[.int .i64 0,.int .i64 n,.string (ByteArray.mk #[])]) :=
 pT (TR n) λW R Φ _=>λ_ w G c=>⟨rfl,c.left⟩
theorem aGf (s:ByteArray):pS Tryz.prog F.CQ #[.string s] (.agg #[.int .i64 1,.int .i64 0,.string s]) :=
 pT (RE s) λW R Φ _=>λ_ w G c=>⟨rfl,c.left⟩
theorem a7h (b:Bool):pS Tryz.prog F.xV #[.bool b] (.agg #[.int .i64 2,.int .i64 (if b=true then 1 else 0),.string (ByteArray.mk #[])]) :=
 pT (RF b) λW R Φ _=>λ_=>Br.intro (λh=>λw G c=>⟨by rw [if_pos h],c.left⟩) (λh=>λw G c=>⟨by rw [if_neg (by rw [h];simp)],c.left⟩)
theorem aB9 (x:cG):pS Tryz.prog F.zP #[x.v] (.bool (iP x)):=by
 refine pT (OC x.kind x.num x.text) λW R Φ _=>λ_=>Br.intro (λh=>?_) (λh=>Br.intro (λh2=>?_) (λh2=>?_))
 ·refine ⟨R,Φ,inferInstance,λw G c=>c,λw G cx=>(aKY x.num).use cx λw c=>⟨0,x.num,ByteArray.mk #[],rfl,R,Φ,inferInstance,c,λw G c=>c,by kernel_rfl,λw G c=>⟨?_,c.left⟩⟩⟩
  have h:=of_decide_eq_true h
  unfold iP
  rw [if_pos h,decide_eq_true h,decide_eq_true rfl,Bool.true_and,Bool.true_and,Bool.and_true]
 ·refine ⟨R,Φ,inferInstance,λw G c=>c,λw G cx=>(aGf x.text).use cx λw c=>⟨1,0,x.text,rfl,R,Φ,inferInstance,c,λw G c=>c,by kernel_rfl,?_⟩⟩
  have h:=of_decide_eq_false h
  have h2:=of_decide_eq_true h2
  refine Br.intro (λh3=>λw G c=>⟨?_,c.left⟩) (λh3=>λw G c=>⟨?_,c.left⟩)
  ·unfold iP
   rw [if_neg h,if_pos h2]
   have:x.num=0:=by simp at h3;exact h3.2
   rw [decide_eq_true this,Bool.true_and]
  ·unfold iP
   rw [if_neg h,if_pos h2]
   have:x.num≠0:=by
    intro e
    rw [decide_eq_true h2,decide_eq_true e,decide_eq_true rfl] at h3
    cases h3
   rw [decide_eq_false this,Bool.false_and]
 ·have h:=of_decide_eq_false h
  have h2:=of_decide_eq_false h2
  have hr:iP x=(decide (x.kind=2)&&(decide (x.num=0)||decide (x.num=1))&&decide (x.text=ByteArray.mk #[])):=by unfold iP;rw [if_neg h,if_neg h2]
  refine ⟨R,Φ,inferInstance,λw G c=>c,λw G cx=>(a7h false).use cx λw c=>⟨2,0,ByteArray.mk #[],rfl,R,Φ,inferInstance,c,λw G c=>c,R,Φ,inferInstance,λw G c=>c,by kernel_rfl,?_⟩⟩
  refine Br.intro (λh3=>λw G c=>⟨?_,c.left⟩) (λh3=>λw G cx=>(a7h true).use cx λw c=>⟨2,1,ByteArray.mk #[],rfl,R,Φ,inferInstance,c,λw G c=>c,by kernel_rfl,λw G c=>⟨?_,c.left⟩⟩)
  ·rw [hr]
   simp at h3
   simp [h3]
  ·rw [hr]
   congr 1
   by_cases k1:x.kind=2
   ·by_cases k2:x.text=ByteArray.mk #[]
    ·by_cases k3:x.num=0
     ·rw [k1,k2,k3] at h3
      simp at h3
     ·simp [k1,k2,k3]
    ·simp [k2]
   ·simp [k1]
section
variable {Φ:PW} {q:LP} {st:a2G} {W w:World} {R S G:List Own} {p:Option Addr} {cap:Nat} {r:List cG}
theorem aKZ (x:cG):pS Tryz.prog F.qY #[x.v] (.bool (!iP x)) :=
 pT (OB x.kind x.num x.text) λW R Φ _=>λ_ w G cx=>(aB9 x).use cx λw c=>⟨_,rfl,R,Φ,inferInstance,c,λw G c=>⟨rfl,c.left⟩⟩
theorem a88 [aA Φ] (f:FuncId) (g:cG->Bool) [eT:Has Φ (λM w=>Sl M w p r)] (hlen:r.length<=maxLen) (hf:qT Tryz.prog f=true) (cp:Array Value) (hg:∀ x:cG,pS Tryz.prog f (Array.mk (x.v :: cp.toList)) (.bool (g x))) :
  aU Φ Tryz.prog F.dJ #[.slice p r.length cap,.func (.func f) #[] cp] (.int .i64 (A1 g 0 r)):=by
 refine .there (λM w h=>(eT.go M w h).there) λK4=>?_
 refine dS (mC p r.length cap f cp) λW R=>?_
 refine bY (λn R' aF k=>∃ i:Nat,n=i/\i<=r.length/\R'=R/\aF=Φ/\k=r.length - i/\A1 g 0 r=A1 g i (r.drop i)) ⟨⟨R,Φ,_,inferInstance,λw F c=>c,0,rfl,Nat.zero_le _,rfl,rfl,rfl,rfl⟩,?_⟩
 rintro n R1 bH k _ ⟨i,rfl,hi,rfl,rfl,rfl,WB⟩
 refine Br.intro (λhlt=>?_) (λhge=>λw F cx=>⟨?_,cx.left⟩)
 ·have hlt:i<r.length:=by simpa using hlt
  rw [KC g r i hlt] at WB
  obtain ⟨b,o,rfl⟩:=K4 (by omega)
  refine ⟨by omega,aJ b o rfl λw F cx=>⟨r[i].kind,r[i].num,r[i].text,by rw [Int.toNat_natCast];exact U7 (eT.go _ _ cx.gW) hlt,λw F cx=>⟨hf,(hg r[i]).use cx λw cx=>⟨g r[i],rfl,R1,bH,inferInstance,cx,Br.intro (λh=>λw F cx=>⟨?_,cx.left⟩) (λh=>⟨by unfold aR;unfold maxLen at hlen;omega,R1,bH,r.length - (i+1),inferInstance,λw F c=>c,⟨i+1,rfl,hlt,rfl,rfl,rfl,?_⟩,by omega⟩)⟩⟩⟩⟩
  ·rw [WB,if_pos h]
  ·rw [WB,if_neg (by rw [h];simp)]
 ·have hge:i=r.length:=Nat.le_antisymm hi (by simpa using hge)
  rw [WB,hge,List.drop_length]
  rfl
theorem G8 [aA Φ] [eT:Has Φ (λM w=>Sl M w p r)]:aU Φ Tryz.prog F.kN #[.slice p r.length cap] (.bool (eD r)):=by
 refine dS (HW p r.length cap) λW R=>Br.intro (λh=>?_) (λh=>λw G cx=>⟨?_,cx.left⟩)
 ·have h1:=of_decide_eq_true h
  have hml:r.length<=maxLen:=by have h2:(12:Nat)<=maxLen:=(by decide);omega
  have aZi:aU Φ Tryz.prog F.cX #[.slice p r.length cap,.func (.func F.qY) #[] #[]] (.bool (r.any λx => !iP x)):=by
   refine dS (kV p r.length cap F.qY #[]) λW R=>?_
   exact λw G cx=>(a88 (r:=r) F.qY (λx => !iP x) hml (by kernel_rfl) #[] aKZ).WW cx λw G cx=>⟨by rw [H9],cx.left⟩
  have hall:aU Φ Tryz.prog F.GV #[.slice p r.length cap] (.bool (r.all iP)):=by
   refine dS (TO p r.length cap) λW R=>?_
   refine λw G cx=>aZi.toB cx λw G cx=>⟨?_,cx.left⟩
   rw [List.all_eq_not_any_not]
  refine λw G cx=>hall.toB cx λw G cx=>⟨?_,cx.left⟩
  unfold eD
  rw [decide_eq_true h1,Bool.true_and]
 ·unfold eD
  rw [decide_eq_false (of_decide_eq_false h),Bool.false_and]
end
end Go.Proofs.YtfccagphnfceiaaGreatDoor
end

section
namespace Go.Proofs.YtfccagphnfceiaaGreatDoor
open Go.Vc
theorem a2T {r:List cG} (h:eD r=true):∀ v∈r,v.text.size<=200:=λv hv=>by
 unfold eD at h
 rw [Bool.and_eq_true] at h
 have h:=List.all_eq_true.1 h.2 v hv
 unfold iP at h
 split at h
 ·have h:=of_decide_eq_true h
  rw [h];decide
 ·split at h
  ·rw [Bool.and_eq_true] at h
   have:=of_decide_eq_true h.2
   omega
  ·rw [Bool.and_eq_true] at h
   have h:=of_decide_eq_true h.2
   rw [h];decide
section
variable {Φ:PW} {q:LP} {st:a2G} {W w:World} {R S G:List Own} {p:Option Addr} {cap:Nat} {L:List aM} {cs:List Value}
abbrev YU (cs:List Value) (l:List aM):Prop:=∀ i (h:i<l.length),∃ r rc,(cs.drop (i*7)).take 7=l[i].cells r rc/\l[i].row.length<=rc/\rc<=maxLen/\l[i].In
theorem a2U {M:List Nat} (h:aQ M w cs L):YU cs L:=λi hi=>by
 obtain ⟨r,rc,he,h1,h2,h3,_⟩:=a8J h hi
 exact ⟨r,rc,he,h1,h2,h3⟩
theorem OQ (src:Src S Φ p L cs) {b o i:Nat} (hp:p=some ⟨b,o,none⟩) (c:Ctx W w (S++G) Φ) {x:aM} {r:Option Addr} {rc:Nat} (he:(cs.drop (i*7)).take 7=x.cells r rc):dH w b (o+i*7) (x.cells r rc):=λj hj=>by
 have:=src.rd hp c (i*7+j) _ (zY (vs:=x.cells r rc) he j hj)
 rw [<-Nat.add_assoc] at this
 exact this
end
end Go.Proofs.YtfccagphnfceiaaGreatDoor
end

section
namespace Go.Proofs.YtfccagphnfceiaaGreatDoor
open Go.Vc
theorem Ctx.G9 {W w:World} {S:List Own} {Φ:PW} [aA Φ] {b:Nat} {cs:List Value} {t:TypeId} (c:Ctx W w (.blk b cs t :: S) Φ):Ctx W w S (λM w=>Φ M w/\fZ b 0 cs M w):=by
 refine c.drop1.add ⟨λhm=>?_,?_,c.lt (b:=b) (by simp [dom,Own.dom])⟩
 ·have h:=c.nodup
  have e:dom (.blk b cs t :: S)=b :: dom S:=rfl
  rw [e] at h
  exact (List.nodup_cons.1 h).1 hm
 ·exact c.LO 0 rfl
section
variable {Φ:PW} {q:KP} {st:j0} {W w:World} {R S G:List Own} {p:Option Addr} {cap:Nat} {L:List aM} {cs:List Value}
theorem a89 [aA Φ] {l:List Int} [eT:Has Φ (λM w=>Sl M w p l)] (f:FuncId) (cp:Array Value) (g:Int->Bool) (hlen:l.length<=10000000) (hf:qT Tryz.prog f=true) (hg:∀ x:Int,aU Φ Tryz.prog f (Array.mk (.int .i64 x :: cp.toList)) (.bool (g x))) :
  aU Φ Tryz.prog F.gU #[.slice p l.length cap,.func (.func f) #[] cp] (.int .i64 (A1 g 0 l)):=by
 refine .there (λM w h=>(eT.go M w h).there) λK4=>?_
 refine dS (uQ p l.length cap f cp) λW R=>?_
 refine bY (λn R' aF k=>∃ i:Nat,n=i/\i<=l.length/\R'=R/\aF=Φ/\k=l.length - i/\A1 g 0 l=A1 g i (l.drop i)) ⟨⟨R,Φ,_,inferInstance,λw F c=>c,0,rfl,Nat.zero_le _,rfl,rfl,rfl,rfl⟩,?_⟩
 rintro n R1 bH k _ ⟨i,rfl,hi,rfl,rfl,rfl,WB⟩
 refine Br.intro (λhlt=>?_) (λhge=>λw F cx=>⟨?_,cx.left⟩)
 ·have hlt:i<l.length:=by simpa using hlt
  rw [KC g l i hlt] at WB
  obtain ⟨b,o,rfl⟩:=K4 (by omega)
  refine ⟨by omega,aJ b o rfl λw F cx=>⟨l[i],by rw [Int.toNat_natCast];exact a41 (eT.go _ _ cx.gW) hlt,λw F cx=>⟨hf,(hg l[i]).use cx λw cx=>⟨g l[i],rfl,R1,bH,inferInstance,cx,Br.intro (λh=>λw F cx=>⟨?_,cx.left⟩) (λh=>⟨by unfold aR;omega,R1,bH,l.length - (i+1),inferInstance,λw F c=>c,⟨i+1,rfl,hlt,rfl,rfl,rfl,?_⟩,by omega⟩)⟩⟩⟩⟩
  ·rw [WB,if_pos h]
  ·rw [WB,if_neg (by rw [h];simp)]
 ·have hge:i=l.length:=Nat.le_antisymm hi (by simpa using hge)
  rw [WB,hge,List.drop_length]
  rfl
theorem a06 [aA Φ] {l:List Int} [eT:Has Φ (λM w=>Sl M w p l)] (f:FuncId) (cp:Array Value) (g:Int->Bool) (hlen:l.length<=10000000) (hf:qT Tryz.prog f=true) (hg:∀ x:Int,aU Φ Tryz.prog f (Array.mk (.int .i64 x :: cp.toList)) (.bool (g x))) :
  aU Φ Tryz.prog F.fP #[.slice p l.length cap,.func (.func f) #[] cp] (.bool (l.any g)) :=
 dS (rV p l.length cap f cp) λW R=>λw G cx=>(a89 f cp g hlen hf hg).WW cx λw G cx=>⟨by rw [H9],cx.left⟩
theorem aCa [aA Φ] {x:aM} {r:Option Addr} {rc kb:Nat} [hR:Has Φ (λM w=>fZ kb 0 (x.cells r rc) M w)] (k:Int):aU Φ Tryz.prog F.oG (Array.mk (.int .i64 k :: [.pointer (some ⟨kb,0,none⟩)])) (.bool (decide ((x.row.length:Int)<=k))) :=
 dS (E8 k kb 0) λW R=>λw G cx=>⟨r,x.row.length,rc,(hR.go _ _ cx.gW).2.1 3 (by show 3<7;decide),λw G cx=>⟨rfl,cx.left⟩⟩
set_option maxHeartbeats 2000000 in
theorem aK0 [aA Φ] {b:Int} [hF:Has Φ (nF q st)] (hq:AX q st) {n:Nat} (hs:KZ st n) (hn:n<=400000) (src:Src [] Φ p L cs) (hc:YU cs L) (hlen:L.length<=1000000) :
  jU (dP q st) Φ Tryz.prog F.kP #[snk q,.int .i64 b,.slice p L.length cap] (.int .i64 (rZ st b L)):=by
 have hll:=hs.lines
 have hkl:=hs.key
 refine rX (HX q.sb 0 b p L.length cap) λW R=>?_
 unfold rZ
 refine Br.intro (λh=>λw G cx=>⟨by rw [if_pos (of_decide_eq_true h)],cx.left⟩) (λh=>?_)
 rw [if_neg (of_decide_eq_false h)]
 refine λw G cx=>(aKv hq).WW cx ?_
 clear cx
 refine Br.intro (λh=>λw G cx=>⟨by rw [if_pos (of_decide_eq_true h)],cx.left⟩) (λh=>?_)
 rw [if_neg (of_decide_eq_false h)]
 have aPJ:∀ {i:Nat} (hi:i<L.length) {r:Option Addr} {rc:Nat},(cs.drop (i*7)).take 7=L[i].cells r rc->Has Φ (λM w=>Sl M w r L[i].row):=fun {i} hi {r rc} he=>⟨λM w h=>UO src hi he h⟩
 have hkey:Has Φ (λM w=>Sl M w q.kp st.key):=⟨λM w h=>(hF.go M w h).2.1⟩
 refine bY (λiI R' aF k=>∃ i:Nat,iI=i/\i<=L.length/\R'=dP q st++R/\aF=Φ/\k=L.length - i/\L.any (FO st.key b)=(L.drop i).any (FO st.key b)) ⟨⟨_,_,_,inferInstance,λw G cx=>cx,0,rfl,Nat.zero_le _,rfl,rfl,rfl,rfl⟩,?_⟩
 rintro iI R1 bH k _ ⟨i,rfl,hi,rfl,rfl,rfl,WB⟩
 refine Br.intro (λhlt=>?_) (λhge=>?_)
 ·have hlt:i<L.length:=by have:=of_decide_eq_true hlt;omega
  obtain ⟨bb,o,hp⟩:=src.ptr (by omega)
  obtain ⟨r,rc,he,h1,h2,h3⟩:=hc i hlt
  have hhi:=aPJ hlt he
  rw [List.drop_eq_getElem_cons hlt,List.any_cons] at WB
  have bad:FO st.key b L[i]=true->L.any (FO st.key b)=true:=λh=>by rw [WB,h];rfl
  have stop:L.any (FO st.key b)=true->∀ {w:World} {G:List Own} {Ψ:PW},[aA Ψ]->[Has Ψ bH]->Ctx W w ((dP q st++R)++G) Ψ->(Value.int .i64 1)=.int .i64 (if L.any (FO st.key b)=true then 1 else if a0X ((st.lines.length:Int)+1) L=false then 25 else 0)/\Ctx W w (dP q st++R) bH:=λh {w G Ψ} _ _ cx=>⟨by rw [if_pos h],(Ctx.has cx).left⟩
  refine ⟨by omega,aJ bb o hp λw G cx=>⟨L[i].no,L[i].batch,L[i].time,r,L[i].row.length,rc,L[i].n,L[i].iR,L[i].why,by rw [Int.toNat_natCast];exact OQ (G:=(dP q st++R)++G) src hp cx he,λkb w G cx=>⟨cx.can 0 rfl (by show 0+7<=7;decide),λw2 F3=>?_⟩⟩⟩
  have c2:=cx.EY 0 F3 rfl
  have c3:Ctx W w2 (.blk kb (L[i].cells r rc) 31 :: ((dP q st++R)++G)) bH:=c2
  have c4:=Ctx.G9 c3
  have hR:Has (λM w=>bH M w/\fZ kb 0 (L[i].cells r rc) M w) (λM w=>fZ kb 0 (L[i].cells r rc) M w):=⟨λM w h=>h.2⟩
  have stR:∀ cs:List Value,aA (λM w=>bH M w/\fZ kb 0 cs M w):=λcs=>inferInstance
  have stR:=stR (L[i].cells r rc)
  have hcell:∀ {w:World} {S:List Own},Ctx W w S (λM w=>bH M w/\fZ kb 0 (L[i].cells r rc) M w)->∀ j (hj:j<7),w.cell? ⟨kb,j,none⟩=some ((L[i].cells r rc)[j]'hj):=fun {w S} cx j hj=>by
   have:=cx.gW.2.2.1 j hj
   rw [Nat.zero_add] at this
   exact this
  refine ⟨dP q st++R,λM w=>bH M w/\fZ kb 0 (L[i].cells r rc) M w,stR,c4,λw G cx=>⟨_,_,_,oK (i:=1) cx rfl,λw G cx=>?_⟩⟩
  refine (a06 (Φ:=λM w=>bH M w/\fZ kb 0 (L[i].cells r rc) M w) (l:=st.key) F.oG #[.pointer (some ⟨kb,0,none⟩)] (λk=>decide ((L[i].row.length:Int)<=k)) (by omega) (by kernel_rfl) (λk=>aCa (x:=L[i]) (r:=r) (rc:=rc) (kb:=kb) k)).toB cx ?_
  clear cx c4 c3 c2
  refine λw G cx=>⟨L[i].batch,hcell cx 1 (by decide),Br.intro (λg1=>λw G cx=>stop (bad ?_) cx) (λg1=>λw G cx=>⟨L[i].n,hcell cx 4 (by decide),Br.intro (λg2=>λw G cx=>stop (bad ?_) cx) (λg2=>λw G cx=>⟨r,L[i].row.length,rc,hcell cx 3 (by decide),λw G cx=>(G8 (r:=L[i].row)).toB cx ?_⟩)⟩)⟩
  ·unfold FO;rw [g1];rfl
  ·unfold FO;rw [g2,Bool.or_true];rfl
  clear cx
  refine Br.intro (λg3=>λw G cx=>stop (bad ?_) cx) (λg3=>?_)
  ·unfold FO;rw [g3,Bool.or_true];rfl
  have hsh:(st.key.any λk=>decide ((L[i].row.length:Int)<=k))=a45 st.key L[i].row:=rfl
  rw [hsh]
  refine Br.intro (λg4=>λw G cx=>stop (bad ?_) cx) (λg4=>?_)
  ·unfold FO;rw [g4,Bool.or_true]
  have hok:FO st.key b L[i]=false:=by unfold FO;rw [g1,g2,g3,g4];rfl
  exact ⟨by unfold aR;omega,dP q st++R,bH,L.length - (i+1),inferInstance,λw G cx=>cx.fst,⟨i+1,rfl,hlt,rfl,rfl,rfl,by rw [WB,hok];rfl⟩,by omega⟩
 have hge:i=L.length:=by have:=of_decide_eq_false hge;omega
 subst hge
 rw [List.drop_length] at WB
 have WB:L.any (FO st.key b)=false:=WB
 rw [if_neg (by rw [WB];simp)]
 refine bY (λiI R' aF k=>∃ i:Nat,iI=i/\i<=L.length/\R'=dP q st++R/\aF=bH/\k=L.length - i/\a0X ((st.lines.length:Int)+1) L=a0X ((st.lines.length:Int)+1+i) (L.drop i)) ⟨⟨_,_,_,inferInstance,λw G cx=>cx,0,rfl,Nat.zero_le _,rfl,rfl,rfl,by rw [Int.natCast_zero,Int.add_zero];rfl⟩,?_⟩
 rintro iI R1 pI k _ ⟨i,rfl,hi,rfl,rfl,rfl,hnu⟩
 refine Br.intro (λhlt=>?_) (λhge=>λw G cx=>⟨?_,cx.left⟩)
 ·have hlt:i<L.length:=by have:=of_decide_eq_true hlt;omega
  obtain ⟨bb,o,hp⟩:=src.ptr (by omega)
  obtain ⟨r,rc,he,h1,h2,h3⟩:=hc i hlt
  rw [List.drop_eq_getElem_cons hlt] at hnu
  have hnu:a0X ((st.lines.length:Int)+1) L=(decide (L[i].no=(st.lines.length:Int)+1+i)&&a0X ((st.lines.length:Int)+1+i+1) (L.drop (i+1))):=hnu
  refine ⟨by omega,aJ bb o hp λw G cx=>⟨L[i].no,L[i].batch,L[i].time,r,L[i].row.length,rc,L[i].n,L[i].iR,L[i].why,by rw [Int.toNat_natCast];exact OQ (G:=(dP q st++R)++G) src hp cx he,λ_ w G cx=>⟨_,_,_,oK (i:=3) cx rfl,by unfold aR;omega,by unfold aR;omega,Br.intro (λh=>λw G cx=>⟨?_,cx.left⟩) (λh=>⟨by unfold aR;omega,_,pI,L.length - (i+1),inferInstance,λw G cx=>cx,⟨i+1,rfl,hlt,rfl,rfl,rfl,?_⟩,by omega⟩)⟩⟩⟩
  ·rw [hnu,decide_eq_false (of_decide_eq_true h),Bool.false_and,if_pos rfl]
  ·rw [hnu,decide_eq_true (Decidable.not_not.1 (of_decide_eq_false h)),Bool.true_and,show (st.lines.length:Int)+1+i+1=(st.lines.length:Int)+1+((i+1:Nat):Int) by omega]
 ·have hge:i=L.length:=by have:=of_decide_eq_false hge;omega
  subst hge
  rw [List.drop_length] at hnu
  rw [show a0X ((st.lines.length:Int)+1) L=true from hnu];rfl
set_option maxHeartbeats 2000000 in
theorem a2V [aA Φ] {b:Int} [hF:Has Φ (nF q st)] [hL:Has Φ (λM w=>Sl M w p L)] (hq:AX q st) {n:Nat} (hs:KZ st n) (hn:n<=400000) (hlen:L.length<=400000) (c:Ctx W w ((dP q st++R)++G) Φ) {K:List Own->PW->Prop}
  (hk:∀ q':KP,q'.sb=q.sb->AX q' (nY st b L)->aA (λM w=>Φ M w/\nF q' (nY st b L) M w)->K (dP q' (nY st b L)++R) (λM w=>Φ M w/\nF q' (nY st b L) M w)) :
  Calls Tryz.prog F.nR #[snk q,.int .i64 b,.slice p L.length cap] w λe w'=>e=.returned (.tuple #[])/\∃ R' aF,aA aF/\Ctx W w' (R'++G) aF/\K R' aF:=by
 have hll:=hs.lines
 have hbl:=hs.dZ
 refine (HY q.sb 0 b p L.length cap (R:=(dP q st++R)++G) (J:=λv w'=>v=.tuple #[]/\∃ R' aF,aA aF/\Ctx W w' (R'++G) aF/\K R' aF) c ?_).mono λe w' ⟨v,he,hv,rest⟩=>⟨by rw [he,hv],rest⟩
 clear c
 refine λw G2 cx=>⟨_,_,_,oK (q:=q) (st:=st) (R:=R++G) (G:=G2) (i:=2) (cx.re (by simp)) rfl,λkb w G2 cx=>?_⟩
 have cy:Ctx W w (.blk kb [.int .i64 b] 3 :: wU q.bp q.bc st.dZ :: (.blk q.sb (SkB q st) 92 :: cR q.lp st.lines.length q.lc q.cs :: (R++G))++G2) Φ:=cx.perm (by simpa using List.Perm.swap _ _ _)
 obtain ⟨p8,c8,w2,hrun,cz⟩:=aOL (by omega) cy
 refine ⟨p8,_,c8,w2,hrun,.blk q.sb (SkB q st) 92 :: wU p8 c8 (st.dZ++[b]) :: cR q.lp st.lines.length q.lc q.cs :: (R++G),Φ,inferInstance,Ctx.swap cz,λw G3 cx=>⟨cx.can 0 rfl (by show 2+1<=6;decide),λw3 hw3=>?_⟩⟩
 have c5:=cx.put 0 hw3 rfl
 refine ⟨.blk q.sb [.int .i64 st.kind,.slice q.kp st.key.length q.kc,.slice p8 (st.dZ++[b]).length c8,.slice q.lp st.lines.length q.lc,.int .i64 st.dN,.slice q.ap st.aside.length q.ac] 92 :: wU p8 c8 (st.dZ++[b]) :: cR q.lp st.lines.length q.lc q.cs :: (R++G),Φ,inferInstance,c5,λw G4 cx=>⟨_,_,_,cx.get 0 rfl rfl,λw G4 cx=>?_⟩⟩
 clear c5 cz cy
 have cy:Ctx W w (cR q.lp st.lines.length q.lc q.cs :: .blk q.sb [.int .i64 st.kind,.slice q.kp st.key.length q.kc,.slice p8 (st.dZ++[b]).length c8,.slice q.lp st.lines.length q.lc,.int .i64 st.dN,.slice q.ap st.aside.length q.ac] 92 :: wU p8 c8 (st.dZ++[b]) :: ((R++G)++G4)) Φ:=cx.perm (List.perm_middle (l₁:=[_,_]) (a:=_))
 obtain ⟨p2,c2,w4,news,a7i,cx3⟩:=Ctx.aKD (P:=Tryz.prog) (ts:=22) (ty:=22) (kb:=#[false,false]) (bytes:=72) (c2:=cap) (l:=L) (q:=p) cy (by kernel_rfl) U9 hL.go (by omega) (by omega)
 have hel:st.lines.length+L.length=(st.lines++L).length:=by rw [List.length_append]
 rw [hel] at a7i cx3
 refine ⟨p2,_,c2,w4,a7i,.blk q.sb [.int .i64 st.kind,.slice q.kp st.key.length q.kc,.slice p8 (st.dZ++[b]).length c8,.slice q.lp st.lines.length q.lc,.int .i64 st.dN,.slice q.ap st.aside.length q.ac] 92 :: wU p8 c8 (st.dZ++[b]) :: cR p2 (st.lines++L).length c2 (q.cs++news) :: (R++G),(λM w=>Φ M w/\aQ M w (q.cs++news) (st.lines++L)),inferInstance,?_,λw G5 cx=>⟨cx.can 0 rfl (by show 3+1<=6;decide),λw5 hw5=>?_⟩⟩
 ·exact (cx3.weak λM w h=>⟨h.1,(hF.go M w h.1).1.append h.2⟩).perm (List.perm_middle (l₁:=[_,_]) (a:=_)).symm
 have c6:=cx.put 0 hw5 rfl
 obtain ⟨q2,gG⟩:∃ q2:KP,q2=⟨q.sb,q.kp,q.kc,p8,c8,p2,c2,q.cs++news,q.ap,q.ac⟩:=⟨_,rfl⟩
 have c7:Ctx W w5 ((dP q2 (nY st b L)++R)++(G++G5)) (λM w=>Φ M w/\nF q2 (nY st b L) M w):=by
  rw [gG]
  have c8:=c6.weak (Ψ:=λM w=>Φ M w/\nF ⟨q.sb,q.kp,q.kc,p8,c8,p2,c2,q.cs++news,q.ap,q.ac⟩ (nY st b L) M w) λM w h=>⟨h.1,h.2,(hF.go M w h.1).2⟩
  exact c8.re (by simp [nY])
 have KR:AX q2 (nY st b L):=OL (S:=R++(G++G5)) (c7.re (by simp)) (by rw [gG];exact hq.aBw) (by rw [gG];exact hq.aOQ)
 refine ⟨dP q2 (nY st b L)++(R++G),_,inferInstance,c7.re (by simp),λw G6 cx=>⟨rfl,dP q2 (nY st b L)++R,_,inferInstance,(cx.left).re (by simp),hk q2 (by rw [gG]) KR inferInstance⟩⟩
end
end Go.Proofs.YtfccagphnfceiaaGreatDoor
end

