/-
 The encodings of ints,texts,values and rows: in plain Lean,and walked.
-/
import Derived.Test.YtcmgeboolmmdkaaGreatDoorCm7
import Derived.Lib.ItoaNum
import Derived.Test.YtcmgeboolmmdkaaGreatDoorCm6
import Derived.Shelf.Strconv.AtoiAll
import Derived.Shelf.Small.Wraps
import Derived.Stop.IfaceNil
import Derived.Lib.AtoiErrMem
import Derived.Lib.AtoiAllCases
import Derived.MapKept
import Derived.Maps.RangeRun
import Derived.Lib.AppendZerosOnto
import Derived.Lib.Overlaps
import Derived.Laws.IdiomCopy
import Derived.Laws.Externs
open Go.Proofs.Tryz
set_option linter.unusedVariables false
set_option linter.unusedSimpArgs false
section
namespace Go.Vc
end Go.Vc
namespace Go.Proofs.YtcmgeboolmmdkaaGreatDoor
open Go.Vc
def tX(n:Int):ByteArray:=⟨(Lib.itoa n).toArray⟩
def iJ(n:Int):ByteArray:=tX n++ByteArray.mk #[59]
def vC(n:Int):ByteArray:=if n<0 then ByteArray.mk #[] else iJ n
def n9(s:ByteArray):ByteArray:=tX s.size++ByteArray.mk #[58]++s++ByteArray.mk #[44]
theorem B8(a b:ByteArray):(a++b).size=a.size+b.size:=ByteArray.size_append
theorem aAF(l:List UInt8):(ByteArray.mk l.toArray).size=l.length:=by simp [ByteArray.size]
theorem qq(a:ByteArray):a.data.toList.length=a.size:=by rw [Array.length_toList];rfl
theorem X8:∀ (k u:Nat),u<10 ^ k->0<k->Lib.nDigits u<=k
 | 0,u,_,h=>by omega
 | k+1,u,h,_=>by
  by_cases h1:u<10
  .rw [Lib.nDigits_small h1];omega
  .rw [Lib.nDigits_big h1];have hk:0<k:=by
    rcases Nat.eq_zero_or_pos k with rfl|h2
    .simp at h;omega
    .exact h2
   have:=X8 k (u / 10) (by rw [Nat.pow_succ] at h;omega) hk;omega
theorem a5t{n}(h:κ n):1<=(Lib.itoa n).length/\(Lib.itoa n).length<=20:=by
 unfold κ at h;unfold Lib.itoa;split
 .have h1:=X8 19 n.natAbs (by omega) (by decide);have h2:=Lib.nDigits_pos n.natAbs;rw [List.length_cons,Lib.decDigits_length];omega
 .have h1:=X8 19 n.toNat (by omega) (by decide);have h2:=Lib.nDigits_pos n.toNat;rw [Lib.decDigits_length];omega
theorem RD{n}(h:κ n):1<=(tX n).size/\(tX n).size<=20:=by
 unfold tX;rw [aAF];exact a5t h
theorem qj{n}(h:κ n):2<=(iJ n).size/\(iJ n).size<=21:=by
 have:=RD h;have e:(ByteArray.mk #[59]).size=1:=rfl;unfold iJ;rw [B8,e];omega
theorem X9{n}(h:κ n):(vC n).size<=21:=by
 unfold vC;split
 .exact Nat.zero_le _
 .exact (qj h).2
theorem S3{s}(h:s.size<=9223372036854775807):(n9 s).size<=s.size+22/\s.size+3<=(n9 s).size:=by
 have:=RD (n:=s.size) (by unfold κ;omega);have e:(ByteArray.mk #[58]).size=1:=rfl;have e2:(ByteArray.mk #[44]).size=1:=rfl;unfold n9;rw [B8,B8,B8,e,e2];omega
abbrev aAn:String:=((Rows.groupLeadsRow.laid.map Prod.fst).drop 2).headD default
abbrev lu:θ:=Bq prog aAn .u64 Lib.pow10Tab
theorem a1D{Φ:θ}[O Φ](cL:∀ M w,Φ M w->lu M w)(n)(h:κ n):fL Φ prog F.strconv_Itoa #[.int .i64 n] (.string (tX n)) :=
 aLn (name:=aAn) (λn h0 h1 w ht=>Any.strconv_Itoa Tryz.aMd n h0 h1 w ht) cL n h
theorem aF2(i:Nat)(hi:i<100):Dq prog F.strconv_Itoa #[.int .i64 i] (.string (tX i)) :=
 Quiet.HL ⟨λw=>by
  have h:=Any.strconv_Itoa_small { Tryz.aMa with } i hi w;rw [<-Lib.itoa_nonneg] at h;exact h⟩
def GV(Φ:θ)(n:Int):Prop:=(∀ M w,Φ M w->lu M w)/\κ n\/∃ i:Nat,i<100/\n=i
theorem a1C{Φ:θ}[O Φ]{n}(h:GV Φ n):fL Φ prog F.strconv_Itoa #[.int .i64 n] (.string (tX n)):=by
 rcases h with ⟨h1,h2⟩|⟨i,hi,rfl⟩
 .exact a1D h1 n h2
 .exact (aF2 i hi).in
theorem GV.i64{Φ n}(h:GV Φ n):κ n:=by
 rcases h with ⟨_,h2⟩|⟨i,hi,rfl⟩
 .exact h2
 .unfold κ;omega
theorem Dw{Φ:θ}[O Φ]{n}(h:GV Φ n):fL Φ prog F.zL #[.int .i64 n] (.string (iJ n)):=by
 refine rW (aEN n) λW R=>?_;have:=RD h.i64;exact λw G y=>(a1C h).use y λw y=>⟨_,rfl,R,Φ,δ,y,by show (tX n).size+1<=_;omega,λw G y=>⟨rfl,y.left⟩⟩
theorem aFR{Φ:θ}[O Φ]{n}(h:GV Φ n):fL Φ prog F.SZ #[.int .i64 n] (.string (vC n)):=by
 refine rW (aEO n) λW R=>γ.intro (λhn=>λw G y=>⟨?_,y.left⟩) (λhn=>λw G y=>(Dw h).use y λw y=>⟨_,rfl,R,Φ,δ,y,λw G y=>⟨?_,y.left⟩⟩)
 .unfold vC;rw [if_pos (aN hn)]
 .unfold vC;rw [if_neg (Λ hn)]
theorem a2F{Φ:θ}[O Φ]{s}(h:GV Φ s.size)(hs:s.size<=1000000000000000):fL Φ prog F.Sa #[.string s] (.string (n9 s)):=by
 refine rW (aEY s) λW R=>?_;have h1:=RD h.i64;have e:(ByteArray.mk #[58]).size=1:=rfl;have e2:(ByteArray.mk #[44]).size=1:=rfl;exact λw G y=>(a1C h).use y λw y=>⟨_,rfl,R,Φ,δ,y,by show (tX s.size).size+1<=_;omega,by show (tX s.size++ByteArray.mk #[58]).size+s.size<=_;rw [B8,e];omega,by show (tX s.size++ByteArray.mk #[58]++s).size+1<=_;rw [B8,B8,e];omega,λw G y=>⟨rfl,y.left⟩⟩
end Go.Proofs.YtcmgeboolmmdkaaGreatDoor
end

section
namespace Go.Vc
section
variable {P:Program}{W w:World}{R G:List Own}{Φ Ψ:θ}{f:FuncId}{args:Array Value}
class Has (Φ Ψ:θ):Prop where
 go:∀ M w,Φ M w->Ψ M w
instance(priority:=2000) aSx (Φ:θ):Has Φ Φ:=⟨λ_ _ h=>h⟩
instance(priority:=900) aSv (A B Ψ:θ) [h:Has A Ψ]:Has (λM w=>A M w/\B M w) Ψ:=⟨λM w x=>h.go M w x.1⟩
instance(priority:=1000) aSw (A B Ψ:θ) [h:Has B Ψ]:Has (λM w=>A M w/\B M w) Ψ:=⟨λM w x=>h.go M w x.2⟩
instance(priority:=800) aSu (Φ A B:θ) [h:Has Φ A] [k:Has Φ B]:Has Φ (λM w=>A M w/\B M w):=⟨λM w x=>⟨h.go M w x,k.go M w x⟩⟩
theorem Ctx.has(c:Ctx W w R Φ)[h:Has Φ Ψ]:Ctx W w R Ψ:=c.weak h.go
theorem fL.aQn[O Φ]{n k}(h:fL Φ P f args (.int k n))(c:Ctx W w (R++G) Φ){K:Int->List Own->θ->Prop}(hk:K n R Φ):
  Calls P f args w λe w'=>∃ c,e=.returned (.int k c)/\∃ R' η,O η/\Ctx W w' (R'++G) η/\K c R' η :=
 h.use c λw' c=>⟨n,rfl,R,Φ,δ,c,hk⟩
theorem fL.Fw[O Φ]{s}(h:fL Φ P f args (.string s))(c:Ctx W w (R++G) Φ){K:ByteArray->List Own->θ->Prop}(hk:K s R Φ):
  Calls P f args w λe w'=>∃ c,e=.returned (.string c)/\∃ R' η,O η/\Ctx W w' (R'++G) η/\K c R' η :=
 h.use c λw' c=>⟨s,rfl,R,Φ,δ,c,hk⟩
theorem fin[O Φ][O Ψ][hw:Has Ψ Φ]{v:Value}(c:Ctx W w (R++G) Ψ):v=v/\Ctx W w R Φ:=⟨rfl,(Ctx.has c).left⟩
end
def BZ(g:Nat):θ:=λM w=>g ∉ M/\∃ ev,w.cell? ⟨g,0,none⟩=some ev/\(ev=.nilIface\/∃ te Xr,ev=.iface te Xr)
instance aTK(g:Nat):O (BZ g):=⟨fun {M M' w w'} hs ⟨h1,ev,h2,h3⟩=>by
 have hlt:g<w.heap.size:=by
  rcases Nat.lt_or_ge g w.heap.size with h'|h'
  .exact h'
  .simp [World.cell?,Array.getElem?_eq_none h'] at h2
 refine ⟨λhm=>?_,ev,hs.qV.cell h2 h1,h3⟩;rcases hs.sub g hm with h|h
 .exact h1 h
 .omega⟩
theorem Tp{w w'}(h:Go.RowKit.Below w.heap.size w w'):bZ [] w w':=⟨h.os,h.tape,h.output,h.size,λk hk _=>h.block k hk⟩
theorem aJE{P op t ox oy u v}(w):(eqGuard op t ox oy (.iface u v) .nilIface).run P w=.ok () w:=by
 unfold eqGuard;cases op<;>rfl
theorem aJF{P op t}{k:Nat}{v}(w):(eqGuard op t (.tmp k) (.const v) .nilIface .nilIface).run P w=.ok () w:=by
 unfold eqGuard;cases op<;>rfl
theorem aNF{P op t t'}{k:Nat}{v}(ht:P.isIface t'=true)(w):((eqGuard op t (.tmp k) (.const v) .nilIface .nilIface) >>= λ_=>binOp .neq t' .nilIface .nilIface).run P w=.ok (.bool false) w:=by
 rw [Sem.run_bind,aJF];exact Go.run_neq_nil_nil_at w t' ht
theorem aNE{P op t t' ox oy u v}(ht:P.isIface t'=true)(w):((eqGuard op t ox oy (.iface u v) .nilIface) >>= λ_=>binOp .neq t' (.iface u v) .nilIface).run P w=.ok (.bool true) w:=by
 rw [Sem.run_bind,aJE];exact Go.run_neq_iface_nil w t' ht u v
end Go.Vc
namespace Go.Proofs.YtcmgeboolmmdkaaGreatDoor
open Go.Vc
def jt:θ:=λM w=>lu M w/\BZ 2 M w/\BZ 3 M w
instance aTL:O jt:=vv lu (λM w=>BZ 2 M w/\BZ 3 M w)
def bs(l:List UInt8):ByteArray:=⟨l.toArray⟩
theorem vh(l):(bs l).data.toList=l:=rfl
theorem dN(l):(bs l).size=l.length:=aAF l
theorem KP(l a b):(bs l).extract a b=bs ((l.drop a).take (b - a)):=by
 apply ByteArray.ext;apply Array.toList_inj.1;rw [ByteArray.data_extract,Array.toList_extract];rfl
theorem PN{a b}:bs a=bs b ↔ a=b:=⟨λh=>by have:=congrArg (λx=>x.data.toList) h;exact this,λh=>by rw [h]⟩
theorem aGw(s):bs s.data.toList=s:=rfl
abbrev gH:=List UInt8 × Bool
def qC(e:UInt8)(least:Int)(l:List UInt8):Option (Int × List UInt8) :=
 let i:=Lib.indexByte (l.take 21) e
 if i<0 then none else match Lib.atoiAll (l.take i.toNat) with
  | .ok n=>if Lib.itoa n=l.take i.toNat/\least<=n then some (n,l.drop (i.toNat+1)) else none
  | _=>none
def gN(e:UInt8)(least:Int)(st:gH):Int × gH:=match qC e least st.1 with
 | some (n,r)=>(n,(r,st.2))
 | none=>(0,([],true))
def xj(c:UInt8)(st:gH):gH:=match st.1 with
 | []=>([],true)
 | x :: r=>if x=c then (r,st.2) else ([],true)
def stepT(st:gH):ByteArray × gH :=
 let a:=gN 58 0 st
 if (a.2.1.length:Int)<a.1 then (ByteArray.mk #[],([],true)) else
  let c:=xj 44 (a.2.1.drop a.1.toNat,a.2.2)
  (if c.2 then ByteArray.mk #[] else bs (a.2.1.take a.1.toNat),c)
theorem aGn{l r:List UInt8}{i e}(h:l.take i++e :: r=l)(hi:i<l.length):l[i]? = some e:=by
 have hl:(l.take i).length=i:=by rw [List.length_take];omega
 rw [<-h,List.getElem?_append_right (by omega),hl,Nat.sub_self];rfl
theorem WD:∀ (l:List UInt8) (c:UInt8),-1<=Lib.indexByte l c/\(Lib.indexByte l c = -1\/(0<=Lib.indexByte l c/\Lib.indexByte l c<l.length/\l.take (Lib.indexByte l c).toNat++c :: l.drop ((Lib.indexByte l c).toNat+1)=l/\c ∉ l.take (Lib.indexByte l c).toNat))
 | [],c=>by simp [Lib.indexByte]
 | b :: l,c=>by
  have ih:=WD l c;unfold Lib.indexByte;by_cases hb:(b == c)=true
  .rw [if_pos hb];have:b=c:=by simpa using hb
   subst this;refine ⟨by omega,.inr ⟨by omega,by simp,by simp,by simp⟩⟩
  .rw [if_neg hb];by_cases h1:(Lib.indexByte l c == -1)=true
   .rw [if_pos h1];exact ⟨by omega,.inl rfl⟩
   .rw [if_neg h1];have h1:Lib.indexByte l c ≠ -1:=by simpa using h1
    obtain ⟨h2,h3⟩:=ih;rcases h3 with h3|⟨h3,h4,h5,h6⟩
    .exact absurd h3 h1
    .have e:(Lib.indexByte l c+1).toNat=(Lib.indexByte l c).toNat+1:=by omega
     refine ⟨by omega,.inr ⟨by omega,by simp;omega,?_,?_⟩⟩
     .rw [e,List.take_succ_cons,List.drop_succ_cons,List.cons_append,h5]
     .rw [e,List.take_succ_cons,List.mem_cons,not_or];exact ⟨λe=>hb (by simp [e]),h6⟩
theorem aLi{l c a r}(hl:l=a++c :: r)(hc:c ∉ a):Lib.indexByte l c=a.length:=by
 subst hl
 induction a with
 | nil=>simp [Lib.indexByte]
 | cons b a ih =>
  have hb:b≠c:=λe=>hc (by simp [e]);have ih:=ih λh=>hc (by simp [h]);rw [List.cons_append];unfold Lib.indexByte;rw [if_neg (by simpa using hb),if_neg (by rw [ih];simp),ih];simp
theorem Pc:∀ (u:Nat),∀ c∈Lib.decDigits u,48<=c.toNat/\c.toNat<=57:=by
 intro u
 induction u using Nat.strongRecOn with
 | _ u ih =>
  intro c hc;rw [Lib.decDigits] at hc;split at hc
  .rename_i h;rw [List.mem_singleton] at hc;subst hc;have:(UInt8.ofNat (48+u)).toNat=48+u:=by simp;omega
   omega
  .rename_i h;rcases List.mem_append.1 hc with hc|hc
   .exact ih (u / 10) (by omega) c hc
   .rw [List.mem_singleton] at hc;subst hc;have:(UInt8.ofNat (48+u % 10)).toNat=48+u % 10:=by simp;omega
    omega
theorem aLm{n c}(h:c∈Lib.itoa n):c.toNat=45\/48<=c.toNat/\c.toNat<=57:=by
 unfold Lib.itoa at h;split at h
 .rcases List.mem_cons.1 h with rfl|h
  .left;rfl
  .right;exact Pc _ c h
 .right;exact Pc _ c h
def yT(acc:Nat)(l:List UInt8):Nat:=l.foldl (λa c=>a*10+(c.toNat - 48)) acc
theorem aHh(acc l c):yT acc (l++[c])=yT acc l*10+(c.toNat - 48):=by simp [yT]
theorem a3n:∀ u:Nat,yT 0 (Lib.decDigits u)=u:=by
 intro u
 induction u using Nat.strongRecOn with
 | _ u ih =>
  rw [Lib.decDigits];split
  .rename_i h;show 0*10+((UInt8.ofNat (48+u)).toNat - 48)=u;have:(UInt8.ofNat (48+u)).toNat=48+u:=by simp;omega
   omega
  .rename_i h;rw [aHh,ih (u / 10) (by omega)];have:(UInt8.ofNat (48+u % 10)).toNat=48+u % 10:=by simp;omega
   omega
theorem a3o:∀ (l:List UInt8) (acc:Nat),acc<=yT acc l
 | [],acc=>Nat.le_refl _
 | c :: l,acc=>by
  have:=a3o l (acc*10+(c.toNat - 48));show acc<=yT (acc*10+(c.toNat - 48)) l;omega
theorem a8d:∀ (l:List UInt8) (acc:Nat),(∀ c∈l,48<=c.toNat/\c.toNat<=57)->yT acc l<18446744073709551616->Lib.parseUint10 acc l=.ok (yT acc l)
 | [],acc,_,_=>rfl
 | c :: l,acc,hc,h=>by
  have h0:=hc c (by simp);have hm:=a3o l (acc*10+(c.toNat - 48));have e:yT acc (c :: l)=yT (acc*10+(c.toNat - 48)) l:=rfl;rw [e] at h ⊢;unfold Lib.parseUint10;rw [if_pos h0,if_neg (by omega),if_neg (by omega)];exact a8d l _ (λd hd=>hc d (by simp [hd])) h
theorem a3j(u):Lib.decDigits u≠[]:=by
 intro e;have h1:=Lib.decDigits_length u;have h2:=Lib.nDigits_pos u;rw [e] at h1;simp at h1;omega
theorem a6p{u}(h:u<18446744073709551616):Lib.parseMag (Lib.decDigits u)=.ok u:=by
 unfold Lib.parseMag;rw [if_neg (a3j u),a8d _ 0 (Pc u) (by rw [a3n];exact h),a3n]
theorem aGo{n}(h:κ n):Lib.atoiAll (Lib.itoa n)=.ok n:=by
 unfold κ at h;unfold Lib.itoa;split
 .rename_i hn;have hm:=a6p (u:=n.natAbs) (by omega);unfold Lib.atoiAll;simp only;rw [if_pos (.inr rfl),hm];simp only;have HA:(45:UInt8).toNat=45:=rfl;rw [if_neg (by intro h;exact h.1 HA),if_neg (by intro h;omega),if_pos HA]
  congr 1
  omega
 .rename_i hn;have hm:=a6p (u:=n.toNat) (by omega);obtain ⟨c,r,a5F⟩:∃ c r,Lib.decDigits n.toNat=c :: r:=by
   cases hd:Lib.decDigits n.toNat with
   | nil=>exact absurd hd (a3j _)
   | cons c r=>exact ⟨c,r,rfl⟩
  have h0:=Pc n.toNat c (by rw [a5F];simp);rw [a5F] at hm ⊢;unfold Lib.atoiAll;simp only;rw [if_neg (by omega),hm];simp only;rw [if_neg (by omega),if_neg (by omega),if_neg (by omega)]
  congr 1
  omega
theorem Mf{e}(he:e.toNat=58\/e.toNat=59\/e.toNat=91){least l n r}:qC e least l=some (n,r) ↔ (κ n/\least<=n)/\l=Lib.itoa n++e :: r:=by
 have hne:∀ n:Int,e ∉ Lib.itoa n:=λn h=>by have:=aLm h;omega
 constructor
 .intro h;unfold qC at h;simp only at h;split at h
  .cases h
  .rename_i hi;split at h
   .rename_i m hm;split at h
    .rename_i hc;cases h;have hb:=Lib.atoiAll_bounds hm;obtain ⟨_,h3⟩:=WD (l.take 21) e;rcases h3 with h3|⟨h3,h4,h5,h6⟩
     .omega
     .refine ⟨⟨by unfold κ;omega,hc.2⟩,?_⟩;rw [hc.1];have hlt:(Lib.indexByte (l.take 21) e).toNat<(l.take 21).length:=by omega
      have CJ:(Lib.indexByte (l.take 21) e).toNat<l.length:=by rw [List.length_take] at hlt;omega
      have hg:l[(Lib.indexByte (l.take 21) e).toNat]=e:=by
       have h7:(l.take 21)[(Lib.indexByte (l.take 21) e).toNat]? = some e:=aGn h5 (by omega);rw [List.getElem?_take_of_lt (by rw [List.length_take] at hlt;omega),List.getElem?_eq_getElem CJ] at h7;exact Option.some.inj h7
      conv=>lhs;rw [<-List.take_append_drop (Lib.indexByte (l.take 21) e).toNat l,List.drop_eq_getElem_cons CJ,hg]
    .cases h
   .cases h
 .rintro ⟨⟨h1,h2⟩,rfl⟩;have hlen:=a5t h1;have ht:(Lib.itoa n++e :: r).take 21=Lib.itoa n++e :: r.take (20 - (Lib.itoa n).length):=by
   rw [List.take_append,List.take_of_length_le (by omega)]
   congr 1
   rw [show 21 - (Lib.itoa n).length=(20 - (Lib.itoa n).length)+1 by omega,List.take_succ_cons]
  have hi:=aLi ht (hne n);unfold qC;simp only;rw [hi,if_neg (by omega),Int.toNat_natCast,List.take_left',aGo h1]
  .simp only;rw [if_pos ⟨by simp,h2⟩]
   congr 2
   rw [List.drop_append,List.drop_of_length_le (by omega),List.nil_append,show (Lib.itoa n).length+1 - (Lib.itoa n).length=1 by omega];rfl
  .rfl
abbrev rd(b:Nat)(st:gH):Own:=.blk b [.string (bs st.1),.bool st.2] 169
section
variable {W w:World}{R G S:List Own}{Φ:θ}{b:Nat}{st:gH}
theorem Jr[O Φ](l)(c:Ctx W w S Φ){K}(hk:∀ b w',Ctx W w' (rd b (l,false) :: S) Φ->K (.returned (ε b 0)) w'):
  Γ F.G7 #[.string (bs l)] w K:=by
 refine ak (aEP (bs l) (J:=K∘.returned) c ?_);exact λb w G y=>hk b w (Ctx.left (S:=rd b (l,false) :: S) y)
theorem aJK[O Φ](c:Ctx W w (rd b st :: S) Φ){K}(hk:∀ w',Ctx W w' (rd b ([],true) :: S) Φ->K (.returned (.tuple #[])) w'):
  Γ F.vQ #[ε b 0] w K:=by
 refine ak (aEW b 0 (J:=K∘.returned) c ?_);refine λw G y=>⟨y.can 0 rfl (by simp),λw' hw'=>⟨.blk b [.string (bs []),.bool st.2] 169 :: S,Φ,δ,y.put 0 hw' rfl,λw G y=>⟨y.can 0 rfl (by simp),λw' hw'=>⟨rd b ([],true) :: S,Φ,δ,y.put 0 hw' rfl,λw G y=>hk w y.left⟩⟩⟩⟩
theorem Pr[O Φ](c:Ctx W w (rd b st :: S++G) Φ){K:List Own->θ->Prop}(hk:K (rd b ([],true) :: S) Φ):
  Γ F.vQ #[ε b 0] w λe w'=>e=.returned (.tuple #[])/\∃ R' η,O η/\Ctx W w' (R'++G) η/\K R' η :=
 aJK (S:=S++G) c λw' c=>⟨rfl,rd b ([],true) :: S,Φ,δ,c,hk⟩
theorem aLh(s c):Dq prog F.strings_IndexByte #[.string s,.int .u8 c] (.int .i64 (Lib.indexByte s.data.toList c.toNat.toUInt8)) :=
 Quiet.HL ⟨λw=>Any.strings_IndexByte Tryz.aMX s c w⟩
theorem aGp[O Φ](h1:∀ M w,Φ M w->BZ 2 M w)(h2:∀ M w,Φ M w->BZ 3 M w)(s)(hs:s.size<=1000000)(c:Ctx W w (R++G) Φ){a1F:Int->List Own->θ->Prop}{K2:Int->TypeId->Value->List Own->θ->Prop}(k1:∀ n,Lib.atoiAll s.data.toList=.ok n->a1F n R Φ)(k2:∀ n t v,(∀ m,Lib.atoiAll s.data.toList≠.ok m)->K2 n t v R Φ):
  Γ F.strconv_Atoi #[.string s] w λe w'=>(∃ n:Int,e=.returned (.tuple #[.int .i64 n,.nilIface])/\∃ R' η,O η/\Ctx W w' (R'++G) η/\a1F n R' η) \/
   ∃ (n:Int) (t:TypeId) (v:Value),e=.returned (.tuple #[.int .i64 n,.iface t v])/\∃ R' η,O η/\Ctx W w' (R'++G) η/\K2 n t v R' η:=by
 obtain ⟨_,ev,hv,hev⟩:=h1 _ _ c.cy;obtain ⟨_,mC,hr,aKS⟩:=h2 _ _ c.cy;cases h:Lib.atoiAll s.data.toList
 .rename_i n;refine (Any.strconv_Atoi_ok Tryz.Wk s (by omega) n h w).mono λe w' ⟨he,hw⟩=>.inl ⟨n,he,R,Φ,δ,?_,k1 n h⟩;rcases hw with rfl|⟨t,rfl⟩
  .exact c
  .exact c.call (Tp (Lib.bytesWorld_below _ _ _))
 .exact (Any.strconv_Atoi_syntax Tryz.Wk s (by omega) h ev w hv hev).mono λe w' ⟨N,he,_,_,hb⟩=>.inr ⟨_,_,_,he,R,Φ,δ,c.call (Tp hb),k2 _ _ _ λm hm=>by rw [h] at hm;cases hm⟩
 .exact (Any.strconv_Atoi_range Tryz.Wk s (by omega) h mC w hr aKS).mono λe w' ⟨N,he,_,_,hb⟩=>.inr ⟨_,_,_,he,R,Φ,δ,c.call (Tp hb),k2 _ _ _ λm hm=>by rw [h] at hm;cases hm⟩
theorem aAR{e least}(h:qC e least st.1=none):gN e least st=(0,([],true)):=by unfold gN;rw [h]
theorem aAS{e least n r}(h:qC e least st.1=some (n,r)):gN e least st=(n,(r,st.2)):=by unfold gN;rw [h]
set_option maxHeartbeats 2000000 in
theorem aNQ[O Φ](cL:∀ M w,Φ M w->jt M w)(e least)(hl:st.1.length<=1000000000000000)(c:Ctx W w (rd b st :: S) Φ){K}(hk:∀ w',Ctx W w' (rd b (gN e.toNat.toUInt8 least st).2 :: S) Φ->K (.returned (.int .i64 (gN e.toNat.toUInt8 least st).1)) w'):
  Γ F.JQ #[ε b 0,.int .u8 e,.int .i64 least] w K:=by
 refine ak (aEX b 0 e least (J:=K∘.returned) c ?_);clear c;obtain ⟨l,bad⟩:=st;simp only at hl;have hsz:(bs l).size=l.length:=dN l;have hmin:(min ((bs l).size:Int) 21).toNat=min l.length 21:=by rw [hsz];omega
 have aKZ:(bs l).extract 0 (min ((bs l).size:Int) 21).toNat=bs (l.take 21):=by
  rw [hmin,KP,List.drop_zero,Nat.sub_zero]
  congr 1
  rcases Nat.le_total l.length 21 with h|h
  .rw [Nat.min_eq_left h,List.take_of_length_le (Nat.le_refl _),List.take_of_length_le h]
  .rw [Nat.min_eq_right h]
 refine λw G y=>⟨bs l,y.get 0 rfl rfl,bs l,y.get 0 rfl rfl,by omega,λw G y=>?_⟩;rw [aKZ];refine (aLh (bs (l.take 21)) e).in.aQn (R:=rd b (l,bad) :: S) y ?_;rw [vh];obtain ⟨i,hi⟩:∃ i,Lib.indexByte (l.take 21) e.toNat.toUInt8=i:=⟨_,rfl⟩;obtain ⟨hge,hidx⟩:=WD (l.take 21) e.toNat.toUInt8;rw [hi] at hge hidx ⊢;have failK:qC e.toNat.toUInt8 least l=none->∀ (w:World) (G:List Own),Ctx W w (rd b (l,bad) :: S++G) Φ->Γ F.vQ #[ε b 0] w λe w'=>e=.returned (.tuple #[])/\∃ R' η,O η/\Ctx W w' (R'++G) η/\∀ w ig,Ctx W w (R'++ig) η->K (.returned (.int .i64 0)) w:=λhn w G y=>by
  rw [aAR (st:=(l,bad)) hn] at hk;exact Pr (S:=S) y λw ig y=>hk w y.left
 refine γ.intro (λhneg=>λw G y=>failK ?_ w G y) (λhpos=>?_)
 .unfold qC;simp only [hi];rw [if_pos (aN hneg)]
 have hpos:=Λ hpos;rcases hidx with hidx|⟨_,hlt,_,_⟩
 .omega
 have CJ:i.toNat<(l.take 21).length:=by omega
 have vr:(l.take 21).length<=l.length:=by rw [List.length_take];omega
 have aSs:(l.take 21).length<=21:=by rw [List.length_take];omega
 have a5Q:(bs (l.take 21)).extract 0 i.toNat=bs (l.take i.toNat):=by
  rw [KP,List.drop_zero,Nat.sub_zero,List.take_take,Nat.min_eq_left (by omega)]
 refine ⟨⟨by omega,by rw [dN];omega⟩,λw G y=>?_⟩;rw [a5Q];refine aGp (R:=rd b (l,bad) :: S) (λM w h=>(cL M w h).2.1) (λM w h=>(cL M w h).2.2) (bs (l.take i.toNat)) (by rw [dN,List.length_take];omega) y (λn hn=>?_) (λn t v hn=>?_)
 .rw [vh] at hn;have hb:=Lib.atoiAll_bounds hn;refine ⟨rd b (l,bad) :: S,Φ,δ,λw G y=>y,false,λw=>aNF (by decide +kernel) w,γ.intro (λh=>by cases h) (λ_=>⟨⟨by omega,by rw [dN];omega⟩,λw G y=>?_⟩)⟩;refine (a1D (λM w h=>(cL M w h).1) n (by unfold κ;omega)).Fw y ⟨λw G y=>y,γ.intro (λhne=>λw G y=>failK ?_ w G y) (λheq=>γ.intro (λhls=>λw G y=>failK ?_ w G y) (λhls=>λw G y=>?_))⟩
  .have hne:=aN hne;unfold qC;simp only [hi];rw [if_neg (by omega),hn];simp only;rw [if_neg (λh=>hne (by show bs (Lib.itoa n)=_;rw [h.1]))]
  .unfold qC;simp only [hi];rw [if_neg (by omega),hn];simp only;rw [if_neg (λh=>by have:=aN hls;omega)]
  .have heq:Lib.itoa n=l.take i.toNat:=PN.1 (Decidable.not_not.1 (Λ heq));have hls:=Λ hls;have aKw:qC e.toNat.toUInt8 least l=some (n,l.drop (i.toNat+1)):=by
    unfold qC;simp only [hi];rw [if_neg (by omega),hn];simp only;rw [if_pos ⟨heq,by omega⟩]
   rw [aAS (st:=(l,bad)) aKw] at hk;have hex:(bs l).extract (i+1).toNat (bs l).size=bs (l.drop (i.toNat+1)):=by
    rw [KP,hsz,show (i+1).toNat=i.toNat+1 by omega]
    congr 1
    exact List.take_of_length_le (by rw [List.length_drop];omega)
   refine ⟨bs l,y.get 0 rfl rfl,?_,⟨by omega,by omega,Nat.le_refl _⟩,λw G y=>⟨y.can 0 rfl (by simp),λw' hw'=>?_⟩⟩
   .unfold κ;omega
   rw [hex] at hw';exact ⟨rd b (l.drop (i.toNat+1),bad) :: S,Φ,δ,y.put 0 hw' rfl,λw G y=>hk w y.left⟩
 .rw [vh] at hn;refine ⟨[],λ_ _=>True,δ,λw G y=>(y.weak λ_ _ _=>trivial).right,true,λw=>?_,γ.intro (λ_=>λw G y=>failK ?_ w G y) (λh=>by cases h)⟩
  .exact aNE (by decide +kernel) w
  .unfold qC;simp only [hi];rw [if_neg (by omega)]
theorem XT[O Φ](cL:∀ M w,Φ M w->jt M w)(e least)(hl:st.1.length<=1000000000000000)(c:Ctx W w (rd b st :: S++G) Φ){K:Int->List Own->θ->Prop}(hk:K (gN e.toNat.toUInt8 least st).1 (rd b (gN e.toNat.toUInt8 least st).2 :: S) Φ):
  Γ F.JQ #[ε b 0,.int .u8 e,.int .i64 least] w λe w'=>∃ n,e=.returned (.int .i64 n)/\∃ R' η,O η/\Ctx W w' (R'++G) η/\K n R' η :=
 aNQ (S:=S++G) cL e least hl c λw' c=>⟨_,rfl,_,Φ,δ,c,hk⟩
def eA(st:gH):Int × gH:=gN 59 (-9223372036854775808) st
def lC(st:gH):Int × gH:=gN 59 0 st
theorem KB[O Φ](cL:∀ M w,Φ M w->jt M w)(hl:st.1.length<=1000000000000000)(c:Ctx W w (rd b st :: S++G) Φ){K:Int->List Own->θ->Prop}(hk:K (eA st).1 (rd b (eA st).2 :: S) Φ):
  Γ F.sP #[ε b 0] w λe w'=>∃ n,e=.returned (.int .i64 n)/\∃ R' η,O η/\Ctx W w' (R'++G) η/\K n R' η:=by
 refine ak (aER b 0 (J:=λu w'=>∃ n,(Ending.returned u)=.returned (.int .i64 n)/\∃ R' η,O η/\Ctx W w' (R'++G) η/\K n R' η) (R:=rd b st :: (S++G)) c ?_);exact λw ig y=>XT (S:=S++G) cL 59 _ hl y λw ig y=>⟨_,rfl,_,Φ,δ,y.left,hk⟩
theorem TO[O Φ](cL:∀ M w,Φ M w->jt M w)(hl:st.1.length<=1000000000000000)(c:Ctx W w (rd b st :: S++G) Φ){K:Int->List Own->θ->Prop}(hk:K (lC st).1 (rd b (lC st).2 :: S) Φ):
  Γ F.JP #[ε b 0] w λe w'=>∃ n,e=.returned (.int .i64 n)/\∃ R' η,O η/\Ctx W w' (R'++G) η/\K n R' η:=by
 refine ak (aET b 0 (J:=λu w'=>∃ n,(Ending.returned u)=.returned (.int .i64 n)/\∃ R' η,O η/\Ctx W w' (R'++G) η/\K n R' η) (R:=rd b st :: (S++G)) c ?_);exact λw ig y=>XT (S:=S++G) cL 59 _ hl y λw ig y=>⟨_,rfl,_,Φ,δ,y.left,hk⟩
theorem TC[O Φ](c:Ctx W w (rd b st :: S++G) Φ){K:Int->List Own->θ->Prop}(hk:K st.1.length (rd b st :: S) Φ):
  Γ F.O1 #[ε b 0] w λe w'=>∃ n,e=.returned (.int .i64 n)/\∃ R' η,O η/\Ctx W w' (R'++G) η/\K n R' η:=by
 refine ak (aES b 0 (J:=λu w'=>∃ n,(Ending.returned u)=.returned (.int .i64 n)/\∃ R' η,O η/\Ctx W w' (R'++G) η/\K n R' η) (R:=rd b st :: (S++G)) c ?_);exact λw ig y=>⟨bs st.1,y.get 0 rfl rfl,λw ig y=>⟨st.1.length,by rw [dN],_,Φ,δ,y.left,hk⟩⟩
def tg(st:gH):Bool := !st.2&&decide (st.1=[])
theorem OV[O Φ](c:Ctx W w (rd b st :: S++G) Φ){K:Bool->List Own->θ->Prop}(hk:K (tg st) (rd b st :: S) Φ):
  Γ F.zM #[ε b 0] w λe w'=>∃ n,e=.returned (.bool n)/\∃ R' η,O η/\Ctx W w' (R'++G) η/\K n R' η:=by
 refine ak (aEQ b 0 (J:=λu w'=>∃ n,(Ending.returned u)=.returned (.bool n)/\∃ R' η,O η/\Ctx W w' (R'++G) η/\K n R' η) (R:=rd b st :: (S++G)) c ?_);refine λw ig y=>⟨st.2,y.get 0 rfl rfl,bs st.1,λ_=>y.get 0 rfl rfl,λw ig y=>⟨tg st,?_,_,Φ,δ,y.left,hk⟩⟩;have e:decide (bs st.1=ByteArray.mk #[])=decide (st.1=[]):=by
  rw [show ByteArray.mk #[]=bs [] from rfl];exact decide_eq_decide.2 PN
 rw [e];rfl
theorem aOL(c:UInt8)(l:List UInt8):Lib.hasPrefix l [c]=(match l with | []=>false|x :: _=>x == c):=by
 cases l with
 | nil=>rfl
 | cons x r =>
  unfold Lib.hasPrefix;rw [List.isPrefixOf_cons_cons];simp [Bool.beq_comm]
theorem aHJ[O Φ](e)(c:Ctx W w (rd b st :: S++G) Φ){K:List Own->θ->Prop}(hk:K (rd b (xj e st) :: S) Φ):
  Γ F.a0L #[ε b 0,.string (ByteArray.mk #[e])] w λe w'=>e=.returned (.tuple #[])/\∃ R' η,O η/\Ctx W w' (R'++G) η/\K R' η:=by
 refine ak (aEV b 0 (ByteArray.mk #[e]) (J:=λu w'=>(Ending.returned u)=.returned (.tuple #[])/\∃ R' η,O η/\Ctx W w' (R'++G) η/\K R' η) (R:=rd b st :: (S++G)) c ?_);clear c;obtain ⟨l,bad⟩:=st;refine λw ig y=>⟨bs l,y.get 0 rfl rfl,λw ig y=>?_⟩;refine (Any.strings_CutPrefix Tryz.aMV (bs l) (ByteArray.mk #[e]) w).mono λe2 w' ⟨he,hw⟩=>?_;subst hw;refine ⟨_,_,he,rd b (l,bad) :: (S++G),Φ,δ,y,?_⟩;clear y;rw [vh,show (ByteArray.mk #[e]).data.toList=[e] from rfl]
 unfold Lib.trimPrefix;rw [aOL];unfold xj at hk;cases l with
 | nil =>
  refine λw ig y=>⟨y.can 0 rfl (by simp),λw' hw'=>⟨rd b ([],bad) :: (S++G),Φ,δ,y.put 0 hw' rfl,γ.intro (λ_=>λw ig y=>Pr (S:=S++G) y λw ig y=>⟨by first|trivial|rfl,_,Φ,δ,y.left,hk⟩) (λh=>by cases h)⟩⟩
 | cons x r =>
  simp only at hk ⊢;by_cases hx:x=e
  .subst hx;rw [if_pos rfl] at hk;rw [if_pos (by simp)];refine λw ig y=>⟨y.can 0 rfl (by simp),λw' hw'=>⟨rd b (r,bad) :: (S++G),Φ,δ,y.put 0 hw' rfl,γ.intro (λh=>by simp at h) (λ_=>λw ig y=>⟨by first|trivial|rfl,_,Φ,δ,y.left,hk⟩)⟩⟩
  .rw [if_neg hx] at hk;rw [if_neg (by simpa using hx)];refine λw ig y=>⟨y.can 0 rfl (by simp),λw' hw'=>⟨rd b (x :: r,bad) :: (S++G),Φ,δ,y.put 0 hw' rfl,γ.intro (λ_=>λw ig y=>Pr (S:=S++G) y λw ig y=>⟨by first|trivial|rfl,_,Φ,δ,y.left,hk⟩) (λh=>by simp at h;exact absurd h hx)⟩⟩
theorem aQM{e}(he:e.toNat=58\/e.toNat=59\/e.toNat=91)(st):0<=(gN e 0 st).1/\(gN e 0 st).1<=9223372036854775807:=by
 unfold gN;split
 .rename_i n r h;obtain ⟨⟨h1,h2⟩,_⟩:=(Mf he).1 h;unfold κ at h1;simp only;omega
 .simp only;omega
theorem DE(e least st):(gN e least st).2.1.length<=st.1.length:=by
 unfold gN;split
 .rename_i n r h;unfold qC at h;simp only at h;split at h
  .cases h
  .split at h
   .split at h
    .cases h;simp only [List.length_drop];omega
    .cases h
   .cases h
 .simp
theorem TP[O Φ](cL:∀ M w,Φ M w->jt M w)(hl:st.1.length<=1000000000000000)(c:Ctx W w (rd b st :: S++G) Φ){K:ByteArray->List Own->θ->Prop}(hk:K (stepT st).1 (rd b (stepT st).2 :: S) Φ):
  Γ F.O2 #[ε b 0] w λe w'=>∃ n,e=.returned (.string n)/\∃ R' η,O η/\Ctx W w' (R'++G) η/\K n R' η:=by
 refine ak (aEU b 0 (J:=λu w'=>∃ n,(Ending.returned u)=.returned (.string n)/\∃ R' η,O η/\Ctx W w' (R'++G) η/\K n R' η) (R:=rd b st :: (S++G)) c ?_);clear c;refine λw ig y=>XT (S:=S++G) cL 58 0 hl y ?_;rw [show ((58:Int).toNat.toUInt8)=(58:UInt8) from rfl];unfold stepT at hk;simp only at hk;have hn:=aQM (e:=58) (.inl rfl) st;obtain ⟨⟨n,l,bad⟩,ha⟩:∃ a,gN 58 0 st=a:=⟨_,rfl⟩;rw [ha] at hk hn ⊢;simp only at hk hn ⊢
 refine λw ig y=>⟨bs l,y.get 0 rfl rfl,γ.intro (λh=>?_) (λh=>?_)⟩
 .have h:=aN h;rw [dN] at h;rw [if_pos h] at hk;exact λw ig y=>Pr (S:=S++G) y λw ig y=>⟨_,rfl,_,Φ,δ,y.left,hk⟩
 .have h:=Λ h;rw [dN] at h;rw [if_neg h] at hk;have e1:(bs l).extract n.toNat (bs l).size=bs (l.drop n.toNat):=by
   rw [KP,dN]
   congr 1
   exact List.take_of_length_le (by rw [List.length_drop];omega)
  have e2:(bs l).extract 0 n.toNat=bs (l.take n.toNat):=by rw [KP,List.drop_zero,Nat.sub_zero]
  refine λw ig y=>⟨bs l,y.get 0 rfl rfl,⟨by omega,by rw [dN];omega⟩,λw ig y=>⟨bs l,y.get 0 rfl rfl,⟨by omega,by rw [dN];omega,Nat.le_refl _⟩,λw ig y=>⟨y.can 0 rfl (by simp),λw' hw'=>?_⟩⟩⟩;rw [e1] at hw';refine ⟨rd b (l.drop n.toNat,bad) :: (S++G),Φ,δ,y.put 0 hw' rfl,λw ig y=>aHJ (S:=S++G) 44 y λw ig y=>⟨(xj 44 (l.drop n.toNat,bad)).2,y.get 0 rfl rfl,γ.intro (λhb=>?_) (λhb=>?_)⟩⟩
  .rw [hb] at hk;exact λw ig y=>⟨_,rfl,_,Φ,δ,y.left,hk⟩
  .rw [hb] at hk;rw [e2];exact λw ig y=>⟨_,rfl,_,Φ,δ,y.left,hk⟩
end
end Go.Proofs.YtcmgeboolmmdkaaGreatDoor
end

section
namespace Go.Proofs.YtcmgeboolmmdkaaGreatDoor
open Go.Vc
theorem XS{e}(he:e.toNat=58\/e.toNat=59\/e.toNat=91){least n r bad}(h:κ n)(h2:least<=n):gN e least (Lib.itoa n++e :: r,bad)=(n,(r,bad)) :=
 aAS (st:=(Lib.itoa n++e :: r,bad)) ((Mf he).2 ⟨⟨h,h2⟩,rfl⟩)
theorem a5p(n):(iJ n).data.toList=Lib.itoa n++[59]:=by
 unfold iJ tX;rw [ByteArray.data_append,Array.toList_append]
theorem Qm{n r bad}(h:κ n):eA ((iJ n).data.toList++r,bad)=(n,(r,bad)):=by
 rw [a5p,μ];exact XS (.inr (.inl rfl)) h h.1
theorem XA{n:Nat}{r bad}(h:(n:Int)<=9223372036854775807):lC ((vC n).data.toList++r,bad)=((n:Int),(r,bad)):=by
 unfold vC;rw [if_neg (by omega),a5p,μ];exact XS (.inr (.inl rfl)) (by unfold κ;omega) (by omega)
theorem J9(s):(n9 s).data.toList=Lib.itoa s.size++58 :: (s.data.toList++[44]):=by
 unfold n9 tX;simp [ByteArray.data_append]
theorem aAu{s r}(h:s.size<=9223372036854775807):stepT ((n9 s).data.toList++r,false)=(s,(r,false)):=by
 have e1:gN 58 0 ((n9 s).data.toList++r,false)=((s.size:Int),(s.data.toList++44 :: r,false)):=by
  rw [J9,μ,List.cons_append,μ];exact XS (.inl rfl) (by unfold κ;omega) (by omega)
 unfold stepT;simp only [e1];have hl:s.data.toList.length=s.size:=qq s;rw [if_neg (by rw [List.length_append,List.length_cons,hl];omega),Int.toNat_natCast,List.drop_left' hl,List.take_left' hl];rfl
theorem aQJ(c st):(xj c st).1.length<=st.1.length:=by
 unfold xj;split
 .simp
 .rename_i h;split
  .rw [h];simp
  .simp
theorem aAT(st):(stepT st).2.1.length<=st.1.length/\(stepT st).1.size<=st.1.length:=by
 have h1:=DE 58 0 st;have h2:=aQJ 44 (((gN 58 0 st).2.1.drop (gN 58 0 st).1.toNat,(gN 58 0 st).2.2));rw [List.length_drop] at h2;unfold stepT;simp only;split
 .exact ⟨Nat.zero_le _,Nat.zero_le _⟩
 .refine ⟨by simp only;omega,?_⟩;simp only;split
  .exact Nat.zero_le _
  .rw [dN,List.length_take];omega
theorem a9D(st):κ (eA st).1:=by
 unfold eA gN;split
 .rename_i n r h;exact ((Mf (.inr (.inl rfl))).1 h).1.1
 .unfold κ;simp
section
variable {W w:World}{R G S:List Own}{Φ:θ}{b:Nat}{st:gH}
end
theorem aQL{e}(he:e.toNat=58\/e.toNat=59\/e.toNat=91){least st}(h:(gN e least st).2.2=false):
  st.2=false/\κ (gN e least st).1/\least<=(gN e least st).1/\st.1=Lib.itoa (gN e least st).1++e :: (gN e least st).2.1:=by
 unfold gN at h ⊢;split at h
 .rename_i n r hn;obtain ⟨⟨h1,h2⟩,h3⟩:=(Mf he).1 hn;exact ⟨h,h1,h2,h3⟩
 .cases h
theorem aQI{c st}(h:(xj c st).2=false):st.2=false/\st.1=c :: (xj c st).1:=by
 obtain ⟨l,bad⟩:=st;unfold xj at h ⊢;cases l with
 | nil=>cases h
 | cons x r =>
  simp only at h ⊢;by_cases hx:x=c
  .rw [if_pos hx] at h ⊢;exact ⟨h,by rw [hx]⟩
  .rw [if_neg hx] at h;cases h
theorem ZM{st}(h:(stepT st).2.2=false):st.2=false/\st.1=(n9 (stepT st).1).data.toList++(stepT st).2.1:=by
 unfold stepT at h ⊢;simp only at h ⊢;split at h
 .cases h
 rename_i hlt;rw [if_neg hlt];simp only at h ⊢;rw [if_neg (by rw [h];simp)];obtain ⟨h1,h2⟩:=aQI h;simp only at h1 h2;obtain ⟨h3,h4,h5,h6⟩:=aQL (e:=58) (.inl rfl) h1;refine ⟨h3,?_⟩;have hl:((gN 58 0 st).2.1.take (gN 58 0 st).1.toNat).length=(gN 58 0 st).1.toNat:=by rw [List.length_take];omega
 rw [J9,vh,dN,hl,show (((gN 58 0 st).1.toNat:Nat):Int)=(gN 58 0 st).1 by omega,μ,List.cons_append,μ,List.singleton_append,<-h2,List.take_append_drop];exact h6
theorem aHl{st}(h:tg st=true):st=([],false):=by
 unfold tg at h;rw [Bool.and_eq_true] at h;obtain ⟨l,bad⟩:=st;have h1:=aN h.2;have h2:=h.1;simp only at h1 h2;cases bad with
 | true=>cases h2
 | false=>rw [h1]
def lD(x:aS):List UInt8:=(iJ x.term++n9 x.data).data.toList
def kg(l:List aS):List UInt8:=l.flatMap lD
def mw(l:List Int):List UInt8:=l.flatMap λn=>(iJ n).data.toList
def iY(m:aH):List Int:=[m.kind,m.src,m.to,m.term,m.index,m.prev,m.υ,if m.yes then 1 else 0]
def vq(m:aH):List UInt8:=mw (iY m)++(vC m.ζ.length).data.toList
def j5(m:aH):List UInt8:=vq m++kg m.ζ
def sD(st:gH):aS × gH:=(⟨(eA st).1,(stepT (eA st).2).1⟩,(stepT (eA st).2).2)
def xe:Nat->gH->List aS->List aS × gH
 | 0,st,acc=>(acc,st)
 | k+1,st,acc=>if st.1=[] then (acc,st) else xe k (sD st).2 (acc++[(sD st).1])
def CN:Nat->gH->List Int × gH
 | 0,st=>([],st)
 | k+1,st=>((eA st).1 :: (CN k (eA st).2).1,(CN k (eA st).2).2)
def X2(ns:List Int)(rs:List aS):aH:=⟨ns.getD 0 0,ns.getD 1 0,ns.getD 2 0,ns.getD 3 0,ns.getD 4 0,ns.getD 5 0,ns.getD 6 0,decide (ns.getD 7 0=1),rs⟩
def Ak:aH:=⟨0,0,0,0,0,0,0,false,[]⟩
def D2(l:List UInt8):Option aS:=if tg (sD (l,false)).2=true then some (sD (l,false)).1 else none
def a4G(l:List UInt8)(ns:List Int)(rs:List aS × gH):Option aH:=if tg rs.2=true/\j5 (X2 ns rs.1)=l then some (X2 ns rs.1) else none
def ZI(l:List UInt8)(ns:List Int)(st:gH):Option aH:=a4G l ns (xe (lC st).1.toNat (lC st).2 [])
def sB(l:List UInt8):Option aH:=ZI l (CN 8 (l,false)).1 (CN 8 (l,false)).2
theorem YH(k st acc):xe (k+1) st acc=if st.1=[] then (acc,st) else xe k (sD st).2 (acc++[(sD st).1]):=rfl
theorem aPD:∀ (k:Nat) (st:gH) (acc:List aS),st.1=[]->xe k st acc=(acc,st)
 | 0,_,_,_=>rfl
 | k+1,st,acc,h=>by rw [YH,if_pos h]
theorem aOr{st}(h:st.1≠[]):(eA st).2.1.length<st.1.length:=by
 unfold eA gN;split
 .rename_i n r hn;obtain ⟨_,h2⟩:=(Mf (e:=59) (.inr (.inl rfl))).1 hn;rw [h2,List.length_append,List.length_cons];simp only;omega
 .exact List.length_pos_iff.2 h
theorem aP6{st}(h:st.1≠[]):(sD st).2.1.length<st.1.length:=by
 have h1:=aOr h;have h2:=(aAT (eA st).2).1;show (stepT (eA st).2).2.1.length<_;omega
theorem aP5(st):(sD st).1.data.size<=st.1.length:=by
 have h1:=DE 59 (-9223372036854775808) st;have h2:=(aAT (eA st).2).2;show (stepT (eA st).2).1.size<=_;have h3:(eA st).2.1.length<=st.1.length:=h1;omega
theorem aP7(st):κ (sD st).1.term:=a9D st
theorem a9G(x t):lD x++t=(iJ x.term).data.toList++((n9 x.data).data.toList++t):=by
 unfold lD;simp [ByteArray.data_append]
theorem YG(x l):kg (x :: l)=lD x++kg l:=by simp [kg]
theorem aPA(a b):kg (a++b)=kg a++kg b:=List.flatMap_append
theorem aPB(x):kg [x]=lD x:=by simp [kg]
theorem XU(n l):mw (n :: l)=(iJ n).data.toList++mw l:=by simp [mw]
theorem aNS(a b):mw (a++b)=mw a++mw b:=List.flatMap_append
theorem aNT(n):mw [n]=(iJ n).data.toList:=by simp [mw]
theorem a9I{x t}(h:κ x.term)(h2:x.data.size<=1000000):sD (lD x++t,false)=(x,(t,false)):=by
 unfold sD;rw [a9G,Qm h];simp only;rw [aAu (by omega)]
theorem aP3{x}(h:κ x.term)(t):lD x++t≠[]:=by
 rw [a9G];have h1:=(qj h).1;intro e;have e:=congrArg List.length e;rw [List.length_append,qq,show ([]:List UInt8).length=0 from rfl] at e;omega
theorem a9M:∀ (l acc:List aS) (t:List UInt8),(∀ x∈l,κ x.term/\x.data.size<=1000000)->xe l.length (kg l++t,false) acc=(acc++l,(t,false))
 | [],acc,t,_=>by rw [List.append_nil];rfl
 | x :: l,acc,t,h=>by
  have hx:=h x (by simp);rw [List.length_cons,YH,YG,μ,if_neg (aP3 hx.1 _),a9I hx.1 hx.2];simp only;rw [a9M l (acc++[x]) t (λU hy=>h U (by simp [hy])),μ];rfl
theorem a5r:∀ (l:List Int) (t:List UInt8),(∀ n∈l,κ n)->CN l.length (mw l++t,false)=(l,(t,false))
 | [],t,_=>rfl
 | n :: l,t,h=>by
  have ih:=a5r l t λU hy=>h U (by simp [hy]);rw [List.length_cons,XU,μ];unfold CN;rw [Qm (h n (by simp))];simp only;rw [ih]
structure uH(m:aH):Prop where
 ints:∀ n∈iY m,κ n
 ζ:∀ x∈m.ζ,κ x.term/\x.data.size<=1000000
theorem aNA(m):X2 (iY m) m.ζ=m:=by
 obtain ⟨k,s,t,e,i,p,c,U,r⟩:=m;cases U<;>rfl
theorem X3{m}(h:uH m)(hl:m.ζ.length<=1000000):sB (j5 m)=some m:=by
 have h1:=a5r (iY m) ((vC m.ζ.length).data.toList++(kg m.ζ++[])) h.ints;have h2:=a9M m.ζ [] [] h.ζ;have e:j5 m=mw (iY m)++((vC m.ζ.length).data.toList++(kg m.ζ++[])):=by
  unfold j5 vq;simp only [μ,List.append_nil]
 have nB:(iY m).length=8:=rfl;rw [nB,<-e] at h1;unfold sB;rw [h1];unfold ZI;simp only;rw [XA (by omega)];simp only;rw [Int.toNat_natCast,h2];unfold a4G;simp only;rw [List.nil_append,aNA];exact if_pos ⟨rfl,rfl⟩
theorem aP9{x}(h:κ x.term)(h2:x.data.size<=1000000):D2 (lD x)=some x:=by
 have h3:=a9I (t:=[]) h h2;rw [List.append_nil] at h3;unfold D2;rw [h3];exact if_pos rfl
abbrev cz:=List UInt8
structure ko where
 now:cz
 last:cz
structure b7 where
 files:Int->ko
 queue:List (Int × Int)
 lost:Int
 down:Bool
 eP:Int
 keep:List Int
def mB:b7:=⟨λ_=>⟨[],[]⟩,[],0,false,0,[]⟩
def dy(s:cz)(a:Nat)(t:cz):cz:=if t=[] then s else s.take a++List.replicate (a - s.length) 0++t++s.drop (a+t.length)
def b7.set(d:b7)(f:Int)(x:ko):b7:={ d with files:=λk=>if k=f then x else d.files k }
def j4(d:b7)(f:Int):Int:=if d.down=true then 9 else if f<0\/16<=f then 1 else 0
def zC(a n:Nat):List Int:=(List.range ((a+n - 1) / 64+1 - a / 64)).map λi=>((a / 64+i:Nat):Int)
def vf(f:Int):List Int->List (Int × Int)->List (Int × Int)
 | [],q=>q
 | n :: ns,q=>vf f ns (if (f,n)∈q then q else q++[(f,n)])
def gP(d:b7)(f a:Int)(s:cz):b7 × Int :=
 if j4 d f≠0 then (d,j4 d f) else if a<0 then (d,1) else if 16777216<a\/16777216 - a<(s.length:Int) then (d,6) else if s=[] then (d,0) else
 ({ d.set f ⟨dy (d.files f).now a.toNat s,(d.files f).last⟩ with queue:=vf f (zC a.toNat s.length) d.queue },0)
def ua(d:b7):Bool := !d.down&&decide (d.eP=1)
def gE(d:b7):b7:=if d.down=true\/d.eP=0 then d else { d with eP:=d.eP - 1 }
def r8(keep:List Int)(i:Nat)(p:Int × Int)(fs:Int->ko):Int->ko :=
 if keep=[]\/keep.getD (i % keep.length) 0 % 2=0\/((fs p.1).now.length:Int)<=p.2*64 then fs
 else λk=>if k=p.1 then ⟨(fs p.1).now,dy (fs p.1).last (p.2*64).toNat (((fs p.1).now.drop (p.2*64).toNat).take 64)⟩ else fs k
def tr(keep:List Int):Nat->List (Int × Int)->(Int->ko)->Int->ko
 | _,[],fs=>fs
 | i,p :: ps,fs=>tr keep (i+1) ps (r8 keep i p fs)
def dj(d:b7)(keep:List Int):b7 :=
 if d.down=true then d else { d with down:=true,eP:=0,queue:=[],files:=λk=>⟨(tr keep 0 d.queue d.files k).last,(tr keep 0 d.queue d.files k).last⟩ }
def ct(d:b7)(f a:Int)(s:cz):b7 × Int :=
 if ua d=true then (dj (gP (gE d) f a s).1 d.keep,9) else gP (gE d) f a s
def Fs(d:b7)(f:Int)(s:cz):b7:={ d.set f ⟨s,s⟩ with queue:=d.queue.filter λp=>decide (p.1≠f) }
def kS(d:b7):b7:=if ua d=true then dj (gE d) d.keep else gE d
def xk(d:b7)(f:Int):b7 × Int :=
 if j4 d f≠0 then (d,j4 d f) else if 0<d.lost then ({ d with lost:=d.lost - 1 },10) else (Fs d f (d.files f).now,0)
def bN(d:b7)(f:Int):b7 × Int:=xk (kS d) f
def cj(d:b7)(f a n:Int):cz × Int :=
 if j4 d f≠0 then ([],j4 d f) else if a<0\/n<0 then ([],1) else (((d.files f).now.drop a.toNat).take n.toNat,0)
def dz(d:b7):b7:={ d with down:=false }
def k5(d:b7)(n:Int):b7:={ d with lost:=max n 0 }
def jR(d:b7)(n:Int)(keep:List Int):b7:={ d with eP:=max n 0,keep:=keep }
structure pT where
 file:Int
 slot:Nat
 value:cz
 sure:Bool
def dY(slot:Nat):Nat:=if slot=1 then 64 else if slot=2 then 131072 else 0
def eR(slot:Nat)(n:Nat):cz:=[slot.toUInt8,n.toUInt8,(n / 256).toUInt8,(n / 65536).toUInt8,(n / 16777216).toUInt8]
def tF(h:cz):Nat:=(((h.getD 4 0).toNat*256+(h.getD 3 0).toNat)*256+(h.getD 2 0).toNat)*256+(h.getD 1 0).toNat
def qD(d:b7)(file:Int):Option pT × Int :=
 if (cj d file 0 5).2≠0 then (none,(cj d file 0 5).2) else
 if (cj d file 0 5).1=[]\/(cj d file 0 5).1.getD 0 0=0 then (some ⟨file,0,[],false⟩,0) else
 if (cj d file 0 5).1.length<5\/(cj d file 0 5).1.getD 0 0≠1/\(cj d file 0 5).1.getD 0 0≠2 then (none,2) else
 if 65536<tF (cj d file 0 5).1 then (none,2) else
 if (cj d file (dY ((cj d file 0 5).1.getD 0 0).toNat) (tF (cj d file 0 5).1)).2≠0 then (none,(cj d file (dY ((cj d file 0 5).1.getD 0 0).toNat) (tF (cj d file 0 5).1)).2) else
 if (cj d file (dY ((cj d file 0 5).1.getD 0 0).toNat) (tF (cj d file 0 5).1)).1.length<tF (cj d file 0 5).1 then (none,2) else
 (some ⟨file,((cj d file 0 5).1.getD 0 0).toNat,(cj d file (dY ((cj d file 0 5).1.getD 0 0).toNat) (tF (cj d file 0 5).1)).1,false⟩,0)
def vH(d:b7)(c:pT)(s:cz)(slot:Nat):b7 × pT × Int :=
 if (ct d c.file (dY slot) s).2≠0 then ((ct d c.file (dY slot) s).1,c,(ct d c.file (dY slot) s).2) else
 if (bN (ct d c.file (dY slot) s).1 c.file).2≠0 then ((bN (ct d c.file (dY slot) s).1 c.file).1,c,(bN (ct d c.file (dY slot) s).1 c.file).2) else
 if (ct (bN (ct d c.file (dY slot) s).1 c.file).1 c.file 0 (eR slot s.length)).2≠0 then ((ct (bN (ct d c.file (dY slot) s).1 c.file).1 c.file 0 (eR slot s.length)).1,c,(ct (bN (ct d c.file (dY slot) s).1 c.file).1 c.file 0 (eR slot s.length)).2) else
 ((bN (ct (bN (ct d c.file (dY slot) s).1 c.file).1 c.file 0 (eR slot s.length)).1 c.file).1,⟨c.file,slot,s,decide ((bN (ct (bN (ct d c.file (dY slot) s).1 c.file).1 c.file 0 (eR slot s.length)).1 c.file).2=0)⟩,(bN (ct (bN (ct d c.file (dY slot) s).1 c.file).1 c.file 0 (eR slot s.length)).1 c.file).2)
def kE(d:b7)(c:pT)(s:cz):b7 × pT × Int :=
 if 65536<s.length then (d,c,6) else
 if c.sure=false/\0<c.slot then
  if (bN d c.file).2≠0 then ((bN d c.file).1,c,(bN d c.file).2) else vH (bN d c.file).1 { c with sure:=true } s (if c.slot=1 then 2 else 1)
 else vH d c s (if c.slot=1 then 2 else 1)
theorem RW(s a):dy s a []=s:=by unfold dy;rw [if_pos rfl]
theorem NB{s t:cz}{a}(h:t≠[]):dy s a t=s.take a++List.replicate (a - s.length) 0++t++s.drop (a+t.length):=by unfold dy;rw [if_neg h]
theorem Xz{s t:cz}{a}(h:t≠[]):(dy s a t).length=max s.length (a+t.length):=by
 rw [NB h];simp only [List.length_append,List.length_take,List.length_replicate,List.length_drop];omega
theorem N9{s t:cz}{a i}(h:t≠[])(hi:i<a):(dy s a t)[i]? = if i<s.length then s[i]? else some 0:=by
 rw [NB h,μ,μ];by_cases h1:i<s.length
 .rw [if_pos h1,List.getElem?_append_left (by rw [List.length_take];omega),List.getElem?_take_of_lt hi]
 .rw [if_neg h1,List.getElem?_append_right (by rw [List.length_take];omega),List.length_take,List.getElem?_append_left (by rw [List.length_replicate];omega),List.getElem?_replicate,if_pos (by omega)]
theorem NA{s t:cz}{a i}(h:t≠[])(h1:a<=i)(h2:i<a+t.length):(dy s a t)[i]? = t[i - a]? := by
 rw [NB h,μ,List.getElem?_append_right (by simp only [List.length_append,List.length_take,List.length_replicate];omega),List.getElem?_append_left (by simp only [List.length_append,List.length_take,List.length_replicate];omega)];simp only [List.length_append,List.length_take,List.length_replicate]
 congr 1
 omega
theorem RV{s t:cz}{a i}(h:t≠[])(h1:a+t.length<=i):(dy s a t)[i]? = s[i]? := by
 rw [NB h,List.getElem?_append_right (by simp only [List.length_append,List.length_take,List.length_replicate];omega),List.getElem?_drop];simp only [List.length_append,List.length_take,List.length_replicate];by_cases h2:a<=s.length
 .congr 1
  omega
 .rw [List.getElem?_eq_none (by omega),List.getElem?_eq_none (by omega)]
def xh(N:cz)(n:Nat):cz:=(N.drop (n*64)).take 64
def s5(N:cz):List Nat->cz->cz
 | [],L=>L
 | n :: ns,L=>s5 N ns (dy L (n*64) (xh N n))
theorem aPj{N n}(h:n*64<N.length):xh N n≠[]:=by
 intro e;have:=congrArg List.length e;unfold xh at this;rw [List.length_take,List.length_drop,List.length_nil] at this;omega
theorem aPi(N n):(xh N n).length=min 64 (N.length - n*64):=by unfold xh;rw [List.length_take,List.length_drop]
theorem aPh{N n i}(h1:n*64<=i)(h2:i<n*64+64):(xh N n)[i - n*64]? = N[i]? := by
 unfold xh;rw [List.getElem?_take_of_lt (by omega),List.getElem?_drop]
 congr 1
 omega
theorem NC{N L n i}(h:n*64<N.length):(dy L (n*64) (xh N n))[i]? = if n*64<=i/\i<n*64+64/\i<N.length then N[i]? else if i<n*64/\L.length<=i then some 0 else L[i]? := by
 have hne:=aPj h;have hl:=aPi N n;by_cases h1:i<n*64
 .rw [N9 hne h1];by_cases h2:i<L.length
  .rw [if_pos h2,if_neg (by omega),if_neg (by omega)]
  .rw [if_neg h2,if_neg (by omega),if_pos (by omega)]
 .by_cases h2:i<n*64+(xh N n).length
  .rw [NA hne (by omega) h2,aPh (by omega) (by omega),if_pos (by omega)]
  .rw [RV hne (by omega),if_neg (by omega),if_neg (by omega)]
theorem Cd{N}{i:Nat}{x}(hN:N[i]? = some x):∀ (ns:List Nat) (L:cz),(∀ n∈ns,n*64<N.length)->L[i]? = some x->(s5 N ns L)[i]? = some x
 | [],L,_,h=>h
 | n :: ns,L,hs,h=>by
  refine Cd hN ns _ (λm hm=>hs m (by simp [hm])) ?_;have hi:i<L.length:=(List.getElem?_eq_some_iff.1 h).1;rw [NC (hs n (by simp))];split
  .exact hN
  .rw [if_neg (by omega)];exact h
theorem a78{N i x}:∀ (ns:List Nat) (L:cz),(∀ n∈ns,n*64<N.length/\¬ (n*64<=i/\i<n*64+64))->L[i]? = some x->(s5 N ns L)[i]? = some x
 | [],L,_,h=>h
 | n :: ns,L,hs,h=>by
  refine a78 ns _ (λm hm=>hs m (by simp [hm])) ?_;have hi:i<L.length:=(List.getElem?_eq_some_iff.1 h).1;have h1:=hs n (by simp);rw [NC h1.1,if_neg (by omega),if_neg (by omega)];exact h
theorem a7A{N i}(hN:N.getD i 0=0):∀ (ns:List Nat) (L:cz),(∀ n∈ns,n*64<N.length)->L.getD i 0=0->(s5 N ns L).getD i 0=0
 | [],L,_,h=>h
 | n :: ns,L,hs,h=>by
  refine a7A hN ns _ (λm hm=>hs m (by simp [hm])) ?_;rw [List.getD_eq_getElem?_getD,NC (hs n (by simp))];split
  .rw [<-List.getD_eq_getElem?_getD];exact hN
  .split
   .rfl
   .rw [<-List.getD_eq_getElem?_getD];exact h
theorem a77{N i x}(hN:N[i]? = some x):∀ (ns:List Nat) (L:cz),(∀ n∈ns,n*64<N.length)->i / 64∈ns->(s5 N ns L)[i]? = some x
 | [],L,_,h=>by cases h
 | n :: ns,L,hs,h=>by
  by_cases e:i / 64=n
  .refine Cd hN ns _ (λm hm=>hs m (by simp [hm])) ?_;have hi:i<N.length:=(List.getElem?_eq_some_iff.1 hN).1;rw [NC (hs n (by simp)),if_pos (by omega)];exact hN
  .refine a77 hN ns _ (λm hm=>hs m (by simp [hm])) ?_;rcases List.mem_cons.1 h with h|h
   .exact absurd h e
   .exact h
def Iz(F:Int)(q:List (Int × Int)):List Nat:=(q.filter λp=>decide (p.1=F)).map λp=>p.2.toNat
theorem aPn(F p q):Iz F (p :: q)=if p.1=F then p.2.toNat :: Iz F q else Iz F q:=by
 unfold Iz;by_cases h:p.1=F
 .rw [List.filter_cons_of_pos (by simpa using h),if_pos h,List.map_cons]
 .rw [List.filter_cons_of_neg (by simpa using h),if_neg h]
theorem aQa(keep i p fs F):(r8 keep i p fs F).now=(fs F).now:=by
 unfold r8;split
 .rfl
 .simp only;split
  .rename_i h;rw [h]
  .rfl
theorem aAm(F):∀ (q:List (Int × Int)) (keep:List Int) (i:Nat) (fs:Int->ko),(∀ p∈q,0<=p.2) ->
  ∃ ns:List Nat,ns.Sublist (Iz F q)/\(∀ n∈ns,n*64<(fs F).now.length)/\(tr keep i q fs F).now=(fs F).now/\(tr keep i q fs F).last=s5 (fs F).now ns (fs F).last
 | [],keep,i,fs,_=>⟨[],List.Sublist.refl _,by simp,rfl,rfl⟩
 | p :: q,keep,i,fs,hp=>by
  obtain ⟨ns,h1,h2,h3,h4⟩:=aAm F q keep (i+1) (r8 keep i p fs) (λx hx=>hp x (by simp [hx]));have hn:=aQa keep i p fs F;rw [hn] at h2 h3 h4;have aT7:=hp p (by simp);have e:tr keep i (p :: q) fs=tr keep (i+1) q (r8 keep i p fs):=rfl;rw [e,aPn];by_cases hF:p.1=F
  .rw [if_pos hF];by_cases hs:keep=[]\/keep.getD (i % keep.length) 0 % 2=0\/((fs p.1).now.length:Int)<=p.2*64
   .have e2:r8 keep i p fs=fs:=by unfold r8;rw [if_pos hs]
    rw [e2] at h3 h4;exact ⟨ns,h1.cons _,h2,by rw [e2];exact h3,by rw [e2];exact h4⟩
   .have e2:(r8 keep i p fs F).last=dy (fs F).last (p.2.toNat*64) (xh (fs F).now p.2.toNat):=by
     unfold r8;rw [if_neg hs,if_pos hF.symm,hF];unfold xh;rw [show (p.2*64).toNat=p.2.toNat*64 by omega]
    rw [e2] at h4;refine ⟨p.2.toNat :: ns,h1.cons_cons _,λn hn'=>?_,h3,h4⟩;rcases List.mem_cons.1 hn' with rfl|hn'
    .rw [hF] at hs;have:¬ ((fs F).now.length:Int)<=p.2*64:=λh=>hs (.inr (.inr h));omega
    .exact h2 n hn'
  .rw [if_neg hF];have e2:(r8 keep i p fs F).last=(fs F).last:=by
    unfold r8;split
    .rfl
    .dsimp only;rw [if_neg λh=>hF h.symm]
   rw [e2] at h4;exact ⟨ns,h1,h2,h3,h4⟩
theorem aHV{d}(hd:d.down=false)(keep)(hq:∀ p∈d.queue,0<=p.2)(F):
  ∃ ns:List Nat,ns.Sublist (Iz F d.queue)/\(∀ n∈ns,n*64<(d.files F).now.length)/\(dj d keep).files F=⟨s5 (d.files F).now ns (d.files F).last,s5 (d.files F).now ns (d.files F).last⟩:=by
 obtain ⟨ns,h1,h2,_,h4⟩:=aAm F d.queue keep 0 d.files hq;refine ⟨ns,h1,h2,?_⟩;unfold dj;rw [if_neg (by rw [hd];simp)];show ko.mk (tr keep 0 d.queue d.files F).last (tr keep 0 d.queue d.files F).last=_;rw [h4]
theorem a3i{d}(hd:d.down=false)(keep):(dj d keep).queue=[]/\(dj d keep).down=true/\(dj d keep).eP=0/\(dj d keep).lost=d.lost:=by
 unfold dj;rw [if_neg (by rw [hd];simp)];exact ⟨rfl,rfl,rfl,rfl⟩
def ez(N:cz)(slot:Nat)(v:cz):Prop :=
 (slot=0/\v=[]/\N.getD 0 0=0)\/((slot=1\/slot=2)/\v.length<=65536/\(∀ i,i<5->N[i]? = (eR slot v.length)[i]?)/\∀ i,i<v.length->N[dY slot+i]? = v[i]?)
theorem vp(slot n):(eR slot n).length=5:=rfl
theorem aKE{slot n}(h:n<=65536):tF (eR slot n)=n:=by
 unfold tF eR;simp only [List.getD_cons_succ,List.getD_cons_zero,Nat.toUInt8,UInt8.toNat_ofNat'];omega
theorem aAo{N h:cz}{n}(hn:h.length=n)(hg:∀ i,i<n->N[i]? = h[i]?):N.take n=h:=by
 apply List.ext_getElem?;intro i;rcases Nat.lt_or_ge i n with hi|hi
 .rw [List.getElem?_take_of_lt hi,hg i hi]
 .rw [List.getElem?_eq_none (by rw [List.length_take];omega),List.getElem?_eq_none (by omega)]
theorem aN3{N v:cz}{a}(hg:∀ i,i<v.length->N[a+i]? = v[i]?):(N.drop a).take v.length=v:=by
 apply List.ext_getElem?;intro i;rcases Nat.lt_or_ge i v.length with hi|hi
 .rw [List.getElem?_take_of_lt hi,List.getElem?_drop,hg i hi]
 .rw [List.getElem?_eq_none (by rw [List.length_take];omega),List.getElem?_eq_none hi]
theorem YC{d F a n}(hd:d.down=false)(hF:0<=F/\F<16)(ha:0<=a)(hn:0<=n):cj d F a n=(((d.files F).now.drop a.toNat).take n.toNat,0):=by
 have hm:j4 d F=0:=by unfold j4;rw [if_neg (by rw [hd];simp),if_neg (by omega)]
 unfold cj;rw [if_neg (by rw [hm];simp),if_neg (by omega)]
theorem a7d{d F slot v}(hd:d.down=false)(hF:0<=F/\F<16)(h:ez (d.files F).now slot v):qD d F=(some ⟨F,slot,v,false⟩,0):=by
 have hr:=YC (d:=d) (F:=F) (a:=0) (n:=5) hd hF (by omega) (by omega);have hr:cj d F 0 5=((d.files F).now.take 5,0):=hr;obtain ⟨N,hN⟩:∃ N,(d.files F).now=N:=⟨_,rfl⟩;rw [hN] at h hr;unfold qD;rw [hr];simp only;rw [if_neg (by simp)];rcases h with ⟨rfl,rfl,h0⟩|⟨hs,hv,hh,hval⟩
 .have h1:(N.take 5).getD 0 0=0:=by
   cases N with
   | nil=>rfl
   | cons x r=>exact h0
  rw [if_pos (.inr h1)]
 .have ht:N.take 5=eR slot v.length:=aAo (vp _ _) hh;have F6:(slot.toUInt8).toNat=slot:=by rcases hs with rfl|rfl<;>rfl
  have h0:(eR slot v.length).getD 0 0=slot.toUInt8:=rfl;have aLJ:slot.toUInt8=1\/slot.toUInt8=2:=by rcases hs with rfl|rfl<;>decide
  have aLK:slot.toUInt8≠0:=by rcases hs with rfl|rfl<;>decide
  rw [ht,h0,F6,aKE hv];have hoff:(0:Int)<=(dY slot:Int):=by omega
  rw [YC hd hF hoff (by omega),hN];simp only [Int.toNat_natCast];rw [aN3 hval];rw [if_neg (by
   intro h;rcases h with h|h
   .have:=congrArg List.length h;rw [vp] at this;cases this
   .exact aLK h),if_neg (by
   intro h;rcases h with h|h
   .rw [vp] at h;omega
   .rcases aLJ with h8|h8
    .exact h.1 h8
    .exact h.2 h8),if_neg (by omega),if_neg (by simp),if_neg (by omega)]
def oh(f:ko)(P:Nat->cz->Prop):Prop:=(∃ s v,ez f.now s v/\P s v)/\∀ ns:List Nat,(∀ n∈ns,n*64<f.now.length)->∃ s v,ez (s5 f.now ns f.last) s v/\P s v
theorem MS{N L s v}(hN:ez N s v)(hL:ez L s v){ns}(hs:∀ n∈ns,n*64<N.length):ez (s5 N ns L) s v:=by
 rcases hL with ⟨rfl,rfl,h0⟩|⟨h1,h2,h3,h4⟩
 .rcases hN with ⟨_,_,n0⟩|⟨h,_⟩
  .exact .inl ⟨rfl,rfl,a7A n0 ns L hs h0⟩
  .omega
 .rcases hN with ⟨rfl,_⟩|⟨_,_,cN,b6⟩
  .omega
  .refine .inr ⟨h1,h2,λi hi=>?_,λi hi=>?_⟩
   .have e:(eR s v.length)[i]? = some ((eR s v.length)[i]'(by rw [vp];exact hi)):=List.getElem?_eq_getElem _;rw [e];exact Cd (by rw [cN i hi,e]) ns L hs (by rw [h3 i hi,e])
   .have e:v[i]? = some v[i]:=List.getElem?_eq_getElem hi;rw [e];exact Cd (by rw [b6 i hi,e]) ns L hs (by rw [h4 i hi,e])
theorem vl{f s v P}(hN:ez f.now s v)(hL:ez f.last s v)(hP:P s v):oh f P:=⟨⟨s,v,hN,hP⟩,λns hs=>⟨s,v,MS hN hL hs,hP⟩⟩
theorem a79{N}:∀ (ns:List Nat) (L:cz),(∀ n∈ns,n*64<N.length/\n≠0)->L.getD 0 0=0->(s5 N ns L).getD 0 0=0
 | [],L,_,h=>h
 | n :: ns,L,hs,h=>by
  refine a79 ns _ (λm hm=>hs m (by simp [hm])) ?_;have h1:=hs n (by simp);rw [List.getD_eq_getElem?_getD,NC h1.1,if_neg (by omega)];split
  .rfl
  .rw [<-List.getD_eq_getElem?_getD];exact h
theorem aJf{f s s' v v' P}(hs':s'=1\/s'=2)(nE:v'.length<=65536)(hL:ez f.last s v)(hnew:∀ i,i<v'.length->f.last[dY s'+i]? = v'[i]?)(q2:f.now=dy f.last 0 (eR s' v'.length))(hP:P s v)(VB:P s' v'):oh f P:=by
 have hne:eR s' v'.length≠[]:=by intro e;have:=congrArg List.length e;cases this
 have a5V:∀ i,i<5->f.now[i]? = (eR s' v'.length)[i]? := λi hi=>by
  rw [q2,NA hne (Nat.zero_le _) (by rw [vp];omega),Nat.sub_zero]
 have VY:∀ i,5<=i->f.now[i]? = f.last[i]? := λi hi=>by
  rw [q2,RV hne (by rw [vp];omega)]
 have hoff:∀ k,(k=1\/k=2)->5<=dY k:=λk hk=>by rcases hk with rfl|rfl<;>decide
 have hN:ez f.now s' v':=.inr ⟨hs',nE,a5V,λi hi=>by
  have:=hoff s' hs';rw [VY _ (by omega)];exact hnew i hi⟩
 refine ⟨⟨s',v',hN,VB⟩,λns ye=>?_⟩;by_cases h0:0∈ns
 .refine ⟨s',v',.inr ⟨hs',nE,λi hi=>?_,λi hi=>?_⟩,VB⟩
  .have e:(eR s' v'.length)[i]? = some ((eR s' v'.length)[i]'(by rw [vp];exact hi)):=List.getElem?_eq_getElem _;rw [e];exact a77 (by rw [a5V i hi,e]) ns _ ye (by rw [show i / 64=0 by omega];exact h0)
  .have:=hoff s' hs';have e:v'[i]? = some v'[i]:=List.getElem?_eq_getElem hi;rw [e];exact Cd (by rw [VY _ (by omega),hnew i hi,e]) ns _ ye (by rw [hnew i hi,e])
 .have Vj:∀ n∈ns,n*64<f.now.length/\n≠0:=λn hn=>⟨ye n hn,λe=>h0 (e ▸ hn)⟩;rcases hL with ⟨rfl,rfl,hz⟩|⟨h1,h2,h3,h4⟩
  .exact ⟨0,[],.inl ⟨rfl,rfl,a79 ns _ Vj hz⟩,hP⟩
  .refine ⟨s,v,.inr ⟨h1,h2,λi hi=>?_,λi hi=>?_⟩,hP⟩
   .have e:(eR s v.length)[i]? = some ((eR s v.length)[i]'(by rw [vp];exact hi)):=List.getElem?_eq_getElem _;rw [e];exact a78 ns _ (λn hn=>⟨(Vj n hn).1,by have:=(Vj n hn).2;omega⟩) (by rw [h3 i hi,e])
   .have:=hoff s h1;have e:v[i]? = some v[i]:=List.getElem?_eq_getElem hi;rw [e];exact Cd (by rw [VY _ (by omega),h4 i hi,e]) ns _ ye (by rw [h4 i hi,e])
theorem oh.mono{f P Q}(h:oh f P)(hPQ:∀ s v,P s v->Q s v):oh f Q :=
 ⟨by obtain ⟨s,v,h1,h2⟩:=h.1;exact ⟨s,v,h1,hPQ s v h2⟩,λns hs=>by obtain ⟨s,v,h1,h2⟩:=h.2 ns hs;exact ⟨s,v,h1,hPQ s v h2⟩⟩
theorem oh.Ka{f P}(h:oh f P){ns}(hs:∀ n∈ns,n*64<f.now.length):oh ⟨s5 f.now ns f.last,s5 f.now ns f.last⟩ P:=by
 obtain ⟨s,v,h1,h2⟩:=h.2 ns hs;exact vl h1 h1 h2
inductive ec:ko->ko->Prop
 | refl (f:ko):ec f f
 | step {f g:ko} {ns:List Nat}:ec f g->(∀ n∈ns,n*64<g.now.length)->ec f ⟨s5 g.now ns g.last,s5 g.now ns g.last⟩
theorem ec.trans{f g h}(h1:ec f g)(h2:ec g h):ec f h:=by
 induction h2 with
 | refl=>exact h1
 | step _ hs ih=>exact .step ih hs
theorem ec.rU{f g P}(h:ec f g)(hP:oh f P):oh g P:=by
 induction h with
 | refl=>exact hP
 | step _ hs ih=>exact ih.Ka hs
def Pre(B:cz)(f:ko):Prop:=∀ (i:Nat) (x:UInt8),B[i]? = some x->f.now[i]? = some x/\f.last[i]? = some x
theorem ec.pre{B f g}(h:ec f g)(hP:Pre B f):Pre B g:=by
 induction h with
 | refl=>exact hP
 | step _ hs ih =>
  intro i x hx;obtain ⟨h1,h2⟩:=ih i x hx;exact ⟨Cd h1 _ _ hs h2,Cd h1 _ _ hs h2⟩
def fo(d:b7):Prop:=∀ p∈d.queue,0<=p.2
def gl(d:b7):Prop:=d.down=false/\d.eP=0/\d.lost=0
theorem aHt:fo mB:=λp hp=>by cases hp
theorem aHs:gl mB:=⟨rfl,rfl,rfl⟩
theorem Pb{d}(hw:fo d)(keep):fo (dj d keep):=by
 unfold dj;split
 .exact hw
 .exact λp hp=>by cases hp
theorem Kb{d}(hw:fo d)(keep F):ec (d.files F) ((dj d keep).files F):=by
 cases hd:d.down with
 | true =>
  have:dj d keep=d:=by unfold dj;rw [if_pos hd]
  rw [this];exact .refl _
 | false =>
  obtain ⟨ns,_,h2,h3⟩:=aHV hd keep hw F;rw [h3];exact .step (.refl _) h2
theorem aAw(d):(gE d).files=d.files/\(gE d).queue=d.queue/\(gE d).down=d.down/\(gE d).lost=d.lost/\(gE d).keep=d.keep:=by
 unfold gE;split<;>exact ⟨rfl,rfl,rfl,rfl,rfl⟩
theorem S5{d}(h:gl d):gE d=d/\ua d=false:=by
 unfold gE ua;rw [if_pos (.inr h.2.1),h.2.1,h.1];exact ⟨rfl,rfl⟩
theorem a2K(f):∀ (ns:List Int) (q:List (Int × Int)),(∀ n∈ns,0<=n)->(∀ p∈q,0<=p.2)->∀ p∈vf f ns q,0<=p.2
 | [],q,_,hq=>hq
 | n :: ns,q,hn,hq=>by
  refine a2K f ns _ (λm hm=>hn m (by simp [hm])) λp hp=>?_;split at hp
  .exact hq p hp
  .rcases List.mem_append.1 hp with hp|hp
   .exact hq p hp
   .rw [List.mem_singleton.1 hp];exact hn n (by simp)
theorem aPo(a n):∀ m∈zC a n,0<=m:=λm hm=>by
 unfold zC at hm;obtain ⟨i,_,rfl⟩:=List.mem_map.1 hm;omega
theorem aS3{d}{F a:Int}{s}(hF:0<=F/\F<16)(ha:0<=a)(hs:a+s.length<=16777216)(hw:fo d):
  fo (gP d F a s).1/\(∀ G,G≠F->(gP d F a s).1.files G=d.files G)/\(gP d F a s).1.down=d.down/\(gP d F a s).1.eP=d.eP/\(gP d F a s).1.lost=d.lost /\
  ((d.down=false/\(gP d F a s).2=0/\(gP d F a s).1.files F=⟨dy (d.files F).now a.toNat s,(d.files F).last⟩)\/(d.down=true/\(gP d F a s).2=9/\(gP d F a s).1=d)):=by
 cases hd:d.down with
 | true =>
  have hm:j4 d F=9:=by unfold j4;rw [if_pos hd]
  have e:gP d F a s=(d,9):=by unfold gP;rw [hm,if_pos (by decide)]
  rw [e];exact ⟨hw,λ_ _=>rfl,hd,rfl,rfl,.inr ⟨rfl,rfl,rfl⟩⟩
 | false =>
  have hm:j4 d F=0:=by unfold j4;rw [if_neg (by rw [hd];simp),if_neg (by omega)]
  by_cases h0:s=[]
  .have e:gP d F a s=(d,0):=by unfold gP;rw [hm,if_neg (by decide),if_neg (by omega),if_neg (by omega),if_pos h0]
   rw [e,h0,RW];exact ⟨hw,λ_ _=>rfl,hd,rfl,rfl,.inl ⟨rfl,rfl,rfl⟩⟩
  .have e:gP d F a s=({ d.set F ⟨dy (d.files F).now a.toNat s,(d.files F).last⟩ with queue:=vf F (zC a.toNat s.length) d.queue },0):=by
    unfold gP;rw [hm,if_neg (by decide),if_neg (by omega),if_neg (by omega),if_neg h0]
   rw [e];refine ⟨a2K F _ _ (aPo _ _) hw,λG hG=>?_,hd,rfl,rfl,.inl ⟨rfl,rfl,?_⟩⟩
   .show (if G=F then _ else d.files G)=_;rw [if_neg hG]
   .show (if F=F then _ else d.files F)=_;rw [if_pos rfl]
theorem a0P{d}{F a:Int}{s}(hF:0<=F/\F<16)(ha:0<=a)(hs:a+s.length<=16777216)(hw:fo d):
  fo (ct d F a s).1/\(∀ G,G≠F->ec (d.files G) ((ct d F a s).1.files G))/\(gl d->gl (ct d F a s).1/\(ct d F a s).2=0)/\((ct d F a s).1.lost=d.lost) /\
  (((ct d F a s).2=0/\(ct d F a s).1.files F=⟨dy (d.files F).now a.toNat s,(d.files F).last⟩)\/((ct d F a s).2=9/\(ec (d.files F) ((ct d F a s).1.files F)\/ec ⟨dy (d.files F).now a.toNat s,(d.files F).last⟩ ((ct d F a s).1.files F)))):=by
 obtain ⟨t1,t2,t3,t4,t5⟩:=aAw d;have dV:fo (gE d):=by unfold fo;rw [t2];exact hw
 obtain ⟨w1,w2,w3,kG,eK,lG⟩:=aS3 (d:=gE d) (s:=s) hF ha hs dV;rw [t1] at w2 lG;rw [t3] at w3 lG;rw [t4] at eK;cases he:ua d with
 | true =>
  have e:ct d F a s=(dj (gP (gE d) F a s).1 d.keep,9):=by unfold ct;rw [if_pos he]
  have hd:d.down=false:=by
   unfold ua at he;cases h:d.down with
   | true=>rw [h] at he;cases he
   | false=>rfl
  rw [e];refine ⟨Pb w1 _,λG hG=>?_,λh=>?_,?_,.inr ⟨rfl,.inr ?_⟩⟩
  .rw [<-w2 G hG];exact Kb w1 _ G
  .rw [(S5 h).2] at he;cases he
  .rw [<-eK];exact (a3i (by rw [w3];exact hd) _).2.2.2
  .rcases lG with ⟨_,_,hJ⟩|⟨h,_⟩
   .rw [<-hJ];exact Kb w1 _ F
   .rw [hd] at h;cases h
 | false =>
  have e:ct d F a s=gP (gE d) F a s:=by unfold ct;rw [if_neg (by rw [he];simp)]
  rw [e];refine ⟨w1,λG hG=>by rw [w2 G hG];exact .refl _,λh=>?_,eK,?_⟩
  .rcases lG with ⟨_,hJ,_⟩|⟨h2,_⟩
   .have ht:=(S5 h).1;rw [ht] at w3 kG eK hJ ⊢;exact ⟨⟨by rw [w3];exact h.1,by rw [kG];exact h.2.1,by rw [eK];exact h.2.2⟩,hJ⟩
   .rw [h.1] at h2;cases h2
  .rcases lG with ⟨_,hJ,qI⟩|⟨_,hJ,qI⟩
   .exact .inl ⟨hJ,qI⟩
   .refine .inr ⟨hJ,.inl ?_⟩;rw [qI,t1];exact .refl _
theorem aJM{d}(hw:fo d):fo (kS d)/\(∀ G,ec (d.files G) ((kS d).files G))/\(gl d->kS d=d)/\(kS d).lost=d.lost/\((kS d).down=false->(kS d).files=d.files):=by
 obtain ⟨t1,t2,t3,t4,t5⟩:=aAw d;have dV:fo (gE d):=by unfold fo;rw [t2];exact hw
 unfold kS;cases he:ua d with
 | true =>
  rw [if_pos rfl];have hd:d.down=false:=by
   unfold ua at he;cases h:d.down with
   | true=>rw [h] at he;cases he
   | false=>rfl
  have hq:=a3i (d:=gE d) (by rw [t3];exact hd) d.keep;refine ⟨Pb dV _,λG=>by rw [<-t1];exact Kb dV _ G,λh=>?_,by rw [hq.2.2.2,t4],λh=>?_⟩
  .rw [(S5 h).2] at he;cases he
  .rw [hq.2.1] at h;cases h
 | false =>
  rw [if_neg (by simp)];exact ⟨dV,λG=>by rw [t1];exact .refl _,λh=>(S5 h).1,t4,λ_=>t1⟩
theorem Fv{d F}(hF:0<=F/\F<16)(hw:fo d):
  fo (bN d F).1/\(∀ G,G≠F->ec (d.files G) ((bN d F).1.files G))/\(gl d->gl (bN d F).1/\(bN d F).2=0) /\
  (((bN d F).2=0/\(bN d F).1.down=false/\(bN d F).1.files F=⟨(d.files F).now,(d.files F).now⟩)\/(((bN d F).2=9\/(bN d F).2=10)/\ec (d.files F) ((bN d F).1.files F))):=by
 obtain ⟨f1,f2,f3,f4,f5⟩:=aJM hw;unfold bN xk;cases hd:(kS d).down with
 | true =>
  have hm:j4 (kS d) F=9:=by unfold j4;rw [if_pos hd]
  rw [hm,if_pos (by decide)];refine ⟨f1,λG _=>f2 G,λh=>?_,.inr ⟨.inl rfl,f2 F⟩⟩;rw [f3 h,h.1] at hd;cases hd
 | false =>
  have hm:j4 (kS d) F=0:=by unfold j4;rw [if_neg (by rw [hd];simp),if_neg (by omega)]
  rw [hm,if_neg (by decide)];by_cases hl:0<(kS d).lost
  .rw [if_pos hl];refine ⟨f1,λG _=>f2 G,λh=>?_,.inr ⟨.inr rfl,f2 F⟩⟩;rw [f4,h.2.2] at hl;omega
  .rw [if_neg hl];refine ⟨λp hp=>f1 p (List.mem_filter.1 hp).1,λG hG=>?_,λh=>?_,.inl ⟨rfl,hd,?_⟩⟩
   .show ec (d.files G) (if G=F then _ else (kS d).files G);rw [if_neg hG];exact f2 G
   .rw [f3 h];exact ⟨h,rfl⟩
   .show (if F=F then _ else (kS d).files F)=_;rw [if_pos rfl,f5 hd]
theorem aOa{N s s' v v'}(nE:v'.length<=65536)(h:ez N s v)(hs':s'=if s=1 then 2 else 1):ez (dy N (dY s') v') s v/\∀ i,i<v'.length->(dy N (dY s') v')[dY s'+i]? = v'[i]? := by
 by_cases h0:v'=[]
 .rw [h0,RW];exact ⟨h,λi hi=>by cases hi⟩
 refine ⟨?_,λi hi=>?_⟩
 .rcases h with ⟨rfl,rfl,hz⟩|⟨h1,h2,h3,h4⟩
  .refine .inl ⟨rfl,rfl,?_⟩;rw [if_neg (by decide)] at hs';subst hs';rw [List.getD_eq_getElem?_getD,N9 h0 (by decide)];split
   .rw [<-List.getD_eq_getElem?_getD];exact hz
   .rfl
  .have hne:∀ i,i<5\/(dY s<=i/\i<dY s+v.length)->N[i]? ≠ none->(dy N (dY s') v')[i]? = N[i]? := by
    intro i hi hx;have hl:i<N.length:=by
     rcases Nat.lt_or_ge i N.length with h|h
     .exact h
     .exact absurd (List.getElem?_eq_none h) hx
    rcases h1 with rfl|rfl
    .rw [if_pos rfl] at hs';subst hs';rw [N9 h0 (by
      have e1:dY 1=64:=rfl;have e2:dY 2=131072:=rfl;omega),if_pos hl]
    .rw [if_neg (by decide)] at hs';subst hs';have e1:dY 1=64:=rfl;have e2:dY 2=131072:=rfl;rcases Nat.lt_or_ge i 64 with aJn|aJn
     .rw [N9 h0 (by omega),if_pos hl]
     .rw [RV h0 (by omega)]
   refine .inr ⟨h1,h2,λi hi=>?_,λi hi=>?_⟩
   .have e:=h3 i hi;rw [hne i (.inl hi) (by rw [e,List.getElem?_eq_getElem (by rw [vp];exact hi)];simp)];exact e
   .have e:=h4 i hi;rw [hne _ (.inr ⟨by omega,by omega⟩) (by rw [e,List.getElem?_eq_getElem hi];simp)];exact e
 .rw [NA h0 (by omega) (by omega),Nat.add_sub_cancel_left]
def a1M(k:Nat)(v:cz)(k':Nat)(v':cz):Nat->cz->Prop:=λs w=>(s=k/\w=v)\/(s=k'/\w=v')
structure a2A(d:b7)(c:pT)(s:cz)(slot':Nat)(r:b7 × pT × Int):Prop where
 w:fo r.1
 other:∀ G,G≠c.file->ec (d.files G) (r.1.files G)
 iu:gl d->gl r.1/\r.2.2=0
 file:r.2.1.file=c.file
 ok:r.2.2=0->r.2.1.slot=slot'/\r.2.1.value=s/\∃ X,r.1.files c.file=⟨X,X⟩/\ez X slot' s
 bad:r.2.2≠0->(r.2.2=9\/r.2.2=10)/\oh (r.1.files c.file) (a1M c.slot c.value slot' s)
theorem aA9{d c s slot'}(hF:0<=c.file/\c.file<16)(hw:fo d)(hs:s.length<=65536)(AP:slot'=if c.slot=1 then 2 else 1)(hN:ez (d.files c.file).now c.slot c.value)(hL:ez (d.files c.file).last c.slot c.value):a2A d c s slot' (vH d c s slot'):=by
 have Qe:slot'=1\/slot'=2:=by rw [AP];split<;>simp
 have hoff:0<=(dY slot':Int)/\(dY slot':Int)+s.length<=16777216:=by rcases Qe with rfl|rfl<;>exact ⟨by decide,by show (_:Int)+_<=_;have e1:dY 1=64:=rfl;have e2:dY 2=131072:=rfl;omega⟩
 obtain ⟨p1,p2⟩:=aOa hs hN AP;have hA:=a0P (d:=d) (F:=c.file) (a:=(dY slot':Int)) (s:=s) hF hoff.1 hoff.2 hw;unfold vH;obtain ⟨⟨d1,e1⟩,h1⟩:∃ x,ct d c.file (dY slot') s=x:=⟨_,rfl⟩;rw [h1] at hA ⊢;simp only at hA ⊢;rw [Int.toNat_natCast] at hA;obtain ⟨a1,a2,a3,_,a5⟩:=hA;by_cases fP:e1≠0
 .rw [if_pos fP];refine ⟨a1,a2,λh=>absurd (a3 h).2 fP,rfl,λh=>absurd h fP,λ_=>?_⟩;rcases a5 with ⟨h,_⟩|⟨h,h2⟩
  .exact absurd h fP
  .refine ⟨.inl h,?_⟩;rcases h2 with h2|h2
   .exact h2.rU (vl hN hL (.inl ⟨rfl,rfl⟩))
   .exact h2.rU (vl p1 hL (.inl ⟨rfl,rfl⟩))
 rw [if_neg fP];have fP:e1=0:=Decidable.not_not.1 fP;have KN:d1.files c.file=⟨dy (d.files c.file).now (dY slot') s,(d.files c.file).last⟩:=by
  rcases a5 with ⟨_,h⟩|⟨h,_⟩
  .exact h
  .rw [fP] at h;cases h
 have hB:=Fv (d:=d1) (F:=c.file) hF a1;obtain ⟨⟨d2,e2⟩,h2⟩:∃ x,bN d1 c.file=x:=⟨_,rfl⟩;rw [h2] at hB ⊢;simp only at hB ⊢;rw [KN] at hB;obtain ⟨c1,c2,c3,c4⟩:=hB;by_cases kT:e2≠0
 .rw [if_pos kT];refine ⟨c1,λG hG=>(a2 G hG).trans (c2 G hG),λh=>absurd (c3 (a3 h).1).2 kT,rfl,λh=>absurd h kT,λ_=>?_⟩;rcases c4 with ⟨h,_⟩|⟨h,h2⟩
  .exact absurd h kT
  .exact ⟨h,h2.rU (vl p1 hL (.inl ⟨rfl,rfl⟩))⟩
 rw [if_neg kT];have kT:e2=0:=Decidable.not_not.1 kT;have a2i:d2.files c.file=⟨dy (d.files c.file).now (dY slot') s,dy (d.files c.file).now (dY slot') s⟩:=by
  rcases c4 with ⟨_,_,h⟩|⟨h,_⟩
  .exact h
  .rw [kT] at h;omega
 obtain ⟨X,hX⟩:∃ X,dy (d.files c.file).now (dY slot') s=X:=⟨_,rfl⟩;rw [hX] at p1 p2 a2i;have hC:=a0P (d:=d2) (F:=c.file) (a:=0) (s:=eR slot' s.length) hF (Int.le_refl 0) (by rw [vp];decide) c1;obtain ⟨⟨d3,bI⟩,h3⟩:∃ x,ct d2 c.file 0 (eR slot' s.length)=x:=⟨_,rfl⟩;rw [h3] at hC ⊢;simp only at hC ⊢;rw [a2i] at hC;obtain ⟨g1,g2,g3,_,g5⟩:=hC;have a5O:oh ⟨dy X 0 (eR slot' s.length),X⟩ (a1M c.slot c.value slot' s):=aJf Qe hs p1 p2 rfl (.inl ⟨rfl,rfl⟩) (.inr ⟨rfl,rfl⟩)
 by_cases CD:bI≠0
 .rw [if_pos CD];refine ⟨g1,λG hG=>((a2 G hG).trans (c2 G hG)).trans (g2 G hG),λh=>absurd (g3 (c3 (a3 h).1).1).2 CD,rfl,λh=>absurd h CD,λ_=>?_⟩;rcases g5 with ⟨h,_⟩|⟨h,h2⟩
  .exact absurd h CD
  .refine ⟨.inl h,?_⟩;rcases h2 with h2|h2
   .exact h2.rU (vl p1 p1 (.inl ⟨rfl,rfl⟩))
   .exact h2.rU a5O
 rw [if_neg CD];have CD:bI=0:=Decidable.not_not.1 CD;have aGr:d3.files c.file=⟨dy X 0 (eR slot' s.length),X⟩:=by
  rcases g5 with ⟨_,h⟩|⟨h,_⟩
  .exact h
  .rw [CD] at h;cases h
 have hD:=Fv (d:=d3) (F:=c.file) hF g1;obtain ⟨⟨d4,bL⟩,h4⟩:∃ x,bN d3 c.file=x:=⟨_,rfl⟩;rw [h4] at hD ⊢;simp only at hD ⊢;rw [aGr] at hD;obtain ⟨k1,k2,b8,cQ⟩:=hD;refine ⟨k1,λG hG=>(((a2 G hG).trans (c2 G hG)).trans (g2 G hG)).trans (k2 G hG),λh=>b8 (g3 (c3 (a3 h).1).1).1,rfl,λh=>⟨rfl,rfl,dy X 0 (eR slot' s.length),?_,?_⟩,λh=>?_⟩
 .rcases cQ with ⟨_,_,h'⟩|⟨h',_⟩
  .exact h'
  .simp only at h;rw [h] at h';omega
 .have hne:eR slot' s.length≠[]:=by intro e;have:=congrArg List.length e;cases this
  refine .inr ⟨Qe,hs,λi hi=>?_,λi hi=>?_⟩
  .rw [NA hne (Nat.zero_le _) (by rw [vp];omega),Nat.sub_zero]
  .have hge:5<=dY slot':=by rcases Qe with rfl|rfl<;>decide
   rw [RV hne (by rw [vp];omega)];exact p2 i hi
 .rcases cQ with ⟨h',_⟩|⟨h',h2⟩
  .exact absurd h' h
  .exact ⟨h',h2.rU a5O⟩
theorem aAB{d c s}(hF:0<=c.file/\c.file<16)(hw:fo d)(hs:s.length<=65536)(hN:ez (d.files c.file).now c.slot c.value)(hL:ez (d.files c.file).last c.slot c.value):a2A d c s (if c.slot=1 then 2 else 1) (kE d c s):=by
 obtain ⟨k,hk⟩:∃ k:Nat,k=(if c.slot=1 then 2 else 1):=⟨_,rfl⟩;unfold kE;rw [<-hk,if_neg (by omega:¬ 65536<s.length)];split
 .obtain ⟨a1,a2,a3,a4⟩:=Fv (d:=d) (F:=c.file) hF hw;obtain ⟨⟨d1,e1⟩,h1⟩:∃ x,bN d c.file=x:=⟨_,rfl⟩;rw [h1] at a1 a2 a3 a4 ⊢;simp only at a1 a2 a3 a4 ⊢;by_cases he:e1≠0
  .rw [if_pos he];refine ⟨a1,a2,λh=>absurd (a3 h).2 he,rfl,λh=>absurd h he,λ_=>?_⟩;rcases a4 with ⟨h,_⟩|⟨h,h2⟩
   .exact absurd h he
   .exact ⟨h,h2.rU (vl hN hL (.inl ⟨rfl,rfl⟩))⟩
  .rw [if_neg he];have he:e1=0:=Decidable.not_not.1 he;have b:d1.files c.file=⟨(d.files c.file).now,(d.files c.file).now⟩:=by
    rcases a4 with ⟨_,_,h⟩|⟨h,_⟩
    .exact h
    .rw [he] at h;omega
   have h:=aA9 (d:=d1) (c:={ c with sure:=true }) (s:=s) (slot':=k) hF a1 hs hk (by show ez (d1.files c.file).now c.slot c.value;rw [b];exact hN) (by show ez (d1.files c.file).last c.slot c.value;rw [b];exact hN);exact ⟨h.w,λG hG=>(a2 G hG).trans (h.other G hG),λhh=>h.iu (a3 hh).1,h.file,h.ok,h.bad⟩
 .exact aA9 hF hw hs hk hN hL
def aK(l:List ByteArray):cz:=l.flatMap λs=>(n9 s).data.toList
def rS(b n:Nat):cz:=(iJ b).data.toList++(iJ n).data.toList
def nw(c:pT):Int × Int × Bool:=if c.slot=0 then (0,0,true) else ((lC (c.value,false)).1,(lC (lC (c.value,false)).2).1,tg (lC (lC (c.value,false)).2).2)
def mq:Nat->gH->Int->List ByteArray->List ByteArray × gH
 | 0,st,n,acc=>(acc,st)
 | k+1,st,n,acc=>if (acc.length:Int)<n then (if st.1.length<=(stepT st).2.1.length\/st.1=[] then (acc,(stepT st).2) else mq k (stepT st).2 n (acc++[(stepT st).1])) else (acc,st)
def yW(s:cz)(n:Int)(x:List ByteArray × gH):Option (List ByteArray):=if tg x.2=true/\(x.1.length:Int)=n/\aK x.1=s then some x.1 else none
def Ij(s:cz)(n:Int):Option (List ByteArray):=yW s n (mq (s.length+1) (s,false) n [])
structure jd where
 base:Int
 cell:pT
 list:List ByteArray
 bytes:Nat
 broken:Bool
def pM(d:b7)(j:jd)(bytes n:Nat):b7 × jd × Int:=((kE d j.cell (rS bytes n)).1,{ j with cell:=(kE d j.cell (rS bytes n)).2.1,broken:=decide ((kE d j.cell (rS bytes n)).2.2≠0) },(kE d j.cell (rS bytes n)).2.2)
def q8(d:b7)(j:jd)(l:List ByteArray):b7 × Int:=if (ct d j.base j.bytes (aK l)).2=0 then bN (ct d j.base j.bytes (aK l)).1 j.base else ct d j.base j.bytes (aK l)
def nk(j:jd)(list:List ByteArray)(bytes:Nat)(r:b7 × jd × Int):b7 × jd × Int:=if r.2.2≠0 then r else (r.1,{ r.2.1 with list:=list,bytes:=bytes },0)
def iG(d:b7)(j:jd)(l:List ByteArray):b7 × jd × Int :=
 if j.broken=true then (d,j,7) else if l=[] then (d,j,0) else if 1048576<j.bytes+(aK l).length then (d,j,6) else
 if (q8 d j l).2≠0 then ((q8 d j l).1,{ j with broken:=true },(q8 d j l).2) else
 nk j (j.list++l) (j.bytes+(aK l).length) (pM (q8 d j l).1 j (j.bytes+(aK l).length) (j.list.length+l.length))
def dm(d:b7)(j:jd)(n:Int):b7 × jd × Int :=
 if j.broken=true then (d,j,7) else if n<0\/(j.list.length:Int)<n then (d,j,1) else if n=(j.list.length:Int) then (d,j,0) else
 nk j (j.list.take n.toNat) (aK (j.list.take n.toNat)).length (pM d j (aK (j.list.take n.toNat)).length n.toNat)
def RF(d:b7)(base:Int)(c:pT):Option jd × Int :=
 if (nw c).2.2=false then (none,2) else if (cj d base 0 (nw c).1).2≠0 then (none,(cj d base 0 (nw c).1).2) else
 match Ij (cj d base 0 (nw c).1).1 (nw c).2.1 with
 | none=>(none,2)
 | some l=>if ((cj d base 0 (nw c).1).1.length:Int)≠(nw c).1 then (none,2) else (some ⟨base,c,l,(nw c).1.toNat,false⟩,0)
def Co(d:b7)(base:Int):Option jd × Int:=match qD d (base+1) with
 | (none,e)=>(none,e)
 | (some c,_)=>RF d base c
def ny(d:b7)(base:Int):b7 × Option jd × Int :=
 if base<0\/14<base then (d,none,1) else
 if (bN d base).2≠0 then ((bN d base).1,none,(bN d base).2) else
 if (bN (bN d base).1 (base+1)).2≠0 then ((bN (bN d base).1 (base+1)).1,none,(bN (bN d base).1 (base+1)).2) else
 ((bN (bN d base).1 (base+1)).1,Co (bN (bN d base).1 (base+1)).1 base)
theorem LG(x l):aK (x :: l)=(n9 x).data.toList++aK l:=by simp [aK]
theorem yY(a b):aK (a++b)=aK a++aK b:=List.flatMap_append
theorem aAt{x}(h:x.size<=9223372036854775807):2<=(n9 x).data.toList.length:=by
 rw [J9,List.length_append,List.length_cons,List.length_append,List.length_singleton];omega
theorem HJ{l}(h:∀ x∈l,x.size<=9223372036854775807):l.length*2<=(aK l).length:=by
 induction l with
 | nil=>simp [aK]
 | cons x l ih =>
  have h1:=ih λU hy=>h U (by simp [hy]);have h2:=aAt (h x (by simp));rw [LG,List.length_append,List.length_cons];omega
theorem yZ{l x}(hx:x∈l):x.size<=(aK l).length:=by
 induction l with
 | nil=>cases hx
 | cons U l ih =>
  rw [LG,List.length_append];rcases List.mem_cons.1 hx with rfl|hx
  .have:x.size<=(n9 x).data.toList.length:=by
    rw [J9,List.length_append,List.length_cons,List.length_append,qq];omega
   omega
  .have:=ih hx;omega
theorem a6n:∀ (k:Nat) (l acc:List ByteArray),(∀ x∈l,x.size<=9223372036854775807)->l.length<k->mq k (aK l,false) ((acc.length+l.length:Nat):Int) acc=(acc++l,([],false))
 | 0,l,acc,_,h=>by omega
 | k+1,[],acc,_,_=>by
  unfold mq;rw [if_neg (by rw [List.length_nil];omega),List.append_nil];rfl
 | k+1,x :: l,acc,hx,h=>by
  have h1:=hx x (by simp);have h2:=aAt h1;have e:stepT (aK (x :: l),false)=(x,(aK l,false)):=by rw [LG];exact aAu h1
  have ih:=a6n k l (acc++[x]) (λU hy=>hx U (by simp [hy])) (by rw [List.length_cons] at h;omega);have hl:(aK (x :: l)).length=(n9 x).data.toList.length+(aK l).length:=by rw [LG,List.length_append]
  unfold mq;rw [e,if_pos (by rw [List.length_cons];omega),if_neg (by
   simp only;intro h;rcases h with h|h
   .omega
   .rw [h,List.length_nil] at hl;omega)]
  simp only;rw [List.length_append,List.length_singleton] at ih;rw [show ((acc.length+(x :: l).length:Nat):Int)=((acc.length+1+l.length:Nat):Int) by rw [List.length_cons];omega,ih,μ];rfl
theorem aOz{l}(h:(aK l).length<=9223372036854775807):Ij (aK l) l.length=some l:=by
 have hx:∀ x∈l,x.size<=9223372036854775807:=λx hx=>Nat.le_trans (yZ hx) h;have hl:=HJ hx;have h1:=a6n ((aK l).length+1) l [] hx (by omega);rw [List.length_nil,Nat.zero_add,List.nil_append] at h1;unfold Ij;rw [h1];exact if_pos ⟨rfl,rfl,rfl⟩
theorem aNU{c b n}(hs:c.slot≠0)(hv:c.value=rS b n)(hb:b<=1099511627776)(hn:n<=1099511627776):nw c=((b:Int),(n:Int),true):=by
 have e1:lC (rS b n,false)=((b:Int),((iJ n).data.toList,false)):=XA (n:=b) (r:=(iJ n).data.toList) (bad:=false) (by omega);have e2:lC ((iJ n).data.toList,false)=((n:Int),([],false)):=by
  have h:=XA (n:=n) (r:=[]) (bad:=false) (by omega);rw [List.append_nil] at h;exact h
 unfold nw;rw [if_neg hs,hv,e1];simp only;rw [e2];rfl
theorem aJA{b n}(hb:b<=1099511627776)(hn:n<=1099511627776):(rS b n).length<=100:=by
 have h1:=qj (n:=(b:Int)) (by unfold κ;omega);have h2:=qj (n:=(n:Int)) (by unfold κ;omega);unfold rS;rw [List.length_append,qq,qq];omega
def a0u(s:Nat)(v:cz)(l:List ByteArray):Prop:=(s=0/\l=[])\/(s≠0/\v=rS (aK l).length l.length)
structure Live(d:b7)(j:jd):Prop where
 base:0<=j.base/\j.base<=14
 file:j.cell.file=j.base+1
 bytes:j.bytes=(aK j.list).length
 most:(aK j.list).length<=1048576
 now:ez (d.files (j.base+1)).now j.cell.slot j.cell.value
 last:ez (d.files (j.base+1)).last j.cell.slot j.cell.value
 enc:a0u j.cell.slot j.cell.value j.list
 log:Pre (aK j.list) (d.files j.base)
def pU(d:b7)(b:Int)(P:List ByteArray->Prop):Prop:=oh (d.files (b+1)) λs v=>∃ l,a0u s v l/\Pre (aK l) (d.files b)/\(aK l).length<=1048576/\P l
theorem Live.rU{d j}(h:Live d j){P}(hP:P j.list):pU d j.base P:=vl h.now h.last ⟨j.list,h.enc,h.log,h.most,hP⟩
theorem pU.mono{d b P Q}(h:pU d b P)(hPQ:∀ l,P l->Q l):pU d b Q:=oh.mono h λs v ⟨l,h1,h2,h3,h4⟩=>⟨l,h1,h2,h3,hPQ l h4⟩
theorem pU.ev{d d' b P}(h:pU d b P)(h1:ec (d.files (b+1)) (d'.files (b+1)))(h2:ec (d.files b) (d'.files b)):pU d' b P :=
 (h1.rU h).mono λs v ⟨l,e1,e2,bI,bL⟩=>⟨l,e1,h2.pre e2,bI,bL⟩
theorem Live.frame{d d' j}(h:Live d j)(hf:d'.files=d.files):Live d' j:=⟨h.base,h.file,h.bytes,h.most,by rw [hf];exact h.now,by rw [hf];exact h.last,h.enc,by rw [hf];exact h.log⟩
theorem aNJ(b):pU mB b λl=>l=[]:=vl (s:=0) (v:=[]) (.inl ⟨rfl,rfl,rfl⟩) (.inl ⟨rfl,rfl,rfl⟩) ⟨[],.inl ⟨rfl,rfl⟩,(show Pre (aK []) (mB.files b) from λi x h=>by simp [aK] at h),by decide,rfl⟩
theorem aOK{B f}(h:Pre B f):f.now.take B.length=B:=aAo rfl λi hi=>by
 rw [List.getElem?_eq_getElem hi];exact (h i _ (List.getElem?_eq_getElem hi)).1
structure aFU(d:b7)(b:Int)(P:List ByteArray->Prop)(r:b7 × Option jd × Int):Prop where
 w:fo r.1
 other:∀ G,ec (d.files G) (r.1.files G)\/(G=b\/G=b+1)
 iu:gl d->gl r.1/\r.2.2=0
 or:(∃ j,r.2.1=some j/\r.2.2=0/\Live r.1 j/\P j.list/\j.base=b/\j.broken=false)\/(r.2.1=none/\(r.2.2=9\/r.2.2=10)/\pU r.1 b P)
theorem XX{d b P}(hb:0<=b/\b<=14)(hw:fo d)(h:pU d b P):aFU d b P (ny d b):=by
 have oN:0<=b/\b<16:=by omega
 have x7:0<=b+1/\b+1<16:=by omega
 unfold ny;rw [if_neg (by omega)];obtain ⟨a1,a2,a3,a4⟩:=Fv (d:=d) (F:=b) oN hw;obtain ⟨⟨d1,e1⟩,h1⟩:∃ x,bN d b=x:=⟨_,rfl⟩;rw [h1] at a1 a2 a3 a4 ⊢;simp only at a1 a2 a3 a4 ⊢;by_cases fP:e1≠0
 .rw [if_pos fP];rcases a4 with ⟨h',_⟩|⟨h',h2⟩
  .exact absurd h' fP
  .refine ⟨a1,λG=>?_,λh=>absurd (a3 h).2 fP,.inr ⟨rfl,h',h.ev (a2 _ (by omega)) h2⟩⟩;by_cases hG:G=b
   .exact .inr (.inl hG)
   .exact .inl (a2 G hG)
 rw [if_neg fP];have fP:e1=0:=Decidable.not_not.1 fP;have f1:d1.files b=⟨(d.files b).now,(d.files b).now⟩:=by
  rcases a4 with ⟨_,_,h⟩|⟨h,_⟩
  .exact h
  .rw [fP] at h;omega
 have j1:pU d1 b P:=((a2 (b+1) (by omega)).rU h).mono λs v ⟨l,g1,g2,g3,g4⟩=>⟨l,g1,λi x hx=>by rw [f1];exact ⟨(g2 i x hx).1,(g2 i x hx).1⟩,g3,g4⟩;obtain ⟨c1,c2,c3,c4⟩:=Fv (d:=d1) (F:=b+1) x7 a1;obtain ⟨⟨d2,e2⟩,h2⟩:∃ x,bN d1 (b+1)=x:=⟨_,rfl⟩;rw [h2] at c1 c2 c3 c4 ⊢;simp only at c1 c2 c3 c4 ⊢;have pN:∀ G,ec (d.files G) (d2.files G)\/(G=b\/G=b+1):=λG=>by
  by_cases hG:G=b
  .exact .inr (.inl hG)
  .by_cases a4r:G=b+1
   .exact .inr (.inr a4r)
   .exact .inl ((a2 G hG).trans (c2 G a4r))
 by_cases kT:e2≠0
 .rw [if_pos kT];rcases c4 with ⟨h',_⟩|⟨h',h2⟩
  .exact absurd h' kT
  .exact ⟨c1,pN,λh=>absurd (c3 (a3 h).1).2 kT,.inr ⟨rfl,h',j1.ev h2 (c2 _ (by omega))⟩⟩
 rw [if_neg kT];have kT:e2=0:=Decidable.not_not.1 kT;obtain ⟨hdn,f2⟩:d2.down=false/\d2.files (b+1)=⟨(d1.files (b+1)).now,(d1.files (b+1)).now⟩:=by
  rcases c4 with ⟨_,h1,h2⟩|⟨h,_⟩
  .exact ⟨h1,h2⟩
  .rw [kT] at h;omega
 obtain ⟨⟨s,v,k1,l,k2,b8,cQ,gB⟩,_⟩:=j1;have kb:=c2 b (by omega);have b8:=kb.pre b8;have jH:ez (d2.files (b+1)).now s v:=by rw [f2];exact k1
 have jI:ez (d2.files (b+1)).last s v:=by rw [f2];exact k1
 have ho:=a7d hdn x7 jH;have mG:l.length<=(aK l).length:=by
  have:=HJ (l:=l) λx hx=>Nat.le_trans (yZ hx) (by omega);omega
 have hn:nw ⟨b+1,s,v,false⟩=(((aK l).length:Int),(l.length:Int),true):=by
  rcases k2 with ⟨hs,hl⟩|⟨hs,hv⟩
  .subst hl;unfold nw;rw [if_pos hs];rfl
  .exact aNU hs hv (by omega) (by omega)
 have hr:cj d2 b 0 ((aK l).length:Nat)=(aK l,0):=by
  rw [YC hdn oN (Int.le_refl 0) (by omega)];simp only [Int.toNat_natCast];rw [show (0:Int).toNat=0 from rfl,List.drop_zero,aOK b8]
 have hj:Co d2 b=(some ⟨b,⟨b+1,s,v,false⟩,l,(aK l).length,false⟩,0):=by
  unfold Co;rw [ho];simp only;unfold RF;rw [hn];simp only;rw [hr];simp only;rw [if_neg (by simp),if_neg (by simp),aOz (by omega)];simp only;rw [if_neg (by simp)];rfl
 rw [hj];exact ⟨c1,pN,λh=>⟨(c3 (a3 h).1).1,rfl⟩,.inl ⟨_,rfl,rfl,⟨hb,rfl,rfl,cQ,jH,jI,k2,b8⟩,gB,rfl,rfl⟩⟩
structure Dm(d:b7)(j:jd)(want:List ByteArray)(r:b7 × jd × Int):Prop where
 w:fo r.1
 other:∀ G,ec (d.files G) (r.1.files G)\/(G=j.base\/G=j.base+1)
 iu:gl d->gl r.1/\r.2.2=0
 base:r.2.1.base=j.base
 or:(r.2.2=0/\r.2.1.broken=false/\r.2.1.list=want/\Live r.1 r.2.1)\/((r.2.2=9\/r.2.2=10)/\r.2.1.broken=true/\r.2.1.list=j.list/\pU r.1 j.base λl=>l=j.list\/l=want)
theorem a7U{d j want}(h:Live d j)(hw:fo d)(gw:Pre (aK want) (d.files j.base))(QY:(aK want).length<=1048576):
  Dm d j want (nk j want (aK want).length (pM d j (aK want).length want.length)):=by
 have VL:=h.base;have hwl:want.length<=(aK want).length:=by
  have:=HJ (l:=want) λx hx=>Nat.le_trans (yZ hx) (by omega);omega
 have hS:=aAB (d:=d) (c:=j.cell) (s:=rS (aK want).length want.length) (by rw [h.file];omega) hw (by have:=aJA (b:=(aK want).length) (n:=want.length) (by omega) (by omega);omega) (by rw [h.file];exact h.now) (by rw [h.file];exact h.last);obtain ⟨⟨d1,c1,e1⟩,hx⟩:∃ x,kE d j.cell (rS (aK want).length want.length)=x:=⟨_,rfl⟩;have hn:pM d j (aK want).length want.length=(d1,{ j with cell:=c1,broken:=decide (e1≠0) },e1):=by unfold pM;rw [hx]
 rw [hx] at hS;rw [hn];have xB:c1.file=j.base+1:=by have:=hS.file;rw [h.file] at this;exact this
 have pN:∀ G,ec (d.files G) (d1.files G)\/(G=j.base\/G=j.base+1):=λG=>by
  by_cases hG:G=j.base+1
  .exact .inr (.inr hG)
  .exact .inl (hS.other G (by rw [h.file];exact hG))
 have Uk:ec (d.files j.base) (d1.files j.base):=hS.other _ (by rw [h.file];omega);have AP:((if j.cell.slot=1 then 2 else 1):Nat)≠0:=by split<;>decide
 unfold nk;simp only;by_cases he:e1≠0
 .rw [if_pos he];obtain ⟨h1,h2⟩:=hS.bad he;refine ⟨hS.w,pN,λhh=>absurd (hS.iu hh).2 he,rfl,.inr ⟨h1,by simpa using he,rfl,?_⟩⟩;rw [h.file] at h2;refine oh.mono h2 λs v hv=>?_;rcases hv with ⟨rfl,rfl⟩|⟨rfl,rfl⟩
  .exact ⟨j.list,h.enc,Uk.pre h.log,h.most,.inl rfl⟩
  .exact ⟨want,.inr ⟨AP,rfl⟩,Uk.pre gw,QY,.inr rfl⟩
 .rw [if_neg he];have he:e1=0:=Decidable.not_not.1 he;obtain ⟨h1,h2,X,h3,h4⟩:=hS.ok he;have h1:c1.slot=if j.cell.slot=1 then 2 else 1:=h1
  have h2:c1.value=rS (aK want).length want.length:=h2;rw [h.file] at h3;rw [<-h1,<-h2] at h4;refine ⟨hS.w,pN,λhh=>⟨(hS.iu hh).1,rfl⟩,rfl,.inl ⟨rfl,by rw [he];rfl,rfl,⟨VL,xB,rfl,QY,?_,?_,.inr ⟨by rw [h1];exact AP,h2⟩,Uk.pre gw⟩⟩⟩
  .show ez (d1.files (j.base+1)).now c1.slot c1.value;rw [h3];exact h4
  .show ez (d1.files (j.base+1)).last c1.slot c1.value;rw [h3];exact h4
theorem Dm.from{d d' j want r}(h:Dm d' j want r)(ho:∀ G,G≠j.base->ec (d.files G) (d'.files G))(hf:gl d->gl d'):Dm d j want r :=
 ⟨h.w,λG=>by
  by_cases hG:G=j.base
  .exact .inr (.inl hG)
  .rcases h.other G with h1|h1
   .exact .inl ((ho G hG).trans h1)
   .exact .inr h1,λhh=>h.iu (hf hh),h.base,h.or⟩
theorem aGa{d j l}(h:Live d j)(hb:j.broken=false)(hw:fo d)(hl:l≠[])(QY:j.bytes+(aK l).length<=1048576):Dm d j (j.list++l) (iG d j l):=by
 have VL:=h.base;have hby:=h.bytes;have hF:0<=j.base/\j.base<16:=by omega
 unfold iG;rw [if_neg (by rw [hb];simp),if_neg hl,if_neg (by omega)];have hfa:(aK (j.list++l)).length=j.bytes+(aK l).length:=by rw [yY,List.length_append,hby]
 obtain ⟨a1,a2,a3,_,a5⟩:=a0P (d:=d) (F:=j.base) (a:=(j.bytes:Int)) (s:=aK l) hF (by omega) (by omega) hw;rw [Int.toNat_natCast] at a5;unfold q8;obtain ⟨⟨d1,e1⟩,h1⟩:∃ x,ct d j.base j.bytes (aK l)=x:=⟨_,rfl⟩;rw [h1] at a1 a2 a3 a5 ⊢;simp only at a1 a2 a3 a5 ⊢;have Wt:∀ X:cz,(∀ i x,(aK j.list)[i]? = some x->X[i]? = some x)->∀ i x,(aK j.list)[i]? = some x->(dy X j.bytes (aK l))[i]? = some x:=λX hX i x hx=>by
  have hi:i<j.bytes:=by rw [hby];exact (List.getElem?_eq_some_iff.1 hx).1
  have h2:=hX i x hx;have h3:i<X.length:=(List.getElem?_eq_some_iff.1 h2).1;by_cases h0:aK l=[]
  .rw [h0,RW];exact h2
  .rw [N9 h0 hi,if_pos h3];exact h2
 have pw:Pre (aK j.list) ⟨dy (d.files j.base).now j.bytes (aK l),(d.files j.base).last⟩:=λi x hx=>⟨Wt _ (λi x hx=>(h.log i x hx).1) i x hx,(h.log i x hx).2⟩;have a3Z:∀ {d':b7},ec (d.files (j.base+1)) (d'.files (j.base+1))->Pre (aK j.list) (d'.files j.base)->pU d' j.base λx=>x=j.list\/x=j.list++l:=λhev hp =>
  (hev.rU (vl h.now h.last (P:=λs v=>s=j.cell.slot/\v=j.cell.value) ⟨rfl,rfl⟩)).mono λs v hv=>⟨j.list,by rw [hv.1,hv.2];exact h.enc,hp,h.most,.inl rfl⟩
 by_cases fP:e1=0
 .rw [if_pos fP];have f1:d1.files j.base=⟨dy (d.files j.base).now j.bytes (aK l),(d.files j.base).last⟩:=by
   rcases a5 with ⟨_,h⟩|⟨h,_⟩
   .exact h
   .rw [fP] at h;cases h
  obtain ⟨c1,c2,c3,c4⟩:=Fv (d:=d1) (F:=j.base) hF a1;obtain ⟨⟨d2,e2⟩,h2⟩:∃ x,bN d1 j.base=x:=⟨_,rfl⟩;rw [h2] at c1 c2 c3 c4 ⊢;simp only at c1 c2 c3 c4 ⊢;rw [f1] at c4;by_cases kT:e2≠0
  .rw [if_pos kT];rcases c4 with ⟨h',_⟩|⟨h',hev⟩
   .exact absurd h' kT
   .refine ⟨c1,λG=>?_,λhh=>absurd (c3 (a3 hh).1).2 kT,rfl,.inr ⟨h',rfl,rfl,a3Z ((a2 _ (by omega)).trans (c2 _ (by omega))) (hev.pre pw)⟩⟩;by_cases hG:G=j.base
    .exact .inr (.inl hG)
    .exact .inl ((a2 G hG).trans (c2 G hG))
  rw [if_neg kT];have kT:e2=0:=Decidable.not_not.1 kT;have f2:d2.files j.base=⟨dy (d.files j.base).now j.bytes (aK l),dy (d.files j.base).now j.bytes (aK l)⟩:=by
   rcases c4 with ⟨_,_,h⟩|⟨h,_⟩
   .exact h
   .rw [kT] at h;omega
  have aJJ:ec (d.files (j.base+1)) (d2.files (j.base+1)):=(a2 _ (by omega)).trans (c2 _ (by omega));have q2:=h.now;have both:ez (d2.files (j.base+1)).now j.cell.slot j.cell.value/\ez (d2.files (j.base+1)).last j.cell.slot j.cell.value:=by
   have:∀ {f g:ko},ec f g->ez f.now j.cell.slot j.cell.value->ez f.last j.cell.slot j.cell.value->ez g.now j.cell.slot j.cell.value/\ez g.last j.cell.slot j.cell.value:=λhev h1 h2=>by
    induction hev with
    | refl=>exact ⟨h1,h2⟩
    | step _ hs ih=>exact ⟨MS ih.1 ih.2 hs,MS ih.1 ih.2 hs⟩
   exact this aJJ h.now h.last
  have lg:Pre (aK (j.list++l)) (d2.files j.base):=λi x hx=>by
   rw [f2];have key:(dy (d.files j.base).now j.bytes (aK l))[i]? = some x:=by
    rw [yY] at hx;by_cases hi:i<(aK j.list).length
    .rw [List.getElem?_append_left hi] at hx;exact Wt _ (λi x hx=>(h.log i x hx).1) i x hx
    .rw [List.getElem?_append_right (by omega)] at hx;have hi2:i - (aK j.list).length<(aK l).length:=(List.getElem?_eq_some_iff.1 hx).1;have h0:aK l≠[]:=λe=>by rw [e] at hi2;cases hi2
     rw [NA h0 (by omega) (by omega),hby];exact hx
   exact ⟨key,key⟩
  have aMo:Live d2 j:=⟨h.base,h.file,h.bytes,h.most,both.1,both.2,h.enc,λi x hx=>by
   rw [f2];have:=Wt _ (λi x hx=>(h.log i x hx).1) i x hx;exact ⟨this,this⟩⟩
  have hN:=a7U aMo c1 lg (by omega);rw [hfa,List.length_append] at hN;exact hN.from (λG hG=>(a2 G hG).trans (c2 G hG)) λhh=>(c3 (a3 hh).1).1
 .rw [if_neg fP];simp only;rw [if_pos fP];rcases a5 with ⟨h',_⟩|⟨h',hev⟩
  .exact absurd h' fP
  .refine ⟨a1,λG=>?_,λhh=>absurd (a3 hh).2 fP,rfl,.inr ⟨.inl h',rfl,rfl,a3Z (a2 _ (by omega)) ?_⟩⟩
   .by_cases hG:G=j.base
    .exact .inr (.inl hG)
    .exact .inl (a2 G hG)
   .rcases hev with hev|hev
    .exact hev.pre h.log
    .exact hev.pre pw
theorem aOJ{A B f}(h:Pre (A++B) f):Pre A f:=λi x hx=>h i x (by rw [List.getElem?_append_left (List.getElem?_eq_some_iff.1 hx).1];exact hx)
theorem aHa{d j n}(h:Live d j)(hb:j.broken=false)(hw:fo d)(hn:n<j.list.length):Dm d j (j.list.take n) (dm d j n):=by
 have e:aK j.list=aK (j.list.take n)++aK (j.list.drop n):=by rw [<-yY,List.take_append_drop]
 have hm:=h.most;rw [e,List.length_append] at hm;have hp:Pre (aK (j.list.take n)) (d.files j.base):=aOJ (B:=aK (j.list.drop n)) (by rw [<-e];exact h.log);unfold dm;rw [if_neg (by rw [hb];simp),if_neg (by omega),if_neg (by omega),Int.toNat_natCast];have hN:=a7U h hw hp (by omega);rw [List.length_take,Nat.min_eq_left (by omega)] at hN;exact hN
structure rI where
 src:Int
 to:Int
 body:ByteArray
structure pW where
 aI:List rI
 split:Int
def mh(a:Int):Bool:=decide (0<=a)&&decide (a<16)
def ET(s a:Int):Int:=s / 2 ^ a.toNat % 2
def pz(s a b:Int):Bool:=mh a&&(mh b&&decide (ET s a=ET s b))
def o7(n:pW)(a b:Int)(body:ByteArray):pW × Int :=
 if (mh a&&(mh b&&decide (a≠b)))=false then (n,1) else if pz n.split a b=false then (n,10) else if 500<=n.aI.length then (n,6) else ({ n with aI:=n.aI++[⟨a,b,body⟩] },0)
def takeN(n:pW)(i:Nat):pW:={ n with aI:=n.aI.eraseIdx i }
def ug(t v:Int):cz:=(iJ t).data.toList++(iJ v).data.toList
def aP2:aS:=⟨0,.empty⟩
def gV(s:ByteArray):aS:=(D2 s.data.toList).getD aP2
def dU(x:aS):ByteArray:=bs (lD x)
def jy(c:pT):Int × Int:=if c.slot=0 then (0,-1) else ((eA (c.value,false)).1,(eA (eA (c.value,false)).2).1)
structure kz where
 j:jd
 c:pT
 r:aG
structure rG where
 d:b7
 up:Option kz
def Fa(id:Nat)(d:b7)(j:jd):b7 × Option kz × Int:=match qD d 2 with
 | (none,e)=>(d,none,e)
 | (some c,_)=>(d,some ⟨j,c,fR id (jy c).1 (jy c).2 (j.list.map gV)⟩,0)
def FZ(id:Nat)(d:b7):b7 × Option kz × Int:=match ny d 0 with
 | (d1,none,e)=>(d1,none,e)
 | (d1,some j,_)=>Fa id d1 j
def bM(id:Nat)(d:b7):b7 × Option kz × Int :=
 if (bN d 2).2≠0 then ((bN d 2).1,none,(bN d 2).2) else FZ id (bN d 2).1
def lW(d:b7)(u:kz)(o:fN):b7 × pT × Int:=if o.save=true then kE d u.c (ug o.term o.ρ) else (d,u.c,0)
def nK(d:b7)(u:kz)(o:fN):b7 × jd × Int :=
 if 0<o.src then
  let b:=dm d u.j (min (o.src - 1) (u.j.list.length:Int))
  if b.2.2≠0 then b else iG b.1 b.2.1 (o.ζ.map dU)
 else (d,u.j,0)
def ck(d:b7)(u:kz)(o:fN):b7 × kz × Int :=
 let a:=lW d u o
 if a.2.2≠0 then (a.1,{ u with c:=a.2.1 },a.2.2) else
 let b:=nK a.1 u o
 (b.1,{ u with c:=a.2.1,j:=b.2.1 },b.2.2)
structure aa where
 mem:Nat->rG
 aD:pW
 aQ:List ByteArray
def gZ(G:aa)(i:Nat):aa:=match (G.mem i).up with
 | none=>G
 | some u=>if G.aQ.length<u.r.υ then { G with aQ:=(u.r.log.take u.r.υ).map aS.data } else G
def ek(G:aa):aa:=gZ (gZ (gZ G 0) 1) 2
def ay(G:aa)(i:Nat)(m:rG):aa:={ G with mem:=put G.mem i m }
def n8(id:Nat)(n:pW)(l:List aH):pW:=l.foldl (λn m=>(o7 n id m.to (bs (j5 m))).1) n
def mA(G:aa)(i:Nat)(u:kz)(x:aG × fN):aa × Int :=
 let s:=ck (G.mem i).d { u with r:=x.1 } x.2
 if s.2.2=0 then
  let av:=ay G i ⟨s.1,some s.2.1⟩
  (ek { av with aD:=n8 i av.aD x.2.send },0)
 else (ek (ay G i ⟨s.1,none⟩),s.2.2)
def mN(G:aa)(id:Int):Int:=if id<0\/3<=id then 1 else if (G.mem id.toNat).up.isNone=true then 9 else 0
def qF(G:aa)(id:Int)(f:aG->aG × fN):aa × Int :=
 if id<0\/3<=id then (G,1) else match (G.mem id.toNat).up with
 | none=>(G,9)
 | some u=>mA G id.toNat u (f u.r)
def r9(G:aa)(id:Int):aa × Int:=qF G id cr
def iL(G:aa)(id:Int)(data:ByteArray):aa × Int × Int :=
 if id<0\/3<=id then (G,0,1) else match (G.mem id.toNat).up with
 | none=>(G,0,9)
 | some u =>
  let p:=aq u.r data
  if p.2.2.1≠0 then (G,0,p.2.2.1) else
  let x:=mA G id.toNat u (p.1,p.2.2.2)
  if x.2≠0 then (x.1,0,x.2) else (x.1,p.2.1,0)
def me(G:aa)(i:Int):aa × Int :=
 if i<0 then (G,4) else match G.aD.aI[i.toNat]? with
 | none=>(G,4)
 | some p =>
  let av:={ G with aD:=takeN G.aD i.toNat }
  if pz G.aD.split p.src p.to=false then (av,10) else qF av p.to λr=>aU r ((sB p.body.data.toList).getD Ak)
def qa(G:aa)(i:Int):aa × Int:=if i<0\/(G.aD.aI.length:Int)<=i then (G,4) else ({ G with aD:=takeN G.aD i.toNat },0)
def qZ(G:aa)(i:Int):aa × Int :=
 if i<0 then (G,4) else match G.aD.aI[i.toNat]? with
 | none=>(G,4)
 | some p=>if 500<=G.aD.aI.length then (G,6) else ({ G with aD:={ G.aD with aI:=G.aD.aI++[p] } },0)
def J5(G:aa)(mask:Int):aa:={ G with aD:={ G.aD with split:=mask % 65536 } }
def mj(G:aa):aa:={ G with aD:={ G.aD with split:=0 } }
def uV(G:aa)(id:Int)(keep:List Int):aa × Int:=if id<0\/3<=id then (G,1) else (ek (ay G id.toNat ⟨dj (G.mem id.toNat).d keep,none⟩),0)
def nQ(G:aa)(id:Int):aa × Int :=
 if id<0\/3<=id then (G,1) else match (G.mem id.toNat).up with
 | some _=>(ek G,7)
 | none =>
  let r:=bM id.toNat (dz (G.mem id.toNat).d)
  (ek (ay G id.toNat ⟨r.1,r.2.1⟩),r.2.2)
def j0(G:aa)(id n:Int):aa × Int:=if id<0\/3<=id then (G,1) else (ek (ay G id.toNat { G.mem id.toNat with d:=k5 (G.mem id.toNat).d n }),0)
def qU(G:aa)(id n:Int)(keep:List Int):aa × Int:=if id<0\/3<=id then (G,1) else (ek (ay G id.toNat { G.mem id.toNat with d:=jR (G.mem id.toNat).d n keep }),0)
def rQ:Nat->aa->aa × Nat
 | 0,G=>(G,0)
 | k+1,G=>if G.aD.aI=[] then (G,0) else
  let x:=rQ k (me G 0).1
  (x.1,x.2+1)
def eJ(G:aa)(id most:Int):aa × Nat:=rQ most.toNat (r9 G id).1
def D8(G:aa)(id:Int):Int:=if id<0\/3<=id then -1 else match (G.mem id.toNat).up with
 | none => -1
 | some u=>u.r.role
def DG(G:aa)(id:Int):Int:=if id<0\/3<=id then 0 else match (G.mem id.toNat).up with
 | none=>0
 | some u=>u.r.term
def a6m(G:aa)(id:Int):List aS:=if id<0\/3<=id then [] else match (G.mem id.toNat).up with
 | none=>[]
 | some u=>u.r.log
def yR(d:b7):b7:=dz (dj (jR (k5 d 0) 0 []) [])
def tq(d:b7):List aS:=match (ny (yR d) 0).2.1 with
 | none=>[]
 | some j=>j.list.map gV
def DF(G:aa)(id:Int):List aS:=if id<0\/3<=id then [] else tq (G.mem id.toNat).d
def lT(i:Nat):rG:=⟨(bM i mB).1,(bM i mB).2.1⟩
def iU:aa:=⟨lT,⟨[],0⟩,[]⟩
end Go.Proofs.YtcmgeboolmmdkaaGreatDoor
end

section
namespace Go.Vc
structure a1I where
 key:Int × ByteArray
 val:Int
 born:Nat
abbrev Qw(k:Int × ByteArray):Value:=.agg #[.int .i64 k.1,.string k.2]
def a1I.m(e:a1I):MapEntry:=⟨Qw e.key,.int .i64 e.val,e.born⟩
structure aF3(P:Program)(t k e:TypeId):Prop where
 map:P.underlying t=some (.map k e)
 str:∃ fs,P.underlying k=some (.struct fs)
 wj:∀ b x w,(Instr.checkKey b 10000 k (Qw x)).run P w=.ok () w
 eq:∀ x U w,(Op.equal k (Qw x) (Qw U)).run P w=.ok (decide (x=U)) w
 zero:∀ w,(zeroValue e).run P w=.ok (.int .i64 0) w
section
variable {P:Program}{t k e:TypeId}(T:aF3 P t k e)
include T
omit T
theorem yw{α β:Type}{f:α->β}:∀ {l:List α},l.Pairwise (λa b=>f a≠f b)->∀ {a b:α},a∈l->b∈l->f a=f b->a=b
 | [],_,_,_,ha,_,_=>by cases ha
 | x :: l,h,a,b,ha,hb,e=>by
  obtain ⟨h1,h2⟩:=List.pairwise_cons.1 h;rcases List.mem_cons.1 ha with ea|ha
  .rcases List.mem_cons.1 hb with eb|hb
   .rw [ea,eb]
   .exact absurd (by rw [<-ea];exact e) (h1 b hb)
  .rcases List.mem_cons.1 hb with eb|hb
   .exact absurd (by rw [<-eb];exact e.symm) (h1 a ha)
   .exact yw h2 ha hb e
theorem a4H{α:Type}{p}:∀ {l:List α} {a:α},a∈l->p a=true->(∀ c∈l,p c=true->c=a)->∃ n,l.findIdx? p=some n/\l[n]? = some a
 | [],_,h,_,_=>by cases h
 | x :: l,a,h,hp,hu=>by
  rw [List.findIdx?_cons];by_cases hx:p x=true
  .rw [if_pos hx];exact ⟨0,rfl,by rw [hu x (by simp) hx];rfl⟩
  .rw [if_neg hx];rcases List.mem_cons.1 h with rfl|h
   .exact absurd hp hx
   .obtain ⟨n,h1,h2⟩:=a4H h hp λc hc=>hu c (by simp [hc]);exact ⟨n+1,by rw [h1];rfl,by simpa using h2⟩
include T
end
section
variable {P:Program}{W w:World}{Q R G:List Own}{Φ Ψ:θ}{f:FuncId}{args:Array Value}
end
variable {bY eW:Type}[DecidableEq bY]{kv:bY->Value}{bH:eW->Value}{z:eW}
structure aj(bY eW:Type) where
 key:bY
 val:eW
 born:Nat
def aj.m(kv:bY->Value)(bH:eW->Value)(e:aj bY eW):MapEntry:=⟨kv e.key,bH e.val,e.born⟩
def aZ(kv:bY->Value)(bH:eW->Value)(es:List (aj bY eW))(clock:Nat):Obj:=.map (es.map (aj.m kv bH)).toArray clock
def dO(z:eW):List (aj bY eW)->bY->eW
 | [],_=>z
 | e :: es,k=>if k=e.key then e.val else dO z es k
def rT(bH:eW->Value):List (aj bY eW)->bY->Nat->Option (Nat × Value)
 | [],_,_=>none
 | e :: es,k,i=>if k=e.key then some (i,bH e.val) else rT bH es k (i+1)
structure om(es:List (aj bY eW))(clock:Nat):Prop where
 keys:es.Pairwise λa b=>a.key≠b.key
 p4:es.Pairwise λa b=>a.born≠b.born
 lt:∀ e∈es,e.born<clock
structure zX(P:Program)(t k e:TypeId)(kv:bY->Value)(bH:eW->Value)(z:eW):Prop where
 map:P.underlying t=some (.map k e)
 find:∀ (x:bY) (es:List (aj bY eW)) w,(Instr.findKey k (kv x) (es.map (aj.m kv bH))).run P w=.ok (rT bH es x 0) w
 wj:∀ b x w,(Instr.checkKey b 10000 k (kv x)).run P w=.ok () w
 stays:∀ x w,(Instr.keyThatStays (kv x) (kv x)).run P w=.ok (kv x) w
 zero:∀ w,(zeroValue e).run P w=.ok (bH z) w
theorem HG:∀ {es:List (aj bY eW)} {k:bY} {i:Nat},rT bH es k i=none->∀ e∈es,e.key≠k
 | [],_,_,_,e,he=>by cases he
 | x :: es,k,i,h,e,he=>by
  unfold rT at h;split at h
  .cases h
  .rename_i hk;rcases List.mem_cons.1 he with rfl|he
   .exact λe=>hk e.symm
   .exact HG h e he
theorem C7:∀ {es:List (aj bY eW)} {k:bY},(∀ e∈es,e.key≠k)->dO z es k=z
 | [],_,_=>rfl
 | x :: es,k,h=>by
  unfold dO;rw [if_neg λe=>h x (by simp) e.symm];exact C7 λe he=>h e (by simp [he])
theorem HH:∀ {es:List (aj bY eW)} {k:bY} {i j:Nat} {v:Value},rT bH es k i=some (j,v)->∃ n e,j=i+n/\es[n]? = some e/\e.key=k/\v=bH e.val/\dO z es k=e.val
 | [],_,_,_,_,h=>by cases h
 | x :: es,k,i,j,v,h=>by
  unfold rT at h;split at h
  .rename_i hk;cases h;exact ⟨0,x,rfl,rfl,hk.symm,rfl,by unfold dO;rw [if_pos hk]⟩
  .rename_i hk;obtain ⟨n,e,h1,h2,h3,h4,h5⟩:=HH h;exact ⟨n+1,e,by omega,by simpa using h2,h3,h4,by unfold dO;rw [if_neg hk];exact h5⟩
section
variable {P:Program}{t k e:TypeId}(T:zX P t k e kv bH z)
include T
theorem NP{w b es clock}(hb:w.heap[b]? = some (aZ kv bH es clock))(x):
  Sem.run P (Instr.lookup t (.map (some b)) (kv x) false) w=.ok (bH (dO z es x)) w:=by
 have h1:=T.find x es w;unfold aZ at hb;unfold Instr.lookup;simp only [Sem.run_bind,run_underlying T.map,MapKept.run_getObj_map hb,Result.andThen,T.wj,Sem.run_pure,h1];cases hf:rT bH es x 0 with
 | none=>simp only [Sem.run_bind,T.zero,Result.andThen,Sem.run_pure,C7 (HG hf)];rfl
 | some r =>
  obtain ⟨j,v⟩:=r;obtain ⟨n,e',_,_,_,hv,hg⟩:=HH (z:=z) hf;simp only [Sem.run_pure,Result.andThen];rw [hg,hv];rfl
theorem aPV{w b es clock}(ok:om es clock)(hb:w.heap[b]? = some (aZ kv bH es clock))(x):
  ∃ ah KY s,Sem.run P (Instr.mapEntry t (.map (some b)) (kv x)) w=.ok (.tuple #[bH (dO z es x),.int .i64 (s:Nat)]) (oX w b (aZ kv bH ah KY))/\om ah KY/\(∀ U,dO z ah U=dO z es U)/\∃ a∈ah,a.key=x/\a.born=s:=by
 have h1:=T.find x es w;unfold aZ at hb;cases hf:rT bH es x 0 with
 | none =>
  have hn:=HG hf;refine ⟨es++[⟨x,z,clock⟩],clock+1,clock,?_,⟨?_,?_,?_⟩,λU=>?_,⟨x,z,clock⟩,by simp,rfl,rfl⟩
  .have h3:=MapKept.run_setObj_map (P:=P) (.map ((es.map (aj.m kv bH)).toArray.push ⟨kv x,bH z,clock⟩) (clock+1)) hb;unfold Instr.mapEntry;rw [hf] at h1;simp only [Sem.run_bind,run_underlying T.map,MapKept.run_getObj_map hb,Result.andThen,T.wj,Sem.run_pure,h1,T.zero,h3];rw [C7 hn]
   congr 2
   unfold aZ;simp [aj.m]
  .exact List.pairwise_append.2 ⟨ok.keys,by simp,λa ha c hc=>by rw [List.mem_singleton.1 hc];exact hn a ha⟩
  .exact List.pairwise_append.2 ⟨ok.p4,by simp,λa ha c hc=>by rw [List.mem_singleton.1 hc];exact Nat.ne_of_lt (ok.lt a ha)⟩
  .intro a ha;rcases List.mem_append.1 ha with ha|ha
   .have:=ok.lt a ha;omega
   .rw [List.mem_singleton.1 ha];exact Nat.lt_succ_self _
  .clear hb h1 hf ok
   induction es with
   | nil=>simp [dO]
   | cons a es ih =>
    rw [List.cons_append];unfold dO;split
    .rfl
    .exact ih λe he=>hn e (by simp [he])
 | some r =>
  obtain ⟨j,v⟩:=r;obtain ⟨n,a,hj,ha,hk,hv,hg⟩:=HH (z:=z) hf;have hj:j=n:=by omega
  subst hj;refine ⟨es,clock,a.born,?_,ok,λ_=>rfl,a,List.mem_of_getElem? ha,hk,rfl⟩;have x5:(es.map (aj.m kv bH)).toArray[j]? = some (aj.m kv bH a):=by simp [ha]
  have h3:=MapKept.run_setObj_map (P:=P) (.map ((es.map (aj.m kv bH)).toArray.modify j λe=>{ e with key:=kv x }) clock) hb;unfold Instr.mapEntry;rw [hf] at h1;simp only [Sem.run_bind,run_underlying T.map,MapKept.run_getObj_map hb,Result.andThen,T.wj,Sem.run_pure,h1,x5,Option.map_some,Option.getD_some];rw [show (aj.m kv bH a).key=kv x by rw [<-hk];rfl,T.stays x w];simp only [h3];rw [hg,hv]
  congr 2
  unfold aZ;refine congrArg (λa=>w.heap.setIfInBounds b (Obj.map a clock)) ?_;apply Array.ext
  .simp
  .intro i hi1 hi2;rw [Array.getElem_modify];split
   .rename_i e;subst e;have:(es.map (aj.m kv bH)).toArray[j]=aj.m kv bH a:=by
     have:=Array.getElem?_eq_getElem (xs:=(es.map (aj.m kv bH)).toArray) hi2;rw [x5] at this;exact (Option.some.inj this).symm
    rw [this,<-hk];rfl
   .rfl
omit T
theorem a4c{s v x}:∀ {es:List (aj bY eW)},(∀ a∈es,a.born=s ↔ a.key=x)->∀ U,dO z (es.map λa=>if a.born=s then { a with val:=v } else a) U=if U=x/\∃ a∈es,a.key=x then v else dO z es U
 | [],_,U=>by simp [dO]
 | a :: es,h,U=>by
  have ih:=a4c (v:=v) (es:=es) (λa ha=>h a (by simp [ha])) U;rw [List.map_cons];unfold dO;by_cases h1:a.born=s
  .have hk:=(h a (by simp)).1 h1;rw [if_pos h1];simp only;by_cases h2:U=a.key
   .rw [if_pos h2,if_pos ⟨h2.trans hk,a,by simp,hk⟩]
   .rw [if_neg h2,if_neg h2,ih,if_neg λe=>h2 (e.1.trans hk.symm),if_neg λe=>h2 (e.1.trans hk.symm)]
  .have hk:¬ a.key=x:=λe=>h1 ((h a (by simp)).2 e);rw [if_neg h1];by_cases h2:U=a.key
   .rw [if_pos h2,if_pos h2,if_neg λe=>hk (h2.symm.trans e.1)]
   .rw [if_neg h2,if_neg h2,ih];by_cases h3:U=x/\∃ c∈es,c.key=x
    .rw [if_pos h3];obtain ⟨h4,c,h5,h6⟩:=h3;rw [if_pos ⟨h4,c,by simp [h5],h6⟩]
    .rw [if_neg h3,if_neg λe=>h3 ⟨e.1,by
      obtain ⟨c,h5,h6⟩:=e.2;rcases List.mem_cons.1 h5 with rfl|h5
      .exact absurd h6 hk
      .exact ⟨c,h5,h6⟩⟩]
theorem aPX{w b es clock s x}(t)(ok:om es clock)(hx:∃ a∈es,a.key=x/\a.born=s)(hb:w.heap[b]? = some (aZ kv bH es clock))(v):
  ∃ ah,Sem.run P (Instr.entryStore t (.map (some b)) (.int .i64 (s:Nat)) (bH v)) w=.ok () (oX w b (aZ kv bH ah clock))/\om ah clock/\∀ U,dO z ah U=if U=x then v else dO z es U:=by
 obtain ⟨a,ha,hk,hs⟩:=hx;have hiff:∀ c∈es,c.born=s ↔ c.key=x:=λc hc=>⟨λh=>by rw [yw ok.p4 hc ha (h.trans hs.symm)];exact hk,λh=>by rw [yw ok.keys hc ha (h.trans hk.symm)];exact hs⟩;refine ⟨es.map λa=>if a.born=s then { a with val:=v } else a,?_,⟨?_,?_,?_⟩,λU=>?_⟩
 .unfold aZ at hb;obtain ⟨n,h1,h2⟩:=a4H (p:=λe:MapEntry=>(e.born:Int) == ((s:Nat):Int)) (l:=es.map (aj.m kv bH)) (a:=aj.m kv bH a) (List.mem_map.2 ⟨a,ha,rfl⟩) (by
    show ((a.born:Int) == _)=true;rw [hs];simp) (λc hc hcb=>by
   obtain ⟨c',ji,rfl⟩:=List.mem_map.1 hc;have:c'.born=s:=by
    have h:((c'.born:Int) == ((s:Nat):Int))=true:=hcb;simp at h;omega
   rw [yw ok.p4 ji ha (this.trans hs.symm)])
  have h3:=MapKept.run_setObj_map (P:=P) (.map ((es.map (aj.m kv bH)).toArray.modify n λe=>{ e with val:=bH v }) clock) hb;have h0:(asIntOf (.int .i64 ((s:Nat):Int))).run P w=.ok (.i64,((s:Nat):Int)) w:=rfl;unfold Instr.entryStore;simp only [Sem.run_bind,MapKept.run_getObj_map hb,Result.andThen,Sem.run_pure,asInt];have h4:Array.findIdx? (λe:MapEntry=>(e.born:Int) == ((s:Nat):Int)) (es.map (aj.m kv bH)).toArray=some n:=by simpa using h1
  simp only [h0,h4,h3]
  congr 2
  unfold aZ;refine congrArg (λa=>w.heap.setIfInBounds b (Obj.map a clock)) ?_;have qc:es[n]? = some a:=by
   rw [List.getElem?_map] at h2;cases he:es[n]? with
   | none=>rw [he] at h2;cases h2
   | some c =>
    rw [he] at h2;have x7:c.born=a.born:=congrArg MapEntry.born (Option.some.inj h2);rw [yw ok.p4 (List.mem_of_getElem? he) ha x7]
  apply Array.ext
  .simp
  .intro i hi1 hi2;have CH:i<es.length:=by simpa using hi1
   rw [Array.getElem_modify];simp only [List.getElem_toArray,List.getElem_map];split
   .rename_i e;subst e;have:es[n]=a:=by
     have:=List.getElem?_eq_getElem CH;rw [qc] at this;exact (Option.some.inj this).symm
    rw [this,if_pos hs];rfl
   .rename_i e;rw [if_neg];intro QL;have AE:=yw ok.p4 (List.getElem_mem CH) ha (QL.trans hs.symm);have hn:n<es.length:=(List.getElem?_eq_some_iff.1 qc).1;have hp:=ok.p4;rw [List.pairwise_iff_getElem] at hp;have hna:es[n]=a:=(List.getElem?_eq_some_iff.1 qc).2;rcases Nat.lt_or_gt_of_ne e with h|h
    .exact hp n i hn CH h (by rw [hna,AE])
    .exact hp i n CH hn h (by rw [hna,AE])
 .refine List.pairwise_map.2 (ok.keys.imp fun {a b} h=>?_);split<;>split<;>exact h
 .refine List.pairwise_map.2 (ok.p4.imp fun {a b} h=>?_);split<;>split<;>exact h
 .intro c hc;obtain ⟨c',ji,rfl⟩:=List.mem_map.1 hc;have:=ok.lt c' ji;split<;>exact this
 .rw [a4c hiff U];by_cases h:U=x
  .rw [if_pos ⟨h,a,ha,hk⟩,if_pos h]
  .rw [if_neg λe=>h e.1,if_neg h]
omit [DecidableEq bY] in
theorem a4D:∀ (es:List (aj bY eW)) (j:Nat),(es.map (aj.m kv bH)).eraseIdx j=(es.eraseIdx j).map (aj.m kv bH)
 | [],_=>rfl
 | _ :: _,0=>rfl
 | a :: es,j+1=>by
  rw [List.map_cons,List.eraseIdx_cons_succ,List.eraseIdx_cons_succ,List.map_cons,a4D es j]
theorem a4b{x}:∀ {es:List (aj bY eW)} {n:Nat} {a:aj bY eW},es.Pairwise (λa b=>a.key≠b.key)->es[n]? = some a->a.key=x->∀ U,dO z (es.eraseIdx n) U=if U=x then z else dO z es U
 | [],_,_,_,h,_,_=>by simp at h
 | c :: es,0,a,hp,h,hk,U=>by
  have:c=a:=by simpa using h
  subst this;rw [List.eraseIdx_cons_zero];obtain ⟨h1,_⟩:=List.pairwise_cons.1 hp;by_cases hy:U=x
  .rw [if_pos hy,hy];exact C7 λe he h2=>h1 e he (hk.trans h2.symm)
  .rw [if_neg hy];unfold dO;rw [if_neg λe=>hy (e.trans hk)];cases es<;>rfl
 | c :: es,n+1,a,hp,h,hk,U=>by
  obtain ⟨h1,h2⟩:=List.pairwise_cons.1 hp;have h':es[n]? = some a:=by simpa using h
  have ih:=a4b h2 h' hk U;rw [List.eraseIdx_cons_succ];unfold dO;by_cases hy:U=c.key
  .rw [if_pos hy,if_pos hy,if_neg];intro e;exact h1 a (List.mem_of_getElem? h') (hy.symm.trans (e.trans hk.symm))
  .rw [if_neg hy,if_neg hy];exact ih
include T
end
section
variable {P:Program}{t k e:TypeId}(T:zX P t k e kv bH z)
omit [DecidableEq bY] in
theorem Yq(n v):∀ (es:List (aj bY eW)),(es.modify n λa=>{ a with val:=v }).map aj.key=es.map aj.key:=λes=>by
 apply List.ext_getElem?;intro i;rw [List.getElem?_map,List.getElem?_map,List.getElem?_modify];cases es[i]? with
 | none=>rfl
 | some a=>by_cases h:n=i<;>simp [h]
omit [DecidableEq bY] in
theorem Na(n v):∀ (es:List (aj bY eW)),(es.modify n λa=>{ a with val:=v }).map aj.born=es.map aj.born:=λes=>by
 apply List.ext_getElem?;intro i;rw [List.getElem?_map,List.getElem?_map,List.getElem?_modify];cases es[i]? with
 | none=>rfl
 | some a=>by_cases h:n=i<;>simp [h]
theorem a4e{x v b}:∀ {es:List (aj bY eW)},(∀ a∈es,a.key≠x)->∀ U,dO z (es++[⟨x,v,b⟩]) U=if U=x then v else dO z es U
 | [],_,U=>by simp [dO]
 | a :: es,h,U=>by
  have ih:=a4e (v:=v) (b:=b) (es:=es) (λa ha=>h a (by simp [ha])) U;rw [List.cons_append];unfold dO;by_cases h1:U=a.key
  .rw [if_pos h1,if_pos h1,if_neg λe=>h a (by simp) (h1.symm.trans e)]
  .rw [if_neg h1,if_neg h1,ih]
theorem Ut{x v}:∀ {es:List (aj bY eW)} {n:Nat} {a:aj bY eW},es.Pairwise (λa b=>a.key≠b.key)->es[n]? = some a->a.key=x->∀ U,dO z (es.modify n λa=>{ a with val:=v }) U=if U=x then v else dO z es U
 | [],_,_,_,h,_,_=>by simp at h
 | c :: es,0,a,hp,h,hk,U=>by
  have:c=a:=by simpa using h
  subst this;rw [List.modify_zero_cons];unfold dO;by_cases hy:U=x
  .rw [if_pos (hy.trans hk.symm),if_pos hy]
  .rw [if_neg λe=>hy (e.trans hk),if_neg hy];cases es<;>simp [dO,hk,hy]
 | c :: es,n+1,a,hp,h,hk,U=>by
  obtain ⟨h1,h2⟩:=List.pairwise_cons.1 hp;have h':es[n]? = some a:=by simpa using h
  have ih:=Ut (v:=v) h2 h' hk U;rw [List.modify_succ_cons];unfold dO;by_cases hy:U=c.key
  .rw [if_pos hy,if_pos hy,if_neg];intro e;exact h1 a (List.mem_of_getElem? h') (hy.symm.trans (e.trans hk.symm))
  .rw [if_neg hy,if_neg hy];exact ih
include T
theorem Ya{w b es clock}(ok:om es clock)(hb:w.heap[b]? = some (aZ kv bH es clock))(x v):
  ∃ ah KY,Sem.run P (Instr.mapUpdate t (.map (some b)) (kv x) (bH v)) w=.ok () (oX w b (aZ kv bH ah KY))/\om ah KY/\∀ U,dO z ah U=if U=x then v else dO z es U:=by
 have h1:=T.find x es w;unfold aZ at hb;cases hf:rT bH es x 0 with
 | none =>
  have hn:=HG hf;refine ⟨es++[⟨x,v,clock⟩],clock+1,?_,⟨?_,?_,?_⟩,a4e hn⟩
  .have h3:=MapKept.run_setObj_map (P:=P) (.map ((es.map (aj.m kv bH)).toArray.push ⟨kv x,bH v,clock⟩) (clock+1)) hb;unfold Instr.mapUpdate;rw [hf] at h1;simp only [Sem.run_bind,run_underlying T.map,MapKept.run_getObj_map hb,Result.andThen,T.wj,Sem.run_pure,h1,h3];unfold aZ;simp [aj.m];rfl
  .exact List.pairwise_append.2 ⟨ok.keys,by simp,λa ha c hc=>by rw [List.mem_singleton.1 hc];exact hn a ha⟩
  .exact List.pairwise_append.2 ⟨ok.p4,by simp,λa ha c hc=>by rw [List.mem_singleton.1 hc];exact Nat.ne_of_lt (ok.lt a ha)⟩
  .intro a ha;rcases List.mem_append.1 ha with ha|ha
   .have:=ok.lt a ha;omega
   .rw [List.mem_singleton.1 ha];exact Nat.lt_succ_self _
 | some r =>
  obtain ⟨j,u⟩:=r;obtain ⟨n,a,hj,ha,hk,hv,hg⟩:=HH (z:=z) hf;have hj:j=n:=by omega
  subst hj;have x5:(es.map (aj.m kv bH)).toArray[j]? = some (aj.m kv bH a):=by simp [ha]
  have h3:=MapKept.run_setObj_map (P:=P) (.map ((es.map (aj.m kv bH)).toArray.modify j λe=>{ e with key:=kv x,val:=bH v }) clock) hb;refine ⟨es.modify j λa=>{ a with val:=v },clock,?_,⟨?_,?_,?_⟩,Ut ok.keys ha hk⟩
  .unfold Instr.mapUpdate;rw [hf] at h1;simp only [Sem.run_bind,run_underlying T.map,MapKept.run_getObj_map hb,Result.andThen,T.wj,Sem.run_pure,h1,x5,Option.map_some,Option.getD_some];rw [show (aj.m kv bH a).key=kv x by rw [<-hk];rfl,T.stays x w];simp only [h3]
   congr 2
   unfold aZ;refine congrArg (λa=>w.heap.setIfInBounds b (Obj.map a clock)) ?_;apply Array.ext';apply List.ext_getElem?;intro i;simp only [Array.toList_modify,List.getElem?_modify,List.getElem?_map];by_cases h:j=i
   .subst h;rw [ha];simp [aj.m,hk]
   .simp [h]
  .have:=List.pairwise_map.2 ok.keys;exact List.pairwise_map.1 (by rw [Yq];exact List.pairwise_map.2 ok.keys)
  .exact List.pairwise_map.1 (by rw [Na];exact List.pairwise_map.2 ok.p4)
  .intro c hc;have hm:c.born∈(es.modify j λa=>{ a with val:=v }).map aj.born:=List.mem_map.2 ⟨c,hc,rfl⟩;rw [Na] at hm;obtain ⟨d,hd,he⟩:=List.mem_map.1 hm;rw [<-he];exact ok.lt d hd
end
section
variable {P:Program}{t k e:TypeId}
theorem a4I{kk}(x):∀ (es:List (aj Int eW)) (i:Nat),Instr.findNow (.int kk) (.int kk x) (es.map (aj.m (Value.int kk) bH)) i=some (rT bH es x i)
 | [],_=>rfl
 | a :: es,i=>by
  rw [List.map_cons];unfold Instr.findNow;have e1:Instr.sameNow (.int kk) (.int kk x) (aj.m (Value.int kk) bH a).key=some (x == a.key):=by
   show (if kk=kk then some (x == a.key) else none)=_;rw [if_pos rfl]
  rw [e1];unfold rT;by_cases h:x=a.key
  .rw [if_pos h,show (x == a.key)=true by rw [h];exact beq_self_eq_true _];rfl
  .rw [if_neg h,show (x == a.key)=false from Bool.eq_false_iff.2 λhb=>h (by simpa using hb)];exact a4I x es (i+1)
theorem zX.ofInt{kk}(hm:P.underlying t=some (.map k e))(hk:P.underlying k=some (.int kk))(hc:∀ b (x:Int) w,(Instr.checkKey b 10000 k (.int kk x)).run P w=.ok () w)(hz:∀ w,(zeroValue e).run P w=.ok (bH z) w):zX P t k e (Value.int kk) bH z where
 map:=hm
 wj:=hc
 zero:=hz
 stays x w:=by
  have:Instr.sameBits 10000 (.int kk x) (.int kk x)=true:=by
   unfold Instr.sameBits;simp [Instr.sameBits]
  unfold Instr.keyThatStays;rw [if_pos this];rfl
 find x es w:=by
  unfold Instr.findKey;simp only [Sem.run_bind,run_underlying hk,Result.andThen,a4I];rfl
theorem zX.aNa(hm:P.underlying t=some (.map k e))(e9:∃ fs,P.underlying k=some (.struct fs))(hc:∀ b x w,(Instr.checkKey b 10000 k (kv x)).run P w=.ok () w)(hs:∀ x w,(Instr.keyThatStays (kv x) (kv x)).run P w=.ok (kv x) w)(he:∀ x U w,(Op.equal k (kv x) (kv U)).run P w=.ok (decide (x=U)) w)(hz:∀ w,(zeroValue e).run P w=.ok (bH z) w):zX P t k e kv bH z where
 map:=hm
 wj:=hc
 zero:=hz
 stays:=hs
 find x es w:=by
  obtain ⟨fs,hk⟩:=e9;have ask:∀ (es:List (aj bY eW)) (i:Nat),(Instr.findAsking k (kv x) (es.map (aj.m kv bH)) i).run P w=.ok (rT bH es x i) w:=by
   intro es
   induction es with
   | nil=>intro i;rfl
   | cons a es ih =>
    intro i;rw [List.map_cons];unfold Instr.findAsking;simp only [Sem.run_bind];rw [show (aj.m kv bH a).key=kv a.key from rfl,he x a.key w];simp only [Result.andThen];unfold rT;by_cases h:x=a.key
    .rw [if_pos (by simpa using h),if_pos h];rfl
    .rw [if_neg (by simpa using h),if_neg h];exact ih (i+1)
  unfold Instr.findKey;simp only [Sem.run_bind,run_underlying hk,Result.andThen];cases es with
  | nil=>rfl
  | cons a es =>
   rw [List.map_cons];unfold Instr.findNow;simp only [Instr.sameNow];exact ask (a :: es) 0
end
end Go.Vc
end

section
namespace Go.Vc
variable {bY eW:Type}{kv:bY->Value}{bH:eW->Value}{z:eW}
theorem a71{x}:∀ {es:List (aj bY eW)} {n:Nat} {a:aj bY eW},es.Pairwise (λa b=>a.key≠b.key)->es[n]? = some a->a.key=x->∀ e∈es.eraseIdx n,e.key≠x
 | [],_,_,_,h,_,_,_=>by simp at h
 | c :: es,0,a,hp,h,hk,e,he=>by
  have:c=a:=by simpa using h
  subst this;rw [List.eraseIdx_cons_zero] at he;exact λh2=>(List.pairwise_cons.1 hp).1 e he (hk.trans h2.symm)
 | c :: es,n+1,a,hp,h,hk,e,he=>by
  obtain ⟨h1,h2⟩:=List.pairwise_cons.1 hp;have h':es[n]? = some a:=by simpa using h
  rw [List.eraseIdx_cons_succ] at he;rcases List.mem_cons.1 he with rfl|he
  .exact λe2=>h1 a (List.mem_of_getElem? h') (e2.trans hk.symm)
  .exact a71 h2 h' hk e he
section
variable [DecidableEq bY]{P:Program}{t k e:TypeId}(T:zX P t k e kv bH z)
include T
theorem aPU{w b es clock}(ok:om es clock)(hb:w.heap[b]? = some (aZ kv bH es clock))(x kt ty cs):
  ∃ ah,Sem.run P (builtin Builtin.delete #[t,kt] ty cs #[.map (some b),kv x]) w=.ok (.value (.tuple #[])) (oX w b (aZ kv bH ah clock))/\om ah clock/\(∀ U,dO z ah U=if U=x then z else dO z es U)/\ah.Sublist es/\∀ e∈ah,e.key≠x:=by
 have h1:=T.find x es w;unfold aZ at hb;have run:∀ ah:List (aj bY eW),(Builtin.delete_ #[t,kt] ty #[.map (some b),kv x]).run P w=.ok (.tuple #[]) (oX w b (aZ kv bH ah clock))->Sem.run P (builtin Builtin.delete #[t,kt] ty cs #[.map (some b),kv x]) w=.ok (.value (.tuple #[])) (oX w b (aZ kv bH ah clock)):=λah h=>by
  unfold builtin;simp only [Sem.run_bind,h,Result.andThen,Sem.run_pure]
 cases hf:rT bH es x 0 with
 | none =>
  have hn:=HG hf;refine ⟨es,run _ ?_,ok,λU=>?_,List.Sublist.refl _,hn⟩
  .have h3:=MapKept.run_setObj_map (P:=P) (.map (es.map (aj.m kv bH)).toArray clock) hb;unfold Builtin.delete_;rw [hf] at h1;simp only [Array.getElem?_eq_getElem,List.size_toArray,List.length_cons,List.length_nil,Nat.zero_lt_succ,Nat.lt_add_one,List.getElem_toArray,List.getElem_cons_zero,List.getElem_cons_succ,Sem.run_bind,run_underlying T.map,MapKept.run_getObj_map hb,Result.andThen,T.wj,Sem.run_pure,h1,h3]
   rfl
  .by_cases hy:U=x
   .rw [if_pos hy,hy];exact C7 hn
   .rw [if_neg hy]
 | some r =>
  obtain ⟨j,v⟩:=r;obtain ⟨n,a,hj,ha,hk,hv,hg⟩:=HH (z:=z) hf;have hj:j=n:=by omega
  subst hj;have hlt:j<es.length:=(List.getElem?_eq_some_iff.1 ha).1;refine ⟨es.eraseIdx j,run _ ?_,⟨ok.keys.sublist (List.eraseIdx_sublist _ _),ok.p4.sublist (List.eraseIdx_sublist _ _),λe he=>ok.lt e ((List.eraseIdx_sublist _ _).mem he)⟩,a4b ok.keys ha hk,List.eraseIdx_sublist _ _,a71 ok.keys ha hk⟩;have h3:=MapKept.run_setObj_map (P:=P) (.map ((es.map (aj.m kv bH)).toArray.eraseIdxIfInBounds j) clock) hb
  unfold Builtin.delete_;rw [hf] at h1;simp only [Array.getElem?_eq_getElem,List.size_toArray,List.length_cons,List.length_nil,Nat.zero_lt_succ,Nat.lt_add_one,List.getElem_toArray,List.getElem_cons_zero,List.getElem_cons_succ,Sem.run_bind,run_underlying T.map,MapKept.run_getObj_map hb,Result.andThen,T.wj,Sem.run_pure,h1,h3]
  congr 2
  unfold aZ;refine congrArg (λa=>w.heap.setIfInBounds b (Obj.map a clock)) ?_;unfold Array.eraseIdxIfInBounds;rw [dif_pos (by simpa using hlt)];apply Array.toList_inj.1;simp;exact a4D es j
theorem aPY{w b es clock}(ok:om es clock)(hb:w.heap[b]? = some (aZ kv bH es clock))(x v)(hx:∃ a∈es,a.key=x):
  ∃ ah,Sem.run P (Instr.mapUpdate t (.map (some b)) (kv x) (bH v)) w=.ok () (oX w b (aZ kv bH ah clock))/\om ah clock/\(∀ U,dO z ah U=if U=x then v else dO z es U)/\ah.map aj.key=es.map aj.key/\ah.map aj.born=es.map aj.born:=by
 have h1:=T.find x es w;unfold aZ at hb;cases hf:rT bH es x 0 with
 | none=>exact absurd hx λ⟨a,ha,hk⟩=>HG hf a ha hk
 | some r =>
  obtain ⟨j,u⟩:=r;obtain ⟨n,a,hj,ha,hk,hv,hg⟩:=HH (z:=z) hf;have hj:j=n:=by omega
  subst hj;have x5:(es.map (aj.m kv bH)).toArray[j]? = some (aj.m kv bH a):=by simp [ha]
  have h3:=MapKept.run_setObj_map (P:=P) (.map ((es.map (aj.m kv bH)).toArray.modify j λe=>{ e with key:=kv x,val:=bH v }) clock) hb;refine ⟨es.modify j λa=>{ a with val:=v },?_,⟨?_,?_,?_⟩,Ut ok.keys ha hk,Yq _ _ _,Na _ _ _⟩
  .unfold Instr.mapUpdate;rw [hf] at h1;simp only [Sem.run_bind,run_underlying T.map,MapKept.run_getObj_map hb,Result.andThen,T.wj,Sem.run_pure,h1,x5,Option.map_some,Option.getD_some];rw [show (aj.m kv bH a).key=kv x by rw [<-hk];rfl,T.stays x w];simp only [h3]
   congr 2
   unfold aZ;refine congrArg (λa=>w.heap.setIfInBounds b (Obj.map a clock)) ?_;apply Array.ext';apply List.ext_getElem?;intro i;simp only [Array.toList_modify,List.getElem?_modify,List.getElem?_map];by_cases h:j=i
   .subst h;rw [ha];simp [aj.m,hk]
   .simp [h]
  .have:=List.pairwise_map.2 ok.keys;exact List.pairwise_map.1 (by rw [Yq];exact List.pairwise_map.2 ok.keys)
  .exact List.pairwise_map.1 (by rw [Na];exact List.pairwise_map.2 ok.p4)
  .intro c hc;have hm:c.born∈(es.modify j λa=>{ a with val:=v }).map aj.born:=List.mem_map.2 ⟨c,hc,rfl⟩;rw [Na] at hm;obtain ⟨d,hd,he⟩:=List.mem_map.1 hm;rw [<-he];exact ok.lt d hd
end
section
variable {P:Program}{w:World}{r bm since clock c0:Nat}{seen:Array Nat}{es:List (aj bY eW)}
theorem a7O(ty)(hr:w.heap[r]? = some (.mapIter (some bm) since seen c0))(hb:w.heap[bm]? = some (aZ kv bH es clock))(hold:∀ e∈es,e.born<since)(hsc:since<=c0):
  ((∀ e∈es,e.born∈seen.toList)/\(Instr.next (ε r 0) false ty).run P w=.ok (.tuple #[.bool false]) w) \/
  ∃ a∈es,a.born ∉ seen.toList/\∃ w1:World,(w1=w\/w1=w.drewN 1)/\(Instr.next (ε r 0) false ty).run P w=.ok (.tuple #[.bool true,kv a.key,bH a.val]) (oX w1 r (.mapIter (some bm) since (seen.push a.born) clock)):=by
 have hmem:∀ x∈(es.map (aj.m kv bH)),∃ a∈es,aj.m kv bH a=x:=λx hx=>by
  obtain ⟨a,ha,e⟩:=List.mem_map.1 hx;exact ⟨a,ha,e⟩
 rcases run_next_at (P:=P) w ty r bm since c0 seen (es.map (aj.m kv bH)).toArray clock hr hb (λx hx=>by
  obtain ⟨a,ha,rfl⟩:=hmem x hx;exact hold a ha) hsc with ⟨h0,h1⟩|⟨x,hx,w1,hw,h1⟩
 .refine .inl ⟨λa ha=>?_,h1⟩;refine Classical.byContradiction λhn=>?_;have hin:aj.m kv bH a∈(leftOf (es.map (aj.m kv bH)).toArray seen).toList:=by
   unfold leftOf;simp only [Array.toList_filter,List.mem_filter];refine ⟨List.mem_map.2 ⟨a,ha,rfl⟩,?_⟩;have:¬ seen.contains a.born=true:=λh=>hn (by simpa using h);simpa [aj.m] using this
  have:(leftOf (es.map (aj.m kv bH)).toArray seen).toList=[]:=by
   have:=Array.eq_empty_of_size_eq_zero h0;rw [this]
  rw [this] at hin;cases hin
 .unfold leftOf at hx;simp only [Array.toList_filter,List.mem_filter] at hx;obtain ⟨a,ha,rfl⟩:=hmem x hx.1;refine .inr ⟨a,ha,λh=>?_,w1,hw,h1⟩;have h2:=hx.2;simp [aj.m] at h2;exact h2 (by simpa using h)
theorem a4C{a}(ok:om es clock)(hr:w.heap[r]? = some (.mapIter (some bm) since (seen.push a.born) clock))(hb:w.heap[bm]? = some (aZ kv bH es clock))(ha:a∈es):
  (Instr.entry (ε r 0)).run P w=.ok (.tuple #[kv a.key,bH a.val]) w:=by
 refine run_entry_at w r bm since seen (es.map (aj.m kv bH)).toArray clock (aj.m kv bH a) hr hb (List.mem_map.2 ⟨a,ha,rfl⟩) ?_;have:((es.map (aj.m kv bH)).toArray.toList.map (·.born))=es.map aj.born:=by simp [aj.m,Function.comp_def]
 rw [this];exact List.nodup_iff_pairwise_ne.2 (List.pairwise_map.2 ok.p4)
def Ai(seen:List Nat)(es:List (aj bY eW)):Nat:=(es.filter λe => !seen.contains e.born).length
theorem Wn{seen}{es ah:List (aj bY eW)}{a}(hs:(ah.map aj.born).Sublist (es.map aj.born))(ha:a∈es)(hn:a.born ∉ seen)(hb:(es.map aj.born).Nodup):
  Ai (seen++[a.born]) ah<Ai seen es:=by
 have key:∀ (l:List (aj bY eW)) (s:List Nat),Ai s l=((l.map aj.born).filter λb => !s.contains b).length:=λl s=>by
  unfold Ai;rw [List.filter_map,List.length_map];rfl
 rw [key,key];have h1:((ah.map aj.born).filter λb => !(seen++[a.born]).contains b).Sublist ((es.map aj.born).filter λb => !(seen++[a.born]).contains b):=hs.filter _;refine Nat.lt_of_le_of_lt h1.length_le ?_;have h2:((es.map aj.born).filter λb => !(seen++[a.born]).contains b)=((es.map aj.born).filter λb => !seen.contains b).filter λb=>b != a.born:=by
  rw [List.filter_filter]
  congr 1
  funext b
  rw [List.contains_append];cases h:seen.contains b<;>simp [bne]<;>rfl
 rw [h2];have hm:a.born∈(es.map aj.born).filter λb => !seen.contains b:=List.mem_filter.2 ⟨List.mem_map.2 ⟨a,ha,rfl⟩,by simpa using hn⟩;generalize (es.map aj.born).filter (λb => !seen.contains b)=l at hm
 induction l with
 | nil=>cases hm
 | cons x l ih =>
  by_cases hx:x=a.born
  .rw [List.filter_cons_of_neg (by simp [hx])];exact Nat.lt_succ_of_le (List.length_filter_le _ _)
  .rw [List.filter_cons_of_pos (by simpa using hx),List.length_cons,List.length_cons];refine Nat.succ_lt_succ (ih ?_);rcases List.mem_cons.1 hm with h|h
   .exact absurd h.symm hx
   .exact h
end
end Go.Vc
end

section
namespace Go.Vc
theorem YY{P ats ty cs args v w w'}(h:(Builtin.copy_ ats ty args).run P w=.ok v w'):Sem.run P (builtin Builtin.copy ats ty cs args) w=.ok (.value v) w':=by
 unfold builtin;simp only [Sem.run_bind,h,Result.andThen,Sem.run_pure]
theorem aPT{P}(w dT sT ty elem){i}(b o dLen dCap a sLen sCap cs)(hu:P.underlying dT=some (.slice elem))(hi:P.info? elem=some i)(hn:cs.length=Nat.min sLen dLen*i.size)(hsrc:∀ j v,cs[j]? = some v->w.cell? (a.add j)=some v)(hc:∀ j,j<cs.length->(w.cell? ⟨b,o+j,none⟩).isSome=true)(hf:∀ j,j<cs.length->w.frozen? ⟨b,o+j,none⟩=false)(h1:∀ v∈cs,v.oneCell'=true):
  (Builtin.copy_ #[dT,sT] ty #[.slice (some ⟨b,o,none⟩) dLen dCap,.slice (some a) sLen sCap]).run P w=.ok (Go.goInt (Nat.min sLen dLen)) (w.setCells b o cs):=by
 have hl:=run_loadCells_list (P:=P) w a cs hsrc;have hst:=run_storeCells_cells (P:=P) b o cs 0 w (by simpa using hc) (by simpa using hf) h1;rw [hn] at hl;simp [Builtin.copy_,run_underlying hu,Builtin.lenOf,Builtin.firstCells,sizeOf,typeInfo,hi,hl,hst]
theorem J1(vs cs o)(h:o+vs.length<=cs.length):gd cs o vs=cs.take o++vs++cs.drop (o+vs.length):=by
 apply List.ext_getElem?;intro i;by_cases h1:i<o
 .rw [B6 _ _ _ _ (.inl h1),μ,List.getElem?_append_left (by rw [List.length_take];omega),List.getElem?_take_of_lt h1]
 .by_cases h2:i<o+vs.length
  .obtain ⟨q,rfl⟩:∃ q,i=o+q:=⟨i - o,by omega⟩;rw [Nb _ _ _ _ (by omega) h,μ,List.getElem?_append_right (by rw [List.length_take];omega),List.getElem?_append_left (by rw [List.length_take];omega)]
   congr 1
   rw [List.length_take];omega
  .rw [B6 _ _ _ _ (.inr (by omega)),List.getElem?_append_right (by rw [List.length_append,List.length_take];omega),List.getElem?_drop]
   congr 1
   rw [List.length_append,List.length_take];omega
section
variable {P:Program}{W w:World}{S:List Own}{Φ:θ}
end
theorem aAh(b sz k c)(h:k<c):eB (some ⟨b,0,none⟩) sz k c=some ⟨b,k*sz,none⟩:=by
 unfold eB;rw [if_neg (by omega)];show some ((⟨b,0,none⟩:Addr).add (k*sz))=_;rw [addr_add,Nat.zero_add]
theorem aQY(b sz k c):∃ o,eB (some ⟨b,0,none⟩) sz k c=some ⟨b,o,none⟩:=by
 unfold eB;split
 .exact ⟨0,rfl⟩
 .refine ⟨k*sz,?_⟩;show some ((⟨b,0,none⟩:Addr).add (k*sz))=_;rw [addr_add,Nat.zero_add]
theorem ZF(b sz c):eB (some ⟨b,0,none⟩) sz 0 c=some ⟨b,0,none⟩:=by
 unfold eB;split
 .rfl
 .show some ((⟨b,0,none⟩:Addr).add (0*sz))=_;rw [addr_add,Nat.zero_mul]
section
variable {P:Program}{W w:World}{S:List Own}{Φ:θ}
end
theorem NO{P ats ty cs args v w w'}(h:(Builtin.clear_ ats ty args).run P w=.ok v w'):Sem.run P (builtin Builtin.clear ats ty cs args) w=.ok (.value v) w':=by
 unfold builtin;simp only [Sem.run_bind,h,Result.andThen,Sem.run_pure]
theorem aPR{P}(w t e ty){i z}(ht:P.underlying t=some (.slice e))(hi:P.info? e=some i)(hz:i.zero=some z)(b o n c)(hn:0<n)(hc:∀ j,j<(Builtin.zeroCells z.cells n).toList.length->(w.cell? ⟨b,o+j,none⟩).isSome=true)(hf:∀ j,j<(Builtin.zeroCells z.cells n).toList.length->w.frozen? ⟨b,o+j,none⟩=false)(h1:∀ v∈(Builtin.zeroCells z.cells n).toList,v.oneCell'=true):
  (Builtin.clear_ #[t] ty #[.slice (some ⟨b,o,none⟩) n c]).run P w=.ok (.tuple #[]) (w.setCells b o (Builtin.zeroCells z.cells n).toList):=by
 have hst:=run_storeCells_cells (P:=P) b o (Builtin.zeroCells z.cells n).toList 0 w (by simpa using hc) (by simpa using hf) h1;rw [Nat.add_zero] at hst;obtain ⟨m,rfl⟩:∃ m,n=m+1:=⟨n - 1,by omega⟩;simp [Builtin.clear_,run_underlying ht,zeroValue,typeInfo,hi,hz,hst]
def aCC(P:Program)(t:TypeId):Bool:=match P.info? t with|some i=>(match i.zero with|some z=>z.cells.toList.all (λu=>Value.oneCell' u)|none=>false)|none=>false
theorem aSA(cs n):∀ v∈(Builtin.zeroCells cs n).toList,v∈cs.toList:=by
 intro v hv;unfold Builtin.zeroCells at hv;rw [Array.toList_map] at hv;obtain ⟨a,ha,rfl⟩:=List.mem_map.1 hv;have ha:a<n*cs.size:=by simpa using ha
 have h0:0<cs.size:=by
  rcases Nat.eq_zero_or_pos cs.size with h|h
  .rw [h,Nat.mul_zero] at ha;omega
  .exact h
 have hlt:a % cs.size<cs.size:=Nat.mod_lt _ h0;rw [getElem!_pos cs (a % cs.size) hlt];exact Array.getElem_mem_toList hlt
section
variable {P:Program}{W w:World}{S:List Own}{Φ:θ}
theorem Ctx.S0[O Φ]{p n cap cs t size}(c:Ctx W w (.buf p n cap cs t size :: S) Φ){k}(hk:k<=n):Ctx W w (.buf p k cap (cs.take (k*size)) t size :: S) Φ:=by
 have hown:=c.own _ List.mem_cons_self;have hmul:k*size<=n*size:=Nat.mul_le_mul_right _ hk;refine c.sI (k:=0) (o':=.buf p k cap (cs.take (k*size)) t size) rfl (bZ.refl _ _) (λx hx=>.inl (by cases p<;>exact hx)) (Own.nodup _) ?_;obtain ⟨h1,h2⟩:=hown;refine ⟨by rw [List.length_take,h1];omega,?_⟩;rcases h2 with ⟨e,rfl⟩|⟨g,cap',cur,e,h3,hg,hnc,hcm,hcs,oP⟩
 .cases e;have:k=0:=by omega
  subst this;exact .inl ⟨rfl,by simp⟩
 .cases e;exact .inr ⟨g,cap,cur,rfl,h3,hg,by omega,hcm,hcs,by rw [<-oP,List.take_take,Nat.min_eq_left hmul]⟩
theorem Ctx.aHI[O Φ]{p n cap cs t size bytes}(c:Ctx W w (.buf p n cap cs t size :: S) Φ){b}(hp:p=some ⟨b,0,none⟩){ts ty kb}(hb:Gu P ts t size bytes=true)(hz:aCC P t=true)(hpos:0<size){k}(hk:k<=n):∃ w',Sem.run P (builtin Builtin.clear #[ts] ty kb #[.slice (eB p size k cap) (n - k) (cap - k)]) w=.ok (.value (.tuple #[])) w'/\Ctx W w' (.buf p k cap (cs.take (k*size)) t size :: S) Φ:=by
 obtain ⟨i,z,e1,e2,bI,bL,bz,eX⟩:=Bu hb;subst hp bL;have hz:z.cells.toList.all (λu=>Value.oneCell' u)=true:=by unfold aCC at hz;rw [e2] at hz;simp only [bI] at hz;exact hz
 obtain ⟨cW,hnc,hcm⟩:=c.uS 0 rfl;rcases Nat.eq_zero_or_pos (n - k) with h0|h0
 .obtain ⟨o,ho⟩:=aQY b i.size k cap;rw [h0,ho];exact ⟨w,NO (by simp [Builtin.clear_,run_underlying e1]),c.S0 hk⟩
 .rw [aAh b i.size k cap (by omega)];have hzl:(Builtin.zeroCells z.cells (n - k)).toList.length=(n - k)*i.size:=by rw [Array.length_toList,size_zeroCells,bz]
  have hsub:(n - k)*i.size=n*i.size - k*i.size:=Nat.sub_mul _ _ _;have hmul:k*i.size<=n*i.size:=Nat.mul_le_mul_right _ hk;have hn0:0<(n - k)*i.size:=Nat.mul_pos h0 hpos;obtain ⟨b',hb',_,hcell⟩:=c.uR 0 rfl (by omega);cases hb';have HX:∀ j,(hj:j<(Builtin.zeroCells z.cells (n - k)).toList.length)->w.cell? ⟨b,k*i.size+j,none⟩=some (cs[k*i.size+j]'(by omega))/\w.frozen? ⟨b,k*i.size+j,none⟩=false:=λj hj=>hcell _ _ (List.getElem?_eq_getElem _)
  refine ⟨_,NO (aPR w ts t ty e1 e2 bI b (k*i.size) (n - k) (cap - k) h0 (λj hj=>by rw [(HX j hj).1];rfl) (λj hj=>(HX j hj).2) (λv hv=>List.all_eq_true.1 hz v (aSA _ _ v hv))),?_⟩;have c2:=(c.PO 0 rfl rfl (by omega) (by omega) rfl:Ctx W (w.setCells b (k*i.size) (Builtin.zeroCells z.cells (n - k)).toList) (.buf (some ⟨b,0,none⟩) n cap (gd cs (k*i.size) (Builtin.zeroCells z.cells (n - k)).toList) t i.size :: S) Φ)
  have c3:=c2.S0 hk;rw [J1 _ _ _ (by omega),μ,List.take_append_of_le_length (by rw [List.length_take];omega),List.take_take,Nat.min_self] at c3;exact c3
end
end Go.Vc
end

