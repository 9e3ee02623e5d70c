/-
 The encodings of ints,texts,values and rows: in plain Lean,and walked.
-/
import Derived.Test.YtnlkemjhgdbfkaaGreatDoorCs7
import Derived.Lib.ItoaNum
import Derived.Test.YtnlkemjhgdbfkaaGreatDoorCs6
import Derived.Shelf.Strconv.AtoiAll
import Derived.Shelf.Small.Wraps
import Derived.Stop.IfaceNil
import Derived.Lib.AtoiErrMem
import Derived.Lib.AtoiAllCases
import Derived.MapKept
import Derived.Maps.RangeRun
import Derived.Lib.AppendZerosOnto
import Derived.Lib.Overlaps
import Derived.Laws.IdiomCopy
import Derived.Laws.Externs
open Go.Proofs.Tryz
set_option linter.unusedVariables false
set_option linter.unusedSimpArgs false
section
namespace Go.Vc
end Go.Vc
namespace Go.Proofs.YtnlkemjhgdbfkaaGreatDoor
open Go.Vc
def RZ(n:Int):ByteArray:=⟨(Lib.itoa n).toArray⟩
def pH(n:Int):ByteArray:=RZ n++ByteArray.mk #[59]
def UG(n:Int):ByteArray:=if n<0 then ByteArray.mk #[] else pH n
def oS(s:ByteArray):ByteArray:=RZ s.size++ByteArray.mk #[58]++s++ByteArray.mk #[44]
theorem sQ(a b:ByteArray):(a++b).size=a.size+b.size:=ByteArray.size_append
theorem a3p(l:List UInt8):(ByteArray.mk l.toArray).size=l.length:=by simp [ByteArray.size]
theorem gD(a:ByteArray):a.data.toList.length=a.size:=by rw [Array.length_toList];rfl
theorem OI:∀ (k u:Nat),u<10 ^ k->0<k->Lib.nDigits u<=k
 | 0,u,_,h=>by omega
 | k+1,u,h,_=>by
  by_cases h1:u<10
  .rw [Lib.nDigits_small h1];omega
  .rw [Lib.nDigits_big h1];have hk:0<k:=by
    rcases Nat.eq_zero_or_pos k with rfl|h2
    .simp at h;omega
    .exact h2
   have:=OI k (u / 10) (by rw [Nat.pow_succ] at h;omega) hk;omega
theorem a7J{n}(h:aY n):1<=(Lib.itoa n).length/\(Lib.itoa n).length<=20:=by
 unfold aY at h;unfold Lib.itoa;split
 .have h1:=OI 19 n.natAbs (by omega) (by decide);have h2:=Lib.nDigits_pos n.natAbs;rw [List.length_cons,Lib.decDigits_length];omega
 .have h1:=OI 19 n.toNat (by omega) (by decide);have h2:=Lib.nDigits_pos n.toNat;rw [Lib.decDigits_length];omega
theorem KM{n}(h:aY n):1<=(RZ n).size/\(RZ n).size<=20:=by
 unfold RZ;rw [a3p];exact a7J h
theorem gE{n}(h:aY n):2<=(pH n).size/\(pH n).size<=21:=by
 have:=KM h;have e:(ByteArray.mk #[59]).size=1:=rfl;unfold pH;rw [sQ,e];omega
theorem UH{n}(h:aY n):(UG n).size<=21:=by
 unfold UG;split
 .exact Nat.zero_le _
 .exact (gE h).2
theorem ER{s}(h:s.size<=9223372036854775807):(oS s).size<=s.size+22/\s.size+3<=(oS s).size:=by
 have:=KM (n:=s.size) (by unfold aY;omega);have e:(ByteArray.mk #[58]).size=1:=rfl;have e2:(ByteArray.mk #[44]).size=1:=rfl;unfold oS;rw [sQ,sQ,sQ,e,e2];omega
abbrev aWr:String:=((Rows.groupAgreesRow.laid.map Prod.fst).drop 2).headD default
abbrev yT:PW:=Tab prog aWr .u64 Lib.pow10Tab
theorem aCM{Φ:PW}[aB Φ](nS:∀ M w,Φ M w->yT M w)(n)(h:aY n):cS Φ prog F.strconv_Itoa #[.int .i64 n] (.string (RZ n)) :=
 aL5 (name:=aWr) (λn h0 h1 w ht=>Any.strconv_Itoa Tryz.aIc n h0 h1 w ht) nS n h
theorem aAB(i:Nat)(hi:i<100):a0k prog F.strconv_Itoa #[.int .i64 i] (.string (RZ i)) :=
 Quiet.a3g ⟨λw=>by
  have h:=Any.strconv_Itoa_small { Tryz.aL9 with } i hi w;rw [<-Lib.itoa_nonneg] at h;exact h⟩
def Dec(Φ:PW)(n:Int):Prop:=(∀ M w,Φ M w->yT M w)/\aY n\/∃ i:Nat,i<100/\n=i
theorem a7K{Φ:PW}[aB Φ]{n}(h:Dec Φ n):cS Φ prog F.strconv_Itoa #[.int .i64 n] (.string (RZ n)):=by
 rcases h with ⟨h1,h2⟩|⟨i,hi,rfl⟩
 .exact aCM h1 n h2
 .exact (aAB i hi).in
theorem Dec.i64{Φ n}(h:Dec Φ n):aY n:=by
 rcases h with ⟨_,h2⟩|⟨i,hi,rfl⟩
 .exact h2
 .unfold aY;omega
theorem OJ{Φ:PW}[aB Φ]{n}(h:Dec Φ n):cS Φ prog F.pQ #[.int .i64 n] (.string (pH n)):=by
 refine j7 (a10 n) λW R=>?_;have:=KM h.i64;exact λw G cx=>(a7K h).use cx λw cx=>⟨_,rfl,R,Φ,aM,cx,by show (RZ n).size+1<=_;omega,λw G cx=>⟨rfl,cx.left⟩⟩
theorem aQE{Φ:PW}[aB Φ]{n}(h:Dec Φ n):cS Φ prog F.Q6 #[.int .i64 n] (.string (UG n)):=by
 refine j7 (a13 n) λW R=>Br.intro (λhn=>λw G cx=>⟨?_,cx.left⟩) (λhn=>λw G cx=>(OJ h).use cx λw cx=>⟨_,rfl,R,Φ,aM,cx,λw G cx=>⟨?_,cx.left⟩⟩)
 .unfold UG;rw [if_pos (eR hn)]
 .unfold UG;rw [if_neg (dD hn)]
theorem aCN{Φ:PW}[aB Φ]{s}(h:Dec Φ s.size)(hs:s.size<=1000000000000000):cS Φ prog F.KH #[.string s] (.string (oS s)):=by
 refine j7 (ZT s) λW R=>?_;have h1:=KM h.i64;have e:(ByteArray.mk #[58]).size=1:=rfl;have e2:(ByteArray.mk #[44]).size=1:=rfl;exact λw G cx=>(a7K h).use cx λw cx=>⟨_,rfl,R,Φ,aM,cx,by show (RZ s.size).size+1<=_;omega,by show (RZ s.size++ByteArray.mk #[58]).size+s.size<=_;rw [sQ,e];omega,by show (RZ s.size++ByteArray.mk #[58]++s).size+1<=_;rw [sQ,sQ,e];omega,λw G cx=>⟨rfl,cx.left⟩⟩
end Go.Proofs.YtnlkemjhgdbfkaaGreatDoor
end

section
namespace Go.Vc
section
variable {P:Program}{W w:World}{R G:List Own}{Φ Ψ:PW}{f:FuncId}{args:Array Value}
class Has (Φ Ψ:PW):Prop where
 go:∀ M w,Φ M w->Ψ M w
instance(priority:=2000) aZq (Φ:PW):Has Φ Φ:=⟨λ_ _ h=>h⟩
instance(priority:=900) b7f (A B Ψ:PW) [h:Has A Ψ]:Has (λM w=>A M w/\B M w) Ψ:=⟨λM w x=>h.go M w x.1⟩
instance(priority:=1000) b7g (A B Ψ:PW) [h:Has B Ψ]:Has (λM w=>A M w/\B M w) Ψ:=⟨λM w x=>h.go M w x.2⟩
instance(priority:=800) b1W (Φ A B:PW) [h:Has Φ A] [k:Has Φ B]:Has Φ (λM w=>A M w/\B M w):=⟨λM w x=>⟨h.go M w x,k.go M w x⟩⟩
theorem Ctx.has(c:Ctx W w R Φ)[h:Has Φ Ψ]:Ctx W w R Ψ:=c.weak h.go
theorem cS.toI[aB Φ]{n k}(h:cS Φ P f args (.int k n))(c:Ctx W w (R++G) Φ){K:Int->List Own->PW->Prop}(hk:K n R Φ):
  Calls P f args w λe w'=>∃ c,e=.returned (.int k c)/\∃ R' aU,aB aU/\Ctx W w' (R'++G) aU/\K c R' aU :=
 h.use c λw' c=>⟨n,rfl,R,Φ,aM,c,hk⟩
theorem cS.toS[aB Φ]{s}(h:cS Φ P f args (.string s))(c:Ctx W w (R++G) Φ){K:ByteArray->List Own->PW->Prop}(hk:K s R Φ):
  Calls P f args w λe w'=>∃ c,e=.returned (.string c)/\∃ R' aU,aB aU/\Ctx W w' (R'++G) aU/\K c R' aU :=
 h.use c λw' c=>⟨s,rfl,R,Φ,aM,c,hk⟩
theorem fin[aB Φ][aB Ψ][hw:Has Ψ Φ]{v:Value}(c:Ctx W w (R++G) Ψ):v=v/\Ctx W w R Φ:=⟨rfl,(Ctx.has c).left⟩
end
def WA(g:Nat):PW:=λM w=>g ∉ M/\∃ ev,w.cell? ⟨g,0,none⟩=some ev/\(ev=.nilIface\/∃ te pe,ev=.iface te pe)
instance aGf(g:Nat):aB (WA g):=⟨fun {M M' w w'} hs ⟨h1,ev,h2,h3⟩=>by
 have hlt:g<w.heap.size:=by
  rcases Nat.lt_or_ge g w.heap.size with h'|h'
  .exact h'
  .simp [World.cell?,Array.getElem?_eq_none h'] at h2
 refine ⟨λhm=>?_,ev,hs.chg.cell h2 h1,h3⟩;rcases hs.sub g hm with h|h
 .exact h1 h
 .omega⟩
theorem UI{w w'}(h:Go.RowKit.Below w.heap.size w w'):lW [] w w':=⟨h.os,h.tape,h.output,h.size,λk hk _=>h.block k hk⟩
theorem a2l{P op t ox oy u v}(w):(eqGuard op t ox oy (.iface u v) .nilIface).run P w=.ok () w:=by
 unfold eqGuard;cases op<;>rfl
theorem a7L{P op t}{k:Nat}{v}(w):(eqGuard op t (.tmp k) (.const v) .nilIface .nilIface).run P w=.ok () w:=by
 unfold eqGuard;cases op<;>rfl
theorem aMe{P op t t'}{k:Nat}{v}(ht:P.isIface t'=true)(w):((eqGuard op t (.tmp k) (.const v) .nilIface .nilIface) >>= λ_=>binOp .neq t' .nilIface .nilIface).run P w=.ok (.bool false) w:=by
 rw [Sem.run_bind,a7L];exact Go.run_neq_nil_nil_at w t' ht
theorem aMf{P op t t' ox oy u v}(ht:P.isIface t'=true)(w):((eqGuard op t ox oy (.iface u v) .nilIface) >>= λ_=>binOp .neq t' (.iface u v) .nilIface).run P w=.ok (.bool true) w:=by
 rw [Sem.run_bind,a2l];exact Go.run_neq_iface_nil w t' ht u v
end Go.Vc
namespace Go.Proofs.YtnlkemjhgdbfkaaGreatDoor
open Go.Vc
def uL:PW:=λM w=>yT M w/\WA 3 M w/\WA 4 M w
instance aIp:aB uL:=cE yT (λM w=>WA 3 M w/\WA 4 M w)
def bs(l:List UInt8):ByteArray:=⟨l.toArray⟩
theorem qI(l):(bs l).data.toList=l:=rfl
theorem bL(l):(bs l).size=l.length:=a3p l
theorem a0z(l a b):(bs l).extract a b=bs ((l.drop a).take (b - a)):=by
 apply ByteArray.ext;apply Array.toList_inj.1;rw [ByteArray.data_extract,Array.toList_extract];rfl
theorem a5g{a b}:bs a=bs b ↔ a=b:=⟨λh=>by have:=congrArg (λx=>x.data.toList) h;exact this,λh=>by rw [h]⟩
theorem aWs(s):bs s.data.toList=s:=rfl
abbrev GM:=List UInt8 × Bool
def J6(e:UInt8)(least:Int)(l:List UInt8):Option (Int × List UInt8) :=
 let i:=Lib.indexByte (l.take 21) e
 if i<0 then none else match Lib.atoiAll (l.take i.toNat) with
  | .ok n=>if Lib.itoa n=l.take i.toNat/\least<=n then some (n,l.drop (i.toNat+1)) else none
  | _=>none
def gQ(e:UInt8)(least:Int)(st:GM):Int × GM:=match J6 e least st.1 with
 | some (n,r)=>(n,(r,st.2))
 | none=>(0,([],true))
def J7(c:UInt8)(st:GM):GM:=match st.1 with
 | []=>([],true)
 | x :: r=>if x=c then (r,st.2) else ([],true)
def stepT(st:GM):ByteArray × GM :=
 let a:=gQ 58 0 st
 if (a.2.1.length:Int)<a.1 then (ByteArray.mk #[],([],true)) else
  let c:=J7 44 (a.2.1.drop a.1.toNat,a.2.2)
  (if c.2 then ByteArray.mk #[] else bs (a.2.1.take a.1.toNat),c)
theorem a7M{l r:List UInt8}{i e}(h:l.take i++e :: r=l)(hi:i<l.length):l[i]? = some e:=by
 have hl:(l.take i).length=i:=by rw [List.length_take];omega
 rw [<-h,List.getElem?_append_right (by omega),hl,Nat.sub_self];rfl
theorem UJ:∀ (l:List UInt8) (c:UInt8),-1<=Lib.indexByte l c/\(Lib.indexByte l c = -1\/(0<=Lib.indexByte l c/\Lib.indexByte l c<l.length/\l.take (Lib.indexByte l c).toNat++c :: l.drop ((Lib.indexByte l c).toNat+1)=l/\c ∉ l.take (Lib.indexByte l c).toNat))
 | [],c=>by simp [Lib.indexByte]
 | b :: l,c=>by
  have ih:=UJ l c;unfold Lib.indexByte;by_cases hb:(b == c)=true
  .rw [if_pos hb];have:b=c:=by simpa using hb
   subst this;refine ⟨by omega,.inr ⟨by omega,by simp,by simp,by simp⟩⟩
  .rw [if_neg hb];by_cases h1:(Lib.indexByte l c == -1)=true
   .rw [if_pos h1];exact ⟨by omega,.inl rfl⟩
   .rw [if_neg h1];have h1:Lib.indexByte l c ≠ -1:=by simpa using h1
    obtain ⟨h2,h3⟩:=ih;rcases h3 with h3|⟨h3,h4,h5,h6⟩
    .exact absurd h3 h1
    .have e:(Lib.indexByte l c+1).toNat=(Lib.indexByte l c).toNat+1:=by omega
     refine ⟨by omega,.inr ⟨by omega,by simp;omega,?_,?_⟩⟩
     .rw [e,List.take_succ_cons,List.drop_succ_cons,List.cons_append,h5]
     .rw [e,List.take_succ_cons,List.mem_cons,not_or];exact ⟨λe=>hb (by simp [e]),h6⟩
theorem a7N{l c a r}(hl:l=a++c :: r)(hc:c ∉ a):Lib.indexByte l c=a.length:=by
 subst hl
 induction a with
 | nil=>simp [Lib.indexByte]
 | cons b a ih =>
  have hb:b≠c:=λe=>hc (by simp [e]);have ih:=ih λh=>hc (by simp [h]);rw [List.cons_append];unfold Lib.indexByte;rw [if_neg (by simpa using hb),if_neg (by rw [ih];simp),ih];simp
theorem xO:∀ (u:Nat),∀ c∈Lib.decDigits u,48<=c.toNat/\c.toNat<=57:=by
 intro u
 induction u using Nat.strongRecOn with
 | _ u ih =>
  intro c hc;rw [Lib.decDigits] at hc;split at hc
  .rename_i h;rw [List.mem_singleton] at hc;subst hc;have:(UInt8.ofNat (48+u)).toNat=48+u:=by simp;omega
   omega
  .rename_i h;rcases List.mem_append.1 hc with hc|hc
   .exact ih (u / 10) (by omega) c hc
   .rw [List.mem_singleton] at hc;subst hc;have:(UInt8.ofNat (48+u % 10)).toNat=48+u % 10:=by simp;omega
    omega
theorem aAC{n c}(h:c∈Lib.itoa n):c.toNat=45\/48<=c.toNat/\c.toNat<=57:=by
 unfold Lib.itoa at h;split at h
 .rcases List.mem_cons.1 h with rfl|h
  .left;rfl
  .right;exact xO _ c h
 .right;exact xO _ c h
def a2m(acc:Nat)(l:List UInt8):Nat:=l.foldl (λa c=>a*10+(c.toNat - 48)) acc
theorem aEt(acc l c):a2m acc (l++[c])=a2m acc l*10+(c.toNat - 48):=by simp [a2m]
theorem a7O:∀ u:Nat,a2m 0 (Lib.decDigits u)=u:=by
 intro u
 induction u using Nat.strongRecOn with
 | _ u ih =>
  rw [Lib.decDigits];split
  .rename_i h;show 0*10+((UInt8.ofNat (48+u)).toNat - 48)=u;have:(UInt8.ofNat (48+u)).toNat=48+u:=by simp;omega
   omega
  .rename_i h;rw [aEt,ih (u / 10) (by omega)];have:(UInt8.ofNat (48+u % 10)).toNat=48+u % 10:=by simp;omega
   omega
theorem a3q:∀ (l:List UInt8) (acc:Nat),acc<=a2m acc l
 | [],acc=>Nat.le_refl _
 | c :: l,acc=>by
  have:=a3q l (acc*10+(c.toNat - 48));show acc<=a2m (acc*10+(c.toNat - 48)) l;omega
theorem a3r:∀ (l:List UInt8) (acc:Nat),(∀ c∈l,48<=c.toNat/\c.toNat<=57)->a2m acc l<18446744073709551616->Lib.parseUint10 acc l=.ok (a2m acc l)
 | [],acc,_,_=>rfl
 | c :: l,acc,hc,h=>by
  have h0:=hc c (by simp);have hm:=a3q l (acc*10+(c.toNat - 48));have e:a2m acc (c :: l)=a2m (acc*10+(c.toNat - 48)) l:=rfl;rw [e] at h ⊢;unfold Lib.parseUint10;rw [if_pos h0,if_neg (by omega),if_neg (by omega)];exact a3r l _ (λd hd=>hc d (by simp [hd])) h
theorem aIq(u):Lib.decDigits u≠[]:=by
 intro e;have h1:=Lib.decDigits_length u;have h2:=Lib.nDigits_pos u;rw [e] at h1;simp at h1;omega
theorem aCO{u}(h:u<18446744073709551616):Lib.parseMag (Lib.decDigits u)=.ok u:=by
 unfold Lib.parseMag;rw [if_neg (aIq u),a3r _ 0 (xO u) (by rw [a7O];exact h),a7O]
theorem aEu{n}(h:aY n):Lib.atoiAll (Lib.itoa n)=.ok n:=by
 unfold aY at h;unfold Lib.itoa;split
 .rename_i hn;have hm:=aCO (u:=n.natAbs) (by omega);unfold Lib.atoiAll;simp only;rw [if_pos (.inr rfl),hm];simp only;have e45:(45:UInt8).toNat=45:=rfl;rw [if_neg (by intro h;exact h.1 e45),if_neg (by intro h;omega),if_pos e45]
  congr 1
  omega
 .rename_i hn;have hm:=aCO (u:=n.toNat) (by omega);obtain ⟨c,r,hcr⟩:∃ c r,Lib.decDigits n.toNat=c :: r:=by
   cases hd:Lib.decDigits n.toNat with
   | nil=>exact absurd hd (aIq _)
   | cons c r=>exact ⟨c,r,rfl⟩
  have h0:=xO n.toNat c (by rw [hcr];simp);rw [hcr] at hm ⊢;unfold Lib.atoiAll;simp only;rw [if_neg (by omega),hm];simp only;rw [if_neg (by omega),if_neg (by omega),if_neg (by omega)]
  congr 1
  omega
theorem J8{e}(he:e.toNat=58\/e.toNat=59\/e.toNat=91){least l n r}:J6 e least l=some (n,r) ↔ (aY n/\least<=n)/\l=Lib.itoa n++e :: r:=by
 have hne:∀ n:Int,e ∉ Lib.itoa n:=λn h=>by have:=aAC h;omega
 constructor
 .intro h;unfold J6 at h;simp only at h;split at h
  .cases h
  .rename_i hi;split at h
   .rename_i m hm;split at h
    .rename_i hc;cases h;have hb:=Lib.atoiAll_bounds hm;obtain ⟨_,h3⟩:=UJ (l.take 21) e;rcases h3 with h3|⟨h3,h4,h5,h6⟩
     .omega
     .refine ⟨⟨by unfold aY;omega,hc.2⟩,?_⟩;rw [hc.1];have hlt:(Lib.indexByte (l.take 21) e).toNat<(l.take 21).length:=by omega
      have aMg:(Lib.indexByte (l.take 21) e).toNat<l.length:=by rw [List.length_take] at hlt;omega
      have hg:l[(Lib.indexByte (l.take 21) e).toNat]=e:=by
       have h7:(l.take 21)[(Lib.indexByte (l.take 21) e).toNat]? = some e:=a7M h5 (by omega);rw [List.getElem?_take_of_lt (by rw [List.length_take] at hlt;omega),List.getElem?_eq_getElem aMg] at h7;exact Option.some.inj h7
      conv=>lhs;rw [<-List.take_append_drop (Lib.indexByte (l.take 21) e).toNat l,List.drop_eq_getElem_cons aMg,hg]
    .cases h
   .cases h
 .rintro ⟨⟨h1,h2⟩,rfl⟩;have hlen:=a7J h1;have ht:(Lib.itoa n++e :: r).take 21=Lib.itoa n++e :: r.take (20 - (Lib.itoa n).length):=by
   rw [List.take_append,List.take_of_length_le (by omega)]
   congr 1
   rw [show 21 - (Lib.itoa n).length=(20 - (Lib.itoa n).length)+1 by omega,List.take_succ_cons]
  have hi:=a7N ht (hne n);unfold J6;simp only;rw [hi,if_neg (by omega),Int.toNat_natCast,List.take_left',aEu h1]
  .simp only;rw [if_pos ⟨by simp,h2⟩]
   congr 2
   rw [List.drop_append,List.drop_of_length_le (by omega),List.nil_append,show (Lib.itoa n).length+1 - (Lib.itoa n).length=1 by omega];rfl
  .rfl
abbrev rd(b:Nat)(st:GM):Own:=.blk b [.string (bs st.1),.bool st.2] 288
section
variable {W w:World}{R G S:List Own}{Φ:PW}{b:Nat}{st:GM}
theorem J9[aB Φ](l)(c:Ctx W w S Φ){K}(hk:∀ b w',Ctx W w' (rd b (l,false) :: S) Φ->K (.returned (.pointer (some ⟨b,0,none⟩))) w'):
  aD F.u0 #[.string (bs l)] w K:=by
 refine gC (ZU (bs l) (J:=K∘.returned) c ?_);exact λb w G cx=>hk b w (Ctx.left (S:=rd b (l,false) :: S) cx)
theorem aIr[aB Φ](c:Ctx W w (rd b st :: S) Φ){K}(hk:∀ w',Ctx W w' (rd b ([],true) :: S) Φ->K (.returned (.tuple #[])) w'):
  aD F.cZ #[.pointer (some ⟨b,0,none⟩)] w K:=by
 refine gC (FW b 0 (J:=K∘.returned) c ?_);refine λw G cx=>⟨cx.can 0 rfl (by simp),λw' hw'=>⟨.blk b [.string (bs []),.bool st.2] 288 :: S,Φ,aM,cx.put 0 hw' rfl,λw G cx=>⟨cx.can 0 rfl (by simp),λw' hw'=>⟨rd b ([],true) :: S,Φ,aM,cx.put 0 hw' rfl,λw G cx=>hk w cx.left⟩⟩⟩⟩
theorem Y2[aB Φ](c:Ctx W w (rd b st :: S++G) Φ){K:List Own->PW->Prop}(hk:K (rd b ([],true) :: S) Φ):
  aD F.cZ #[.pointer (some ⟨b,0,none⟩)] w λe w'=>e=.returned (.tuple #[])/\∃ R' aU,aB aU/\Ctx W w' (R'++G) aU/\K R' aU :=
 aIr (S:=S++G) c λw' c=>⟨rfl,rd b ([],true) :: S,Φ,aM,c,hk⟩
theorem aMh(s c):a0k prog F.strings_IndexByte #[.string s,.int .u8 c] (.int .i64 (Lib.indexByte s.data.toList c.toNat.toUInt8)) :=
 Quiet.a3g ⟨λw=>Any.strings_IndexByte Tryz.aL7 s c w⟩
theorem aMi[aB Φ](h1:∀ M w,Φ M w->WA 3 M w)(h2:∀ M w,Φ M w->WA 4 M w)(s)(hs:s.size<=1000000)(c:Ctx W w (R++G) Φ){K1:Int->List Own->PW->Prop}{K2:Int->TypeId->Value->List Own->PW->Prop}(k1:∀ n,Lib.atoiAll s.data.toList=.ok n->K1 n R Φ)(k2:∀ n t v,(∀ m,Lib.atoiAll s.data.toList≠.ok m)->K2 n t v R Φ):
  aD F.strconv_Atoi #[.string s] w λe w'=>(∃ n:Int,e=.returned (.tuple #[.int .i64 n,.nilIface])/\∃ R' aU,aB aU/\Ctx W w' (R'++G) aU/\K1 n R' aU) \/
   ∃ (n:Int) (t:TypeId) (v:Value),e=.returned (.tuple #[.int .i64 n,.iface t v])/\∃ R' aU,aB aU/\Ctx W w' (R'++G) aU/\K2 n t v R' aU:=by
 obtain ⟨_,ev,hv,hev⟩:=h1 _ _ c.uX;obtain ⟨_,er,hr,her⟩:=h2 _ _ c.uX;cases h:Lib.atoiAll s.data.toList
 .rename_i n;refine (Any.strconv_Atoi_ok Tryz.a0m s (by omega) n h w).mono λe w' ⟨he,hw⟩=>.inl ⟨n,he,R,Φ,aM,?_,k1 n h⟩;rcases hw with rfl|⟨t,rfl⟩
  .exact c
  .exact c.call (UI (Lib.bytesWorld_below _ _ _))
 .exact (Any.strconv_Atoi_syntax Tryz.a0m s (by omega) h ev w hv hev).mono λe w' ⟨N,he,_,_,hb⟩=>.inr ⟨_,_,_,he,R,Φ,aM,c.call (UI hb),k2 _ _ _ λm hm=>by rw [h] at hm;cases hm⟩
 .exact (Any.strconv_Atoi_range Tryz.a0m s (by omega) h er w hr her).mono λe w' ⟨N,he,_,_,hb⟩=>.inr ⟨_,_,_,he,R,Φ,aM,c.call (UI hb),k2 _ _ _ λm hm=>by rw [h] at hm;cases hm⟩
theorem a0A{e least}(h:J6 e least st.1=none):gQ e least st=(0,([],true)):=by unfold gQ;rw [h]
theorem a0B{e least n r}(h:J6 e least st.1=some (n,r)):gQ e least st=(n,(r,st.2)):=by unfold gQ;rw [h]
set_option maxHeartbeats 2000000 in
theorem aAD[aB Φ](nS:∀ M w,Φ M w->uL M w)(e least)(hl:st.1.length<=1000000000000000)(c:Ctx W w (rd b st :: S) Φ){K}(hk:∀ w',Ctx W w' (rd b (gQ e.toNat.toUInt8 least st).2 :: S) Φ->K (.returned (.int .i64 (gQ e.toNat.toUInt8 least st).1)) w'):
  aD F.gS #[.pointer (some ⟨b,0,none⟩),.int .u8 e,.int .i64 least] w K:=by
 refine gC (CV b 0 e least (J:=K∘.returned) c ?_);clear c;obtain ⟨l,bad⟩:=st;simp only at hl;have hsz:(bs l).size=l.length:=bL l;have hmin:(min ((bs l).size:Int) 21).toNat=min l.length 21:=by rw [hsz];omega
 have aWt:(bs l).extract 0 (min ((bs l).size:Int) 21).toNat=bs (l.take 21):=by
  rw [hmin,a0z,List.drop_zero,Nat.sub_zero]
  congr 1
  rcases Nat.le_total l.length 21 with h|h
  .rw [Nat.min_eq_left h,List.take_of_length_le (Nat.le_refl _),List.take_of_length_le h]
  .rw [Nat.min_eq_right h]
 refine λw G cx=>⟨bs l,cx.get 0 rfl rfl,bs l,cx.get 0 rfl rfl,by omega,λw G cx=>?_⟩;rw [aWt];refine (aMh (bs (l.take 21)) e).in.toI (R:=rd b (l,bad) :: S) cx ?_;rw [qI];obtain ⟨i,hi⟩:∃ i,Lib.indexByte (l.take 21) e.toNat.toUInt8=i:=⟨_,rfl⟩;obtain ⟨hge,hidx⟩:=UJ (l.take 21) e.toNat.toUInt8;rw [hi] at hge hidx ⊢;have failK:J6 e.toNat.toUInt8 least l=none->∀ (w:World) (G:List Own),Ctx W w (rd b (l,bad) :: S++G) Φ->aD F.cZ #[.pointer (some ⟨b,0,none⟩)] w λe w'=>e=.returned (.tuple #[])/\∃ R' aU,aB aU/\Ctx W w' (R'++G) aU/\∀ w F1,Ctx W w (R'++F1) aU->K (.returned (.int .i64 0)) w:=λhn w G cx=>by
  rw [a0A (st:=(l,bad)) hn] at hk;exact Y2 (S:=S) cx λw F1 cx=>hk w cx.left
 refine Br.intro (λhneg=>λw G cx=>failK ?_ w G cx) (λhpos=>?_)
 .unfold J6;simp only [hi];rw [if_pos (eR hneg)]
 have hpos:=dD hpos;rcases hidx with hidx|⟨_,hlt,_,_⟩
 .omega
 have aMg:i.toNat<(l.take 21).length:=by omega
 have hll:(l.take 21).length<=l.length:=by rw [List.length_take];omega
 have h21:(l.take 21).length<=21:=by rw [List.length_take];omega
 have hhd:(bs (l.take 21)).extract 0 i.toNat=bs (l.take i.toNat):=by
  rw [a0z,List.drop_zero,Nat.sub_zero,List.take_take,Nat.min_eq_left (by omega)]
 refine ⟨⟨by omega,by rw [bL];omega⟩,λw G cx=>?_⟩;rw [hhd];refine aMi (R:=rd b (l,bad) :: S) (λM w h=>(nS M w h).2.1) (λM w h=>(nS M w h).2.2) (bs (l.take i.toNat)) (by rw [bL,List.length_take];omega) cx (λn hn=>?_) (λn t v hn=>?_)
 .rw [qI] at hn;have hb:=Lib.atoiAll_bounds hn;refine ⟨rd b (l,bad) :: S,Φ,aM,λw G cx=>cx,false,λw=>aMe (by decide +kernel) w,Br.intro (λh=>by cases h) (λ_=>⟨⟨by omega,by rw [bL];omega⟩,λw G cx=>?_⟩)⟩;refine (aCM (λM w h=>(nS M w h).1) n (by unfold aY;omega)).toS cx ⟨λw G cx=>cx,Br.intro (λhne=>λw G cx=>failK ?_ w G cx) (λheq=>Br.intro (λhls=>λw G cx=>failK ?_ w G cx) (λhls=>λw G cx=>?_))⟩
  .have hne:=eR hne;unfold J6;simp only [hi];rw [if_neg (by omega),hn];simp only;rw [if_neg (λh=>hne (by show bs (Lib.itoa n)=_;rw [h.1]))]
  .unfold J6;simp only [hi];rw [if_neg (by omega),hn];simp only;rw [if_neg (λh=>by have:=eR hls;omega)]
  .have heq:Lib.itoa n=l.take i.toNat:=a5g.1 (Decidable.not_not.1 (dD heq));have hls:=dD hls;have b1X:J6 e.toNat.toUInt8 least l=some (n,l.drop (i.toNat+1)):=by
    unfold J6;simp only [hi];rw [if_neg (by omega),hn];simp only;rw [if_pos ⟨heq,by omega⟩]
   rw [a0B (st:=(l,bad)) b1X] at hk;have hex:(bs l).extract (i+1).toNat (bs l).size=bs (l.drop (i.toNat+1)):=by
    rw [a0z,hsz,show (i+1).toNat=i.toNat+1 by omega]
    congr 1
    exact List.take_of_length_le (by rw [List.length_drop];omega)
   refine ⟨bs l,cx.get 0 rfl rfl,?_,⟨by omega,by omega,Nat.le_refl _⟩,λw G cx=>⟨cx.can 0 rfl (by simp),λw' hw'=>?_⟩⟩
   .unfold aY;omega
   rw [hex] at hw';exact ⟨rd b (l.drop (i.toNat+1),bad) :: S,Φ,aM,cx.put 0 hw' rfl,λw G cx=>hk w cx.left⟩
 .rw [qI] at hn;refine ⟨[],λ_ _=>True,aM,λw G cx=>(cx.weak λ_ _ _=>trivial).right,true,λw=>?_,Br.intro (λ_=>λw G cx=>failK ?_ w G cx) (λh=>by cases h)⟩
  .exact aMf (by decide +kernel) w
  .unfold J6;simp only [hi];rw [if_neg (by omega)]
theorem UK[aB Φ](nS:∀ M w,Φ M w->uL M w)(e least)(hl:st.1.length<=1000000000000000)(c:Ctx W w (rd b st :: S++G) Φ){K:Int->List Own->PW->Prop}(hk:K (gQ e.toNat.toUInt8 least st).1 (rd b (gQ e.toNat.toUInt8 least st).2 :: S) Φ):
  aD F.gS #[.pointer (some ⟨b,0,none⟩),.int .u8 e,.int .i64 least] w λe w'=>∃ n,e=.returned (.int .i64 n)/\∃ R' aU,aB aU/\Ctx W w' (R'++G) aU/\K n R' aU :=
 aAD (S:=S++G) nS e least hl c λw' c=>⟨_,rfl,_,Φ,aM,c,hk⟩
def eI(st:GM):Int × GM:=gQ 59 (-9223372036854775808) st
def mU(st:GM):Int × GM:=gQ 59 0 st
theorem S0[aB Φ](nS:∀ M w,Φ M w->uL M w)(hl:st.1.length<=1000000000000000)(c:Ctx W w (rd b st :: S++G) Φ){K:Int->List Own->PW->Prop}(hk:K (eI st).1 (rd b (eI st).2 :: S) Φ):
  aD F.cN #[.pointer (some ⟨b,0,none⟩)] w λe w'=>∃ n,e=.returned (.int .i64 n)/\∃ R' aU,aB aU/\Ctx W w' (R'++G) aU/\K n R' aU:=by
 refine gC (HU b 0 (J:=λu w'=>∃ n,(Ending.returned u)=.returned (.int .i64 n)/\∃ R' aU,aB aU/\Ctx W w' (R'++G) aU/\K n R' aU) (R:=rd b st :: (S++G)) c ?_);exact λw F1 cx=>UK (S:=S++G) nS 59 _ hl cx λw F1 cx=>⟨_,rfl,_,Φ,aM,cx.left,hk⟩
theorem a5h[aB Φ](nS:∀ M w,Φ M w->uL M w)(hl:st.1.length<=1000000000000000)(c:Ctx W w (rd b st :: S++G) Φ){K:Int->List Own->PW->Prop}(hk:K (mU st).1 (rd b (mU st).2 :: S) Φ):
  aD F.jN #[.pointer (some ⟨b,0,none⟩)] w λe w'=>∃ n,e=.returned (.int .i64 n)/\∃ R' aU,aB aU/\Ctx W w' (R'++G) aU/\K n R' aU:=by
 refine gC (HV b 0 (J:=λu w'=>∃ n,(Ending.returned u)=.returned (.int .i64 n)/\∃ R' aU,aB aU/\Ctx W w' (R'++G) aU/\K n R' aU) (R:=rd b st :: (S++G)) c ?_);exact λw F1 cx=>UK (S:=S++G) nS 59 _ hl cx λw F1 cx=>⟨_,rfl,_,Φ,aM,cx.left,hk⟩
theorem a5i[aB Φ](c:Ctx W w (rd b st :: S++G) Φ){K:Int->List Own->PW->Prop}(hk:K st.1.length (rd b st :: S) Φ):
  aD F.lD #[.pointer (some ⟨b,0,none⟩)] w λe w'=>∃ n,e=.returned (.int .i64 n)/\∃ R' aU,aB aU/\Ctx W w' (R'++G) aU/\K n R' aU:=by
 refine gC (FV b 0 (J:=λu w'=>∃ n,(Ending.returned u)=.returned (.int .i64 n)/\∃ R' aU,aB aU/\Ctx W w' (R'++G) aU/\K n R' aU) (R:=rd b st :: (S++G)) c ?_);exact λw F1 cx=>⟨bs st.1,cx.get 0 rfl rfl,λw F1 cx=>⟨st.1.length,by rw [bL],_,Φ,aM,cx.left,hk⟩⟩
def sR(st:GM):Bool := !st.2&&decide (st.1=[])
theorem Y3[aB Φ](c:Ctx W w (rd b st :: S++G) Φ){K:Bool->List Own->PW->Prop}(hk:K (sR st) (rd b st :: S) Φ):
  aD F.dZ #[.pointer (some ⟨b,0,none⟩)] w λe w'=>∃ n,e=.returned (.bool n)/\∃ R' aU,aB aU/\Ctx W w' (R'++G) aU/\K n R' aU:=by
 refine gC (FU b 0 (J:=λu w'=>∃ n,(Ending.returned u)=.returned (.bool n)/\∃ R' aU,aB aU/\Ctx W w' (R'++G) aU/\K n R' aU) (R:=rd b st :: (S++G)) c ?_);refine λw F1 cx=>⟨st.2,cx.get 0 rfl rfl,bs st.1,λ_=>cx.get 0 rfl rfl,λw F1 cx=>⟨sR st,?_,_,Φ,aM,cx.left,hk⟩⟩;have e:decide (bs st.1=ByteArray.mk #[])=decide (st.1=[]):=by
  rw [show ByteArray.mk #[]=bs [] from rfl];exact decide_eq_decide.2 a5g
 rw [e];rfl
theorem aAE(c:UInt8)(l:List UInt8):Lib.hasPrefix l [c]=(match l with | []=>false|x :: _=>x == c):=by
 cases l with
 | nil=>rfl
 | cons x r =>
  unfold Lib.hasPrefix;rw [List.isPrefixOf_cons_cons];simp [Bool.beq_comm]
theorem aIs[aB Φ](e)(c:Ctx W w (rd b st :: S++G) Φ){K:List Own->PW->Prop}(hk:K (rd b (J7 e st) :: S) Φ):
  aD F.sI #[.pointer (some ⟨b,0,none⟩),.string (ByteArray.mk #[e])] w λe w'=>e=.returned (.tuple #[])/\∃ R' aU,aB aU/\Ctx W w' (R'++G) aU/\K R' aU:=by
 refine gC (EE b 0 (ByteArray.mk #[e]) (J:=λu w'=>(Ending.returned u)=.returned (.tuple #[])/\∃ R' aU,aB aU/\Ctx W w' (R'++G) aU/\K R' aU) (R:=rd b st :: (S++G)) c ?_);clear c;obtain ⟨l,bad⟩:=st;refine λw F1 cx=>⟨bs l,cx.get 0 rfl rfl,λw F1 cx=>?_⟩;refine (Any.strings_CutPrefix Tryz.aL8 (bs l) (ByteArray.mk #[e]) w).mono λe2 w' ⟨he,hw⟩=>?_;subst hw;refine ⟨_,_,he,rd b (l,bad) :: (S++G),Φ,aM,cx,?_⟩
 clear cx;rw [qI,show (ByteArray.mk #[e]).data.toList=[e] from rfl];unfold Lib.trimPrefix;rw [aAE];unfold J7 at hk;cases l with
 | nil =>
  refine λw F1 cx=>⟨cx.can 0 rfl (by simp),λw' hw'=>⟨rd b ([],bad) :: (S++G),Φ,aM,cx.put 0 hw' rfl,Br.intro (λ_=>λw F1 cx=>Y2 (S:=S++G) cx λw F1 cx=>⟨by first|trivial|rfl,_,Φ,aM,cx.left,hk⟩) (λh=>by cases h)⟩⟩
 | cons x r =>
  simp only at hk ⊢;by_cases hx:x=e
  .subst hx;rw [if_pos rfl] at hk;rw [if_pos (by simp)];refine λw F1 cx=>⟨cx.can 0 rfl (by simp),λw' hw'=>⟨rd b (r,bad) :: (S++G),Φ,aM,cx.put 0 hw' rfl,Br.intro (λh=>by simp at h) (λ_=>λw F1 cx=>⟨by first|trivial|rfl,_,Φ,aM,cx.left,hk⟩)⟩⟩
  .rw [if_neg hx] at hk;rw [if_neg (by simpa using hx)];refine λw F1 cx=>⟨cx.can 0 rfl (by simp),λw' hw'=>⟨rd b (x :: r,bad) :: (S++G),Φ,aM,cx.put 0 hw' rfl,Br.intro (λ_=>λw F1 cx=>Y2 (S:=S++G) cx λw F1 cx=>⟨by first|trivial|rfl,_,Φ,aM,cx.left,hk⟩) (λh=>by simp at h;exact absurd h hx)⟩⟩
theorem a5j{e}(he:e.toNat=58\/e.toNat=59\/e.toNat=91)(st):0<=(gQ e 0 st).1/\(gQ e 0 st).1<=9223372036854775807:=by
 unfold gQ;split
 .rename_i n r h;obtain ⟨⟨h1,h2⟩,_⟩:=(J8 he).1 h;unfold aY at h1;simp only;omega
 .simp only;omega
theorem rF(e least st):(gQ e least st).2.1.length<=st.1.length:=by
 unfold gQ;split
 .rename_i n r h;unfold J6 at h;simp only at h;split at h
  .cases h
  .split at h
   .split at h
    .cases h;simp only [List.length_drop];omega
    .cases h
   .cases h
 .simp
theorem a5k[aB Φ](nS:∀ M w,Φ M w->uL M w)(hl:st.1.length<=1000000000000000)(c:Ctx W w (rd b st :: S++G) Φ){K:ByteArray->List Own->PW->Prop}(hk:K (stepT st).1 (rd b (stepT st).2 :: S) Φ):
  aD F.lA #[.pointer (some ⟨b,0,none⟩)] w λe w'=>∃ n,e=.returned (.string n)/\∃ R' aU,aB aU/\Ctx W w' (R'++G) aU/\K n R' aU:=by
 refine gC (FT b 0 (J:=λu w'=>∃ n,(Ending.returned u)=.returned (.string n)/\∃ R' aU,aB aU/\Ctx W w' (R'++G) aU/\K n R' aU) (R:=rd b st :: (S++G)) c ?_);clear c;refine λw F1 cx=>UK (S:=S++G) nS 58 0 hl cx ?_;rw [show ((58:Int).toNat.toUInt8)=(58:UInt8) from rfl];unfold stepT at hk;simp only at hk;have hn:=a5j (e:=58) (.inl rfl) st;obtain ⟨⟨n,l,bad⟩,ha⟩:∃ a,gQ 58 0 st=a:=⟨_,rfl⟩;rw [ha] at hk hn ⊢;simp only at hk hn ⊢
 refine λw F1 cx=>⟨bs l,cx.get 0 rfl rfl,Br.intro (λh=>?_) (λh=>?_)⟩
 .have h:=eR h;rw [bL] at h;rw [if_pos h] at hk;exact λw F1 cx=>Y2 (S:=S++G) cx λw F1 cx=>⟨_,rfl,_,Φ,aM,cx.left,hk⟩
 .have h:=dD h;rw [bL] at h;rw [if_neg h] at hk;have e1:(bs l).extract n.toNat (bs l).size=bs (l.drop n.toNat):=by
   rw [a0z,bL]
   congr 1
   exact List.take_of_length_le (by rw [List.length_drop];omega)
  have e2:(bs l).extract 0 n.toNat=bs (l.take n.toNat):=by rw [a0z,List.drop_zero,Nat.sub_zero]
  refine λw F1 cx=>⟨bs l,cx.get 0 rfl rfl,⟨by omega,by rw [bL];omega⟩,λw F1 cx=>⟨bs l,cx.get 0 rfl rfl,⟨by omega,by rw [bL];omega,Nat.le_refl _⟩,λw F1 cx=>⟨cx.can 0 rfl (by simp),λw' hw'=>?_⟩⟩⟩;rw [e1] at hw';refine ⟨rd b (l.drop n.toNat,bad) :: (S++G),Φ,aM,cx.put 0 hw' rfl,λw F1 cx=>aIs (S:=S++G) 44 cx λw F1 cx=>⟨(J7 44 (l.drop n.toNat,bad)).2,cx.get 0 rfl rfl,Br.intro (λhb=>?_) (λhb=>?_)⟩⟩
  .rw [hb] at hk;exact λw F1 cx=>⟨_,rfl,_,Φ,aM,cx.left,hk⟩
  .rw [hb] at hk;rw [e2];exact λw F1 cx=>⟨_,rfl,_,Φ,aM,cx.left,hk⟩
end
end Go.Proofs.YtnlkemjhgdbfkaaGreatDoor
end

section
namespace Go.Proofs.YtnlkemjhgdbfkaaGreatDoor
open Go.Vc
theorem a0C{e}(he:e.toNat=58\/e.toNat=59\/e.toNat=91){least n r bad}(h:aY n)(h2:least<=n):gQ e least (Lib.itoa n++e :: r,bad)=(n,(r,bad)) :=
 a0B (st:=(Lib.itoa n++e :: r,bad)) ((J8 he).2 ⟨⟨h,h2⟩,rfl⟩)
theorem a3s(n):(pH n).data.toList=Lib.itoa n++[59]:=by
 unfold pH RZ;rw [ByteArray.data_append,Array.toList_append]
theorem S1{n r bad}(h:aY n):eI ((pH n).data.toList++r,bad)=(n,(r,bad)):=by
 rw [a3s,aX];exact a0C (.inr (.inl rfl)) h h.1
theorem a0D{n:Nat}{r bad}(h:(n:Int)<=9223372036854775807):mU ((UG n).data.toList++r,bad)=((n:Int),(r,bad)):=by
 unfold UG;rw [if_neg (by omega),a3s,aX];exact a0C (.inr (.inl rfl)) (by unfold aY;omega) (by omega)
theorem uM(s):(oS s).data.toList=Lib.itoa s.size++58 :: (s.data.toList++[44]):=by
 unfold oS RZ;simp [ByteArray.data_append]
theorem a3t{s r}(h:s.size<=9223372036854775807):stepT ((oS s).data.toList++r,false)=(s,(r,false)):=by
 have e1:gQ 58 0 ((oS s).data.toList++r,false)=((s.size:Int),(s.data.toList++44 :: r,false)):=by
  rw [uM,aX,List.cons_append,aX];exact a0C (.inl rfl) (by unfold aY;omega) (by omega)
 unfold stepT;simp only [e1];have hl:s.data.toList.length=s.size:=gD s;rw [if_neg (by rw [List.length_append,List.length_cons,hl];omega),Int.toNat_natCast,List.drop_left' hl,List.take_left' hl];rfl
theorem aEv(c st):(J7 c st).1.length<=st.1.length:=by
 unfold J7;split
 .simp
 .rename_i h;split
  .rw [h];simp
  .simp
theorem a3u(st):(stepT st).2.1.length<=st.1.length/\(stepT st).1.size<=st.1.length:=by
 have h1:=rF 58 0 st;have h2:=aEv 44 (((gQ 58 0 st).2.1.drop (gQ 58 0 st).1.toNat,(gQ 58 0 st).2.2));rw [List.length_drop] at h2;unfold stepT;simp only;split
 .exact ⟨Nat.zero_le _,Nat.zero_le _⟩
 .refine ⟨by simp only;omega,?_⟩;simp only;split
  .exact Nat.zero_le _
  .rw [bL,List.length_take];omega
theorem a3v(st):aY (eI st).1:=by
 unfold eI gQ;split
 .rename_i n r h;exact ((J8 (.inr (.inl rfl))).1 h).1.1
 .unfold aY;simp
section
variable {W w:World}{R G S:List Own}{Φ:PW}{b:Nat}{st:GM}
end
theorem aIt{e}(he:e.toNat=58\/e.toNat=59\/e.toNat=91){least st}(h:(gQ e least st).2.2=false):
  st.2=false/\aY (gQ e least st).1/\least<=(gQ e least st).1/\st.1=Lib.itoa (gQ e least st).1++e :: (gQ e least st).2.1:=by
 unfold gQ at h ⊢;split at h
 .rename_i n r hn;obtain ⟨⟨h1,h2⟩,h3⟩:=(J8 he).1 hn;exact ⟨h,h1,h2,h3⟩
 .cases h
theorem aIu{c st}(h:(J7 c st).2=false):st.2=false/\st.1=c :: (J7 c st).1:=by
 obtain ⟨l,bad⟩:=st;unfold J7 at h ⊢;cases l with
 | nil=>cases h
 | cons x r =>
  simp only at h ⊢;by_cases hx:x=c
  .rw [if_pos hx] at h ⊢;exact ⟨h,by rw [hx]⟩
  .rw [if_neg hx] at h;cases h
theorem a5l{st}(h:(stepT st).2.2=false):st.2=false/\st.1=(oS (stepT st).1).data.toList++(stepT st).2.1:=by
 unfold stepT at h ⊢;simp only at h ⊢;split at h
 .cases h
 rename_i hlt;rw [if_neg hlt];simp only at h ⊢;rw [if_neg (by rw [h];simp)];obtain ⟨h1,h2⟩:=aIu h;simp only at h1 h2;obtain ⟨h3,h4,h5,h6⟩:=aIt (e:=58) (.inl rfl) h1;refine ⟨h3,?_⟩;have hl:((gQ 58 0 st).2.1.take (gQ 58 0 st).1.toNat).length=(gQ 58 0 st).1.toNat:=by rw [List.length_take];omega
 rw [uM,qI,bL,hl,show (((gQ 58 0 st).1.toNat:Nat):Int)=(gQ 58 0 st).1 by omega,aX,List.cons_append,aX,List.singleton_append,<-h2,List.take_append_drop];exact h6
theorem aMj{st}(h:sR st=true):st=([],false):=by
 unfold sR at h;rw [Bool.and_eq_true] at h;obtain ⟨l,bad⟩:=st;have h1:=eR h.2;have h2:=h.1;simp only at h1 h2;cases bad with
 | true=>cases h2
 | false=>rw [h1]
def wW(x:bT):List UInt8:=(pH x.term++oS x.data).data.toList
def lY(l:List bT):List UInt8:=l.flatMap wW
def oT(l:List Int):List UInt8:=l.flatMap λn=>(pH n).data.toList
def pY(m:bQ):List Int:=[m.kind,m.src,m.to,m.term,m.index,m.prev,m.aE,if m.yes then 1 else 0]
def FG(m:bQ):List UInt8:=oT (pY m)++(UG m.aF.length).data.toList
def qQ(m:bQ):List UInt8:=FG m++lY m.aF
def OK(st:GM):bT × GM:=(⟨(eI st).1,(stepT (eI st).2).1⟩,(stepT (eI st).2).2)
def JA:Nat->GM->List bT->List bT × GM
 | 0,st,acc=>(acc,st)
 | k+1,st,acc=>if st.1=[] then (acc,st) else JA k (OK st).2 (acc++[(OK st).1])
def WB:Nat->GM->List Int × GM
 | 0,st=>([],st)
 | k+1,st=>((eI st).1 :: (WB k (eI st).2).1,(WB k (eI st).2).2)
def aQG(ns:List Int)(rs:List bT):bQ:=⟨ns.getD 0 0,ns.getD 1 0,ns.getD 2 0,ns.getD 3 0,ns.getD 4 0,ns.getD 5 0,ns.getD 6 0,decide (ns.getD 7 0=1),rs⟩
def S3:bQ:=⟨0,0,0,0,0,0,0,false,[]⟩
def WC(l:List UInt8):Option bT:=if sR (OK (l,false)).2=true then some (OK (l,false)).1 else none
def aWu(l:List UInt8)(ns:List Int)(rs:List bT × GM):Option bQ:=if sR rs.2=true/\qQ (aQG ns rs.1)=l then some (aQG ns rs.1) else none
def aIv(l:List UInt8)(ns:List Int)(st:GM):Option bQ:=aWu l ns (JA (mU st).1.toNat (mU st).2 [])
def yU(l:List UInt8):Option bQ:=aIv l (WB 8 (l,false)).1 (WB 8 (l,false)).2
theorem OL(k st acc):JA (k+1) st acc=if st.1=[] then (acc,st) else JA k (OK st).2 (acc++[(OK st).1]):=rfl
theorem aEw:∀ (k:Nat) (st:GM) (acc:List bT),st.1=[]->JA k st acc=(acc,st)
 | 0,_,_,_=>rfl
 | k+1,st,acc,h=>by rw [OL,if_pos h]
theorem aAF{st}(h:st.1≠[]):(eI st).2.1.length<st.1.length:=by
 unfold eI gQ;split
 .rename_i n r hn;obtain ⟨_,h2⟩:=(J8 (e:=59) (.inr (.inl rfl))).1 hn;rw [h2,List.length_append,List.length_cons];simp only;omega
 .exact List.length_pos_iff.2 h
theorem aEx{st}(h:st.1≠[]):(OK st).2.1.length<st.1.length:=by
 have h1:=aAF h;have h2:=(a3u (eI st).2).1;show (stepT (eI st).2).2.1.length<_;omega
theorem aEy(st):(OK st).1.data.size<=st.1.length:=by
 have h1:=rF 59 (-9223372036854775808) st;have h2:=(a3u (eI st).2).2;show (stepT (eI st).2).1.size<=_;have h3:(eI st).2.1.length<=st.1.length:=h1;omega
theorem aEz(st):aY (OK st).1.term:=a3v st
theorem a7P(x t):wW x++t=(pH x.term).data.toList++((oS x.data).data.toList++t):=by
 unfold wW;simp [ByteArray.data_append]
theorem OM(x l):lY (x :: l)=wW x++lY l:=by simp [lY]
theorem aEA(a b):lY (a++b)=lY a++lY b:=List.flatMap_append
theorem aEB(x):lY [x]=wW x:=by simp [lY]
theorem ON(n l):oT (n :: l)=(pH n).data.toList++oT l:=by simp [oT]
theorem aEC(a b):oT (a++b)=oT a++oT b:=List.flatMap_append
theorem aED(n):oT [n]=(pH n).data.toList:=by simp [oT]
theorem a7Q{x t}(h:aY x.term)(h2:x.data.size<=1000000):OK (wW x++t,false)=(x,(t,false)):=by
 unfold OK;rw [a7P,S1 h];simp only;rw [a3t (by omega)]
theorem aMk{x}(h:aY x.term)(t):wW x++t≠[]:=by
 rw [a7P];have h1:=(gE h).1;intro e;have e:=congrArg List.length e;rw [List.length_append,gD,show ([]:List UInt8).length=0 from rfl] at e;omega
theorem a3w:∀ (l acc:List bT) (t:List UInt8),(∀ x∈l,aY x.term/\x.data.size<=1000000)->JA l.length (lY l++t,false) acc=(acc++l,(t,false))
 | [],acc,t,_=>by rw [List.append_nil];rfl
 | x :: l,acc,t,h=>by
  have hx:=h x (by simp);rw [List.length_cons,OL,OM,aX,if_neg (aMk hx.1 _),a7Q hx.1 hx.2];simp only;rw [a3w l (acc++[x]) t (λy hy=>h y (by simp [hy])),aX];rfl
theorem a3x:∀ (l:List Int) (t:List UInt8),(∀ n∈l,aY n)->WB l.length (oT l++t,false)=(l,(t,false))
 | [],t,_=>rfl
 | n :: l,t,h=>by
  have ih:=a3x l t λy hy=>h y (by simp [hy]);rw [List.length_cons,ON,aX];unfold WB;rw [S1 (h n (by simp))];simp only;rw [ih]
structure UL(m:bQ):Prop where
 ints:∀ n∈pY m,aY n
 aF:∀ x∈m.aF,aY x.term/\x.data.size<=1000000
theorem aMl(m):aQG (pY m) m.aF=m:=by
 obtain ⟨k,s,t,e,i,p,c,y,r⟩:=m;cases y<;>rfl
theorem a0E{m}(h:UL m)(hl:m.aF.length<=1000000):yU (qQ m)=some m:=by
 have h1:=a3x (pY m) ((UG m.aF.length).data.toList++(lY m.aF++[])) h.ints;have h2:=a3w m.aF [] [] h.aF;have e:qQ m=oT (pY m)++((UG m.aF.length).data.toList++(lY m.aF++[])):=by
  unfold qQ FG;simp only [aX,List.append_nil]
 have e8:(pY m).length=8:=rfl;rw [e8,<-e] at h1;unfold yU;rw [h1];unfold aIv;simp only;rw [a0D (by omega)];simp only;rw [Int.toNat_natCast,h2];unfold aWu;simp only;rw [List.nil_append,aMl];exact if_pos ⟨rfl,rfl⟩
theorem aEE{x}(h:aY x.term)(h2:x.data.size<=1000000):WC (wW x)=some x:=by
 have h3:=a7Q (t:=[]) h h2;rw [List.append_nil] at h3;unfold WC;rw [h3];exact if_pos rfl
abbrev Bs:=List UInt8
structure wX where
 now:Bs
 last:Bs
structure iM where
 files:Int->wX
 queue:List (Int × Int)
 lost:Int
 down:Bool
 eL:Int
 keep:List Int
def o9:iM:=⟨λ_=>⟨[],[]⟩,[],0,false,0,[]⟩
def iW(s:Bs)(a:Nat)(t:Bs):Bs:=if t=[] then s else s.take a++List.replicate (a - s.length) 0++t++s.drop (a+t.length)
def iM.set(d:iM)(f:Int)(x:wX):iM:={ d with files:=λk=>if k=f then x else d.files k }
def qR(d:iM)(f:Int):Int:=if d.down=true then 9 else if f<0\/16<=f then 1 else 0
def MP(a n:Nat):List Int:=(List.range ((a+n - 1) / 64+1 - a / 64)).map λi=>((a / 64+i:Nat):Int)
def XL(f:Int):List Int->List (Int × Int)->List (Int × Int)
 | [],q=>q
 | n :: ns,q=>XL f ns (if (f,n)∈q then q else q++[(f,n)])
def eC(d:iM)(f a:Int)(s:Bs):iM × Int :=
 if qR d f≠0 then (d,qR d f) else if a<0 then (d,1) else if 16777216<a\/16777216 - a<(s.length:Int) then (d,6) else if s=[] then (d,0) else
 ({ d.set f ⟨iW (d.files f).now a.toNat s,(d.files f).last⟩ with queue:=XL f (MP a.toNat s.length) d.queue },0)
def DC(d:iM):Bool := !d.down&&decide (d.eL=1)
def gK(d:iM):iM:=if d.down=true\/d.eL=0 then d else { d with eL:=d.eL - 1 }
def M4(keep:List Int)(i:Nat)(p:Int × Int)(fs:Int->wX):Int->wX :=
 if keep=[]\/keep.getD (i % keep.length) 0 % 2=0\/((fs p.1).now.length:Int)<=p.2*64 then fs
 else λk=>if k=p.1 then ⟨(fs p.1).now,iW (fs p.1).last (p.2*64).toNat (((fs p.1).now.drop (p.2*64).toNat).take 64)⟩ else fs k
def B1(keep:List Int):Nat->List (Int × Int)->(Int->wX)->Int->wX
 | _,[],fs=>fs
 | i,p :: ps,fs=>B1 keep (i+1) ps (M4 keep i p fs)
def bV(d:iM)(keep:List Int):iM :=
 if d.down=true then d else { d with down:=true,eL:=0,queue:=[],files:=λk=>⟨(B1 keep 0 d.queue d.files k).last,(B1 keep 0 d.queue d.files k).last⟩ }
def bX(d:iM)(f a:Int)(s:Bs):iM × Int :=
 if DC d=true then (bV (eC (gK d) f a s).1 d.keep,9) else eC (gK d) f a s
def ES(d:iM)(f:Int)(s:Bs):iM:={ d.set f ⟨s,s⟩ with queue:=d.queue.filter λp=>decide (p.1≠f) }
def lZ(d:iM):iM:=if DC d=true then bV (gK d) d.keep else gK d
def JB(d:iM)(f:Int):iM × Int :=
 if qR d f≠0 then (d,qR d f) else if 0<d.lost then ({ d with lost:=d.lost - 1 },10) else (ES d f (d.files f).now,0)
def bH(d:iM)(f:Int):iM × Int:=JB (lZ d) f
def dH(d:iM)(f a n:Int):Bs × Int :=
 if qR d f≠0 then ([],qR d f) else if a<0\/n<0 then ([],1) else (((d.files f).now.drop a.toNat).take n.toNat,0)
def bY(d:iM):iM:={ d with down:=false }
def j9(d:iM)(n:Int):iM:={ d with lost:=max n 0 }
def pI(d:iM)(n:Int)(keep:List Int):iM:={ d with eL:=max n 0,keep:=keep }
structure JC where
 file:Int
 slot:Nat
 value:Bs
 sure:Bool
def iJ(slot:Nat):Nat:=if slot=1 then 64 else if slot=2 then 131072 else 0
def jJ(slot:Nat)(n:Nat):Bs:=[slot.toUInt8,n.toUInt8,(n / 256).toUInt8,(n / 65536).toUInt8,(n / 16777216).toUInt8]
def S4(h:Bs):Nat:=(((h.getD 4 0).toNat*256+(h.getD 3 0).toNat)*256+(h.getD 2 0).toNat)*256+(h.getD 1 0).toNat
def vX(d:iM)(file:Int):Option JC × Int :=
 if (dH d file 0 5).2≠0 then (none,(dH d file 0 5).2) else
 if (dH d file 0 5).1=[]\/(dH d file 0 5).1.getD 0 0=0 then (some ⟨file,0,[],false⟩,0) else
 if (dH d file 0 5).1.length<5\/(dH d file 0 5).1.getD 0 0≠1/\(dH d file 0 5).1.getD 0 0≠2 then (none,2) else
 if 65536<S4 (dH d file 0 5).1 then (none,2) else
 if (dH d file (iJ ((dH d file 0 5).1.getD 0 0).toNat) (S4 (dH d file 0 5).1)).2≠0 then (none,(dH d file (iJ ((dH d file 0 5).1.getD 0 0).toNat) (S4 (dH d file 0 5).1)).2) else
 if (dH d file (iJ ((dH d file 0 5).1.getD 0 0).toNat) (S4 (dH d file 0 5).1)).1.length<S4 (dH d file 0 5).1 then (none,2) else
 (some ⟨file,((dH d file 0 5).1.getD 0 0).toNat,(dH d file (iJ ((dH d file 0 5).1.getD 0 0).toNat) (S4 (dH d file 0 5).1)).1,false⟩,0)
def DD(d:iM)(c:JC)(s:Bs)(slot:Nat):iM × JC × Int :=
 if (bX d c.file (iJ slot) s).2≠0 then ((bX d c.file (iJ slot) s).1,c,(bX d c.file (iJ slot) s).2) else
 if (bH (bX d c.file (iJ slot) s).1 c.file).2≠0 then ((bH (bX d c.file (iJ slot) s).1 c.file).1,c,(bH (bX d c.file (iJ slot) s).1 c.file).2) else
 if (bX (bH (bX d c.file (iJ slot) s).1 c.file).1 c.file 0 (jJ slot s.length)).2≠0 then ((bX (bH (bX d c.file (iJ slot) s).1 c.file).1 c.file 0 (jJ slot s.length)).1,c,(bX (bH (bX d c.file (iJ slot) s).1 c.file).1 c.file 0 (jJ slot s.length)).2) else
 ((bH (bX (bH (bX d c.file (iJ slot) s).1 c.file).1 c.file 0 (jJ slot s.length)).1 c.file).1,⟨c.file,slot,s,decide ((bH (bX (bH (bX d c.file (iJ slot) s).1 c.file).1 c.file 0 (jJ slot s.length)).1 c.file).2=0)⟩,(bH (bX (bH (bX d c.file (iJ slot) s).1 c.file).1 c.file 0 (jJ slot s.length)).1 c.file).2)
def uN(d:iM)(c:JC)(s:Bs):iM × JC × Int :=
 if 65536<s.length then (d,c,6) else
 if c.sure=false/\0<c.slot then
  if (bH d c.file).2≠0 then ((bH d c.file).1,c,(bH d c.file).2) else DD (bH d c.file).1 { c with sure:=true } s (if c.slot=1 then 2 else 1)
 else DD d c s (if c.slot=1 then 2 else 1)
theorem S5(s a):iW s a []=s:=by unfold iW;rw [if_pos rfl]
theorem S6{s t:Bs}{a}(h:t≠[]):iW s a t=s.take a++List.replicate (a - s.length) 0++t++s.drop (a+t.length):=by unfold iW;rw [if_neg h]
theorem JD{s t:Bs}{a}(h:t≠[]):(iW s a t).length=max s.length (a+t.length):=by
 rw [S6 h];simp only [List.length_append,List.length_take,List.length_replicate,List.length_drop];omega
theorem JE{s t:Bs}{a i}(h:t≠[])(hi:i<a):(iW s a t)[i]? = if i<s.length then s[i]? else some 0:=by
 rw [S6 h,aX,aX];by_cases h1:i<s.length
 .rw [if_pos h1,List.getElem?_append_left (by rw [List.length_take];omega),List.getElem?_take_of_lt hi]
 .rw [if_neg h1,List.getElem?_append_right (by rw [List.length_take];omega),List.length_take,List.getElem?_append_left (by rw [List.length_replicate];omega),List.getElem?_replicate,if_pos (by omega)]
theorem JF{s t:Bs}{a i}(h:t≠[])(h1:a<=i)(h2:i<a+t.length):(iW s a t)[i]? = t[i - a]? := by
 rw [S6 h,aX,List.getElem?_append_right (by simp only [List.length_append,List.length_take,List.length_replicate];omega),List.getElem?_append_left (by simp only [List.length_append,List.length_take,List.length_replicate];omega)];simp only [List.length_append,List.length_take,List.length_replicate]
 congr 1
 omega
theorem KN{s t:Bs}{a i}(h:t≠[])(h1:a+t.length<=i):(iW s a t)[i]? = s[i]? := by
 rw [S6 h,List.getElem?_append_right (by simp only [List.length_append,List.length_take,List.length_replicate];omega),List.getElem?_drop];simp only [List.length_append,List.length_take,List.length_replicate];by_cases h2:a<=s.length
 .congr 1
  omega
 .rw [List.getElem?_eq_none (by omega),List.getElem?_eq_none (by omega)]
def a0F(N:Bs)(n:Nat):Bs:=(N.drop (n*64)).take 64
def OO(N:Bs):List Nat->Bs->Bs
 | [],L=>L
 | n :: ns,L=>OO N ns (iW L (n*64) (a0F N n))
theorem aMm{N n}(h:n*64<N.length):a0F N n≠[]:=by
 intro e;have:=congrArg List.length e;unfold a0F at this;rw [List.length_take,List.length_drop,List.length_nil] at this;omega
theorem aIw(N n):(a0F N n).length=min 64 (N.length - n*64):=by unfold a0F;rw [List.length_take,List.length_drop]
theorem aIx{N n i}(h1:n*64<=i)(h2:i<n*64+64):(a0F N n)[i - n*64]? = N[i]? := by
 unfold a0F;rw [List.getElem?_take_of_lt (by omega),List.getElem?_drop]
 congr 1
 omega
theorem S7{N L n i}(h:n*64<N.length):(iW L (n*64) (a0F N n))[i]? = if n*64<=i/\i<n*64+64/\i<N.length then N[i]? else if i<n*64/\L.length<=i then some 0 else L[i]? := by
 have hne:=aMm h;have hl:=aIw N n;by_cases h1:i<n*64
 .rw [JE hne h1];by_cases h2:i<L.length
  .rw [if_pos h2,if_neg (by omega),if_neg (by omega)]
  .rw [if_neg h2,if_neg (by omega),if_pos (by omega)]
 .by_cases h2:i<n*64+(a0F N n).length
  .rw [JF hne (by omega) h2,aIx (by omega) (by omega),if_pos (by omega)]
  .rw [KN hne (by omega),if_neg (by omega),if_neg (by omega)]
theorem rG{N}{i:Nat}{x}(hN:N[i]? = some x):∀ (ns:List Nat) (L:Bs),(∀ n∈ns,n*64<N.length)->L[i]? = some x->(OO N ns L)[i]? = some x
 | [],L,_,h=>h
 | n :: ns,L,hs,h=>by
  refine rG hN ns _ (λm hm=>hs m (by simp [hm])) ?_;have hi:i<L.length:=(List.getElem?_eq_some_iff.1 h).1;rw [S7 (hs n (by simp))];split
  .exact hN
  .rw [if_neg (by omega)];exact h
theorem aCP{N i x}:∀ (ns:List Nat) (L:Bs),(∀ n∈ns,n*64<N.length/\¬ (n*64<=i/\i<n*64+64))->L[i]? = some x->(OO N ns L)[i]? = some x
 | [],L,_,h=>h
 | n :: ns,L,hs,h=>by
  refine aCP ns _ (λm hm=>hs m (by simp [hm])) ?_;have hi:i<L.length:=(List.getElem?_eq_some_iff.1 h).1;have h1:=hs n (by simp);rw [S7 h1.1,if_neg (by omega),if_neg (by omega)];exact h
theorem a7R{N i}(hN:N.getD i 0=0):∀ (ns:List Nat) (L:Bs),(∀ n∈ns,n*64<N.length)->L.getD i 0=0->(OO N ns L).getD i 0=0
 | [],L,_,h=>h
 | n :: ns,L,hs,h=>by
  refine a7R hN ns _ (λm hm=>hs m (by simp [hm])) ?_;rw [List.getD_eq_getElem?_getD,S7 (hs n (by simp))];split
  .rw [<-List.getD_eq_getElem?_getD];exact hN
  .split
   .rfl
   .rw [<-List.getD_eq_getElem?_getD];exact h
theorem aCQ{N i x}(hN:N[i]? = some x):∀ (ns:List Nat) (L:Bs),(∀ n∈ns,n*64<N.length)->i / 64∈ns->(OO N ns L)[i]? = some x
 | [],L,_,h=>by cases h
 | n :: ns,L,hs,h=>by
  by_cases e:i / 64=n
  .refine rG hN ns _ (λm hm=>hs m (by simp [hm])) ?_;have hi:i<N.length:=(List.getElem?_eq_some_iff.1 hN).1;rw [S7 (hs n (by simp)),if_pos (by omega)];exact hN
  .refine aCQ hN ns _ (λm hm=>hs m (by simp [hm])) ?_;rcases List.mem_cons.1 h with h|h
   .exact absurd h e
   .exact h
def UM(F:Int)(q:List (Int × Int)):List Nat:=(q.filter λp=>decide (p.1=F)).map λp=>p.2.toNat
theorem a7S(F p q):UM F (p :: q)=if p.1=F then p.2.toNat :: UM F q else UM F q:=by
 unfold UM;by_cases h:p.1=F
 .rw [List.filter_cons_of_pos (by simpa using h),if_pos h,List.map_cons]
 .rw [List.filter_cons_of_neg (by simpa using h),if_neg h]
theorem aIy(keep i p fs F):(M4 keep i p fs F).now=(fs F).now:=by
 unfold M4;split
 .rfl
 .simp only;split
  .rename_i h;rw [h]
  .rfl
theorem a3y(F):∀ (q:List (Int × Int)) (keep:List Int) (i:Nat) (fs:Int->wX),(∀ p∈q,0<=p.2) ->
  ∃ ns:List Nat,ns.Sublist (UM F q)/\(∀ n∈ns,n*64<(fs F).now.length)/\(B1 keep i q fs F).now=(fs F).now/\(B1 keep i q fs F).last=OO (fs F).now ns (fs F).last
 | [],keep,i,fs,_=>⟨[],List.Sublist.refl _,by simp,rfl,rfl⟩
 | p :: q,keep,i,fs,hp=>by
  obtain ⟨ns,h1,h2,h3,h4⟩:=a3y F q keep (i+1) (M4 keep i p fs) (λx hx=>hp x (by simp [hx]));have hn:=aIy keep i p fs F;rw [hn] at h2 h3 h4;have hp0:=hp p (by simp);have e:B1 keep i (p :: q) fs=B1 keep (i+1) q (M4 keep i p fs):=rfl;rw [e,a7S];by_cases hF:p.1=F
  .rw [if_pos hF];by_cases hs:keep=[]\/keep.getD (i % keep.length) 0 % 2=0\/((fs p.1).now.length:Int)<=p.2*64
   .have e2:M4 keep i p fs=fs:=by unfold M4;rw [if_pos hs]
    rw [e2] at h3 h4;exact ⟨ns,h1.cons _,h2,by rw [e2];exact h3,by rw [e2];exact h4⟩
   .have e2:(M4 keep i p fs F).last=iW (fs F).last (p.2.toNat*64) (a0F (fs F).now p.2.toNat):=by
     unfold M4;rw [if_neg hs,if_pos hF.symm,hF];unfold a0F;rw [show (p.2*64).toNat=p.2.toNat*64 by omega]
    rw [e2] at h4;refine ⟨p.2.toNat :: ns,h1.cons_cons _,λn hn'=>?_,h3,h4⟩;rcases List.mem_cons.1 hn' with rfl|hn'
    .rw [hF] at hs;have:¬ ((fs F).now.length:Int)<=p.2*64:=λh=>hs (.inr (.inr h));omega
    .exact h2 n hn'
  .rw [if_neg hF];have e2:(M4 keep i p fs F).last=(fs F).last:=by
    unfold M4;split
    .rfl
    .dsimp only;rw [if_neg λh=>hF h.symm]
   rw [e2] at h4;exact ⟨ns,h1,h2,h3,h4⟩
theorem aEF{d}(hd:d.down=false)(keep)(hq:∀ p∈d.queue,0<=p.2)(F):
  ∃ ns:List Nat,ns.Sublist (UM F d.queue)/\(∀ n∈ns,n*64<(d.files F).now.length)/\(bV d keep).files F=⟨OO (d.files F).now ns (d.files F).last,OO (d.files F).now ns (d.files F).last⟩:=by
 obtain ⟨ns,h1,h2,_,h4⟩:=a3y F d.queue keep 0 d.files hq;refine ⟨ns,h1,h2,?_⟩;unfold bV;rw [if_neg (by rw [hd];simp)];show wX.mk (B1 keep 0 d.queue d.files F).last (B1 keep 0 d.queue d.files F).last=_;rw [h4]
theorem WD{d}(hd:d.down=false)(keep):(bV d keep).queue=[]/\(bV d keep).down=true/\(bV d keep).eL=0/\(bV d keep).lost=d.lost:=by
 unfold bV;rw [if_neg (by rw [hd];simp)];exact ⟨rfl,rfl,rfl,rfl⟩
def fN(N:Bs)(slot:Nat)(v:Bs):Prop :=
 (slot=0/\v=[]/\N.getD 0 0=0)\/((slot=1\/slot=2)/\v.length<=65536/\(∀ i,i<5->N[i]? = (jJ slot v.length)[i]?)/\∀ i,i<v.length->N[iJ slot+i]? = v[i]?)
theorem qJ(slot n):(jJ slot n).length=5:=rfl
theorem aMn{slot n}(h:n<=65536):S4 (jJ slot n)=n:=by
 unfold S4 jJ;simp only [List.getD_cons_succ,List.getD_cons_zero,Nat.toUInt8,UInt8.toNat_ofNat'];omega
theorem a7T{N h:Bs}{n}(hn:h.length=n)(hg:∀ i,i<n->N[i]? = h[i]?):N.take n=h:=by
 apply List.ext_getElem?;intro i;rcases Nat.lt_or_ge i n with hi|hi
 .rw [List.getElem?_take_of_lt hi,hg i hi]
 .rw [List.getElem?_eq_none (by rw [List.length_take];omega),List.getElem?_eq_none (by omega)]
theorem aMo{N v:Bs}{a}(hg:∀ i,i<v.length->N[a+i]? = v[i]?):(N.drop a).take v.length=v:=by
 apply List.ext_getElem?;intro i;rcases Nat.lt_or_ge i v.length with hi|hi
 .rw [List.getElem?_take_of_lt hi,List.getElem?_drop,hg i hi]
 .rw [List.getElem?_eq_none (by rw [List.length_take];omega),List.getElem?_eq_none hi]
theorem a0G{d F a n}(hd:d.down=false)(hF:0<=F/\F<16)(ha:0<=a)(hn:0<=n):dH d F a n=(((d.files F).now.drop a.toNat).take n.toNat,0):=by
 have hm:qR d F=0:=by unfold qR;rw [if_neg (by rw [hd];simp),if_neg (by omega)]
 unfold dH;rw [if_neg (by rw [hm];simp),if_neg (by omega)]
theorem a7U{d F slot v}(hd:d.down=false)(hF:0<=F/\F<16)(h:fN (d.files F).now slot v):vX d F=(some ⟨F,slot,v,false⟩,0):=by
 have hr:=a0G (d:=d) (F:=F) (a:=0) (n:=5) hd hF (by omega) (by omega);have hr:dH d F 0 5=((d.files F).now.take 5,0):=hr;obtain ⟨N,hN⟩:∃ N,(d.files F).now=N:=⟨_,rfl⟩;rw [hN] at h hr;unfold vX;rw [hr];simp only;rw [if_neg (by simp)];rcases h with ⟨rfl,rfl,h0⟩|⟨hs,hv,hh,hval⟩
 .have h1:(N.take 5).getD 0 0=0:=by
   cases N with
   | nil=>rfl
   | cons x r=>exact h0
  rw [if_pos (.inr h1)]
 .have ht:N.take 5=jJ slot v.length:=a7T (qJ _ _) hh;have hsn:(slot.toUInt8).toNat=slot:=by rcases hs with rfl|rfl<;>rfl
  have h0:(jJ slot v.length).getD 0 0=slot.toUInt8:=rfl;have hs8:slot.toUInt8=1\/slot.toUInt8=2:=by rcases hs with rfl|rfl<;>decide
  have b1Y:slot.toUInt8≠0:=by rcases hs with rfl|rfl<;>decide
  rw [ht,h0,hsn,aMn hv];have hoff:(0:Int)<=(iJ slot:Int):=by omega
  rw [a0G hd hF hoff (by omega),hN];simp only [Int.toNat_natCast];rw [aMo hval];rw [if_neg (by
   intro h;rcases h with h|h
   .have:=congrArg List.length h;rw [qJ] at this;cases this
   .exact b1Y h),if_neg (by
   intro h;rcases h with h|h
   .rw [qJ] at h;omega
   .rcases hs8 with h8|h8
    .exact h.1 h8
    .exact h.2 h8),if_neg (by omega),if_neg (by simp),if_neg (by omega)]
def Fut(f:wX)(P:Nat->Bs->Prop):Prop:=(∃ s v,fN f.now s v/\P s v)/\∀ ns:List Nat,(∀ n∈ns,n*64<f.now.length)->∃ s v,fN (OO f.now ns f.last) s v/\P s v
theorem S8{N L s v}(hN:fN N s v)(hL:fN L s v){ns}(hs:∀ n∈ns,n*64<N.length):fN (OO N ns L) s v:=by
 rcases hL with ⟨rfl,rfl,h0⟩|⟨h1,h2,h3,h4⟩
 .rcases hN with ⟨_,_,n0⟩|⟨h,_⟩
  .exact .inl ⟨rfl,rfl,a7R n0 ns L hs h0⟩
  .omega
 .rcases hN with ⟨rfl,_⟩|⟨_,_,n3,n4⟩
  .omega
  .refine .inr ⟨h1,h2,λi hi=>?_,λi hi=>?_⟩
   .have e:(jJ s v.length)[i]? = some ((jJ s v.length)[i]'(by rw [qJ];exact hi)):=List.getElem?_eq_getElem _;rw [e];exact rG (by rw [n3 i hi,e]) ns L hs (by rw [h3 i hi,e])
   .have e:v[i]? = some v[i]:=List.getElem?_eq_getElem hi;rw [e];exact rG (by rw [n4 i hi,e]) ns L hs (by rw [h4 i hi,e])
theorem mV{f s v P}(hN:fN f.now s v)(hL:fN f.last s v)(hP:P s v):Fut f P:=⟨⟨s,v,hN,hP⟩,λns hs=>⟨s,v,S8 hN hL hs,hP⟩⟩
theorem S9{N}:∀ (ns:List Nat) (L:Bs),(∀ n∈ns,n*64<N.length/\n≠0)->L.getD 0 0=0->(OO N ns L).getD 0 0=0
 | [],L,_,h=>h
 | n :: ns,L,hs,h=>by
  refine S9 ns _ (λm hm=>hs m (by simp [hm])) ?_;have h1:=hs n (by simp);rw [List.getD_eq_getElem?_getD,S7 h1.1,if_neg (by omega)];split
  .rfl
  .rw [<-List.getD_eq_getElem?_getD];exact h
theorem aAG{f s s' v v' P}(hs':s'=1\/s'=2)(TD:v'.length<=65536)(hL:fN f.last s v)(hnew:∀ i,i<v'.length->f.last[iJ s'+i]? = v'[i]?)(JG:f.now=iW f.last 0 (jJ s' v'.length))(hP:P s v)(hP':P s' v'):Fut f P:=by
 have hne:jJ s' v'.length≠[]:=by intro e;have:=congrArg List.length e;cases this
 have aWv:∀ i,i<5->f.now[i]? = (jJ s' v'.length)[i]? := λi hi=>by
  rw [JG,JF hne (Nat.zero_le _) (by rw [qJ];omega),Nat.sub_zero]
 have aIz:∀ i,5<=i->f.now[i]? = f.last[i]? := λi hi=>by
  rw [JG,KN hne (by rw [qJ];omega)]
 have hoff:∀ k,(k=1\/k=2)->5<=iJ k:=λk hk=>by rcases hk with rfl|rfl<;>decide
 have hN:fN f.now s' v':=.inr ⟨hs',TD,aWv,λi hi=>by
  have:=hoff s' hs';rw [aIz _ (by omega)];exact hnew i hi⟩
 refine ⟨⟨s',v',hN,hP'⟩,λns hns=>?_⟩;by_cases h0:0∈ns
 .refine ⟨s',v',.inr ⟨hs',TD,λi hi=>?_,λi hi=>?_⟩,hP'⟩
  .have e:(jJ s' v'.length)[i]? = some ((jJ s' v'.length)[i]'(by rw [qJ];exact hi)):=List.getElem?_eq_getElem _;rw [e];exact aCQ (by rw [aWv i hi,e]) ns _ hns (by rw [show i / 64=0 by omega];exact h0)
  .have:=hoff s' hs';have e:v'[i]? = some v'[i]:=List.getElem?_eq_getElem hi;rw [e];exact rG (by rw [aIz _ (by omega),hnew i hi,e]) ns _ hns (by rw [hnew i hi,e])
 .have aQI:∀ n∈ns,n*64<f.now.length/\n≠0:=λn hn=>⟨hns n hn,λe=>h0 (e ▸ hn)⟩;rcases hL with ⟨rfl,rfl,hz⟩|⟨h1,h2,h3,h4⟩
  .exact ⟨0,[],.inl ⟨rfl,rfl,S9 ns _ aQI hz⟩,hP⟩
  .refine ⟨s,v,.inr ⟨h1,h2,λi hi=>?_,λi hi=>?_⟩,hP⟩
   .have e:(jJ s v.length)[i]? = some ((jJ s v.length)[i]'(by rw [qJ];exact hi)):=List.getElem?_eq_getElem _;rw [e];exact aCP ns _ (λn hn=>⟨(aQI n hn).1,by have:=(aQI n hn).2;omega⟩) (by rw [h3 i hi,e])
   .have:=hoff s h1;have e:v[i]? = some v[i]:=List.getElem?_eq_getElem hi;rw [e];exact rG (by rw [aIz _ (by omega),h4 i hi,e]) ns _ hns (by rw [h4 i hi,e])
theorem Fut.mono{f P Q}(h:Fut f P)(hPQ:∀ s v,P s v->Q s v):Fut f Q :=
 ⟨by obtain ⟨s,v,h1,h2⟩:=h.1;exact ⟨s,v,h1,hPQ s v h2⟩,λns hs=>by obtain ⟨s,v,h1,h2⟩:=h.2 ns hs;exact ⟨s,v,h1,hPQ s v h2⟩⟩
theorem Fut.a0H{f P}(h:Fut f P){ns}(hs:∀ n∈ns,n*64<f.now.length):Fut ⟨OO f.now ns f.last,OO f.now ns f.last⟩ P:=by
 obtain ⟨s,v,h1,h2⟩:=h.2 ns hs;exact mV h1 h1 h2
inductive Ev:wX->wX->Prop
 | refl (f:wX):Ev f f
 | step {f g:wX} {ns:List Nat}:Ev f g->(∀ n∈ns,n*64<g.now.length)->Ev f ⟨OO g.now ns g.last,OO g.now ns g.last⟩
theorem Ev.trans{f g h}(h1:Ev f g)(h2:Ev g h):Ev f h:=by
 induction h2 with
 | refl=>exact h1
 | step _ hs ih=>exact .step ih hs
theorem Ev.fut{f g P}(h:Ev f g)(hP:Fut f P):Fut g P:=by
 induction h with
 | refl=>exact hP
 | step _ hs ih=>exact ih.a0H hs
def Pre(B:Bs)(f:wX):Prop:=∀ (i:Nat) (x:UInt8),B[i]? = some x->f.now[i]? = some x/\f.last[i]? = some x
theorem Ev.pre{B f g}(h:Ev f g)(hP:Pre B f):Pre B g:=by
 induction h with
 | refl=>exact hP
 | step _ hs ih =>
  intro i x hx;obtain ⟨h1,h2⟩:=ih i x hx;exact ⟨rG h1 _ _ hs h2,rG h1 _ _ hs h2⟩
def FH(d:iM):Prop:=∀ p∈d.queue,0<=p.2
def KO(d:iM):Prop:=d.down=false/\d.eL=0/\d.lost=0
theorem aMp:FH o9:=λp hp=>by cases hp
theorem aMq:KO o9:=⟨rfl,rfl,rfl⟩
theorem SA{d}(hw:FH d)(keep):FH (bV d keep):=by
 unfold bV;split
 .exact hw
 .exact λp hp=>by cases hp
theorem DE{d}(hw:FH d)(keep F):Ev (d.files F) ((bV d keep).files F):=by
 cases hd:d.down with
 | true =>
  have:bV d keep=d:=by unfold bV;rw [if_pos hd]
  rw [this];exact .refl _
 | false =>
  obtain ⟨ns,_,h2,h3⟩:=aEF hd keep hw F;rw [h3];exact .step (.refl _) h2
theorem aCR(d):(gK d).files=d.files/\(gK d).queue=d.queue/\(gK d).down=d.down/\(gK d).lost=d.lost/\(gK d).keep=d.keep:=by
 unfold gK;split<;>exact ⟨rfl,rfl,rfl,rfl,rfl⟩
theorem a5m{d}(h:KO d):gK d=d/\DC d=false:=by
 unfold gK DC;rw [if_pos (.inr h.2.1),h.2.1,h.1];exact ⟨rfl,rfl⟩
theorem aIA(f):∀ (ns:List Int) (q:List (Int × Int)),(∀ n∈ns,0<=n)->(∀ p∈q,0<=p.2)->∀ p∈XL f ns q,0<=p.2
 | [],q,_,hq=>hq
 | n :: ns,q,hn,hq=>by
  refine aIA f ns _ (λm hm=>hn m (by simp [hm])) λp hp=>?_;split at hp
  .exact hq p hp
  .rcases List.mem_append.1 hp with hp|hp
   .exact hq p hp
   .rw [List.mem_singleton.1 hp];exact hn n (by simp)
theorem aIB(a n):∀ m∈MP a n,0<=m:=λm hm=>by
 unfold MP at hm;obtain ⟨i,_,rfl⟩:=List.mem_map.1 hm;omega
theorem aAI{d}{F a:Int}{s}(hF:0<=F/\F<16)(ha:0<=a)(hs:a+s.length<=16777216)(hw:FH d):
  FH (eC d F a s).1/\(∀ G,G≠F->(eC d F a s).1.files G=d.files G)/\(eC d F a s).1.down=d.down/\(eC d F a s).1.eL=d.eL/\(eC d F a s).1.lost=d.lost /\
  ((d.down=false/\(eC d F a s).2=0/\(eC d F a s).1.files F=⟨iW (d.files F).now a.toNat s,(d.files F).last⟩)\/(d.down=true/\(eC d F a s).2=9/\(eC d F a s).1=d)):=by
 cases hd:d.down with
 | true =>
  have hm:qR d F=9:=by unfold qR;rw [if_pos hd]
  have e:eC d F a s=(d,9):=by unfold eC;rw [hm,if_pos (by decide)]
  rw [e];exact ⟨hw,λ_ _=>rfl,hd,rfl,rfl,.inr ⟨rfl,rfl,rfl⟩⟩
 | false =>
  have hm:qR d F=0:=by unfold qR;rw [if_neg (by rw [hd];simp),if_neg (by omega)]
  by_cases h0:s=[]
  .have e:eC d F a s=(d,0):=by unfold eC;rw [hm,if_neg (by decide),if_neg (by omega),if_neg (by omega),if_pos h0]
   rw [e,h0,S5];exact ⟨hw,λ_ _=>rfl,hd,rfl,rfl,.inl ⟨rfl,rfl,rfl⟩⟩
  .have e:eC d F a s=({ d.set F ⟨iW (d.files F).now a.toNat s,(d.files F).last⟩ with queue:=XL F (MP a.toNat s.length) d.queue },0):=by
    unfold eC;rw [hm,if_neg (by decide),if_neg (by omega),if_neg (by omega),if_neg h0]
   rw [e];refine ⟨aIA F _ _ (aIB _ _) hw,λG hG=>?_,hd,rfl,rfl,.inl ⟨rfl,rfl,?_⟩⟩
   .show (if G=F then _ else d.files G)=_;rw [if_neg hG]
   .show (if F=F then _ else d.files F)=_;rw [if_pos rfl]
theorem UN{d}{F a:Int}{s}(hF:0<=F/\F<16)(ha:0<=a)(hs:a+s.length<=16777216)(hw:FH d):
  FH (bX d F a s).1/\(∀ G,G≠F->Ev (d.files G) ((bX d F a s).1.files G))/\(KO d->KO (bX d F a s).1/\(bX d F a s).2=0)/\((bX d F a s).1.lost=d.lost) /\
  (((bX d F a s).2=0/\(bX d F a s).1.files F=⟨iW (d.files F).now a.toNat s,(d.files F).last⟩)\/((bX d F a s).2=9/\(Ev (d.files F) ((bX d F a s).1.files F)\/Ev ⟨iW (d.files F).now a.toNat s,(d.files F).last⟩ ((bX d F a s).1.files F)))):=by
 obtain ⟨t1,t2,t3,t4,t5⟩:=aCR d;have sX:FH (gK d):=by unfold FH;rw [t2];exact hw
 obtain ⟨w1,w2,w3,w4,w5,w6⟩:=aAI (d:=gK d) (s:=s) hF ha hs sX;rw [t1] at w2 w6;rw [t3] at w3 w6;rw [t4] at w5;cases he:DC d with
 | true =>
  have e:bX d F a s=(bV (eC (gK d) F a s).1 d.keep,9):=by unfold bX;rw [if_pos he]
  have hd:d.down=false:=by
   unfold DC at he;cases h:d.down with
   | true=>rw [h] at he;cases he
   | false=>rfl
  rw [e];refine ⟨SA w1 _,λG hG=>?_,λh=>?_,?_,.inr ⟨rfl,.inr ?_⟩⟩
  .rw [<-w2 G hG];exact DE w1 _ G
  .rw [(a5m h).2] at he;cases he
  .rw [<-w5];exact (WD (by rw [w3];exact hd) _).2.2.2
  .rcases w6 with ⟨_,_,w7⟩|⟨h,_⟩
   .rw [<-w7];exact DE w1 _ F
   .rw [hd] at h;cases h
 | false =>
  have e:bX d F a s=eC (gK d) F a s:=by unfold bX;rw [if_neg (by rw [he];simp)]
  rw [e];refine ⟨w1,λG hG=>by rw [w2 G hG];exact .refl _,λh=>?_,w5,?_⟩
  .rcases w6 with ⟨_,w7,_⟩|⟨h2,_⟩
   .have ht:=(a5m h).1;rw [ht] at w3 w4 w5 w7 ⊢;exact ⟨⟨by rw [w3];exact h.1,by rw [w4];exact h.2.1,by rw [w5];exact h.2.2⟩,w7⟩
   .rw [h.1] at h2;cases h2
  .rcases w6 with ⟨_,w7,w8⟩|⟨_,w7,w8⟩
   .exact .inl ⟨w7,w8⟩
   .refine .inr ⟨w7,.inl ?_⟩;rw [w8,t1];exact .refl _
theorem aIC{d}(hw:FH d):FH (lZ d)/\(∀ G,Ev (d.files G) ((lZ d).files G))/\(KO d->lZ d=d)/\(lZ d).lost=d.lost/\((lZ d).down=false->(lZ d).files=d.files):=by
 obtain ⟨t1,t2,t3,t4,t5⟩:=aCR d;have sX:FH (gK d):=by unfold FH;rw [t2];exact hw
 unfold lZ;cases he:DC d with
 | true =>
  rw [if_pos rfl];have hd:d.down=false:=by
   unfold DC at he;cases h:d.down with
   | true=>rw [h] at he;cases he
   | false=>rfl
  have hq:=WD (d:=gK d) (by rw [t3];exact hd) d.keep;refine ⟨SA sX _,λG=>by rw [<-t1];exact DE sX _ G,λh=>?_,by rw [hq.2.2.2,t4],λh=>?_⟩
  .rw [(a5m h).2] at he;cases he
  .rw [hq.2.1] at h;cases h
 | false =>
  rw [if_neg (by simp)];exact ⟨sX,λG=>by rw [t1];exact .refl _,λh=>(a5m h).1,t4,λ_=>t1⟩
theorem yV{d F}(hF:0<=F/\F<16)(hw:FH d):
  FH (bH d F).1/\(∀ G,G≠F->Ev (d.files G) ((bH d F).1.files G))/\(KO d->KO (bH d F).1/\(bH d F).2=0) /\
  (((bH d F).2=0/\(bH d F).1.down=false/\(bH d F).1.files F=⟨(d.files F).now,(d.files F).now⟩)\/(((bH d F).2=9\/(bH d F).2=10)/\Ev (d.files F) ((bH d F).1.files F))):=by
 obtain ⟨f1,f2,f3,f4,f5⟩:=aIC hw;unfold bH JB;cases hd:(lZ d).down with
 | true =>
  have hm:qR (lZ d) F=9:=by unfold qR;rw [if_pos hd]
  rw [hm,if_pos (by decide)];refine ⟨f1,λG _=>f2 G,λh=>?_,.inr ⟨.inl rfl,f2 F⟩⟩;rw [f3 h,h.1] at hd;cases hd
 | false =>
  have hm:qR (lZ d) F=0:=by unfold qR;rw [if_neg (by rw [hd];simp),if_neg (by omega)]
  rw [hm,if_neg (by decide)];by_cases hl:0<(lZ d).lost
  .rw [if_pos hl];refine ⟨f1,λG _=>f2 G,λh=>?_,.inr ⟨.inr rfl,f2 F⟩⟩;rw [f4,h.2.2] at hl;omega
  .rw [if_neg hl];refine ⟨λp hp=>f1 p (List.mem_filter.1 hp).1,λG hG=>?_,λh=>?_,.inl ⟨rfl,hd,?_⟩⟩
   .show Ev (d.files G) (if G=F then _ else (lZ d).files G);rw [if_neg hG];exact f2 G
   .rw [f3 h];exact ⟨h,rfl⟩
   .show (if F=F then _ else (lZ d).files F)=_;rw [if_pos rfl,f5 hd]
theorem aMr{N s s' v v'}(TD:v'.length<=65536)(h:fN N s v)(hs':s'=if s=1 then 2 else 1):fN (iW N (iJ s') v') s v/\∀ i,i<v'.length->(iW N (iJ s') v')[iJ s'+i]? = v'[i]? := by
 by_cases h0:v'=[]
 .rw [h0,S5];exact ⟨h,λi hi=>by cases hi⟩
 refine ⟨?_,λi hi=>?_⟩
 .rcases h with ⟨rfl,rfl,hz⟩|⟨h1,h2,h3,h4⟩
  .refine .inl ⟨rfl,rfl,?_⟩;rw [if_neg (by decide)] at hs';subst hs';rw [List.getD_eq_getElem?_getD,JE h0 (by decide)];split
   .rw [<-List.getD_eq_getElem?_getD];exact hz
   .rfl
  .have hne:∀ i,i<5\/(iJ s<=i/\i<iJ s+v.length)->N[i]? ≠ none->(iW N (iJ s') v')[i]? = N[i]? := by
    intro i hi hx;have hl:i<N.length:=by
     rcases Nat.lt_or_ge i N.length with h|h
     .exact h
     .exact absurd (List.getElem?_eq_none h) hx
    rcases h1 with rfl|rfl
    .rw [if_pos rfl] at hs';subst hs';rw [JE h0 (by
      have e1:iJ 1=64:=rfl;have e2:iJ 2=131072:=rfl;omega),if_pos hl]
    .rw [if_neg (by decide)] at hs';subst hs';have e1:iJ 1=64:=rfl;have e2:iJ 2=131072:=rfl;rcases Nat.lt_or_ge i 64 with h64|h64
     .rw [JE h0 (by omega),if_pos hl]
     .rw [KN h0 (by omega)]
   refine .inr ⟨h1,h2,λi hi=>?_,λi hi=>?_⟩
   .have e:=h3 i hi;rw [hne i (.inl hi) (by rw [e,List.getElem?_eq_getElem (by rw [qJ];exact hi)];simp)];exact e
   .have e:=h4 i hi;rw [hne _ (.inr ⟨by omega,by omega⟩) (by rw [e,List.getElem?_eq_getElem hi];simp)];exact e
 .rw [JF h0 (by omega) (by omega),Nat.add_sub_cancel_left]
def aOg(k:Nat)(v:Bs)(k':Nat)(v':Bs):Nat->Bs->Prop:=λs w=>(s=k/\w=v)\/(s=k'/\w=v')
structure aWw(d:iM)(c:JC)(s:Bs)(slot':Nat)(r:iM × JC × Int):Prop where
 w:FH r.1
 other:∀ G,G≠c.file->Ev (d.files G) (r.1.files G)
 A9:KO d->KO r.1/\r.2.2=0
 file:r.2.1.file=c.file
 ok:r.2.2=0->r.2.1.slot=slot'/\r.2.1.value=s/\∃ X,r.1.files c.file=⟨X,X⟩/\fN X slot' s
 bad:r.2.2≠0->(r.2.2=9\/r.2.2=10)/\Fut (r.1.files c.file) (aOg c.slot c.value slot' s)
theorem a3z{d c s slot'}(hF:0<=c.file/\c.file<16)(hw:FH d)(hs:s.length<=65536)(SC:slot'=if c.slot=1 then 2 else 1)(hN:fN (d.files c.file).now c.slot c.value)(hL:fN (d.files c.file).last c.slot c.value):aWw d c s slot' (DD d c s slot'):=by
 have aMs:slot'=1\/slot'=2:=by rw [SC];split<;>simp
 have hoff:0<=(iJ slot':Int)/\(iJ slot':Int)+s.length<=16777216:=by rcases aMs with rfl|rfl<;>exact ⟨by decide,by show (_:Int)+_<=_;have e1:iJ 1=64:=rfl;have e2:iJ 2=131072:=rfl;omega⟩
 obtain ⟨p1,p2⟩:=aMr hs hN SC;have hA:=UN (d:=d) (F:=c.file) (a:=(iJ slot':Int)) (s:=s) hF hoff.1 hoff.2 hw;unfold DD;obtain ⟨⟨d1,e1⟩,h1⟩:∃ x,bX d c.file (iJ slot') s=x:=⟨_,rfl⟩;rw [h1] at hA ⊢;simp only at hA ⊢;rw [Int.toNat_natCast] at hA;obtain ⟨a1,a2,a3,_,a5⟩:=hA;by_cases DL:e1≠0
 .rw [if_pos DL];refine ⟨a1,a2,λh=>absurd (a3 h).2 DL,rfl,λh=>absurd h DL,λ_=>?_⟩;rcases a5 with ⟨h,_⟩|⟨h,h2⟩
  .exact absurd h DL
  .refine ⟨.inl h,?_⟩;rcases h2 with h2|h2
   .exact h2.fut (mV hN hL (.inl ⟨rfl,rfl⟩))
   .exact h2.fut (mV p1 hL (.inl ⟨rfl,rfl⟩))
 rw [if_neg DL];have DL:e1=0:=Decidable.not_not.1 DL;have b5:d1.files c.file=⟨iW (d.files c.file).now (iJ slot') s,(d.files c.file).last⟩:=by
  rcases a5 with ⟨_,h⟩|⟨h,_⟩
  .exact h
  .rw [DL] at h;cases h
 have hB:=yV (d:=d1) (F:=c.file) hF a1;obtain ⟨⟨d2,e2⟩,h2⟩:∃ x,bH d1 c.file=x:=⟨_,rfl⟩;rw [h2] at hB ⊢;simp only at hB ⊢;rw [b5] at hB;obtain ⟨c1,c2,c3,c4⟩:=hB;by_cases VY:e2≠0
 .rw [if_pos VY];refine ⟨c1,λG hG=>(a2 G hG).trans (c2 G hG),λh=>absurd (c3 (a3 h).1).2 VY,rfl,λh=>absurd h VY,λ_=>?_⟩;rcases c4 with ⟨h,_⟩|⟨h,h2⟩
  .exact absurd h VY
  .exact ⟨h,h2.fut (mV p1 hL (.inl ⟨rfl,rfl⟩))⟩
 rw [if_neg VY];have VY:e2=0:=Decidable.not_not.1 VY;have b6:d2.files c.file=⟨iW (d.files c.file).now (iJ slot') s,iW (d.files c.file).now (iJ slot') s⟩:=by
  rcases c4 with ⟨_,_,h⟩|⟨h,_⟩
  .exact h
  .rw [VY] at h;omega
 obtain ⟨X,hX⟩:∃ X,iW (d.files c.file).now (iJ slot') s=X:=⟨_,rfl⟩;rw [hX] at p1 p2 b6;have hC:=UN (d:=d2) (F:=c.file) (a:=0) (s:=jJ slot' s.length) hF (Int.le_refl 0) (by rw [qJ];decide) c1;obtain ⟨⟨d3,e3⟩,h3⟩:∃ x,bX d2 c.file 0 (jJ slot' s.length)=x:=⟨_,rfl⟩;rw [h3] at hC ⊢;simp only at hC ⊢;rw [b6] at hC;obtain ⟨g1,g2,g3,_,g5⟩:=hC;have aWx:Fut ⟨iW X 0 (jJ slot' s.length),X⟩ (aOg c.slot c.value slot' s):=aAG aMs hs p1 p2 rfl (.inl ⟨rfl,rfl⟩) (.inr ⟨rfl,rfl⟩)
 by_cases he3:e3≠0
 .rw [if_pos he3];refine ⟨g1,λG hG=>((a2 G hG).trans (c2 G hG)).trans (g2 G hG),λh=>absurd (g3 (c3 (a3 h).1).1).2 he3,rfl,λh=>absurd h he3,λ_=>?_⟩;rcases g5 with ⟨h,_⟩|⟨h,h2⟩
  .exact absurd h he3
  .refine ⟨.inl h,?_⟩;rcases h2 with h2|h2
   .exact h2.fut (mV p1 p1 (.inl ⟨rfl,rfl⟩))
   .exact h2.fut aWx
 rw [if_neg he3];have he3:e3=0:=Decidable.not_not.1 he3;have b7:d3.files c.file=⟨iW X 0 (jJ slot' s.length),X⟩:=by
  rcases g5 with ⟨_,h⟩|⟨h,_⟩
  .exact h
  .rw [he3] at h;cases h
 have hD:=yV (d:=d3) (F:=c.file) hF g1;obtain ⟨⟨d4,e4⟩,h4⟩:∃ x,bH d3 c.file=x:=⟨_,rfl⟩;rw [h4] at hD ⊢;simp only at hD ⊢;rw [b7] at hD;obtain ⟨k1,k2,k3,k4⟩:=hD;refine ⟨k1,λG hG=>(((a2 G hG).trans (c2 G hG)).trans (g2 G hG)).trans (k2 G hG),λh=>k3 (g3 (c3 (a3 h).1).1).1,rfl,λh=>⟨rfl,rfl,iW X 0 (jJ slot' s.length),?_,?_⟩,λh=>?_⟩
 .rcases k4 with ⟨_,_,h'⟩|⟨h',_⟩
  .exact h'
  .simp only at h;rw [h] at h';omega
 .have hne:jJ slot' s.length≠[]:=by intro e;have:=congrArg List.length e;cases this
  refine .inr ⟨aMs,hs,λi hi=>?_,λi hi=>?_⟩
  .rw [JF hne (Nat.zero_le _) (by rw [qJ];omega),Nat.sub_zero]
  .have hge:5<=iJ slot':=by rcases aMs with rfl|rfl<;>decide
   rw [KN hne (by rw [qJ];omega)];exact p2 i hi
 .rcases k4 with ⟨h',_⟩|⟨h',h2⟩
  .exact absurd h' h
  .exact ⟨h',h2.fut aWx⟩
theorem a7V{d c s}(hF:0<=c.file/\c.file<16)(hw:FH d)(hs:s.length<=65536)(hN:fN (d.files c.file).now c.slot c.value)(hL:fN (d.files c.file).last c.slot c.value):aWw d c s (if c.slot=1 then 2 else 1) (uN d c s):=by
 obtain ⟨k,hk⟩:∃ k:Nat,k=(if c.slot=1 then 2 else 1):=⟨_,rfl⟩;unfold uN;rw [<-hk,if_neg (by omega:¬ 65536<s.length)];split
 .obtain ⟨a1,a2,a3,a4⟩:=yV (d:=d) (F:=c.file) hF hw;obtain ⟨⟨d1,e1⟩,h1⟩:∃ x,bH d c.file=x:=⟨_,rfl⟩;rw [h1] at a1 a2 a3 a4 ⊢;simp only at a1 a2 a3 a4 ⊢;by_cases he:e1≠0
  .rw [if_pos he];refine ⟨a1,a2,λh=>absurd (a3 h).2 he,rfl,λh=>absurd h he,λ_=>?_⟩;rcases a4 with ⟨h,_⟩|⟨h,h2⟩
   .exact absurd h he
   .exact ⟨h,h2.fut (mV hN hL (.inl ⟨rfl,rfl⟩))⟩
  .rw [if_neg he];have he:e1=0:=Decidable.not_not.1 he;have b:d1.files c.file=⟨(d.files c.file).now,(d.files c.file).now⟩:=by
    rcases a4 with ⟨_,_,h⟩|⟨h,_⟩
    .exact h
    .rw [he] at h;omega
   have h:=a3z (d:=d1) (c:={ c with sure:=true }) (s:=s) (slot':=k) hF a1 hs hk (by show fN (d1.files c.file).now c.slot c.value;rw [b];exact hN) (by show fN (d1.files c.file).last c.slot c.value;rw [b];exact hN);exact ⟨h.w,λG hG=>(a2 G hG).trans (h.other G hG),λhh=>h.A9 (a3 hh).1,h.file,h.ok,h.bad⟩
 .exact a3z hF hw hs hk hN hL
def aQ(l:List ByteArray):Bs:=l.flatMap λs=>(oS s).data.toList
def OP(b n:Nat):Bs:=(pH b).data.toList++(pH n).data.toList
def rH(c:JC):Int × Int × Bool:=if c.slot=0 then (0,0,true) else ((mU (c.value,false)).1,(mU (mU (c.value,false)).2).1,sR (mU (mU (c.value,false)).2).2)
def oU:Nat->GM->Int->List ByteArray->List ByteArray × GM
 | 0,st,n,acc=>(acc,st)
 | k+1,st,n,acc=>if (acc.length:Int)<n then (if st.1.length<=(stepT st).2.1.length\/st.1=[] then (acc,(stepT st).2) else oU k (stepT st).2 n (acc++[(stepT st).1])) else (acc,st)
def a2n(s:Bs)(n:Int)(x:List ByteArray × GM):Option (List ByteArray):=if sR x.2=true/\(x.1.length:Int)=n/\aQ x.1=s then some x.1 else none
def a3A(s:Bs)(n:Int):Option (List ByteArray):=a2n s n (oU (s.length+1) (s,false) n [])
structure tG where
 base:Int
 cell:JC
 list:List ByteArray
 bytes:Nat
 broken:Bool
def tN(d:iM)(j:tG)(bytes n:Nat):iM × tG × Int:=((uN d j.cell (OP bytes n)).1,{ j with cell:=(uN d j.cell (OP bytes n)).2.1,broken:=decide ((uN d j.cell (OP bytes n)).2.2≠0) },(uN d j.cell (OP bytes n)).2.2)
def JH(d:iM)(j:tG)(l:List ByteArray):iM × Int:=if (bX d j.base j.bytes (aQ l)).2=0 then bH (bX d j.base j.bytes (aQ l)).1 j.base else bX d j.base j.bytes (aQ l)
def DF(j:tG)(list:List ByteArray)(bytes:Nat)(r:iM × tG × Int):iM × tG × Int:=if r.2.2≠0 then r else (r.1,{ r.2.1 with list:=list,bytes:=bytes },0)
def dK(d:iM)(j:tG)(l:List ByteArray):iM × tG × Int :=
 if j.broken=true then (d,j,7) else if l=[] then (d,j,0) else if 1048576<j.bytes+(aQ l).length then (d,j,6) else
 if (JH d j l).2≠0 then ((JH d j l).1,{ j with broken:=true },(JH d j l).2) else
 DF j (j.list++l) (j.bytes+(aQ l).length) (tN (JH d j l).1 j (j.bytes+(aQ l).length) (j.list.length+l.length))
def iX(d:iM)(j:tG)(n:Int):iM × tG × Int :=
 if j.broken=true then (d,j,7) else if n<0\/(j.list.length:Int)<n then (d,j,1) else if n=(j.list.length:Int) then (d,j,0) else
 DF j (j.list.take n.toNat) (aQ (j.list.take n.toNat)).length (tN d j (aQ (j.list.take n.toNat)).length n.toNat)
def a5n(d:iM)(base:Int)(c:JC):Option tG × Int :=
 if (rH c).2.2=false then (none,2) else if (dH d base 0 (rH c).1).2≠0 then (none,(dH d base 0 (rH c).1).2) else
 match a3A (dH d base 0 (rH c).1).1 (rH c).2.1 with
 | none=>(none,2)
 | some l=>if ((dH d base 0 (rH c).1).1.length:Int)≠(rH c).1 then (none,2) else (some ⟨base,c,l,(rH c).1.toNat,false⟩,0)
def JJ(d:iM)(base:Int):Option tG × Int:=match vX d (base+1) with
 | (none,e)=>(none,e)
 | (some c,_)=>a5n d base c
def rI(d:iM)(base:Int):iM × Option tG × Int :=
 if base<0\/14<base then (d,none,1) else
 if (bH d base).2≠0 then ((bH d base).1,none,(bH d base).2) else
 if (bH (bH d base).1 (base+1)).2≠0 then ((bH (bH d base).1 (base+1)).1,none,(bH (bH d base).1 (base+1)).2) else
 ((bH (bH d base).1 (base+1)).1,JJ (bH (bH d base).1 (base+1)).1 base)
theorem yW(x l):aQ (x :: l)=(oS x).data.toList++aQ l:=by simp [aQ]
theorem mY(a b):aQ (a++b)=aQ a++aQ b:=List.flatMap_append
theorem a7W{x}(h:x.size<=9223372036854775807):2<=(oS x).data.toList.length:=by
 rw [uM,List.length_append,List.length_cons,List.length_append,List.length_singleton];omega
theorem xW{l}(h:∀ x∈l,x.size<=9223372036854775807):l.length*2<=(aQ l).length:=by
 induction l with
 | nil=>simp [aQ]
 | cons x l ih =>
  have h1:=ih λy hy=>h y (by simp [hy]);have h2:=a7W (h x (by simp));rw [yW,List.length_append,List.length_cons];omega
theorem kN{l x}(hx:x∈l):x.size<=(aQ l).length:=by
 induction l with
 | nil=>cases hx
 | cons y l ih =>
  rw [yW,List.length_append];rcases List.mem_cons.1 hx with rfl|hx
  .have:x.size<=(oS x).data.toList.length:=by
    rw [uM,List.length_append,List.length_cons,List.length_append,gD];omega
   omega
  .have:=ih hx;omega
theorem a3B:∀ (k:Nat) (l acc:List ByteArray),(∀ x∈l,x.size<=9223372036854775807)->l.length<k->oU k (aQ l,false) ((acc.length+l.length:Nat):Int) acc=(acc++l,([],false))
 | 0,l,acc,_,h=>by omega
 | k+1,[],acc,_,_=>by
  unfold oU;rw [if_neg (by rw [List.length_nil];omega),List.append_nil];rfl
 | k+1,x :: l,acc,hx,h=>by
  have h1:=hx x (by simp);have h2:=a7W h1;have e:stepT (aQ (x :: l),false)=(x,(aQ l,false)):=by rw [yW];exact a3t h1
  have ih:=a3B k l (acc++[x]) (λy hy=>hx y (by simp [hy])) (by rw [List.length_cons] at h;omega);have hl:(aQ (x :: l)).length=(oS x).data.toList.length+(aQ l).length:=by rw [yW,List.length_append]
  unfold oU;rw [e,if_pos (by rw [List.length_cons];omega),if_neg (by
   simp only;intro h;rcases h with h|h
   .omega
   .rw [h,List.length_nil] at hl;omega)]
  simp only;rw [List.length_append,List.length_singleton] at ih;rw [show ((acc.length+(x :: l).length:Nat):Int)=((acc.length+1+l.length:Nat):Int) by rw [List.length_cons];omega,ih,aX];rfl
theorem aEG{l}(h:(aQ l).length<=9223372036854775807):a3A (aQ l) l.length=some l:=by
 have hx:∀ x∈l,x.size<=9223372036854775807:=λx hx=>Nat.le_trans (kN hx) h;have hl:=xW hx;have h1:=a3B ((aQ l).length+1) l [] hx (by omega);rw [List.length_nil,Nat.zero_add,List.nil_append] at h1;unfold a3A;rw [h1];exact if_pos ⟨rfl,rfl,rfl⟩
theorem aID{c b n}(hs:c.slot≠0)(hv:c.value=OP b n)(hb:b<=1099511627776)(hn:n<=1099511627776):rH c=((b:Int),(n:Int),true):=by
 have e1:mU (OP b n,false)=((b:Int),((pH n).data.toList,false)):=a0D (n:=b) (r:=(pH n).data.toList) (bad:=false) (by omega);have e2:mU ((pH n).data.toList,false)=((n:Int),([],false)):=by
  have h:=a0D (n:=n) (r:=[]) (bad:=false) (by omega);rw [List.append_nil] at h;exact h
 unfold rH;rw [if_neg hs,hv,e1];simp only;rw [e2];rfl
theorem aIE{b n}(hb:b<=1099511627776)(hn:n<=1099511627776):(OP b n).length<=100:=by
 have h1:=gE (n:=(b:Int)) (by unfold aY;omega);have h2:=gE (n:=(n:Int)) (by unfold aY;omega);unfold OP;rw [List.length_append,gD,gD];omega
def Enc(s:Nat)(v:Bs)(l:List ByteArray):Prop:=(s=0/\l=[])\/(s≠0/\v=OP (aQ l).length l.length)
structure Live(d:iM)(j:tG):Prop where
 base:0<=j.base/\j.base<=14
 file:j.cell.file=j.base+1
 bytes:j.bytes=(aQ j.list).length
 most:(aQ j.list).length<=1048576
 now:fN (d.files (j.base+1)).now j.cell.slot j.cell.value
 last:fN (d.files (j.base+1)).last j.cell.slot j.cell.value
 enc:Enc j.cell.slot j.cell.value j.list
 log:Pre (aQ j.list) (d.files j.base)
def JK(d:iM)(b:Int)(P:List ByteArray->Prop):Prop:=Fut (d.files (b+1)) λs v=>∃ l,Enc s v l/\Pre (aQ l) (d.files b)/\(aQ l).length<=1048576/\P l
theorem Live.fut{d j}(h:Live d j){P}(hP:P j.list):JK d j.base P:=mV h.now h.last ⟨j.list,h.enc,h.log,h.most,hP⟩
theorem JK.mono{d b P Q}(h:JK d b P)(hPQ:∀ l,P l->Q l):JK d b Q:=Fut.mono h λs v ⟨l,h1,h2,h3,h4⟩=>⟨l,h1,h2,h3,hPQ l h4⟩
theorem JK.ev{d d' b P}(h:JK d b P)(h1:Ev (d.files (b+1)) (d'.files (b+1)))(h2:Ev (d.files b) (d'.files b)):JK d' b P :=
 (h1.fut h).mono λs v ⟨l,e1,e2,e3,e4⟩=>⟨l,e1,h2.pre e2,e3,e4⟩
theorem Live.frame{d d' j}(h:Live d j)(hf:d'.files=d.files):Live d' j:=⟨h.base,h.file,h.bytes,h.most,by rw [hf];exact h.now,by rw [hf];exact h.last,h.enc,by rw [hf];exact h.log⟩
theorem aMt(b):JK o9 b λl=>l=[]:=mV (s:=0) (v:=[]) (.inl ⟨rfl,rfl,rfl⟩) (.inl ⟨rfl,rfl,rfl⟩) ⟨[],.inl ⟨rfl,rfl⟩,(show Pre (aQ []) (o9.files b) from λi x h=>by simp [aQ] at h),by decide,rfl⟩
theorem aIF{B f}(h:Pre B f):f.now.take B.length=B:=a7T rfl λi hi=>by
 rw [List.getElem?_eq_getElem hi];exact (h i _ (List.getElem?_eq_getElem hi)).1
structure aWy(d:iM)(b:Int)(P:List ByteArray->Prop)(r:iM × Option tG × Int):Prop where
 w:FH r.1
 other:∀ G,Ev (d.files G) (r.1.files G)\/(G=b\/G=b+1)
 A9:KO d->KO r.1/\r.2.2=0
 or:(∃ j,r.2.1=some j/\r.2.2=0/\Live r.1 j/\P j.list/\j.base=b/\j.broken=false)\/(r.2.1=none/\(r.2.2=9\/r.2.2=10)/\JK r.1 b P)
theorem UO{d b P}(hb:0<=b/\b<=14)(hw:FH d)(h:JK d b P):aWy d b P (rI d b):=by
 have hb1:0<=b/\b<16:=by omega
 have hb2:0<=b+1/\b+1<16:=by omega
 unfold rI;rw [if_neg (by omega)];obtain ⟨a1,a2,a3,a4⟩:=yV (d:=d) (F:=b) hb1 hw;obtain ⟨⟨d1,e1⟩,h1⟩:∃ x,bH d b=x:=⟨_,rfl⟩;rw [h1] at a1 a2 a3 a4 ⊢;simp only at a1 a2 a3 a4 ⊢;by_cases DL:e1≠0
 .rw [if_pos DL];rcases a4 with ⟨h',_⟩|⟨h',h2⟩
  .exact absurd h' DL
  .refine ⟨a1,λG=>?_,λh=>absurd (a3 h).2 DL,.inr ⟨rfl,h',h.ev (a2 _ (by omega)) h2⟩⟩;by_cases hG:G=b
   .exact .inr (.inl hG)
   .exact .inl (a2 G hG)
 rw [if_neg DL];have DL:e1=0:=Decidable.not_not.1 DL;have f1:d1.files b=⟨(d.files b).now,(d.files b).now⟩:=by
  rcases a4 with ⟨_,_,h⟩|⟨h,_⟩
  .exact h
  .rw [DL] at h;omega
 have j1:JK d1 b P:=((a2 (b+1) (by omega)).fut h).mono λs v ⟨l,g1,g2,g3,g4⟩=>⟨l,g1,λi x hx=>by rw [f1];exact ⟨(g2 i x hx).1,(g2 i x hx).1⟩,g3,g4⟩;obtain ⟨c1,c2,c3,c4⟩:=yV (d:=d1) (F:=b+1) hb2 a1;obtain ⟨⟨d2,e2⟩,h2⟩:∃ x,bH d1 (b+1)=x:=⟨_,rfl⟩;rw [h2] at c1 c2 c3 c4 ⊢;simp only at c1 c2 c3 c4 ⊢;have oth:∀ G,Ev (d.files G) (d2.files G)\/(G=b\/G=b+1):=λG=>by
  by_cases hG:G=b
  .exact .inr (.inl hG)
  .by_cases hG2:G=b+1
   .exact .inr (.inr hG2)
   .exact .inl ((a2 G hG).trans (c2 G hG2))
 by_cases VY:e2≠0
 .rw [if_pos VY];rcases c4 with ⟨h',_⟩|⟨h',h2⟩
  .exact absurd h' VY
  .exact ⟨c1,oth,λh=>absurd (c3 (a3 h).1).2 VY,.inr ⟨rfl,h',j1.ev h2 (c2 _ (by omega))⟩⟩
 rw [if_neg VY];have VY:e2=0:=Decidable.not_not.1 VY;obtain ⟨hdn,f2⟩:d2.down=false/\d2.files (b+1)=⟨(d1.files (b+1)).now,(d1.files (b+1)).now⟩:=by
  rcases c4 with ⟨_,h1,h2⟩|⟨h,_⟩
  .exact ⟨h1,h2⟩
  .rw [VY] at h;omega
 obtain ⟨⟨s,v,k1,l,k2,k3,k4,k5⟩,_⟩:=j1;have kb:=c2 b (by omega);have k3:=kb.pre k3;have k6:fN (d2.files (b+1)).now s v:=by rw [f2];exact k1
 have k7:fN (d2.files (b+1)).last s v:=by rw [f2];exact k1
 have ho:=a7U hdn hb2 k6;have hl2:l.length<=(aQ l).length:=by
  have:=xW (l:=l) λx hx=>Nat.le_trans (kN hx) (by omega);omega
 have hn:rH ⟨b+1,s,v,false⟩=(((aQ l).length:Int),(l.length:Int),true):=by
  rcases k2 with ⟨hs,hl⟩|⟨hs,hv⟩
  .subst hl;unfold rH;rw [if_pos hs];rfl
  .exact aID hs hv (by omega) (by omega)
 have hr:dH d2 b 0 ((aQ l).length:Nat)=(aQ l,0):=by
  rw [a0G hdn hb1 (Int.le_refl 0) (by omega)];simp only [Int.toNat_natCast];rw [show (0:Int).toNat=0 from rfl,List.drop_zero,aIF k3]
 have hj:JJ d2 b=(some ⟨b,⟨b+1,s,v,false⟩,l,(aQ l).length,false⟩,0):=by
  unfold JJ;rw [ho];simp only;unfold a5n;rw [hn];simp only;rw [hr];simp only;rw [if_neg (by simp),if_neg (by simp),aEG (by omega)];simp only;rw [if_neg (by simp)];rfl
 rw [hj];exact ⟨c1,oth,λh=>⟨(c3 (a3 h).1).1,rfl⟩,.inl ⟨_,rfl,rfl,⟨hb,rfl,rfl,k4,k6,k7,k2,k3⟩,k5,rfl,rfl⟩⟩
structure a0I(d:iM)(j:tG)(want:List ByteArray)(r:iM × tG × Int):Prop where
 w:FH r.1
 other:∀ G,Ev (d.files G) (r.1.files G)\/(G=j.base\/G=j.base+1)
 A9:KO d->KO r.1/\r.2.2=0
 base:r.2.1.base=j.base
 or:(r.2.2=0/\r.2.1.broken=false/\r.2.1.list=want/\Live r.1 r.2.1)\/((r.2.2=9\/r.2.2=10)/\r.2.1.broken=true/\r.2.1.list=j.list/\JK r.1 j.base λl=>l=j.list\/l=want)
theorem a7X{d j want}(h:Live d j)(hw:FH d)(qT:Pre (aQ want) (d.files j.base))(aCS:(aQ want).length<=1048576):
  a0I d j want (DF j want (aQ want).length (tN d j (aQ want).length want.length)):=by
 have hbs:=h.base;have hwl:want.length<=(aQ want).length:=by
  have:=xW (l:=want) λx hx=>Nat.le_trans (kN hx) (by omega);omega
 have hS:=a7V (d:=d) (c:=j.cell) (s:=OP (aQ want).length want.length) (by rw [h.file];omega) hw (by have:=aIE (b:=(aQ want).length) (n:=want.length) (by omega) (by omega);omega) (by rw [h.file];exact h.now) (by rw [h.file];exact h.last);obtain ⟨⟨d1,c1,e1⟩,hx⟩:∃ x,uN d j.cell (OP (aQ want).length want.length)=x:=⟨_,rfl⟩;have hn:tN d j (aQ want).length want.length=(d1,{ j with cell:=c1,broken:=decide (e1≠0) },e1):=by unfold tN;rw [hx]
 rw [hx] at hS;rw [hn];have JL:c1.file=j.base+1:=by have:=hS.file;rw [h.file] at this;exact this
 have oth:∀ G,Ev (d.files G) (d1.files G)\/(G=j.base\/G=j.base+1):=λG=>by
  by_cases hG:G=j.base+1
  .exact .inr (.inr hG)
  .exact .inl (hS.other G (by rw [h.file];exact hG))
 have evb:Ev (d.files j.base) (d1.files j.base):=hS.other _ (by rw [h.file];omega);have SC:((if j.cell.slot=1 then 2 else 1):Nat)≠0:=by split<;>decide
 unfold DF;simp only;by_cases he:e1≠0
 .rw [if_pos he];obtain ⟨h1,h2⟩:=hS.bad he;refine ⟨hS.w,oth,λhh=>absurd (hS.A9 hh).2 he,rfl,.inr ⟨h1,by simpa using he,rfl,?_⟩⟩;rw [h.file] at h2;refine Fut.mono h2 λs v hv=>?_;rcases hv with ⟨rfl,rfl⟩|⟨rfl,rfl⟩
  .exact ⟨j.list,h.enc,evb.pre h.log,h.most,.inl rfl⟩
  .exact ⟨want,.inr ⟨SC,rfl⟩,evb.pre qT,aCS,.inr rfl⟩
 .rw [if_neg he];have he:e1=0:=Decidable.not_not.1 he;obtain ⟨h1,h2,X,h3,h4⟩:=hS.ok he;have h1:c1.slot=if j.cell.slot=1 then 2 else 1:=h1
  have h2:c1.value=OP (aQ want).length want.length:=h2;rw [h.file] at h3;rw [<-h1,<-h2] at h4;refine ⟨hS.w,oth,λhh=>⟨(hS.A9 hh).1,rfl⟩,rfl,.inl ⟨rfl,by rw [he];rfl,rfl,⟨hbs,JL,rfl,aCS,?_,?_,.inr ⟨by rw [h1];exact SC,h2⟩,evb.pre qT⟩⟩⟩
  .show fN (d1.files (j.base+1)).now c1.slot c1.value;rw [h3];exact h4
  .show fN (d1.files (j.base+1)).last c1.slot c1.value;rw [h3];exact h4
theorem a0I.from{d d' j want r}(h:a0I d' j want r)(ho:∀ G,G≠j.base->Ev (d.files G) (d'.files G))(hf:KO d->KO d'):a0I d j want r :=
 ⟨h.w,λG=>by
  by_cases hG:G=j.base
  .exact .inr (.inl hG)
  .rcases h.other G with h1|h1
   .exact .inl ((ho G hG).trans h1)
   .exact .inr h1,λhh=>h.A9 (hf hh),h.base,h.or⟩
theorem aAK{d j l}(h:Live d j)(hb:j.broken=false)(hw:FH d)(hl:l≠[])(aCS:j.bytes+(aQ l).length<=1048576):a0I d j (j.list++l) (dK d j l):=by
 have hbs:=h.base;have hby:=h.bytes;have hF:0<=j.base/\j.base<16:=by omega
 unfold dK;rw [if_neg (by rw [hb];simp),if_neg hl,if_neg (by omega)];have hfa:(aQ (j.list++l)).length=j.bytes+(aQ l).length:=by rw [mY,List.length_append,hby]
 obtain ⟨a1,a2,a3,_,a5⟩:=UN (d:=d) (F:=j.base) (a:=(j.bytes:Int)) (s:=aQ l) hF (by omega) (by omega) hw;rw [Int.toNat_natCast] at a5;unfold JH;obtain ⟨⟨d1,e1⟩,h1⟩:∃ x,bX d j.base j.bytes (aQ l)=x:=⟨_,rfl⟩;rw [h1] at a1 a2 a3 a5 ⊢;simp only at a1 a2 a3 a5 ⊢;have aQJ:∀ X:Bs,(∀ i x,(aQ j.list)[i]? = some x->X[i]? = some x)->∀ i x,(aQ j.list)[i]? = some x->(iW X j.bytes (aQ l))[i]? = some x:=λX hX i x hx=>by
  have hi:i<j.bytes:=by rw [hby];exact (List.getElem?_eq_some_iff.1 hx).1
  have h2:=hX i x hx;have h3:i<X.length:=(List.getElem?_eq_some_iff.1 h2).1;by_cases h0:aQ l=[]
  .rw [h0,S5];exact h2
  .rw [JE h0 hi,if_pos h3];exact h2
 have pw:Pre (aQ j.list) ⟨iW (d.files j.base).now j.bytes (aQ l),(d.files j.base).last⟩:=λi x hx=>⟨aQJ _ (λi x hx=>(h.log i x hx).1) i x hx,(h.log i x hx).2⟩;have aIG:∀ {d':iM},Ev (d.files (j.base+1)) (d'.files (j.base+1))->Pre (aQ j.list) (d'.files j.base)->JK d' j.base λx=>x=j.list\/x=j.list++l:=λhev hp =>
  (hev.fut (mV h.now h.last (P:=λs v=>s=j.cell.slot/\v=j.cell.value) ⟨rfl,rfl⟩)).mono λs v hv=>⟨j.list,by rw [hv.1,hv.2];exact h.enc,hp,h.most,.inl rfl⟩
 by_cases DL:e1=0
 .rw [if_pos DL];have f1:d1.files j.base=⟨iW (d.files j.base).now j.bytes (aQ l),(d.files j.base).last⟩:=by
   rcases a5 with ⟨_,h⟩|⟨h,_⟩
   .exact h
   .rw [DL] at h;cases h
  obtain ⟨c1,c2,c3,c4⟩:=yV (d:=d1) (F:=j.base) hF a1;obtain ⟨⟨d2,e2⟩,h2⟩:∃ x,bH d1 j.base=x:=⟨_,rfl⟩;rw [h2] at c1 c2 c3 c4 ⊢;simp only at c1 c2 c3 c4 ⊢;rw [f1] at c4;by_cases VY:e2≠0
  .rw [if_pos VY];rcases c4 with ⟨h',_⟩|⟨h',hev⟩
   .exact absurd h' VY
   .refine ⟨c1,λG=>?_,λhh=>absurd (c3 (a3 hh).1).2 VY,rfl,.inr ⟨h',rfl,rfl,aIG ((a2 _ (by omega)).trans (c2 _ (by omega))) (hev.pre pw)⟩⟩;by_cases hG:G=j.base
    .exact .inr (.inl hG)
    .exact .inl ((a2 G hG).trans (c2 G hG))
  rw [if_neg VY];have VY:e2=0:=Decidable.not_not.1 VY;have f2:d2.files j.base=⟨iW (d.files j.base).now j.bytes (aQ l),iW (d.files j.base).now j.bytes (aQ l)⟩:=by
   rcases c4 with ⟨_,_,h⟩|⟨h,_⟩
   .exact h
   .rw [VY] at h;omega
  have evc:Ev (d.files (j.base+1)) (d2.files (j.base+1)):=(a2 _ (by omega)).trans (c2 _ (by omega));have JG:=h.now;have both:fN (d2.files (j.base+1)).now j.cell.slot j.cell.value/\fN (d2.files (j.base+1)).last j.cell.slot j.cell.value:=by
   have:∀ {f g:wX},Ev f g->fN f.now j.cell.slot j.cell.value->fN f.last j.cell.slot j.cell.value->fN g.now j.cell.slot j.cell.value/\fN g.last j.cell.slot j.cell.value:=λhev h1 h2=>by
    induction hev with
    | refl=>exact ⟨h1,h2⟩
    | step _ hs ih=>exact ⟨S8 ih.1 ih.2 hs,S8 ih.1 ih.2 hs⟩
   exact this evc h.now h.last
  have lg:Pre (aQ (j.list++l)) (d2.files j.base):=λi x hx=>by
   rw [f2];have key:(iW (d.files j.base).now j.bytes (aQ l))[i]? = some x:=by
    rw [mY] at hx;by_cases hi:i<(aQ j.list).length
    .rw [List.getElem?_append_left hi] at hx;exact aQJ _ (λi x hx=>(h.log i x hx).1) i x hx
    .rw [List.getElem?_append_right (by omega)] at hx;have hi2:i - (aQ j.list).length<(aQ l).length:=(List.getElem?_eq_some_iff.1 hx).1;have h0:aQ l≠[]:=λe=>by rw [e] at hi2;cases hi2
     rw [JF h0 (by omega) (by omega),hby];exact hx
   exact ⟨key,key⟩
  have aWz:Live d2 j:=⟨h.base,h.file,h.bytes,h.most,both.1,both.2,h.enc,λi x hx=>by
   rw [f2];have:=aQJ _ (λi x hx=>(h.log i x hx).1) i x hx;exact ⟨this,this⟩⟩
  have hN:=a7X aWz c1 lg (by omega);rw [hfa,List.length_append] at hN;exact hN.from (λG hG=>(a2 G hG).trans (c2 G hG)) λhh=>(c3 (a3 hh).1).1
 .rw [if_neg DL];simp only;rw [if_pos DL];rcases a5 with ⟨h',_⟩|⟨h',hev⟩
  .exact absurd h' DL
  .refine ⟨a1,λG=>?_,λhh=>absurd (a3 hh).2 DL,rfl,.inr ⟨.inl h',rfl,rfl,aIG (a2 _ (by omega)) ?_⟩⟩
   .by_cases hG:G=j.base
    .exact .inr (.inl hG)
    .exact .inl (a2 G hG)
   .rcases hev with hev|hev
    .exact hev.pre h.log
    .exact hev.pre pw
theorem aMu{A B f}(h:Pre (A++B) f):Pre A f:=λi x hx=>h i x (by rw [List.getElem?_append_left (List.getElem?_eq_some_iff.1 hx).1];exact hx)
theorem aMv{d j n}(h:Live d j)(hb:j.broken=false)(hw:FH d)(hn:n<j.list.length):a0I d j (j.list.take n) (iX d j n):=by
 have e:aQ j.list=aQ (j.list.take n)++aQ (j.list.drop n):=by rw [<-mY,List.take_append_drop]
 have hm:=h.most;rw [e,List.length_append] at hm;have hp:Pre (aQ (j.list.take n)) (d.files j.base):=aMu (B:=aQ (j.list.drop n)) (by rw [<-e];exact h.log);unfold iX;rw [if_neg (by rw [hb];simp),if_neg (by omega),if_neg (by omega),Int.toNat_natCast];have hN:=a7X h hw hp (by omega);rw [List.length_take,Nat.min_eq_left (by omega)] at hN;exact hN
structure OQ where
 src:Int
 to:Int
 body:ByteArray
structure JM where
 aH:List OQ
 split:Int
def DG(a:Int):Bool:=decide (0<=a)&&decide (a<16)
def aEH(s a:Int):Int:=s / 2 ^ a.toNat % 2
def yX(s a b:Int):Bool:=DG a&&(DG b&&decide (aEH s a=aEH s b))
def rJ(n:JM)(a b:Int)(body:ByteArray):JM × Int :=
 if (DG a&&(DG b&&decide (a≠b)))=false then (n,1) else if yX n.split a b=false then (n,10) else if 500<=n.aH.length then (n,6) else ({ n with aH:=n.aH++[⟨a,b,body⟩] },0)
def takeN(n:JM)(i:Nat):JM:={ n with aH:=n.aH.eraseIdx i }
def DH(t v:Int):Bs:=(pH t).data.toList++(pH v).data.toList
def b12:bT:=⟨0,.empty⟩
def nP(s:ByteArray):bT:=(WC s.data.toList).getD b12
def iK(x:bT):ByteArray:=bs (wW x)
def lM(c:JC):Int × Int:=if c.slot=0 then (0,-1) else ((eI (c.value,false)).1,(eI (eI (c.value,false)).2).1)
structure XM where
 j:tG
 c:JC
 r:dY
structure OR where
 d:iM
 up:Option XM
def OS(id:Nat)(d:iM)(j:tG):iM × Option XM × Int:=match vX d 2 with
 | (none,e)=>(d,none,e)
 | (some c,_)=>(d,some ⟨j,c,dU id (lM c).1 (lM c).2 (j.list.map nP)⟩,0)
def OU(id:Nat)(d:iM):iM × Option XM × Int:=match rI d 0 with
 | (d1,none,e)=>(d1,none,e)
 | (d1,some j,_)=>OS id d1 j
def bD(id:Nat)(d:iM):iM × Option XM × Int :=
 if (bH d 2).2≠0 then ((bH d 2).1,none,(bH d 2).2) else OU id (bH d 2).1
def nK(d:iM)(u:XM)(o:mK):iM × JC × Int:=if o.save=true then uN d u.c (DH o.term o.aO) else (d,u.c,0)
def pZ(d:iM)(u:XM)(o:mK):iM × tG × Int :=
 if 0<o.src then
  let b:=iX d u.j (min (o.src - 1) (u.j.list.length:Int))
  if b.2.2≠0 then b else dK b.1 b.2.1 (o.aF.map iK)
 else (d,u.j,0)
def bW(d:iM)(u:XM)(o:mK):iM × XM × Int :=
 let a:=nK d u o
 if a.2.2≠0 then (a.1,{ u with c:=a.2.1 },a.2.2) else
 let b:=pZ a.1 u o
 (b.1,{ u with c:=a.2.1,j:=b.2.1 },b.2.2)
structure gG where
 mem:Nat->OR
 dL:JM
 fE:List ByteArray
def gL(G:gG)(i:Nat):gG:=match (G.mem i).up with
 | none=>G
 | some u=>if G.fE.length<u.r.aE then { G with fE:=(u.r.log.take u.r.aE).map bT.data } else G
def eM(G:gG):gG:=gL (gL (gL G 0) 1) 2
def bZ(G:gG)(i:Nat)(m:OR):gG:={ G with mem:=put G.mem i m }
def jK(id:Nat)(n:JM)(l:List bQ):JM:=l.foldl (λn m=>(rJ n id m.to (bs (qQ m))).1) n
def doG(G:gG)(i:Nat)(u:XM)(x:dY × mK):gG × Int :=
 let s:=bW (G.mem i).d { u with r:=x.1 } x.2
 if s.2.2=0 then
  let G1:=bZ G i ⟨s.1,some s.2.1⟩
  (eM { G1 with dL:=jK i G1.dL x.2.send },0)
 else (eM (bZ G i ⟨s.1,none⟩),s.2.2)
def upG(G:gG)(id:Int):Int:=if id<0\/3<=id then 1 else if (G.mem id.toNat).up.isNone=true then 9 else 0
def vY(G:gG)(id:Int)(f:dY->dY × mK):gG × Int :=
 if id<0\/3<=id then (G,1) else match (G.mem id.toNat).up with
 | none=>(G,9)
 | some u=>doG G id.toNat u (f u.r)
def x4(G:gG)(id:Int):gG × Int:=vY G id eA
def dF(G:gG)(id:Int)(data:ByteArray):gG × Int × Int :=
 if id<0\/3<=id then (G,0,1) else match (G.mem id.toNat).up with
 | none=>(G,0,9)
 | some u =>
  let p:=aL u.r data
  if p.2.2.1≠0 then (G,0,p.2.2.1) else
  let x:=doG G id.toNat u (p.1,p.2.2.2)
  if x.2≠0 then (x.1,0,x.2) else (x.1,p.2.1,0)
def eT(G:gG)(i:Int):gG × Int :=
 if i<0 then (G,4) else match G.dL.aH[i.toNat]? with
 | none=>(G,4)
 | some p =>
  let G1:={ G with dL:=takeN G.dL i.toNat }
  if yX G.dL.split p.src p.to=false then (G1,10) else vY G1 p.to λr=>cX r ((yU p.body.data.toList).getD S3)
def x5(G:gG)(i:Int):gG × Int:=if i<0\/(G.dL.aH.length:Int)<=i then (G,4) else ({ G with dL:=takeN G.dL i.toNat },0)
def kW(G:gG)(i:Int):gG × Int :=
 if i<0 then (G,4) else match G.dL.aH[i.toNat]? with
 | none=>(G,4)
 | some p=>if 500<=G.dL.aH.length then (G,6) else ({ G with dL:={ G.dL with aH:=G.dL.aH++[p] } },0)
def UP(G:gG)(mask:Int):gG:={ G with dL:={ G.dL with split:=mask % 65536 } }
def a3D(G:gG):gG:={ G with dL:={ G.dL with split:=0 } }
def mM(G:gG)(id:Int)(keep:List Int):gG × Int:=if id<0\/3<=id then (G,1) else (eM (bZ G id.toNat ⟨bV (G.mem id.toNat).d keep,none⟩),0)
def kP(G:gG)(id:Int):gG × Int :=
 if id<0\/3<=id then (G,1) else match (G.mem id.toNat).up with
 | some _=>(eM G,7)
 | none =>
  let r:=bD id.toNat (bY (G.mem id.toNat).d)
  (eM (bZ G id.toNat ⟨r.1,r.2.1⟩),r.2.2)
def gV(G:gG)(id n:Int):gG × Int:=if id<0\/3<=id then (G,1) else (eM (bZ G id.toNat { G.mem id.toNat with d:=j9 (G.mem id.toNat).d n }),0)
def M5(G:gG)(id n:Int)(keep:List Int):gG × Int:=if id<0\/3<=id then (G,1) else (eM (bZ G id.toNat { G.mem id.toNat with d:=pI (G.mem id.toNat).d n keep }),0)
def qU:Nat->gG->gG × Nat
 | 0,G=>(G,0)
 | k+1,G=>if G.dL.aH=[] then (G,0) else
  let x:=qU k (eT G 0).1
  (x.1,x.2+1)
def cJ(G:gG)(id most:Int):gG × Nat:=qU most.toNat (x4 G id).1
def MQ(G:gG)(id:Int):Int:=if id<0\/3<=id then -1 else match (G.mem id.toNat).up with
 | none => -1
 | some u=>u.r.role
def WE(G:gG)(id:Int):Int:=if id<0\/3<=id then 0 else match (G.mem id.toNat).up with
 | none=>0
 | some u=>u.r.term
def qV(G:gG)(id:Int):List bT:=if id<0\/3<=id then [] else match (G.mem id.toNat).up with
 | none=>[]
 | some u=>u.r.log
def MR(d:iM):iM:=bY (bV (pI (j9 d 0) 0 []) [])
def nL(d:iM):List bT:=match (rI (MR d) 0).2.1 with
 | none=>[]
 | some j=>j.list.map nP
def xP(G:gG)(id:Int):List bT:=if id<0\/3<=id then [] else nL (G.mem id.toNat).d
def xQ(i:Nat):OR:=⟨(bD i o9).1,(bD i o9).2.1⟩
def MS:gG:=⟨xQ,⟨[],0⟩,[]⟩
end Go.Proofs.YtnlkemjhgdbfkaaGreatDoor
end

section
namespace Go.Vc
structure aWA where
 key:Int × ByteArray
 val:Int
 born:Nat
abbrev aMw(k:Int × ByteArray):Value:=.agg #[.int .i64 k.1,.string k.2]
def aWA.m(e:aWA):MapEntry:=⟨aMw e.key,.int .i64 e.val,e.born⟩
structure aWB(P:Program)(t k e:TypeId):Prop where
 map:P.underlying t=some (.map k e)
 str:∃ fs,P.underlying k=some (.struct fs)
 chk:∀ b x w,(Instr.checkKey b 10000 k (aMw x)).run P w=.ok () w
 eq:∀ x y w,(Op.equal k (aMw x) (aMw y)).run P w=.ok (decide (x=y)) w
 zero:∀ w,(zeroValue e).run P w=.ok (.int .i64 0) w
section
variable {P:Program}{t k e:TypeId}(T:aWB P t k e)
include T
omit T
theorem qA{α β:Type}{f:α->β}:∀ {l:List α},l.Pairwise (λa b=>f a≠f b)->∀ {a b:α},a∈l->b∈l->f a=f b->a=b
 | [],_,_,_,ha,_,_=>by cases ha
 | x :: l,h,a,b,ha,hb,e=>by
  obtain ⟨h1,h2⟩:=List.pairwise_cons.1 h;rcases List.mem_cons.1 ha with ea|ha
  .rcases List.mem_cons.1 hb with eb|hb
   .rw [ea,eb]
   .exact absurd (by rw [<-ea];exact e) (h1 b hb)
  .rcases List.mem_cons.1 hb with eb|hb
   .exact absurd (by rw [<-eb];exact e.symm) (h1 a ha)
   .exact qA h2 ha hb e
theorem a0K{α:Type}{p}:∀ {l:List α} {a:α},a∈l->p a=true->(∀ c∈l,p c=true->c=a)->∃ n,l.findIdx? p=some n/\l[n]? = some a
 | [],_,h,_,_=>by cases h
 | x :: l,a,h,hp,hu=>by
  rw [List.findIdx?_cons];by_cases hx:p x=true
  .rw [if_pos hx];exact ⟨0,rfl,by rw [hu x (by simp) hx];rfl⟩
  .rw [if_neg hx];rcases List.mem_cons.1 h with rfl|h
   .exact absurd hp hx
   .obtain ⟨n,h1,h2⟩:=a0K h hp λc hc=>hu c (by simp [hc]);exact ⟨n+1,by rw [h1];rfl,by simpa using h2⟩
include T
end
section
variable {P:Program}{W w:World}{Q R G:List Own}{Φ Ψ:PW}{f:FuncId}{args:Array Value}
end
variable {κ ν:Type}[DecidableEq κ]{kv:κ->Value}{vv:ν->Value}{z:ν}
structure bU(κ ν:Type) where
 key:κ
 val:ν
 born:Nat
def bU.m(kv:κ->Value)(vv:ν->Value)(e:bU κ ν):MapEntry:=⟨kv e.key,vv e.val,e.born⟩
def bR(kv:κ->Value)(vv:ν->Value)(es:List (bU κ ν))(clock:Nat):Obj:=.map (es.map (bU.m kv vv)).toArray clock
def iA(z:ν):List (bU κ ν)->κ->ν
 | [],_=>z
 | e :: es,k=>if k=e.key then e.val else iA z es k
def yY(vv:ν->Value):List (bU κ ν)->κ->Nat->Option (Nat × Value)
 | [],_,_=>none
 | e :: es,k,i=>if k=e.key then some (i,vv e.val) else yY vv es k (i+1)
structure GOk(es:List (bU κ ν))(clock:Nat):Prop where
 keys:es.Pairwise λa b=>a.key≠b.key
 tO:es.Pairwise λa b=>a.born≠b.born
 lt:∀ e∈es,e.born<clock
structure GTy(P:Program)(t k e:TypeId)(kv:κ->Value)(vv:ν->Value)(z:ν):Prop where
 map:P.underlying t=some (.map k e)
 find:∀ (x:κ) (es:List (bU κ ν)) w,(Instr.findKey k (kv x) (es.map (bU.m kv vv))).run P w=.ok (yY vv es x 0) w
 chk:∀ b x w,(Instr.checkKey b 10000 k (kv x)).run P w=.ok () w
 stays:∀ x w,(Instr.keyThatStays (kv x) (kv x)).run P w=.ok (kv x) w
 zero:∀ w,(zeroValue e).run P w=.ok (vv z) w
theorem uO:∀ {es:List (bU κ ν)} {k:κ} {i:Nat},yY vv es k i=none->∀ e∈es,e.key≠k
 | [],_,_,_,e,he=>by cases he
 | x :: es,k,i,h,e,he=>by
  unfold yY at h;split at h
  .cases h
  .rename_i hk;rcases List.mem_cons.1 he with rfl|he
   .exact λe=>hk e.symm
   .exact uO h e he
theorem rK:∀ {es:List (bU κ ν)} {k:κ},(∀ e∈es,e.key≠k)->iA z es k=z
 | [],_,_=>rfl
 | x :: es,k,h=>by
  unfold iA;rw [if_neg λe=>h x (by simp) e.symm];exact rK λe he=>h e (by simp [he])
theorem uP:∀ {es:List (bU κ ν)} {k:κ} {i j:Nat} {v:Value},yY vv es k i=some (j,v)->∃ n e,j=i+n/\es[n]? = some e/\e.key=k/\v=vv e.val/\iA z es k=e.val
 | [],_,_,_,_,h=>by cases h
 | x :: es,k,i,j,v,h=>by
  unfold yY at h;split at h
  .rename_i hk;cases h;exact ⟨0,x,rfl,rfl,hk.symm,rfl,by unfold iA;rw [if_pos hk]⟩
  .rename_i hk;obtain ⟨n,e,h1,h2,h3,h4,h5⟩:=uP h;exact ⟨n+1,e,by omega,by simpa using h2,h3,h4,by unfold iA;rw [if_neg hk];exact h5⟩
section
variable {P:Program}{t k e:TypeId}(T:GTy P t k e kv vv z)
include T
theorem vZ{w b es clock}(hb:w.heap[b]? = some (bR kv vv es clock))(x):
  Sem.run P (Instr.lookup t (.map (some b)) (kv x) false) w=.ok (vv (iA z es x)) w:=by
 have h1:=T.find x es w;unfold bR at hb;unfold Instr.lookup;simp only [Sem.run_bind,run_underlying T.map,MapKept.run_getObj_map hb,Result.andThen,T.chk,Sem.run_pure,h1];cases hf:yY vv es x 0 with
 | none=>simp only [Sem.run_bind,T.zero,Result.andThen,Sem.run_pure,rK (uO hf)];rfl
 | some r =>
  obtain ⟨j,v⟩:=r;obtain ⟨n,e',_,_,_,hv,hg⟩:=uP (z:=z) hf;simp only [Sem.run_pure,Result.andThen];rw [hg,hv];rfl
theorem aAL{w b es clock}(ok:GOk es clock)(hb:w.heap[b]? = some (bR kv vv es clock))(x):
  ∃ fV a0L s,Sem.run P (Instr.mapEntry t (.map (some b)) (kv x)) w=.ok (.tuple #[vv (iA z es x),.int .i64 (s:Nat)]) (DW w b (bR kv vv fV a0L))/\GOk fV a0L/\(∀ y,iA z fV y=iA z es y)/\∃ a∈fV,a.key=x/\a.born=s:=by
 have h1:=T.find x es w;unfold bR at hb;cases hf:yY vv es x 0 with
 | none =>
  have hn:=uO hf;refine ⟨es++[⟨x,z,clock⟩],clock+1,clock,?_,⟨?_,?_,?_⟩,λy=>?_,⟨x,z,clock⟩,by simp,rfl,rfl⟩
  .have h3:=MapKept.run_setObj_map (P:=P) (.map ((es.map (bU.m kv vv)).toArray.push ⟨kv x,vv z,clock⟩) (clock+1)) hb;unfold Instr.mapEntry;rw [hf] at h1;simp only [Sem.run_bind,run_underlying T.map,MapKept.run_getObj_map hb,Result.andThen,T.chk,Sem.run_pure,h1,T.zero,h3];rw [rK hn]
   congr 2
   unfold bR;simp [bU.m]
  .exact List.pairwise_append.2 ⟨ok.keys,by simp,λa ha c hc=>by rw [List.mem_singleton.1 hc];exact hn a ha⟩
  .exact List.pairwise_append.2 ⟨ok.tO,by simp,λa ha c hc=>by rw [List.mem_singleton.1 hc];exact Nat.ne_of_lt (ok.lt a ha)⟩
  .intro a ha;rcases List.mem_append.1 ha with ha|ha
   .have:=ok.lt a ha;omega
   .rw [List.mem_singleton.1 ha];exact Nat.lt_succ_self _
  .clear hb h1 hf ok
   induction es with
   | nil=>simp [iA]
   | cons a es ih =>
    rw [List.cons_append];unfold iA;split
    .rfl
    .exact ih λe he=>hn e (by simp [he])
 | some r =>
  obtain ⟨j,v⟩:=r;obtain ⟨n,a,hj,ha,hk,hv,hg⟩:=uP (z:=z) hf;have hj:j=n:=by omega
  subst hj;refine ⟨es,clock,a.born,?_,ok,λ_=>rfl,a,List.mem_of_getElem? ha,hk,rfl⟩;have ha2:(es.map (bU.m kv vv)).toArray[j]? = some (bU.m kv vv a):=by simp [ha]
  have h3:=MapKept.run_setObj_map (P:=P) (.map ((es.map (bU.m kv vv)).toArray.modify j λe=>{ e with key:=kv x }) clock) hb;unfold Instr.mapEntry;rw [hf] at h1;simp only [Sem.run_bind,run_underlying T.map,MapKept.run_getObj_map hb,Result.andThen,T.chk,Sem.run_pure,h1,ha2,Option.map_some,Option.getD_some];rw [show (bU.m kv vv a).key=kv x by rw [<-hk];rfl,T.stays x w];simp only [h3];rw [hg,hv]
  congr 2
  unfold bR;refine congrArg (λa=>w.heap.setIfInBounds b (Obj.map a clock)) ?_;apply Array.ext
  .simp
  .intro i hi1 hi2;rw [Array.getElem_modify];split
   .rename_i e;subst e;have:(es.map (bU.m kv vv)).toArray[j]=bU.m kv vv a:=by
     have:=Array.getElem?_eq_getElem (xs:=(es.map (bU.m kv vv)).toArray) hi2;rw [ha2] at this;exact (Option.some.inj this).symm
    rw [this,<-hk];rfl
   .rfl
omit T
theorem a7Y{s v x}:∀ {es:List (bU κ ν)},(∀ a∈es,a.born=s ↔ a.key=x)->∀ y,iA z (es.map λa=>if a.born=s then { a with val:=v } else a) y=if y=x/\∃ a∈es,a.key=x then v else iA z es y
 | [],_,y=>by simp [iA]
 | a :: es,h,y=>by
  have ih:=a7Y (v:=v) (es:=es) (λa ha=>h a (by simp [ha])) y;rw [List.map_cons];unfold iA;by_cases h1:a.born=s
  .have hk:=(h a (by simp)).1 h1;rw [if_pos h1];simp only;by_cases h2:y=a.key
   .rw [if_pos h2,if_pos ⟨h2.trans hk,a,by simp,hk⟩]
   .rw [if_neg h2,if_neg h2,ih,if_neg λe=>h2 (e.1.trans hk.symm),if_neg λe=>h2 (e.1.trans hk.symm)]
  .have hk:¬ a.key=x:=λe=>h1 ((h a (by simp)).2 e);rw [if_neg h1];by_cases h2:y=a.key
   .rw [if_pos h2,if_pos h2,if_neg λe=>hk (h2.symm.trans e.1)]
   .rw [if_neg h2,if_neg h2,ih];by_cases h3:y=x/\∃ c∈es,c.key=x
    .rw [if_pos h3];obtain ⟨h4,c,h5,h6⟩:=h3;rw [if_pos ⟨h4,c,by simp [h5],h6⟩]
    .rw [if_neg h3,if_neg λe=>h3 ⟨e.1,by
      obtain ⟨c,h5,h6⟩:=e.2;rcases List.mem_cons.1 h5 with rfl|h5
      .exact absurd h6 hk
      .exact ⟨c,h5,h6⟩⟩]
theorem aAM{w b es clock s x}(t)(ok:GOk es clock)(hx:∃ a∈es,a.key=x/\a.born=s)(hb:w.heap[b]? = some (bR kv vv es clock))(v):
  ∃ fV,Sem.run P (Instr.entryStore t (.map (some b)) (.int .i64 (s:Nat)) (vv v)) w=.ok () (DW w b (bR kv vv fV clock))/\GOk fV clock/\∀ y,iA z fV y=if y=x then v else iA z es y:=by
 obtain ⟨a,ha,hk,hs⟩:=hx;have hiff:∀ c∈es,c.born=s ↔ c.key=x:=λc hc=>⟨λh=>by rw [qA ok.tO hc ha (h.trans hs.symm)];exact hk,λh=>by rw [qA ok.keys hc ha (h.trans hk.symm)];exact hs⟩;refine ⟨es.map λa=>if a.born=s then { a with val:=v } else a,?_,⟨?_,?_,?_⟩,λy=>?_⟩
 .unfold bR at hb;obtain ⟨n,h1,h2⟩:=a0K (p:=λe:MapEntry=>(e.born:Int) == ((s:Nat):Int)) (l:=es.map (bU.m kv vv)) (a:=bU.m kv vv a) (List.mem_map.2 ⟨a,ha,rfl⟩) (by
    show ((a.born:Int) == _)=true;rw [hs];simp) (λc hc hcb=>by
   obtain ⟨c',KB,rfl⟩:=List.mem_map.1 hc;have:c'.born=s:=by
    have h:((c'.born:Int) == ((s:Nat):Int))=true:=hcb;simp at h;omega
   rw [qA ok.tO KB ha (this.trans hs.symm)])
  have h3:=MapKept.run_setObj_map (P:=P) (.map ((es.map (bU.m kv vv)).toArray.modify n λe=>{ e with val:=vv v }) clock) hb;have h0:(asIntOf (.int .i64 ((s:Nat):Int))).run P w=.ok (.i64,((s:Nat):Int)) w:=rfl;unfold Instr.entryStore;simp only [Sem.run_bind,MapKept.run_getObj_map hb,Result.andThen,Sem.run_pure,asInt];have h4:Array.findIdx? (λe:MapEntry=>(e.born:Int) == ((s:Nat):Int)) (es.map (bU.m kv vv)).toArray=some n:=by simpa using h1
  simp only [h0,h4,h3]
  congr 2
  unfold bR;refine congrArg (λa=>w.heap.setIfInBounds b (Obj.map a clock)) ?_;have h2':es[n]? = some a:=by
   rw [List.getElem?_map] at h2;cases he:es[n]? with
   | none=>rw [he] at h2;cases h2
   | some c =>
    rw [he] at h2;have hb2:c.born=a.born:=congrArg MapEntry.born (Option.some.inj h2);rw [qA ok.tO (List.mem_of_getElem? he) ha hb2]
  apply Array.ext
  .simp
  .intro i hi1 hi2;have hi3:i<es.length:=by simpa using hi1
   rw [Array.getElem_modify];simp only [List.getElem_toArray,List.getElem_map];split
   .rename_i e;subst e;have:es[n]=a:=by
     have:=List.getElem?_eq_getElem hi3;rw [h2'] at this;exact (Option.some.inj this).symm
    rw [this,if_pos hs];rfl
   .rename_i e;rw [if_neg];intro hbi;have hea:=qA ok.tO (List.getElem_mem hi3) ha (hbi.trans hs.symm);have hn:n<es.length:=(List.getElem?_eq_some_iff.1 h2').1;have hp:=ok.tO;rw [List.pairwise_iff_getElem] at hp;have hna:es[n]=a:=(List.getElem?_eq_some_iff.1 h2').2;rcases Nat.lt_or_gt_of_ne e with h|h
    .exact hp n i hn hi3 h (by rw [hna,hea])
    .exact hp i n hi3 hn h (by rw [hna,hea])
 .refine List.pairwise_map.2 (ok.keys.imp fun {a b} h=>?_);split<;>split<;>exact h
 .refine List.pairwise_map.2 (ok.tO.imp fun {a b} h=>?_);split<;>split<;>exact h
 .intro c hc;obtain ⟨c',KB,rfl⟩:=List.mem_map.1 hc;have:=ok.lt c' KB;split<;>exact this
 .rw [a7Y hiff y];by_cases h:y=x
  .rw [if_pos ⟨h,a,ha,hk⟩,if_pos h]
  .rw [if_neg λe=>h e.1,if_neg h]
omit [DecidableEq κ] in
theorem a0M:∀ (es:List (bU κ ν)) (j:Nat),(es.map (bU.m kv vv)).eraseIdx j=(es.eraseIdx j).map (bU.m kv vv)
 | [],_=>rfl
 | _ :: _,0=>rfl
 | a :: es,j+1=>by
  rw [List.map_cons,List.eraseIdx_cons_succ,List.eraseIdx_cons_succ,List.map_cons,a0M es j]
theorem a0N{x}:∀ {es:List (bU κ ν)} {n:Nat} {a:bU κ ν},es.Pairwise (λa b=>a.key≠b.key)->es[n]? = some a->a.key=x->∀ y,iA z (es.eraseIdx n) y=if y=x then z else iA z es y
 | [],_,_,_,h,_,_=>by simp at h
 | c :: es,0,a,hp,h,hk,y=>by
  have:c=a:=by simpa using h
  subst this;rw [List.eraseIdx_cons_zero];obtain ⟨h1,_⟩:=List.pairwise_cons.1 hp;by_cases hy:y=x
  .rw [if_pos hy,hy];exact rK λe he h2=>h1 e he (hk.trans h2.symm)
  .rw [if_neg hy];unfold iA;rw [if_neg λe=>hy (e.trans hk)];cases es<;>rfl
 | c :: es,n+1,a,hp,h,hk,y=>by
  obtain ⟨h1,h2⟩:=List.pairwise_cons.1 hp;have h':es[n]? = some a:=by simpa using h
  have ih:=a0N h2 h' hk y;rw [List.eraseIdx_cons_succ];unfold iA;by_cases hy:y=c.key
  .rw [if_pos hy,if_pos hy,if_neg];intro e;exact h1 a (List.mem_of_getElem? h') (hy.symm.trans (e.trans hk.symm))
  .rw [if_neg hy,if_neg hy];exact ih
include T
end
section
variable {P:Program}{t k e:TypeId}(T:GTy P t k e kv vv z)
omit [DecidableEq κ] in
theorem UQ(n v):∀ (es:List (bU κ ν)),(es.modify n λa=>{ a with val:=v }).map bU.key=es.map bU.key:=λes=>by
 apply List.ext_getElem?;intro i;rw [List.getElem?_map,List.getElem?_map,List.getElem?_modify];cases es[i]? with
 | none=>rfl
 | some a=>by_cases h:n=i<;>simp [h]
omit [DecidableEq κ] in
theorem yZ(n v):∀ (es:List (bU κ ν)),(es.modify n λa=>{ a with val:=v }).map bU.born=es.map bU.born:=λes=>by
 apply List.ext_getElem?;intro i;rw [List.getElem?_map,List.getElem?_map,List.getElem?_modify];cases es[i]? with
 | none=>rfl
 | some a=>by_cases h:n=i<;>simp [h]
theorem a3E{x v b}:∀ {es:List (bU κ ν)},(∀ a∈es,a.key≠x)->∀ y,iA z (es++[⟨x,v,b⟩]) y=if y=x then v else iA z es y
 | [],_,y=>by simp [iA]
 | a :: es,h,y=>by
  have ih:=a3E (v:=v) (b:=b) (es:=es) (λa ha=>h a (by simp [ha])) y;rw [List.cons_append];unfold iA;by_cases h1:y=a.key
  .rw [if_pos h1,if_pos h1,if_neg λe=>h a (by simp) (h1.symm.trans e)]
  .rw [if_neg h1,if_neg h1,ih]
theorem a0O{x v}:∀ {es:List (bU κ ν)} {n:Nat} {a:bU κ ν},es.Pairwise (λa b=>a.key≠b.key)->es[n]? = some a->a.key=x->∀ y,iA z (es.modify n λa=>{ a with val:=v }) y=if y=x then v else iA z es y
 | [],_,_,_,h,_,_=>by simp at h
 | c :: es,0,a,hp,h,hk,y=>by
  have:c=a:=by simpa using h
  subst this;rw [List.modify_zero_cons];unfold iA;by_cases hy:y=x
  .rw [if_pos (hy.trans hk.symm),if_pos hy]
  .rw [if_neg λe=>hy (e.trans hk),if_neg hy];cases es<;>simp [iA,hk,hy]
 | c :: es,n+1,a,hp,h,hk,y=>by
  obtain ⟨h1,h2⟩:=List.pairwise_cons.1 hp;have h':es[n]? = some a:=by simpa using h
  have ih:=a0O (v:=v) h2 h' hk y;rw [List.modify_succ_cons];unfold iA;by_cases hy:y=c.key
  .rw [if_pos hy,if_pos hy,if_neg];intro e;exact h1 a (List.mem_of_getElem? h') (hy.symm.trans (e.trans hk.symm))
  .rw [if_neg hy,if_neg hy];exact ih
include T
theorem JN{w b es clock}(ok:GOk es clock)(hb:w.heap[b]? = some (bR kv vv es clock))(x v):
  ∃ fV a0L,Sem.run P (Instr.mapUpdate t (.map (some b)) (kv x) (vv v)) w=.ok () (DW w b (bR kv vv fV a0L))/\GOk fV a0L/\∀ y,iA z fV y=if y=x then v else iA z es y:=by
 have h1:=T.find x es w;unfold bR at hb;cases hf:yY vv es x 0 with
 | none =>
  have hn:=uO hf;refine ⟨es++[⟨x,v,clock⟩],clock+1,?_,⟨?_,?_,?_⟩,a3E hn⟩
  .have h3:=MapKept.run_setObj_map (P:=P) (.map ((es.map (bU.m kv vv)).toArray.push ⟨kv x,vv v,clock⟩) (clock+1)) hb;unfold Instr.mapUpdate;rw [hf] at h1;simp only [Sem.run_bind,run_underlying T.map,MapKept.run_getObj_map hb,Result.andThen,T.chk,Sem.run_pure,h1,h3];unfold bR;simp [bU.m];rfl
  .exact List.pairwise_append.2 ⟨ok.keys,by simp,λa ha c hc=>by rw [List.mem_singleton.1 hc];exact hn a ha⟩
  .exact List.pairwise_append.2 ⟨ok.tO,by simp,λa ha c hc=>by rw [List.mem_singleton.1 hc];exact Nat.ne_of_lt (ok.lt a ha)⟩
  .intro a ha;rcases List.mem_append.1 ha with ha|ha
   .have:=ok.lt a ha;omega
   .rw [List.mem_singleton.1 ha];exact Nat.lt_succ_self _
 | some r =>
  obtain ⟨j,u⟩:=r;obtain ⟨n,a,hj,ha,hk,hv,hg⟩:=uP (z:=z) hf;have hj:j=n:=by omega
  subst hj;have ha2:(es.map (bU.m kv vv)).toArray[j]? = some (bU.m kv vv a):=by simp [ha]
  have h3:=MapKept.run_setObj_map (P:=P) (.map ((es.map (bU.m kv vv)).toArray.modify j λe=>{ e with key:=kv x,val:=vv v }) clock) hb;refine ⟨es.modify j λa=>{ a with val:=v },clock,?_,⟨?_,?_,?_⟩,a0O ok.keys ha hk⟩
  .unfold Instr.mapUpdate;rw [hf] at h1;simp only [Sem.run_bind,run_underlying T.map,MapKept.run_getObj_map hb,Result.andThen,T.chk,Sem.run_pure,h1,ha2,Option.map_some,Option.getD_some];rw [show (bU.m kv vv a).key=kv x by rw [<-hk];rfl,T.stays x w];simp only [h3]
   congr 2
   unfold bR;refine congrArg (λa=>w.heap.setIfInBounds b (Obj.map a clock)) ?_;apply Array.ext';apply List.ext_getElem?;intro i;simp only [Array.toList_modify,List.getElem?_modify,List.getElem?_map];by_cases h:j=i
   .subst h;rw [ha];simp [bU.m,hk]
   .simp [h]
  .have:=List.pairwise_map.2 ok.keys;exact List.pairwise_map.1 (by rw [UQ];exact List.pairwise_map.2 ok.keys)
  .exact List.pairwise_map.1 (by rw [yZ];exact List.pairwise_map.2 ok.tO)
  .intro c hc;have hm:c.born∈(es.modify j λa=>{ a with val:=v }).map bU.born:=List.mem_map.2 ⟨c,hc,rfl⟩;rw [yZ] at hm;obtain ⟨d,hd,he⟩:=List.mem_map.1 hm;rw [<-he];exact ok.lt d hd
end
section
variable {P:Program}{t k e:TypeId}
theorem WG{kk}(x):∀ (es:List (bU Int ν)) (i:Nat),Instr.findNow (.int kk) (.int kk x) (es.map (bU.m (Value.int kk) vv)) i=some (yY vv es x i)
 | [],_=>rfl
 | a :: es,i=>by
  rw [List.map_cons];unfold Instr.findNow;have e1:Instr.sameNow (.int kk) (.int kk x) (bU.m (Value.int kk) vv a).key=some (x == a.key):=by
   show (if kk=kk then some (x == a.key) else none)=_;rw [if_pos rfl]
  rw [e1];unfold yY;by_cases h:x=a.key
  .rw [if_pos h,show (x == a.key)=true by rw [h];exact beq_self_eq_true _];rfl
  .rw [if_neg h,show (x == a.key)=false from Bool.eq_false_iff.2 λhb=>h (by simpa using hb)];exact WG x es (i+1)
theorem GTy.ofInt{kk}(hm:P.underlying t=some (.map k e))(hk:P.underlying k=some (.int kk))(hc:∀ b (x:Int) w,(Instr.checkKey b 10000 k (.int kk x)).run P w=.ok () w)(hz:∀ w,(zeroValue e).run P w=.ok (vv z) w):GTy P t k e (Value.int kk) vv z where
 map:=hm
 chk:=hc
 zero:=hz
 stays x w:=by
  have:Instr.sameBits 10000 (.int kk x) (.int kk x)=true:=by
   unfold Instr.sameBits;simp [Instr.sameBits]
  unfold Instr.keyThatStays;rw [if_pos this];rfl
 find x es w:=by
  unfold Instr.findKey;simp only [Sem.run_bind,run_underlying hk,Result.andThen,WG];rfl
theorem GTy.aII(hm:P.underlying t=some (.map k e))(hk0:∃ fs,P.underlying k=some (.struct fs))(hc:∀ b x w,(Instr.checkKey b 10000 k (kv x)).run P w=.ok () w)(hs:∀ x w,(Instr.keyThatStays (kv x) (kv x)).run P w=.ok (kv x) w)(he:∀ x y w,(Op.equal k (kv x) (kv y)).run P w=.ok (decide (x=y)) w)(hz:∀ w,(zeroValue e).run P w=.ok (vv z) w):GTy P t k e kv vv z where
 map:=hm
 chk:=hc
 zero:=hz
 stays:=hs
 find x es w:=by
  obtain ⟨fs,hk⟩:=hk0;have ask:∀ (es:List (bU κ ν)) (i:Nat),(Instr.findAsking k (kv x) (es.map (bU.m kv vv)) i).run P w=.ok (yY vv es x i) w:=by
   intro es
   induction es with
   | nil=>intro i;rfl
   | cons a es ih =>
    intro i;rw [List.map_cons];unfold Instr.findAsking;simp only [Sem.run_bind];rw [show (bU.m kv vv a).key=kv a.key from rfl,he x a.key w];simp only [Result.andThen];unfold yY;by_cases h:x=a.key
    .rw [if_pos (by simpa using h),if_pos h];rfl
    .rw [if_neg (by simpa using h),if_neg h];exact ih (i+1)
  unfold Instr.findKey;simp only [Sem.run_bind,run_underlying hk,Result.andThen];cases es with
  | nil=>rfl
  | cons a es =>
   rw [List.map_cons];unfold Instr.findNow;simp only [Instr.sameNow];exact ask (a :: es) 0
end
end Go.Vc
end

section
namespace Go.Vc
variable {κ ν:Type}{kv:κ->Value}{vv:ν->Value}{z:ν}
theorem MT{x}:∀ {es:List (bU κ ν)} {n:Nat} {a:bU κ ν},es.Pairwise (λa b=>a.key≠b.key)->es[n]? = some a->a.key=x->∀ e∈es.eraseIdx n,e.key≠x
 | [],_,_,_,h,_,_,_=>by simp at h
 | c :: es,0,a,hp,h,hk,e,he=>by
  have:c=a:=by simpa using h
  subst this;rw [List.eraseIdx_cons_zero] at he;exact λh2=>(List.pairwise_cons.1 hp).1 e he (hk.trans h2.symm)
 | c :: es,n+1,a,hp,h,hk,e,he=>by
  obtain ⟨h1,h2⟩:=List.pairwise_cons.1 hp;have h':es[n]? = some a:=by simpa using h
  rw [List.eraseIdx_cons_succ] at he;rcases List.mem_cons.1 he with rfl|he
  .exact λe2=>h1 a (List.mem_of_getElem? h') (e2.trans hk.symm)
  .exact MT h2 h' hk e he
section
variable [DecidableEq κ]{P:Program}{t k e:TypeId}(T:GTy P t k e kv vv z)
include T
theorem a7Z{w b es clock}(ok:GOk es clock)(hb:w.heap[b]? = some (bR kv vv es clock))(x kt ty cs):
  ∃ fV,Sem.run P (builtin Builtin.delete #[t,kt] ty cs #[.map (some b),kv x]) w=.ok (.value (.tuple #[])) (DW w b (bR kv vv fV clock))/\GOk fV clock/\(∀ y,iA z fV y=if y=x then z else iA z es y)/\fV.Sublist es/\∀ e∈fV,e.key≠x:=by
 have h1:=T.find x es w;unfold bR at hb;have run:∀ fV:List (bU κ ν),(Builtin.delete_ #[t,kt] ty #[.map (some b),kv x]).run P w=.ok (.tuple #[]) (DW w b (bR kv vv fV clock))->Sem.run P (builtin Builtin.delete #[t,kt] ty cs #[.map (some b),kv x]) w=.ok (.value (.tuple #[])) (DW w b (bR kv vv fV clock)):=λfV h=>by
  unfold builtin;simp only [Sem.run_bind,h,Result.andThen,Sem.run_pure]
 cases hf:yY vv es x 0 with
 | none =>
  have hn:=uO hf;refine ⟨es,run _ ?_,ok,λy=>?_,List.Sublist.refl _,hn⟩
  .have h3:=MapKept.run_setObj_map (P:=P) (.map (es.map (bU.m kv vv)).toArray clock) hb;unfold Builtin.delete_;rw [hf] at h1;simp only [Array.getElem?_eq_getElem,List.size_toArray,List.length_cons,List.length_nil,Nat.zero_lt_succ,Nat.lt_add_one,List.getElem_toArray,List.getElem_cons_zero,List.getElem_cons_succ,Sem.run_bind,run_underlying T.map,MapKept.run_getObj_map hb,Result.andThen,T.chk,Sem.run_pure,h1,h3]
   rfl
  .by_cases hy:y=x
   .rw [if_pos hy,hy];exact rK hn
   .rw [if_neg hy]
 | some r =>
  obtain ⟨j,v⟩:=r;obtain ⟨n,a,hj,ha,hk,hv,hg⟩:=uP (z:=z) hf;have hj:j=n:=by omega
  subst hj;have hlt:j<es.length:=(List.getElem?_eq_some_iff.1 ha).1;refine ⟨es.eraseIdx j,run _ ?_,⟨ok.keys.sublist (List.eraseIdx_sublist _ _),ok.tO.sublist (List.eraseIdx_sublist _ _),λe he=>ok.lt e ((List.eraseIdx_sublist _ _).mem he)⟩,a0N ok.keys ha hk,List.eraseIdx_sublist _ _,MT ok.keys ha hk⟩;have h3:=MapKept.run_setObj_map (P:=P) (.map ((es.map (bU.m kv vv)).toArray.eraseIdxIfInBounds j) clock) hb
  unfold Builtin.delete_;rw [hf] at h1;simp only [Array.getElem?_eq_getElem,List.size_toArray,List.length_cons,List.length_nil,Nat.zero_lt_succ,Nat.lt_add_one,List.getElem_toArray,List.getElem_cons_zero,List.getElem_cons_succ,Sem.run_bind,run_underlying T.map,MapKept.run_getObj_map hb,Result.andThen,T.chk,Sem.run_pure,h1,h3]
  congr 2
  unfold bR;refine congrArg (λa=>w.heap.setIfInBounds b (Obj.map a clock)) ?_;unfold Array.eraseIdxIfInBounds;rw [dif_pos (by simpa using hlt)];apply Array.toList_inj.1;simp;exact a0M es j
theorem a71{w b es clock}(ok:GOk es clock)(hb:w.heap[b]? = some (bR kv vv es clock))(x v)(hx:∃ a∈es,a.key=x):
  ∃ fV,Sem.run P (Instr.mapUpdate t (.map (some b)) (kv x) (vv v)) w=.ok () (DW w b (bR kv vv fV clock))/\GOk fV clock/\(∀ y,iA z fV y=if y=x then v else iA z es y)/\fV.map bU.key=es.map bU.key/\fV.map bU.born=es.map bU.born:=by
 have h1:=T.find x es w;unfold bR at hb;cases hf:yY vv es x 0 with
 | none=>exact absurd hx λ⟨a,ha,hk⟩=>uO hf a ha hk
 | some r =>
  obtain ⟨j,u⟩:=r;obtain ⟨n,a,hj,ha,hk,hv,hg⟩:=uP (z:=z) hf;have hj:j=n:=by omega
  subst hj;have ha2:(es.map (bU.m kv vv)).toArray[j]? = some (bU.m kv vv a):=by simp [ha]
  have h3:=MapKept.run_setObj_map (P:=P) (.map ((es.map (bU.m kv vv)).toArray.modify j λe=>{ e with key:=kv x,val:=vv v }) clock) hb;refine ⟨es.modify j λa=>{ a with val:=v },?_,⟨?_,?_,?_⟩,a0O ok.keys ha hk,UQ _ _ _,yZ _ _ _⟩
  .unfold Instr.mapUpdate;rw [hf] at h1;simp only [Sem.run_bind,run_underlying T.map,MapKept.run_getObj_map hb,Result.andThen,T.chk,Sem.run_pure,h1,ha2,Option.map_some,Option.getD_some];rw [show (bU.m kv vv a).key=kv x by rw [<-hk];rfl,T.stays x w];simp only [h3]
   congr 2
   unfold bR;refine congrArg (λa=>w.heap.setIfInBounds b (Obj.map a clock)) ?_;apply Array.ext';apply List.ext_getElem?;intro i;simp only [Array.toList_modify,List.getElem?_modify,List.getElem?_map];by_cases h:j=i
   .subst h;rw [ha];simp [bU.m,hk]
   .simp [h]
  .have:=List.pairwise_map.2 ok.keys;exact List.pairwise_map.1 (by rw [UQ];exact List.pairwise_map.2 ok.keys)
  .exact List.pairwise_map.1 (by rw [yZ];exact List.pairwise_map.2 ok.tO)
  .intro c hc;have hm:c.born∈(es.modify j λa=>{ a with val:=v }).map bU.born:=List.mem_map.2 ⟨c,hc,rfl⟩;rw [yZ] at hm;obtain ⟨d,hd,he⟩:=List.mem_map.1 hm;rw [<-he];exact ok.lt d hd
end
section
variable {P:Program}{w:World}{r bm since clock c0:Nat}{seen:Array Nat}{es:List (bU κ ν)}
theorem aIJ(ty)(hr:w.heap[r]? = some (.mapIter (some bm) since seen c0))(hb:w.heap[bm]? = some (bR kv vv es clock))(hold:∀ e∈es,e.born<since)(hsc:since<=c0):
  ((∀ e∈es,e.born∈seen.toList)/\(Instr.next (.pointer (some ⟨r,0,none⟩)) false ty).run P w=.ok (.tuple #[.bool false]) w) \/
  ∃ a∈es,a.born ∉ seen.toList/\∃ w1:World,(w1=w\/w1=w.drewN 1)/\(Instr.next (.pointer (some ⟨r,0,none⟩)) false ty).run P w=.ok (.tuple #[.bool true,kv a.key,vv a.val]) (DW w1 r (.mapIter (some bm) since (seen.push a.born) clock)):=by
 have hmem:∀ x∈(es.map (bU.m kv vv)),∃ a∈es,bU.m kv vv a=x:=λx hx=>by
  obtain ⟨a,ha,e⟩:=List.mem_map.1 hx;exact ⟨a,ha,e⟩
 rcases run_next_at (P:=P) w ty r bm since c0 seen (es.map (bU.m kv vv)).toArray clock hr hb (λx hx=>by
  obtain ⟨a,ha,rfl⟩:=hmem x hx;exact hold a ha) hsc with ⟨h0,h1⟩|⟨x,hx,w1,hw,h1⟩
 .refine .inl ⟨λa ha=>?_,h1⟩;refine Classical.byContradiction λhn=>?_;have hin:bU.m kv vv a∈(leftOf (es.map (bU.m kv vv)).toArray seen).toList:=by
   unfold leftOf;simp only [Array.toList_filter,List.mem_filter];refine ⟨List.mem_map.2 ⟨a,ha,rfl⟩,?_⟩;have:¬ seen.contains a.born=true:=λh=>hn (by simpa using h);simpa [bU.m] using this
  have:(leftOf (es.map (bU.m kv vv)).toArray seen).toList=[]:=by
   have:=Array.eq_empty_of_size_eq_zero h0;rw [this]
  rw [this] at hin;cases hin
 .unfold leftOf at hx;simp only [Array.toList_filter,List.mem_filter] at hx;obtain ⟨a,ha,rfl⟩:=hmem x hx.1;refine .inr ⟨a,ha,λh=>?_,w1,hw,h1⟩;have h2:=hx.2;simp [bU.m] at h2;exact h2 (by simpa using h)
theorem aCT{a}(ok:GOk es clock)(hr:w.heap[r]? = some (.mapIter (some bm) since (seen.push a.born) clock))(hb:w.heap[bm]? = some (bR kv vv es clock))(ha:a∈es):
  (Instr.entry (.pointer (some ⟨r,0,none⟩))).run P w=.ok (.tuple #[kv a.key,vv a.val]) w:=by
 refine run_entry_at w r bm since seen (es.map (bU.m kv vv)).toArray clock (bU.m kv vv a) hr hb (List.mem_map.2 ⟨a,ha,rfl⟩) ?_;have:((es.map (bU.m kv vv)).toArray.toList.map (·.born))=es.map bU.born:=by simp [bU.m,Function.comp_def]
 rw [this];exact List.nodup_iff_pairwise_ne.2 (List.pairwise_map.2 ok.tO)
def SE(seen:List Nat)(es:List (bU κ ν)):Nat:=(es.filter λe => !seen.contains e.born).length
theorem OV{seen}{es fV:List (bU κ ν)}{a}(hs:(fV.map bU.born).Sublist (es.map bU.born))(ha:a∈es)(hn:a.born ∉ seen)(hb:(es.map bU.born).Nodup):
  SE (seen++[a.born]) fV<SE seen es:=by
 have key:∀ (l:List (bU κ ν)) (s:List Nat),SE s l=((l.map bU.born).filter λb => !s.contains b).length:=λl s=>by
  unfold SE;rw [List.filter_map,List.length_map];rfl
 rw [key,key];have h1:((fV.map bU.born).filter λb => !(seen++[a.born]).contains b).Sublist ((es.map bU.born).filter λb => !(seen++[a.born]).contains b):=hs.filter _;refine Nat.lt_of_le_of_lt h1.length_le ?_;have h2:((es.map bU.born).filter λb => !(seen++[a.born]).contains b)=((es.map bU.born).filter λb => !seen.contains b).filter λb=>b != a.born:=by
  rw [List.filter_filter]
  congr 1
  funext b
  rw [List.contains_append];cases h:seen.contains b<;>simp [bne]<;>rfl
 rw [h2];have hm:a.born∈(es.map bU.born).filter λb => !seen.contains b:=List.mem_filter.2 ⟨List.mem_map.2 ⟨a,ha,rfl⟩,by simpa using hn⟩;generalize (es.map bU.born).filter (λb => !seen.contains b)=l at hm
 induction l with
 | nil=>cases hm
 | cons x l ih =>
  by_cases hx:x=a.born
  .rw [List.filter_cons_of_neg (by simp [hx])];exact Nat.lt_succ_of_le (List.length_filter_le _ _)
  .rw [List.filter_cons_of_pos (by simpa using hx),List.length_cons,List.length_cons];refine Nat.succ_lt_succ (ih ?_);rcases List.mem_cons.1 hm with h|h
   .exact absurd h.symm hx
   .exact h
end
end Go.Vc
end

section
namespace Go.Vc
theorem a5o{P ats ty cs args v w w'}(h:(Builtin.copy_ ats ty args).run P w=.ok v w'):Sem.run P (builtin Builtin.copy ats ty cs args) w=.ok (.value v) w':=by
 unfold builtin;simp only [Sem.run_bind,h,Result.andThen,Sem.run_pure]
theorem aEI{P}(w dT sT ty elem){i}(b o dLen dCap a sLen sCap cs)(hu:P.underlying dT=some (.slice elem))(hi:P.info? elem=some i)(hn:cs.length=Nat.min sLen dLen*i.size)(hsrc:∀ j v,cs[j]? = some v->w.cell? (a.add j)=some v)(hc:∀ j,j<cs.length->(w.cell? ⟨b,o+j,none⟩).isSome=true)(hf:∀ j,j<cs.length->w.frozen? ⟨b,o+j,none⟩=false)(h1:∀ v∈cs,v.oneCell'=true):
  (Builtin.copy_ #[dT,sT] ty #[.slice (some ⟨b,o,none⟩) dLen dCap,.slice (some a) sLen sCap]).run P w=.ok (Go.goInt (Nat.min sLen dLen)) (w.setCells b o cs):=by
 have hl:=run_loadCells_list (P:=P) w a cs hsrc;have hst:=run_storeCells_cells (P:=P) b o cs 0 w (by simpa using hc) (by simpa using hf) h1;rw [hn] at hl;simp [Builtin.copy_,run_underlying hu,Builtin.lenOf,Builtin.firstCells,sizeOf,typeInfo,hi,hl,hst]
theorem KP(vs cs o)(h:o+vs.length<=cs.length):nN cs o vs=cs.take o++vs++cs.drop (o+vs.length):=by
 apply List.ext_getElem?;intro i;by_cases h1:i<o
 .rw [sM _ _ _ _ (.inl h1),aX,List.getElem?_append_left (by rw [List.length_take];omega),List.getElem?_take_of_lt h1]
 .by_cases h2:i<o+vs.length
  .obtain ⟨q,rfl⟩:∃ q,i=o+q:=⟨i - o,by omega⟩;rw [RP _ _ _ _ (by omega) h,aX,List.getElem?_append_right (by rw [List.length_take];omega),List.getElem?_append_left (by rw [List.length_take];omega)]
   congr 1
   rw [List.length_take];omega
  .rw [sM _ _ _ _ (.inr (by omega)),List.getElem?_append_right (by rw [List.length_append,List.length_take];omega),List.getElem?_drop]
   congr 1
   rw [List.length_append,List.length_take];omega
section
variable {P:Program}{W w:World}{S:List Own}{Φ:PW}
end
theorem a3F(b sz k c)(h:k<c):dA (some ⟨b,0,none⟩) sz k c=some ⟨b,k*sz,none⟩:=by
 unfold dA;rw [if_neg (by omega)];show some ((⟨b,0,none⟩:Addr).add (k*sz))=_;rw [addr_add,Nat.zero_add]
theorem aEJ(b sz k c):∃ o,dA (some ⟨b,0,none⟩) sz k c=some ⟨b,o,none⟩:=by
 unfold dA;split
 .exact ⟨0,rfl⟩
 .refine ⟨k*sz,?_⟩;show some ((⟨b,0,none⟩:Addr).add (k*sz))=_;rw [addr_add,Nat.zero_add]
theorem JO(b sz c):dA (some ⟨b,0,none⟩) sz 0 c=some ⟨b,0,none⟩:=by
 unfold dA;split
 .rfl
 .show some ((⟨b,0,none⟩:Addr).add (0*sz))=_;rw [addr_add,Nat.zero_mul]
section
variable {P:Program}{W w:World}{S:List Own}{Φ:PW}
end
theorem RT{P ats ty cs args v w w'}(h:(Builtin.clear_ ats ty args).run P w=.ok v w'):Sem.run P (builtin Builtin.clear ats ty cs args) w=.ok (.value v) w':=by
 unfold builtin;simp only [Sem.run_bind,h,Result.andThen,Sem.run_pure]
theorem aAN{P}(w t e ty){i z}(ht:P.underlying t=some (.slice e))(hi:P.info? e=some i)(hz:i.zero=some z)(b o n c)(hn:0<n)(hc:∀ j,j<(Builtin.zeroCells z.cells n).toList.length->(w.cell? ⟨b,o+j,none⟩).isSome=true)(hf:∀ j,j<(Builtin.zeroCells z.cells n).toList.length->w.frozen? ⟨b,o+j,none⟩=false)(h1:∀ v∈(Builtin.zeroCells z.cells n).toList,v.oneCell'=true):
  (Builtin.clear_ #[t] ty #[.slice (some ⟨b,o,none⟩) n c]).run P w=.ok (.tuple #[]) (w.setCells b o (Builtin.zeroCells z.cells n).toList):=by
 have hst:=run_storeCells_cells (P:=P) b o (Builtin.zeroCells z.cells n).toList 0 w (by simpa using hc) (by simpa using hf) h1;rw [Nat.add_zero] at hst;obtain ⟨m,rfl⟩:∃ m,n=m+1:=⟨n - 1,by omega⟩;simp [Builtin.clear_,run_underlying ht,zeroValue,typeInfo,hi,hz,hst]
def aOi(P:Program)(t:TypeId):Bool:=match P.info? t with|some i=>(match i.zero with|some z=>z.cells.toList.all (λu=>Value.oneCell' u)|none=>false)|none=>false
theorem a2o(cs n):∀ v∈(Builtin.zeroCells cs n).toList,v∈cs.toList:=by
 intro v hv;unfold Builtin.zeroCells at hv;rw [Array.toList_map] at hv;obtain ⟨a,ha,rfl⟩:=List.mem_map.1 hv;have ha:a<n*cs.size:=by simpa using ha
 have h0:0<cs.size:=by
  rcases Nat.eq_zero_or_pos cs.size with h|h
  .rw [h,Nat.mul_zero] at ha;omega
  .exact h
 have hlt:a % cs.size<cs.size:=Nat.mod_lt _ h0;rw [getElem!_pos cs (a % cs.size) hlt];exact Array.getElem_mem_toList hlt
section
variable {P:Program}{W w:World}{S:List Own}{Φ:PW}
theorem Ctx.Y4[aB Φ]{p n cap cs t size}(c:Ctx W w (.buf p n cap cs t size :: S) Φ){k}(hk:k<=n):Ctx W w (.buf p k cap (cs.take (k*size)) t size :: S) Φ:=by
 have hown:=c.own _ List.mem_cons_self;have hmul:k*size<=n*size:=Nat.mul_le_mul_right _ hk;refine c.upd (k:=0) (o':=.buf p k cap (cs.take (k*size)) t size) rfl (lW.refl _ _) (λx hx=>.inl (by cases p<;>exact hx)) (Own.nodup _) ?_;obtain ⟨h1,h2⟩:=hown;refine ⟨by rw [List.length_take,h1];omega,?_⟩;rcases h2 with ⟨e,rfl⟩|⟨g,cap',cur,e,h3,hg,hnc,hcm,hcs,rX⟩
 .cases e;have:k=0:=by omega
  subst this;exact .inl ⟨rfl,by simp⟩
 .cases e;exact .inr ⟨g,cap,cur,rfl,h3,hg,by omega,hcm,hcs,by rw [<-rX,List.take_take,Nat.min_eq_left hmul]⟩
theorem Ctx.aQK[aB Φ]{p n cap cs t size bytes}(c:Ctx W w (.buf p n cap cs t size :: S) Φ){b}(hp:p=some ⟨b,0,none⟩){ts ty kb}(hb:aEp P ts t size bytes=true)(hz:aOi P t=true)(hpos:0<size){k}(hk:k<=n):∃ w',Sem.run P (builtin Builtin.clear #[ts] ty kb #[.slice (dA p size k cap) (n - k) (cap - k)]) w=.ok (.value (.tuple #[])) w'/\Ctx W w' (.buf p k cap (cs.take (k*size)) t size :: S) Φ:=by
 obtain ⟨i,z,e1,e2,e3,e4,e5,e6⟩:=vT hb;subst hp e4;have hz:z.cells.toList.all (λu=>Value.oneCell' u)=true:=by unfold aOi at hz;rw [e2] at hz;simp only [e3] at hz;exact hz
 obtain ⟨tC,hnc,hcm⟩:=c.tT 0 rfl;rcases Nat.eq_zero_or_pos (n - k) with h0|h0
 .obtain ⟨o,ho⟩:=aEJ b i.size k cap;rw [h0,ho];exact ⟨w,RT (by simp [Builtin.clear_,run_underlying e1]),c.Y4 hk⟩
 .rw [a3F b i.size k cap (by omega)];have hzl:(Builtin.zeroCells z.cells (n - k)).toList.length=(n - k)*i.size:=by rw [Array.length_toList,size_zeroCells,e5]
  have hsub:(n - k)*i.size=n*i.size - k*i.size:=Nat.sub_mul _ _ _;have hmul:k*i.size<=n*i.size:=Nat.mul_le_mul_right _ hk;have hn0:0<(n - k)*i.size:=Nat.mul_pos h0 hpos;obtain ⟨b',hb',_,hcell⟩:=c.oG 0 rfl (by omega);cases hb';have hat:∀ j,(hj:j<(Builtin.zeroCells z.cells (n - k)).toList.length)->w.cell? ⟨b,k*i.size+j,none⟩=some (cs[k*i.size+j]'(by omega))/\w.frozen? ⟨b,k*i.size+j,none⟩=false:=λj hj=>hcell _ _ (List.getElem?_eq_getElem _)
  refine ⟨_,RT (aAN w ts t ty e1 e2 e3 b (k*i.size) (n - k) (cap - k) h0 (λj hj=>by rw [(hat j hj).1];rfl) (λj hj=>(hat j hj).2) (λv hv=>List.all_eq_true.1 hz v (a2o _ _ v hv))),?_⟩;have c2:=(c.XZ 0 rfl rfl (by omega) (by omega) rfl:Ctx W (w.setCells b (k*i.size) (Builtin.zeroCells z.cells (n - k)).toList) (.buf (some ⟨b,0,none⟩) n cap (nN cs (k*i.size) (Builtin.zeroCells z.cells (n - k)).toList) t i.size :: S) Φ)
  have c3:=c2.Y4 hk;rw [KP _ _ _ (by omega),aX,List.take_append_of_le_length (by rw [List.length_take];omega),List.take_take,Nat.min_self] at c3;exact c3
end
end Go.Vc
end

