/-
 The encodings of ints,texts,values and rows: in plain Lean,and walked.
-/
import Derived.Test.YtnlkemjhgdbfkaaGreatDoorCh7
import Derived.Lib.ItoaNum
import Derived.Test.YtnlkemjhgdbfkaaGreatDoorCh6
import Derived.Shelf.Strconv.AtoiAll
import Derived.Shelf.Small.Wraps
import Derived.Stop.IfaceNil
import Derived.Lib.AtoiErrMem
import Derived.Lib.AtoiAllCases
import Derived.MapKept
import Derived.Maps.RangeRun
import Derived.Lib.AppendZerosOnto
import Derived.Lib.Overlaps
import Derived.Laws.IdiomCopy
import Derived.Laws.Externs
open Go.Proofs.Tryz
set_option linter.unusedVariables false
set_option linter.unusedSimpArgs false
section
namespace Go.Vc
end Go.Vc
namespace Go.Proofs.YtnlkemjhgdbfkaaGreatDoor
open Go.Vc
def QO (n:Int):ByteArray:=⟨(Lib.itoa n).toArray⟩
def oO (n:Int):ByteArray:=QO n++ByteArray.mk #[59]
def TH (n:Int):ByteArray:=if n<0 then ByteArray.mk #[] else oO n
def oC (s:ByteArray):ByteArray:=QO s.size++ByteArray.mk #[58]++s++ByteArray.mk #[44]
theorem rK (a b:ByteArray):(a++b).size=a.size+b.size:=ByteArray.size_append
theorem a2u (l:List UInt8):(ByteArray.mk l.toArray).size=l.length:=by simp [ByteArray.size]
theorem fT (a:ByteArray):a.data.toList.length=a.size:=by rw [Array.length_toList];rfl
theorem NK:∀ (k u:Nat),u<10 ^ k->0<k->Lib.nDigits u<=k
 | 0,u,_,h=>by omega
 | k+1,u,h,_=>by
  by_cases h1:u<10
  .rw [Lib.nDigits_small h1];omega
  .rw [Lib.nDigits_big h1]
   have hk:0<k:=by
    rcases Nat.eq_zero_or_pos k with rfl|h2
    .simp at h;omega
    .exact h2
   have:=NK k (u / 10) (by rw [Nat.pow_succ] at h;omega) hk
   omega
theorem a6L {n} (h:aX n):1<=(Lib.itoa n).length/\(Lib.itoa n).length<=20:=by
 unfold aX at h
 unfold Lib.itoa
 split
 .have h1:=NK 19 n.natAbs (by omega) (by decide)
  have h2:=Lib.nDigits_pos n.natAbs
  rw [List.length_cons,Lib.decDigits_length];omega
 .have h1:=NK 19 n.toNat (by omega) (by decide)
  have h2:=Lib.nDigits_pos n.toNat
  rw [Lib.decDigits_length];omega
theorem JX {n} (h:aX n):1<=(QO n).size/\(QO n).size<=20:=by
 unfold QO;rw [a2u];exact a6L h
theorem fU {n} (h:aX n):2<=(oO n).size/\(oO n).size<=21:=by
 have:=JX h
 have e:(ByteArray.mk #[59]).size=1:=rfl
 unfold oO;rw [rK,e];omega
theorem TI {n} (h:aX n):(TH n).size<=21:=by
 unfold TH
 split
 .exact Nat.zero_le _
 .exact (fU h).2
theorem E7 {s} (h:s.size<=9223372036854775807):(oC s).size<=s.size+22/\s.size+3<=(oC s).size:=by
 have:=JX (n:=s.size) (by unfold aX;omega)
 have e:(ByteArray.mk #[58]).size=1:=rfl
 have e2:(ByteArray.mk #[44]).size=1:=rfl
 unfold oC;rw [rK,rK,rK,e,e2];omega
abbrev aU7:String:=((Rows.groupAgreesRow.laid.map Prod.fst).drop 2).headD default
abbrev yB:PW:=Tab prog aU7 .u64 Lib.pow10Tab
theorem aBP {Φ:PW} [aB Φ] (o9:∀ M w,Φ M w->yB M w) (n) (h:aX n):bY Φ prog F.strconv_Itoa #[.int .i64 n] (.string (QO n)) :=
 aKU (name:=aU7) (λn h0 h1 w ht=>Any.strconv_Itoa Tryz.aGW n h0 h1 w ht) o9 n h
theorem a9F (i:Nat) (hi:i<100):Z7 prog F.strconv_Itoa #[.int .i64 i] (.string (QO i)) :=
 Quiet.a2m ⟨λw=>by
  have h:=Any.strconv_Itoa_small { Tryz.aKY with } i hi w
  rw [<-Lib.itoa_nonneg] at h
  exact h⟩
def Dec (Φ:PW) (n:Int):Prop:=(∀ M w,Φ M w->yB M w)/\aX n\/∃ i:Nat,i<100/\n=i
theorem a6M {Φ:PW} [aB Φ] {n} (h:Dec Φ n):bY Φ prog F.strconv_Itoa #[.int .i64 n] (.string (QO n)):=by
 rcases h with ⟨h1,h2⟩|⟨i,hi,rfl⟩
 .exact aBP h1 n h2
 .exact (a9F i hi).in
theorem Dec.i64 {Φ n} (h:Dec Φ n):aX n:=by
 rcases h with ⟨_,h2⟩|⟨i,hi,rfl⟩
 .exact h2
 .unfold aX;omega
theorem NL {Φ:PW} [aB Φ] {n} (h:Dec Φ n):bY Φ prog F.oW #[.int .i64 n] (.string (oO n)):=by
 refine iD (a1o n) λW R=>?_
 have:=JX h.i64
 exact λw G cx=>(a6M h).use cx λw cx=>⟨_,rfl,R,Φ,aL,cx,by show (QO n).size+1<=_;omega,λw G cx=>⟨rfl,cx.left⟩⟩
theorem aPy {Φ:PW} [aB Φ] {n} (h:Dec Φ n):bY Φ prog F.P6 #[.int .i64 n] (.string (TH n)):=by
 refine iD (a1q n) λW R=>Br.intro (λhn=>λw G cx=>⟨?_,cx.left⟩) (λhn=>λw G cx=>(NL h).use cx λw cx=>⟨_,rfl,R,Φ,aL,cx,λw G cx=>⟨?_,cx.left⟩⟩)
 .unfold TH;rw [if_pos (eC hn)]
 .unfold TH;rw [if_neg (cS hn)]
theorem aBQ {Φ:PW} [aB Φ] {s} (h:Dec Φ s.size) (hs:s.size<=1000000000000000):bY Φ prog F.JS #[.string s] (.string (oC s)):=by
 refine iD (YP s) λW R=>?_
 have h1:=JX h.i64
 have e:(ByteArray.mk #[58]).size=1:=rfl
 have e2:(ByteArray.mk #[44]).size=1:=rfl
 exact λw G cx=>(a6M h).use cx λw cx=>⟨_,rfl,R,Φ,aL,cx,by show (QO s.size).size+1<=_;omega,by show (QO s.size++ByteArray.mk #[58]).size+s.size<=_;rw [rK,e];omega,by show (QO s.size++ByteArray.mk #[58]++s).size+1<=_;rw [rK,rK,e];omega,λw G cx=>⟨rfl,cx.left⟩⟩
end Go.Proofs.YtnlkemjhgdbfkaaGreatDoor
end

section
namespace Go.Vc
section
variable {P:Program} {W w:World} {R G:List Own} {Φ Ψ:PW} {f:FuncId} {args:Array Value}
class Has (Φ Ψ:PW):Prop where
 go:∀ M w,Φ M w->Ψ M w
instance (priority:=2000) aXH (Φ:PW):Has Φ Φ:=⟨λ_ _ h=>h⟩
instance (priority:=900) b48 (A B Ψ:PW) [h:Has A Ψ]:Has (λM w=>A M w/\B M w) Ψ:=⟨λM w x=>h.go M w x.1⟩
instance (priority:=1000) b49 (A B Ψ:PW) [h:Has B Ψ]:Has (λM w=>A M w/\B M w) Ψ:=⟨λM w x=>h.go M w x.2⟩
instance (priority:=800) b0f (Φ A B:PW) [h:Has Φ A] [k:Has Φ B]:Has Φ (λM w=>A M w/\B M w):=⟨λM w x=>⟨h.go M w x,k.go M w x⟩⟩
theorem Ctx.has (c:Ctx W w R Φ) [h:Has Φ Ψ]:Ctx W w R Ψ:=c.weak h.go
theorem bY.toI [aB Φ] {n k} (h:bY Φ P f args (.int k n)) (c:Ctx W w (R++G) Φ) {K:Int->List Own->PW->Prop} (hk:K n R Φ):
  Calls P f args w λe w'=>∃ c,e=.returned (.int k c)/\∃ R' aV,aB aV/\Ctx W w' (R'++G) aV/\K c R' aV :=
 h.use c λw' c=>⟨n,rfl,R,Φ,aL,c,hk⟩
theorem bY.toS [aB Φ] {s} (h:bY Φ P f args (.string s)) (c:Ctx W w (R++G) Φ) {K:ByteArray->List Own->PW->Prop} (hk:K s R Φ):
  Calls P f args w λe w'=>∃ c,e=.returned (.string c)/\∃ R' aV,aB aV/\Ctx W w' (R'++G) aV/\K c R' aV :=
 h.use c λw' c=>⟨s,rfl,R,Φ,aL,c,hk⟩
theorem fin [aB Φ] [aB Ψ] [hw:Has Ψ Φ] {v:Value} (c:Ctx W w (R++G) Ψ):v=v/\Ctx W w R Φ:=⟨rfl,(Ctx.has c).left⟩
end
def VC (g:Nat):PW:=λM w=>g ∉ M/\∃ ev,w.cell? ⟨g,0,none⟩=some ev/\(ev=.nilIface\/∃ te pe,ev=.iface te pe)
instance aE5 (g:Nat):aB (VC g):=⟨fun {M M' w w'} hs ⟨h1,ev,h2,h3⟩=>by
 have hlt:g<w.heap.size:=by
  rcases Nat.lt_or_ge g w.heap.size with h'|h'
  .exact h'
  .simp [World.cell?,Array.getElem?_eq_none h'] at h2
 refine ⟨λhm=>?_,ev,hs.chg.cell h2 h1,h3⟩
 rcases hs.sub g hm with h|h
 .exact h1 h
 .omega⟩
theorem TJ {w w'} (h:Go.RowKit.Below w.heap.size w w'):lA [] w w':=⟨h.os,h.tape,h.output,h.size,λk hk _=>h.block k hk⟩
theorem a1G {P op t ox oy u v} (w):(eqGuard op t ox oy (.iface u v) .nilIface).run P w=.ok () w:=by
 unfold eqGuard
 cases op<;>rfl
theorem a6N {P op t} {k:Nat} {v} (w):(eqGuard op t (.tmp k) (.const v) .nilIface .nilIface).run P w=.ok () w:=by
 unfold eqGuard
 cases op<;>rfl
theorem aK3 {P op t t'} {k:Nat} {v} (ht:P.isIface t'=true) (w):((eqGuard op t (.tmp k) (.const v) .nilIface .nilIface) >>= λ_=>binOp .neq t' .nilIface .nilIface).run P w=.ok (.bool false) w:=by
 rw [Sem.run_bind,a6N]
 exact Go.run_neq_nil_nil_at w t' ht
theorem aK4 {P op t t' ox oy u v} (ht:P.isIface t'=true) (w):((eqGuard op t ox oy (.iface u v) .nilIface) >>= λ_=>binOp .neq t' (.iface u v) .nilIface).run P w=.ok (.bool true) w:=by
 rw [Sem.run_bind,a1G]
 exact Go.run_neq_iface_nil w t' ht u v
end Go.Vc
namespace Go.Proofs.YtnlkemjhgdbfkaaGreatDoor
open Go.Vc
def tM:PW:=λM w=>yB M w/\VC 3 M w/\VC 4 M w
instance aHa:aB tM:=dM yB (λM w=>VC 3 M w/\VC 4 M w)
def bs (l:List UInt8):ByteArray:=⟨l.toArray⟩
theorem pN (l):(bs l).data.toList=l:=rfl
theorem bJ (l):(bs l).size=l.length:=a2u l
theorem ZO (l a b):(bs l).extract a b=bs ((l.drop a).take (b - a)):=by
 apply ByteArray.ext
 apply Array.toList_inj.1
 rw [ByteArray.data_extract,Array.toList_extract]
 rfl
theorem a4l {a b}:bs a=bs b ↔ a=b:=⟨λh=>by have:=congrArg (λx=>x.data.toList) h;exact this,λh=>by rw [h]⟩
theorem aU8 (s):bs s.data.toList=s:=rfl
abbrev FW:=List UInt8 × Bool
def IG (e:UInt8) (least:Int) (l:List UInt8):Option (Int × List UInt8) :=
 let i:=Lib.indexByte (l.take 21) e
 if i<0 then none else match Lib.atoiAll (l.take i.toNat) with
  | .ok n=>if Lib.itoa n=l.take i.toNat/\least<=n then some (n,l.drop (i.toNat+1)) else none
  | _=>none
def gE (e:UInt8) (least:Int) (st:FW):Int × FW:=match IG e least st.1 with
 | some (n,r)=>(n,(r,st.2))
 | none=>(0,([],true))
def II (c:UInt8) (st:FW):FW:=match st.1 with
 | []=>([],true)
 | x :: r=>if x=c then (r,st.2) else ([],true)
def stepT (st:FW):ByteArray × FW :=
 let a:=gE 58 0 st
 if (a.2.1.length:Int)<a.1 then (ByteArray.mk #[],([],true)) else
  let c:=II 44 (a.2.1.drop a.1.toNat,a.2.2)
  (if c.2 then ByteArray.mk #[] else bs (a.2.1.take a.1.toNat),c)
theorem a6O {l r:List UInt8} {i e} (h:l.take i++e :: r=l) (hi:i<l.length):l[i]? = some e:=by
 have hl:(l.take i).length=i:=by rw [List.length_take];omega
 rw [<-h,List.getElem?_append_right (by omega),hl,Nat.sub_self]
 rfl
theorem TK:∀ (l:List UInt8) (c:UInt8),-1<=Lib.indexByte l c/\(Lib.indexByte l c = -1\/(0<=Lib.indexByte l c/\Lib.indexByte l c<l.length/\l.take (Lib.indexByte l c).toNat++c :: l.drop ((Lib.indexByte l c).toNat+1)=l/\c ∉ l.take (Lib.indexByte l c).toNat))
 | [],c=>by simp [Lib.indexByte]
 | b :: l,c=>by
  have ih:=TK l c
  unfold Lib.indexByte
  by_cases hb:(b == c)=true
  .rw [if_pos hb]
   have:b=c:=by simpa using hb
   subst this
   refine ⟨by omega,.inr ⟨by omega,by simp,by simp,by simp⟩⟩
  .rw [if_neg hb]
   by_cases h1:(Lib.indexByte l c == -1)=true
   .rw [if_pos h1];exact ⟨by omega,.inl rfl⟩
   .rw [if_neg h1]
    have h1:Lib.indexByte l c ≠ -1:=by simpa using h1
    obtain ⟨h2,h3⟩:=ih
    rcases h3 with h3|⟨h3,h4,h5,h6⟩
    .exact absurd h3 h1
    .have e:(Lib.indexByte l c+1).toNat=(Lib.indexByte l c).toNat+1:=by omega
     refine ⟨by omega,.inr ⟨by omega,by simp;omega,?_,?_⟩⟩
     .rw [e,List.take_succ_cons,List.drop_succ_cons,List.cons_append,h5]
     .rw [e,List.take_succ_cons,List.mem_cons,not_or]
      exact ⟨λe=>hb (by simp [e]),h6⟩
theorem a6P {l c a r} (hl:l=a++c :: r) (hc:c ∉ a):Lib.indexByte l c=a.length:=by
 subst hl
 induction a with
 | nil=>simp [Lib.indexByte]
 | cons b a ih =>
  have hb:b≠c:=λe=>hc (by simp [e])
  have ih:=ih λh=>hc (by simp [h])
  rw [List.cons_append]
  unfold Lib.indexByte
  rw [if_neg (by simpa using hb),if_neg (by rw [ih];simp),ih]
  simp
theorem wX:∀ (u:Nat),∀ c∈Lib.decDigits u,48<=c.toNat/\c.toNat<=57:=by
 intro u
 induction u using Nat.strongRecOn with
 | _ u ih =>
  intro c hc
  rw [Lib.decDigits] at hc
  split at hc
  .rename_i h
   rw [List.mem_singleton] at hc
   subst hc
   have:(UInt8.ofNat (48+u)).toNat=48+u:=by simp;omega
   omega
  .rename_i h
   rcases List.mem_append.1 hc with hc|hc
   .exact ih (u / 10) (by omega) c hc
   .rw [List.mem_singleton] at hc
    subst hc
    have:(UInt8.ofNat (48+u % 10)).toNat=48+u % 10:=by simp;omega
    omega
theorem a9G {n c} (h:c∈Lib.itoa n):c.toNat=45\/48<=c.toNat/\c.toNat<=57:=by
 unfold Lib.itoa at h
 split at h
 .rcases List.mem_cons.1 h with rfl|h
  .left;rfl
  .right;exact wX _ c h
 .right;exact wX _ c h
def a1H (acc:Nat) (l:List UInt8):Nat:=l.foldl (λa c=>a*10+(c.toNat - 48)) acc
theorem aDr (acc l c):a1H acc (l++[c])=a1H acc l*10+(c.toNat - 48):=by simp [a1H]
theorem a6Q:∀ u:Nat,a1H 0 (Lib.decDigits u)=u:=by
 intro u
 induction u using Nat.strongRecOn with
 | _ u ih =>
  rw [Lib.decDigits]
  split
  .rename_i h
   show 0*10+((UInt8.ofNat (48+u)).toNat - 48)=u
   have:(UInt8.ofNat (48+u)).toNat=48+u:=by simp;omega
   omega
  .rename_i h
   rw [aDr,ih (u / 10) (by omega)]
   have:(UInt8.ofNat (48+u % 10)).toNat=48+u % 10:=by simp;omega
   omega
theorem a2v:∀ (l:List UInt8) (acc:Nat),acc<=a1H acc l
 | [],acc=>Nat.le_refl _
 | c :: l,acc=>by
  have:=a2v l (acc*10+(c.toNat - 48))
  show acc<=a1H (acc*10+(c.toNat - 48)) l
  omega
theorem a2w:∀ (l:List UInt8) (acc:Nat),(∀ c∈l,48<=c.toNat/\c.toNat<=57)->a1H acc l<18446744073709551616->Lib.parseUint10 acc l=.ok (a1H acc l)
 | [],acc,_,_=>rfl
 | c :: l,acc,hc,h=>by
  have h0:=hc c (by simp)
  have hm:=a2v l (acc*10+(c.toNat - 48))
  have e:a1H acc (c :: l)=a1H (acc*10+(c.toNat - 48)) l:=rfl
  rw [e] at h ⊢
  unfold Lib.parseUint10
  rw [if_pos h0,if_neg (by omega),if_neg (by omega)]
  exact a2w l _ (λd hd=>hc d (by simp [hd])) h
theorem aHb (u):Lib.decDigits u≠[]:=by
 intro e
 have h1:=Lib.decDigits_length u
 have h2:=Lib.nDigits_pos u
 rw [e] at h1
 simp at h1
 omega
theorem aBR {u} (h:u<18446744073709551616):Lib.parseMag (Lib.decDigits u)=.ok u:=by
 unfold Lib.parseMag
 rw [if_neg (aHb u),a2w _ 0 (wX u) (by rw [a6Q];exact h),a6Q]
theorem aDs {n} (h:aX n):Lib.atoiAll (Lib.itoa n)=.ok n:=by
 unfold aX at h
 unfold Lib.itoa
 split
 .rename_i hn
  have hm:=aBR (u:=n.natAbs) (by omega)
  unfold Lib.atoiAll
  simp only
  rw [if_pos (.inr rfl),hm]
  simp only
  have e45:(45:UInt8).toNat=45:=rfl
  rw [if_neg (by intro h;exact h.1 e45),if_neg (by intro h;omega),if_pos e45]
  congr 1
  omega
 .rename_i hn
  have hm:=aBR (u:=n.toNat) (by omega)
  obtain ⟨c,r,hcr⟩:∃ c r,Lib.decDigits n.toNat=c :: r:=by
   cases hd:Lib.decDigits n.toNat with
   | nil=>exact absurd hd (aHb _)
   | cons c r=>exact ⟨c,r,rfl⟩
  have h0:=wX n.toNat c (by rw [hcr];simp)
  rw [hcr] at hm ⊢
  unfold Lib.atoiAll
  simp only
  rw [if_neg (by omega),hm]
  simp only
  rw [if_neg (by omega),if_neg (by omega),if_neg (by omega)]
  congr 1
  omega
theorem IJ {e} (he:e.toNat=58\/e.toNat=59\/e.toNat=91) {least l n r}:IG e least l=some (n,r) ↔ (aX n/\least<=n)/\l=Lib.itoa n++e :: r:=by
 have hne:∀ n:Int,e ∉ Lib.itoa n:=λn h=>by have:=a9G h;omega
 constructor
 .intro h
  unfold IG at h
  simp only at h
  split at h
  .cases h
  .rename_i hi
   split at h
   .rename_i m hm
    split at h
    .rename_i hc
     cases h
     have hb:=Lib.atoiAll_bounds hm
     obtain ⟨_,h3⟩:=TK (l.take 21) e
     rcases h3 with h3|⟨h3,h4,h5,h6⟩
     .omega
     .refine ⟨⟨by unfold aX;omega,hc.2⟩,?_⟩
      rw [hc.1]
      have hlt:(Lib.indexByte (l.take 21) e).toNat<(l.take 21).length:=by omega
      have a6R:(Lib.indexByte (l.take 21) e).toNat<l.length:=by rw [List.length_take] at hlt;omega
      have hg:l[(Lib.indexByte (l.take 21) e).toNat]=e:=by
       have h7:(l.take 21)[(Lib.indexByte (l.take 21) e).toNat]? = some e:=a6O h5 (by omega)
       rw [List.getElem?_take_of_lt (by rw [List.length_take] at hlt;omega),List.getElem?_eq_getElem a6R] at h7
       exact Option.some.inj h7
      conv=>lhs;rw [<-List.take_append_drop (Lib.indexByte (l.take 21) e).toNat l,List.drop_eq_getElem_cons a6R,hg]
    .cases h
   .cases h
 .rintro ⟨⟨h1,h2⟩,rfl⟩
  have hlen:=a6L h1
  have ht:(Lib.itoa n++e :: r).take 21=Lib.itoa n++e :: r.take (20 - (Lib.itoa n).length):=by
   rw [List.take_append,List.take_of_length_le (by omega)]
   congr 1
   rw [show 21 - (Lib.itoa n).length=(20 - (Lib.itoa n).length)+1 by omega,List.take_succ_cons]
  have hi:=a6P ht (hne n)
  unfold IG
  simp only
  rw [hi,if_neg (by omega),Int.toNat_natCast,List.take_left',aDs h1]
  .simp only
   rw [if_pos ⟨by simp,h2⟩]
   congr 2
   rw [List.drop_append,List.drop_of_length_le (by omega),List.nil_append,show (Lib.itoa n).length+1 - (Lib.itoa n).length=1 by omega]
   rfl
  .rfl
abbrev rd (b:Nat) (st:FW):Own:=.blk b [.string (bs st.1),.bool st.2] 288
section
variable {W w:World} {R G S:List Own} {Φ:PW} {b:Nat} {st:FW}
theorem IK [aB Φ] (l) (c:Ctx W w S Φ) {K} (hk:∀ b w',Ctx W w' (rd b (l,false) :: S) Φ->K (.returned (.pointer (some ⟨b,0,none⟩))) w'):
  aD F.tC #[.string (bs l)] w K:=by
 refine fW (YQ (bs l) (J:=K∘.returned) c ?_)
 exact λb w G cx=>hk b w (Ctx.left (S:=rd b (l,false) :: S) cx)
theorem aHc [aB Φ] (c:Ctx W w (rd b st :: S) Φ) {K} (hk:∀ w',Ctx W w' (rd b ([],true) :: S) Φ->K (.returned (.tuple #[])) w'):
  aD F.cP #[.pointer (some ⟨b,0,none⟩)] w K:=by
 refine fW (FF b 0 (J:=K∘.returned) c ?_)
 refine λw G cx=>⟨cx.can 0 rfl (by simp),λw' hw'=>⟨.blk b [.string (bs []),.bool st.2] 288 :: S,Φ,aL,cx.put 0 hw' rfl,λw G cx=>⟨cx.can 0 rfl (by simp),λw' hw'=>⟨rd b ([],true) :: S,Φ,aL,cx.put 0 hw' rfl,λw G cx=>hk w cx.left⟩⟩⟩⟩
theorem WY [aB Φ] (c:Ctx W w (rd b st :: S++G) Φ) {K:List Own->PW->Prop} (hk:K (rd b ([],true) :: S) Φ):
  aD F.cP #[.pointer (some ⟨b,0,none⟩)] w λe w'=>e=.returned (.tuple #[])/\∃ R' aV,aB aV/\Ctx W w' (R'++G) aV/\K R' aV :=
 aHc (S:=S++G) c λw' c=>⟨rfl,rd b ([],true) :: S,Φ,aL,c,hk⟩
theorem aK5 (s c):Z7 prog F.strings_IndexByte #[.string s,.int .u8 c] (.int .i64 (Lib.indexByte s.data.toList c.toNat.toUInt8)) :=
 Quiet.a2m ⟨λw=>Any.strings_IndexByte Tryz.aKW s c w⟩
theorem aK6 [aB Φ] (h1:∀ M w,Φ M w->VC 3 M w) (h2:∀ M w,Φ M w->VC 4 M w) (s) (hs:s.size<=1000000) (c:Ctx W w (R++G) Φ) {K1:Int->List Own->PW->Prop} {K2:Int->TypeId->Value->List Own->PW->Prop} (k1:∀ n,Lib.atoiAll s.data.toList=.ok n->K1 n R Φ) (k2:∀ n t v,(∀ m,Lib.atoiAll s.data.toList≠.ok m)->K2 n t v R Φ):
  aD F.strconv_Atoi #[.string s] w λe w'=>(∃ n:Int,e=.returned (.tuple #[.int .i64 n,.nilIface])/\∃ R' aV,aB aV/\Ctx W w' (R'++G) aV/\K1 n R' aV) \/
   ∃ (n:Int) (t:TypeId) (v:Value),e=.returned (.tuple #[.int .i64 n,.iface t v])/\∃ R' aV,aB aV/\Ctx W w' (R'++G) aV/\K2 n t v R' aV:=by
 obtain ⟨_,ev,hv,hev⟩:=h1 _ _ c.tX
 obtain ⟨_,er,hr,her⟩:=h2 _ _ c.tX
 cases h:Lib.atoiAll s.data.toList
 .rename_i n
  refine (Any.strconv_Atoi_ok Tryz.ZB s (by omega) n h w).mono λe w' ⟨he,hw⟩=>.inl ⟨n,he,R,Φ,aL,?_,k1 n h⟩
  rcases hw with rfl|⟨t,rfl⟩
  .exact c
  .exact c.call (TJ (Lib.bytesWorld_below _ _ _))
 .exact (Any.strconv_Atoi_syntax Tryz.ZB s (by omega) h ev w hv hev).mono λe w' ⟨N,he,_,_,hb⟩=>.inr ⟨_,_,_,he,R,Φ,aL,c.call (TJ hb),k2 _ _ _ λm hm=>by rw [h] at hm;cases hm⟩
 .exact (Any.strconv_Atoi_range Tryz.ZB s (by omega) h er w hr her).mono λe w' ⟨N,he,_,_,hb⟩=>.inr ⟨_,_,_,he,R,Φ,aL,c.call (TJ hb),k2 _ _ _ λm hm=>by rw [h] at hm;cases hm⟩
theorem ZP {e least} (h:IG e least st.1=none):gE e least st=(0,([],true)):=by unfold gE;rw [h]
theorem ZQ {e least n r} (h:IG e least st.1=some (n,r)):gE e least st=(n,(r,st.2)):=by unfold gE;rw [h]
set_option maxHeartbeats 2000000 in
theorem a9H [aB Φ] (o9:∀ M w,Φ M w->tM M w) (e least) (hl:st.1.length<=1000000000000000) (c:Ctx W w (rd b st :: S) Φ) {K} (hk:∀ w',Ctx W w' (rd b (gE e.toNat.toUInt8 least st).2 :: S) Φ->K (.returned (.int .i64 (gE e.toNat.toUInt8 least st).1)) w'):
  aD F.gG #[.pointer (some ⟨b,0,none⟩),.int .u8 e,.int .i64 least] w K:=by
 refine fW (C9 b 0 e least (J:=K∘.returned) c ?_)
 clear c
 obtain ⟨l,bad⟩:=st
 simp only at hl
 have hsz:(bs l).size=l.length:=bJ l
 have hmin:(min ((bs l).size:Int) 21).toNat=min l.length 21:=by rw [hsz];omega
 have aU9:(bs l).extract 0 (min ((bs l).size:Int) 21).toNat=bs (l.take 21):=by
  rw [hmin,ZO,List.drop_zero,Nat.sub_zero]
  congr 1
  rcases Nat.le_total l.length 21 with h|h
  .rw [Nat.min_eq_left h,List.take_of_length_le (Nat.le_refl _),List.take_of_length_le h]
  .rw [Nat.min_eq_right h]
 refine λw G cx=>⟨bs l,cx.get 0 rfl rfl,bs l,cx.get 0 rfl rfl,by omega,λw G cx=>?_⟩
 rw [aU9]
 refine (aK5 (bs (l.take 21)) e).in.toI (R:=rd b (l,bad) :: S) cx ?_
 rw [pN]
 obtain ⟨i,hi⟩:∃ i,Lib.indexByte (l.take 21) e.toNat.toUInt8=i:=⟨_,rfl⟩
 obtain ⟨hge,hidx⟩:=TK (l.take 21) e.toNat.toUInt8
 rw [hi] at hge hidx ⊢
 have failK:IG e.toNat.toUInt8 least l=none->∀ (w:World) (G:List Own),Ctx W w (rd b (l,bad) :: S++G) Φ->aD F.cP #[.pointer (some ⟨b,0,none⟩)] w λe w'=>e=.returned (.tuple #[])/\∃ R' aV,aB aV/\Ctx W w' (R'++G) aV/\∀ w F1,Ctx W w (R'++F1) aV->K (.returned (.int .i64 0)) w:=λhn w G cx=>by
  rw [ZP (st:=(l,bad)) hn] at hk
  exact WY (S:=S) cx λw F1 cx=>hk w cx.left
 refine Br.intro (λhneg=>λw G cx=>failK ?_ w G cx) (λhpos=>?_)
 .unfold IG
  simp only [hi]
  rw [if_pos (eC hneg)]
 have hpos:=cS hpos
 rcases hidx with hidx|⟨_,hlt,_,_⟩
 .omega
 have a6R:i.toNat<(l.take 21).length:=by omega
 have hll:(l.take 21).length<=l.length:=by rw [List.length_take];omega
 have h21:(l.take 21).length<=21:=by rw [List.length_take];omega
 have hhd:(bs (l.take 21)).extract 0 i.toNat=bs (l.take i.toNat):=by
  rw [ZO,List.drop_zero,Nat.sub_zero,List.take_take,Nat.min_eq_left (by omega)]
 refine ⟨⟨by omega,by rw [bJ];omega⟩,λw G cx=>?_⟩
 rw [hhd]
 refine aK6 (R:=rd b (l,bad) :: S) (λM w h=>(o9 M w h).2.1) (λM w h=>(o9 M w h).2.2) (bs (l.take i.toNat)) (by rw [bJ,List.length_take];omega) cx (λn hn=>?_) (λn t v hn=>?_)
 .rw [pN] at hn
  have hb:=Lib.atoiAll_bounds hn
  refine ⟨rd b (l,bad) :: S,Φ,aL,λw G cx=>cx,false,λw=>aK3 (by decide +kernel) w,Br.intro (λh=>by cases h) (λ_=>⟨⟨by omega,by rw [bJ];omega⟩,λw G cx=>?_⟩)⟩
  refine (aBP (λM w h=>(o9 M w h).1) n (by unfold aX;omega)).toS cx ⟨λw G cx=>cx,Br.intro (λhne=>λw G cx=>failK ?_ w G cx) (λheq=>Br.intro (λhls=>λw G cx=>failK ?_ w G cx) (λhls=>λw G cx=>?_))⟩
  .have hne:=eC hne
   unfold IG
   simp only [hi]
   rw [if_neg (by omega),hn]
   simp only
   rw [if_neg (λh=>hne (by show bs (Lib.itoa n)=_;rw [h.1]))]
  .unfold IG
   simp only [hi]
   rw [if_neg (by omega),hn]
   simp only
   rw [if_neg (λh=>by have:=eC hls;omega)]
  .have heq:Lib.itoa n=l.take i.toNat:=a4l.1 (Decidable.not_not.1 (cS heq))
   have hls:=cS hls
   have b0g:IG e.toNat.toUInt8 least l=some (n,l.drop (i.toNat+1)):=by
    unfold IG
    simp only [hi]
    rw [if_neg (by omega),hn]
    simp only
    rw [if_pos ⟨heq,by omega⟩]
   rw [ZQ (st:=(l,bad)) b0g] at hk
   have hex:(bs l).extract (i+1).toNat (bs l).size=bs (l.drop (i.toNat+1)):=by
    rw [ZO,hsz,show (i+1).toNat=i.toNat+1 by omega]
    congr 1
    exact List.take_of_length_le (by rw [List.length_drop];omega)
   refine ⟨bs l,cx.get 0 rfl rfl,?_,⟨by omega,by omega,Nat.le_refl _⟩,λw G cx=>⟨cx.can 0 rfl (by simp),λw' hw'=>?_⟩⟩
   .unfold aX
    omega
   rw [hex] at hw'
   exact ⟨rd b (l.drop (i.toNat+1),bad) :: S,Φ,aL,cx.put 0 hw' rfl,λw G cx=>hk w cx.left⟩
 .rw [pN] at hn
  refine ⟨[],λ_ _=>True,aL,λw G cx=>(cx.weak λ_ _ _=>trivial).right,true,λw=>?_,Br.intro (λ_=>λw G cx=>failK ?_ w G cx) (λh=>by cases h)⟩
  .exact aK4 (by decide +kernel) w
  .unfold IG
   simp only [hi]
   rw [if_neg (by omega)]
theorem TL [aB Φ] (o9:∀ M w,Φ M w->tM M w) (e least) (hl:st.1.length<=1000000000000000) (c:Ctx W w (rd b st :: S++G) Φ) {K:Int->List Own->PW->Prop} (hk:K (gE e.toNat.toUInt8 least st).1 (rd b (gE e.toNat.toUInt8 least st).2 :: S) Φ):
  aD F.gG #[.pointer (some ⟨b,0,none⟩),.int .u8 e,.int .i64 least] w λe w'=>∃ n,e=.returned (.int .i64 n)/\∃ R' aV,aB aV/\Ctx W w' (R'++G) aV/\K n R' aV :=
 a9H (S:=S++G) o9 e least hl c λw' c=>⟨_,rfl,_,Φ,aL,c,hk⟩
def eH (st:FW):Int × FW:=gE 59 (-9223372036854775808) st
def mF (st:FW):Int × FW:=gE 59 0 st
theorem QS [aB Φ] (o9:∀ M w,Φ M w->tM M w) (hl:st.1.length<=1000000000000000) (c:Ctx W w (rd b st :: S++G) Φ) {K:Int->List Own->PW->Prop} (hk:K (eH st).1 (rd b (eH st).2 :: S) Φ):
  aD F.cC #[.pointer (some ⟨b,0,none⟩)] w λe w'=>∃ n,e=.returned (.int .i64 n)/\∃ R' aV,aB aV/\Ctx W w' (R'++G) aV/\K n R' aV:=by
 refine fW (H8 b 0 (J:=λu w'=>∃ n,(Ending.returned u)=.returned (.int .i64 n)/\∃ R' aV,aB aV/\Ctx W w' (R'++G) aV/\K n R' aV) (R:=rd b st :: (S++G)) c ?_)
 exact λw F1 cx=>TL (S:=S++G) o9 59 _ hl cx λw F1 cx=>⟨_,rfl,_,Φ,aL,cx.left,hk⟩
theorem a4m [aB Φ] (o9:∀ M w,Φ M w->tM M w) (hl:st.1.length<=1000000000000000) (c:Ctx W w (rd b st :: S++G) Φ) {K:Int->List Own->PW->Prop} (hk:K (mF st).1 (rd b (mF st).2 :: S) Φ):
  aD F.j6 #[.pointer (some ⟨b,0,none⟩)] w λe w'=>∃ n,e=.returned (.int .i64 n)/\∃ R' aV,aB aV/\Ctx W w' (R'++G) aV/\K n R' aV:=by
 refine fW (H9 b 0 (J:=λu w'=>∃ n,(Ending.returned u)=.returned (.int .i64 n)/\∃ R' aV,aB aV/\Ctx W w' (R'++G) aV/\K n R' aV) (R:=rd b st :: (S++G)) c ?_)
 exact λw F1 cx=>TL (S:=S++G) o9 59 _ hl cx λw F1 cx=>⟨_,rfl,_,Φ,aL,cx.left,hk⟩
theorem a4n [aB Φ] (c:Ctx W w (rd b st :: S++G) Φ) {K:Int->List Own->PW->Prop} (hk:K st.1.length (rd b st :: S) Φ):
  aD F.kK #[.pointer (some ⟨b,0,none⟩)] w λe w'=>∃ n,e=.returned (.int .i64 n)/\∃ R' aV,aB aV/\Ctx W w' (R'++G) aV/\K n R' aV:=by
 refine fW (FE b 0 (J:=λu w'=>∃ n,(Ending.returned u)=.returned (.int .i64 n)/\∃ R' aV,aB aV/\Ctx W w' (R'++G) aV/\K n R' aV) (R:=rd b st :: (S++G)) c ?_)
 exact λw F1 cx=>⟨bs st.1,cx.get 0 rfl rfl,λw F1 cx=>⟨st.1.length,by rw [bJ],_,Φ,aL,cx.left,hk⟩⟩
def rL (st:FW):Bool := !st.2&&decide (st.1=[])
theorem WZ [aB Φ] (c:Ctx W w (rd b st :: S++G) Φ) {K:Bool->List Own->PW->Prop} (hk:K (rL st) (rd b st :: S) Φ):
  aD F.dV #[.pointer (some ⟨b,0,none⟩)] w λe w'=>∃ n,e=.returned (.bool n)/\∃ R' aV,aB aV/\Ctx W w' (R'++G) aV/\K n R' aV:=by
 refine fW (FD b 0 (J:=λu w'=>∃ n,(Ending.returned u)=.returned (.bool n)/\∃ R' aV,aB aV/\Ctx W w' (R'++G) aV/\K n R' aV) (R:=rd b st :: (S++G)) c ?_)
 refine λw F1 cx=>⟨st.2,cx.get 0 rfl rfl,bs st.1,λ_=>cx.get 0 rfl rfl,λw F1 cx=>⟨rL st,?_,_,Φ,aL,cx.left,hk⟩⟩
 have e:decide (bs st.1=ByteArray.mk #[])=decide (st.1=[]):=by
  rw [show ByteArray.mk #[]=bs [] from rfl]
  exact decide_eq_decide.2 a4l
 rw [e]
 rfl
theorem a9I (c:UInt8) (l:List UInt8):Lib.hasPrefix l [c]=(match l with | []=>false|x :: _=>x == c):=by
 cases l with
 | nil=>rfl
 | cons x r =>
  unfold Lib.hasPrefix
  rw [List.isPrefixOf_cons_cons]
  simp [Bool.beq_comm]
theorem aHe [aB Φ] (e) (c:Ctx W w (rd b st :: S++G) Φ) {K:List Own->PW->Prop} (hk:K (rd b (II e st) :: S) Φ):
  aD F.rA #[.pointer (some ⟨b,0,none⟩),.string (ByteArray.mk #[e])] w λe w'=>e=.returned (.tuple #[])/\∃ R' aV,aB aV/\Ctx W w' (R'++G) aV/\K R' aV:=by
 refine fW (DU b 0 (ByteArray.mk #[e]) (J:=λu w'=>(Ending.returned u)=.returned (.tuple #[])/\∃ R' aV,aB aV/\Ctx W w' (R'++G) aV/\K R' aV) (R:=rd b st :: (S++G)) c ?_)
 clear c
 obtain ⟨l,bad⟩:=st
 refine λw F1 cx=>⟨bs l,cx.get 0 rfl rfl,λw F1 cx=>?_⟩
 refine (Any.strings_CutPrefix Tryz.aKX (bs l) (ByteArray.mk #[e]) w).mono λe2 w' ⟨he,hw⟩=>?_
 subst hw
 refine ⟨_,_,he,rd b (l,bad) :: (S++G),Φ,aL,cx,?_⟩
 clear cx
 rw [pN,show (ByteArray.mk #[e]).data.toList=[e] from rfl]
 unfold Lib.trimPrefix
 rw [a9I]
 unfold II at hk
 cases l with
 | nil =>
  refine λw F1 cx=>⟨cx.can 0 rfl (by simp),λw' hw'=>⟨rd b ([],bad) :: (S++G),Φ,aL,cx.put 0 hw' rfl,Br.intro (λ_=>λw F1 cx=>WY (S:=S++G) cx λw F1 cx=>⟨by first|trivial|rfl,_,Φ,aL,cx.left,hk⟩) (λh=>by cases h)⟩⟩
 | cons x r =>
  simp only at hk ⊢
  by_cases hx:x=e
  .subst hx
   rw [if_pos rfl] at hk
   rw [if_pos (by simp)]
   refine λw F1 cx=>⟨cx.can 0 rfl (by simp),λw' hw'=>⟨rd b (r,bad) :: (S++G),Φ,aL,cx.put 0 hw' rfl,Br.intro (λh=>by simp at h) (λ_=>λw F1 cx=>⟨by first|trivial|rfl,_,Φ,aL,cx.left,hk⟩)⟩⟩
  .rw [if_neg hx] at hk
   rw [if_neg (by simpa using hx)]
   refine λw F1 cx=>⟨cx.can 0 rfl (by simp),λw' hw'=>⟨rd b (x :: r,bad) :: (S++G),Φ,aL,cx.put 0 hw' rfl,Br.intro (λ_=>λw F1 cx=>WY (S:=S++G) cx λw F1 cx=>⟨by first|trivial|rfl,_,Φ,aL,cx.left,hk⟩) (λh=>by simp at h;exact absurd h hx)⟩⟩
theorem a4o {e} (he:e.toNat=58\/e.toNat=59\/e.toNat=91) (st):0<=(gE e 0 st).1/\(gE e 0 st).1<=9223372036854775807:=by
 unfold gE
 split
 .rename_i n r h
  obtain ⟨⟨h1,h2⟩,_⟩:=(IJ he).1 h
  unfold aX at h1
  simp only;omega
 .simp only;omega
theorem qH (e least st):(gE e least st).2.1.length<=st.1.length:=by
 unfold gE
 split
 .rename_i n r h
  unfold IG at h
  simp only at h
  split at h
  .cases h
  .split at h
   .split at h
    .cases h
     simp only [List.length_drop];omega
    .cases h
   .cases h
 .simp
theorem a4p [aB Φ] (o9:∀ M w,Φ M w->tM M w) (hl:st.1.length<=1000000000000000) (c:Ctx W w (rd b st :: S++G) Φ) {K:ByteArray->List Own->PW->Prop} (hk:K (stepT st).1 (rd b (stepT st).2 :: S) Φ):
  aD F.kH #[.pointer (some ⟨b,0,none⟩)] w λe w'=>∃ n,e=.returned (.string n)/\∃ R' aV,aB aV/\Ctx W w' (R'++G) aV/\K n R' aV:=by
 refine fW (FC b 0 (J:=λu w'=>∃ n,(Ending.returned u)=.returned (.string n)/\∃ R' aV,aB aV/\Ctx W w' (R'++G) aV/\K n R' aV) (R:=rd b st :: (S++G)) c ?_)
 clear c
 refine λw F1 cx=>TL (S:=S++G) o9 58 0 hl cx ?_
 rw [show ((58:Int).toNat.toUInt8)=(58:UInt8) from rfl]
 unfold stepT at hk
 simp only at hk
 have hn:=a4o (e:=58) (.inl rfl) st
 obtain ⟨⟨n,l,bad⟩,ha⟩:∃ a,gE 58 0 st=a:=⟨_,rfl⟩
 rw [ha] at hk hn ⊢
 simp only at hk hn ⊢
 refine λw F1 cx=>⟨bs l,cx.get 0 rfl rfl,Br.intro (λh=>?_) (λh=>?_)⟩
 .have h:=eC h
  rw [bJ] at h
  rw [if_pos h] at hk
  exact λw F1 cx=>WY (S:=S++G) cx λw F1 cx=>⟨_,rfl,_,Φ,aL,cx.left,hk⟩
 .have h:=cS h
  rw [bJ] at h
  rw [if_neg h] at hk
  have e1:(bs l).extract n.toNat (bs l).size=bs (l.drop n.toNat):=by
   rw [ZO,bJ]
   congr 1
   exact List.take_of_length_le (by rw [List.length_drop];omega)
  have e2:(bs l).extract 0 n.toNat=bs (l.take n.toNat):=by rw [ZO,List.drop_zero,Nat.sub_zero]
  refine λw F1 cx=>⟨bs l,cx.get 0 rfl rfl,⟨by omega,by rw [bJ];omega⟩,λw F1 cx=>⟨bs l,cx.get 0 rfl rfl,⟨by omega,by rw [bJ];omega,Nat.le_refl _⟩,λw F1 cx=>⟨cx.can 0 rfl (by simp),λw' hw'=>?_⟩⟩⟩
  rw [e1] at hw'
  refine ⟨rd b (l.drop n.toNat,bad) :: (S++G),Φ,aL,cx.put 0 hw' rfl,λw F1 cx=>aHe (S:=S++G) 44 cx λw F1 cx=>⟨(II 44 (l.drop n.toNat,bad)).2,cx.get 0 rfl rfl,Br.intro (λhb=>?_) (λhb=>?_)⟩⟩
  .rw [hb] at hk
   exact λw F1 cx=>⟨_,rfl,_,Φ,aL,cx.left,hk⟩
  .rw [hb] at hk
   rw [e2]
   exact λw F1 cx=>⟨_,rfl,_,Φ,aL,cx.left,hk⟩
end
end Go.Proofs.YtnlkemjhgdbfkaaGreatDoor
end

section
namespace Go.Proofs.YtnlkemjhgdbfkaaGreatDoor
open Go.Vc
theorem ZR {e} (he:e.toNat=58\/e.toNat=59\/e.toNat=91) {least n r bad} (h:aX n) (h2:least<=n):gE e least (Lib.itoa n++e :: r,bad)=(n,(r,bad)) :=
 ZQ (st:=(Lib.itoa n++e :: r,bad)) ((IJ he).2 ⟨⟨h,h2⟩,rfl⟩)
theorem a2x (n):(oO n).data.toList=Lib.itoa n++[59]:=by
 unfold oO QO
 rw [ByteArray.data_append,Array.toList_append]
theorem QT {n r bad} (h:aX n):eH ((oO n).data.toList++r,bad)=(n,(r,bad)):=by
 rw [a2x,b9]
 exact ZR (.inr (.inl rfl)) h h.1
theorem ZS {n:Nat} {r bad} (h:(n:Int)<=9223372036854775807):mF ((TH n).data.toList++r,bad)=((n:Int),(r,bad)):=by
 unfold TH
 rw [if_neg (by omega),a2x,b9]
 exact ZR (.inr (.inl rfl)) (by unfold aX;omega) (by omega)
theorem tN (s):(oC s).data.toList=Lib.itoa s.size++58 :: (s.data.toList++[44]):=by
 unfold oC QO
 simp [ByteArray.data_append]
theorem a2y {s r} (h:s.size<=9223372036854775807):stepT ((oC s).data.toList++r,false)=(s,(r,false)):=by
 have e1:gE 58 0 ((oC s).data.toList++r,false)=((s.size:Int),(s.data.toList++44 :: r,false)):=by
  rw [tN,b9,List.cons_append,b9]
  exact ZR (.inl rfl) (by unfold aX;omega) (by omega)
 unfold stepT
 simp only [e1]
 have hl:s.data.toList.length=s.size:=fT s
 rw [if_neg (by rw [List.length_append,List.length_cons,hl];omega),Int.toNat_natCast,List.drop_left' hl,List.take_left' hl]
 rfl
theorem aDt (c st):(II c st).1.length<=st.1.length:=by
 unfold II
 split
 .simp
 .rename_i h
  split
  .rw [h];simp
  .simp
theorem a2z (st):(stepT st).2.1.length<=st.1.length/\(stepT st).1.size<=st.1.length:=by
 have h1:=qH 58 0 st
 have h2:=aDt 44 (((gE 58 0 st).2.1.drop (gE 58 0 st).1.toNat,(gE 58 0 st).2.2))
 rw [List.length_drop] at h2
 unfold stepT
 simp only
 split
 .exact ⟨Nat.zero_le _,Nat.zero_le _⟩
 .refine ⟨by simp only;omega,?_⟩
  simp only
  split
  .exact Nat.zero_le _
  .rw [bJ,List.length_take];omega
theorem a2A (st):aX (eH st).1:=by
 unfold eH gE
 split
 .rename_i n r h
  exact ((IJ (.inr (.inl rfl))).1 h).1.1
 .unfold aX;simp
section
variable {W w:World} {R G S:List Own} {Φ:PW} {b:Nat} {st:FW}
end
theorem aHf {e} (he:e.toNat=58\/e.toNat=59\/e.toNat=91) {least st} (h:(gE e least st).2.2=false):
  st.2=false/\aX (gE e least st).1/\least<=(gE e least st).1/\st.1=Lib.itoa (gE e least st).1++e :: (gE e least st).2.1:=by
 unfold gE at h ⊢
 split at h
 .rename_i n r hn
  obtain ⟨⟨h1,h2⟩,h3⟩:=(IJ he).1 hn
  exact ⟨h,h1,h2,h3⟩
 .cases h
theorem aHg {c st} (h:(II c st).2=false):st.2=false/\st.1=c :: (II c st).1:=by
 obtain ⟨l,bad⟩:=st
 unfold II at h ⊢
 cases l with
 | nil=>cases h
 | cons x r =>
  simp only at h ⊢
  by_cases hx:x=c
  .rw [if_pos hx] at h ⊢
   exact ⟨h,by rw [hx]⟩
  .rw [if_neg hx] at h
   cases h
theorem a4q {st} (h:(stepT st).2.2=false):st.2=false/\st.1=(oC (stepT st).1).data.toList++(stepT st).2.1:=by
 unfold stepT at h ⊢
 simp only at h ⊢
 split at h
 .cases h
 rename_i hlt
 rw [if_neg hlt]
 simp only at h ⊢
 rw [if_neg (by rw [h];simp)]
 obtain ⟨h1,h2⟩:=aHg h
 simp only at h1 h2
 obtain ⟨h3,h4,h5,h6⟩:=aHf (e:=58) (.inl rfl) h1
 refine ⟨h3,?_⟩
 have hl:((gE 58 0 st).2.1.take (gE 58 0 st).1.toNat).length=(gE 58 0 st).1.toNat:=by rw [List.length_take];omega
 rw [tN,pN,bJ,hl,show (((gE 58 0 st).1.toNat:Nat):Int)=(gE 58 0 st).1 by omega,b9,List.cons_append,b9,List.singleton_append,<-h2,List.take_append_drop]
 exact h6
theorem aK7 {st} (h:rL st=true):st=([],false):=by
 unfold rL at h
 rw [Bool.and_eq_true] at h
 obtain ⟨l,bad⟩:=st
 have h1:=eC h.2
 have h2:=h.1
 simp only at h1 h2
 cases bad with
 | true=>cases h2
 | false=>rw [h1]
def vS (x:bQ):List UInt8:=(oO x.term++oC x.data).data.toList
def lE (l:List bQ):List UInt8:=l.flatMap vS
def oD (l:List Int):List UInt8:=l.flatMap λn=>(oO n).data.toList
def pG (m:bR):List Int:=[m.kind,m.src,m.to,m.term,m.index,m.prev,m.aE,if m.yes then 1 else 0]
def EY (m:bR):List UInt8:=oD (pG m)++(TH m.aF.length).data.toList
def rZ (m:bR):List UInt8:=EY m++lE m.aF
def NM (st:FW):bQ × FW:=(⟨(eH st).1,(stepT (eH st).2).1⟩,(stepT (eH st).2).2)
def IL:Nat->FW->List bQ->List bQ × FW
 | 0,st,acc=>(acc,st)
 | k+1,st,acc=>if st.1=[] then (acc,st) else IL k (NM st).2 (acc++[(NM st).1])
def VD:Nat->FW->List Int × FW
 | 0,st=>([],st)
 | k+1,st=>((eH st).1 :: (VD k (eH st).2).1,(VD k (eH st).2).2)
def aPA (ns:List Int) (rs:List bQ):bR:=⟨ns.getD 0 0,ns.getD 1 0,ns.getD 2 0,ns.getD 3 0,ns.getD 4 0,ns.getD 5 0,ns.getD 6 0,decide (ns.getD 7 0=1),rs⟩
def VE:bR:=⟨0,0,0,0,0,0,0,false,[]⟩
def VF (l:List UInt8):Option bQ:=if rL (NM (l,false)).2=true then some (NM (l,false)).1 else none
def aVa (l:List UInt8) (ns:List Int) (rs:List bQ × FW):Option bR:=if rL rs.2=true/\rZ (aPA ns rs.1)=l then some (aPA ns rs.1) else none
def aHh (l:List UInt8) (ns:List Int) (st:FW):Option bR:=aVa l ns (IL (mF st).1.toNat (mF st).2 [])
def AD (l:List UInt8):Option bR:=aHh l (VD 8 (l,false)).1 (VD 8 (l,false)).2
theorem NN (k st acc):IL (k+1) st acc=if st.1=[] then (acc,st) else IL k (NM st).2 (acc++[(NM st).1]):=rfl
theorem aDu:∀ (k:Nat) (st:FW) (acc:List bQ),st.1=[]->IL k st acc=(acc,st)
 | 0,_,_,_=>rfl
 | k+1,st,acc,h=>by rw [NN,if_pos h]
theorem a9J {st} (h:st.1≠[]):(eH st).2.1.length<st.1.length:=by
 unfold eH gE
 split
 .rename_i n r hn
  obtain ⟨_,h2⟩:=(IJ (e:=59) (.inr (.inl rfl))).1 hn
  rw [h2,List.length_append,List.length_cons]
  simp only
  omega
 .exact List.length_pos_iff.2 h
theorem aDv {st} (h:st.1≠[]):(NM st).2.1.length<st.1.length:=by
 have h1:=a9J h
 have h2:=(a2z (eH st).2).1
 show (stepT (eH st).2).2.1.length<_
 omega
theorem aDw (st):(NM st).1.data.size<=st.1.length:=by
 have h1:=qH 59 (-9223372036854775808) st
 have h2:=(a2z (eH st).2).2
 show (stepT (eH st).2).1.size<=_
 have h3:(eH st).2.1.length<=st.1.length:=h1
 omega
theorem aDx (st):aX (NM st).1.term:=a2A st
theorem a6S (x t):vS x++t=(oO x.term).data.toList++((oC x.data).data.toList++t):=by
 unfold vS
 simp [ByteArray.data_append]
theorem NO (x l):lE (x :: l)=vS x++lE l:=by simp [lE]
theorem aDy (a b):lE (a++b)=lE a++lE b:=List.flatMap_append
theorem aDz (x):lE [x]=vS x:=by simp [lE]
theorem NP (n l):oD (n :: l)=(oO n).data.toList++oD l:=by simp [oD]
theorem aDA (a b):oD (a++b)=oD a++oD b:=List.flatMap_append
theorem aDB (n):oD [n]=(oO n).data.toList:=by simp [oD]
theorem a6T {x t} (h:aX x.term) (h2:x.data.size<=1000000):NM (vS x++t,false)=(x,(t,false)):=by
 unfold NM
 rw [a6S,QT h]
 simp only
 rw [a2y (by omega)]
theorem aK8 {x} (h:aX x.term) (t):vS x++t≠[]:=by
 rw [a6S]
 have h1:=(fU h).1
 intro e
 have e:=congrArg List.length e
 rw [List.length_append,fT,show ([]:List UInt8).length=0 from rfl] at e
 omega
theorem a2B:∀ (l acc:List bQ) (t:List UInt8),(∀ x∈l,aX x.term/\x.data.size<=1000000)->IL l.length (lE l++t,false) acc=(acc++l,(t,false))
 | [],acc,t,_=>by rw [List.append_nil];rfl
 | x :: l,acc,t,h=>by
  have hx:=h x (by simp)
  rw [List.length_cons,NN,NO,b9,if_neg (aK8 hx.1 _),a6T hx.1 hx.2]
  simp only
  rw [a2B l (acc++[x]) t (λy hy=>h y (by simp [hy])),b9]
  rfl
theorem a2C:∀ (l:List Int) (t:List UInt8),(∀ n∈l,aX n)->VD l.length (oD l++t,false)=(l,(t,false))
 | [],t,_=>rfl
 | n :: l,t,h=>by
  have ih:=a2C l t λy hy=>h y (by simp [hy])
  rw [List.length_cons,NP,b9]
  unfold VD
  rw [QT (h n (by simp))]
  simp only
  rw [ih]
structure TM (m:bR):Prop where
 ints:∀ n∈pG m,aX n
 aF:∀ x∈m.aF,aX x.term/\x.data.size<=1000000
theorem aK9 (m):aPA (pG m) m.aF=m:=by
 obtain ⟨k,s,t,e,i,p,c,y,r⟩:=m
 cases y<;>rfl
theorem ZT {m} (h:TM m) (hl:m.aF.length<=1000000):AD (rZ m)=some m:=by
 have h1:=a2C (pG m) ((TH m.aF.length).data.toList++(lE m.aF++[])) h.ints
 have h2:=a2B m.aF [] [] h.aF
 have e:rZ m=oD (pG m)++((TH m.aF.length).data.toList++(lE m.aF++[])):=by
  unfold rZ EY
  simp only [b9,List.append_nil]
 have e8:(pG m).length=8:=rfl
 rw [e8,<-e] at h1
 unfold AD
 rw [h1]
 unfold aHh
 simp only
 rw [ZS (by omega)]
 simp only
 rw [Int.toNat_natCast,h2]
 unfold aVa
 simp only
 rw [List.nil_append,aK9]
 exact if_pos ⟨rfl,rfl⟩
theorem aDC {x} (h:aX x.term) (h2:x.data.size<=1000000):VF (vS x)=some x:=by
 have h3:=a6T (t:=[]) h h2
 rw [List.append_nil] at h3
 unfold VF
 rw [h3]
 exact if_pos rfl
abbrev Bs:=List UInt8
structure vT where
 now:Bs
 last:Bs
structure gZ where
 files:Int->vT
 queue:List (Int × Int)
 lost:Int
 down:Bool
 eL:Int
 keep:List Int
def nK:gZ:=⟨λ_=>⟨[],[]⟩,[],0,false,0,[]⟩
def iK (s:Bs) (a:Nat) (t:Bs):Bs:=if t=[] then s else s.take a++List.replicate (a - s.length) 0++t++s.drop (a+t.length)
def gZ.set (d:gZ) (f:Int) (x:vT):gZ:={ d with files:=λk=>if k=f then x else d.files k }
def sD (d:gZ) (f:Int):Int:=if d.down=true then 9 else if f<0\/16<=f then 1 else 0
def LV (a n:Nat):List Int:=(List.range ((a+n - 1) / 64+1 - a / 64)).map λi=>((a / 64+i:Nat):Int)
def WM (f:Int):List Int->List (Int × Int)->List (Int × Int)
 | [],q=>q
 | n :: ns,q=>WM f ns (if (f,n)∈q then q else q++[(f,n)])
def dY (d:gZ) (f a:Int) (s:Bs):gZ × Int :=
 if sD d f≠0 then (d,sD d f) else if a<0 then (d,1) else if 16777216<a\/16777216 - a<(s.length:Int) then (d,6) else if s=[] then (d,0) else
 ({ d.set f ⟨iK (d.files f).now a.toNat s,(d.files f).last⟩ with queue:=WM f (LV a.toNat s.length) d.queue },0)
def CP (d:gZ):Bool := !d.down&&decide (d.eL=1)
def fY (d:gZ):gZ:=if d.down=true\/d.eL=0 then d else { d with eL:=d.eL - 1 }
def L5 (keep:List Int) (i:Nat) (p:Int × Int) (fs:Int->vT):Int->vT :=
 if keep=[]\/keep.getD (i % keep.length) 0 % 2=0\/((fs p.1).now.length:Int)<=p.2*64 then fs
 else λk=>if k=p.1 then ⟨(fs p.1).now,iK (fs p.1).last (p.2*64).toNat (((fs p.1).now.drop (p.2*64).toNat).take 64)⟩ else fs k
def AE (keep:List Int):Nat->List (Int × Int)->(Int->vT)->Int->vT
 | _,[],fs=>fs
 | i,p :: ps,fs=>AE keep (i+1) ps (L5 keep i p fs)
def cQ (d:gZ) (keep:List Int):gZ :=
 if d.down=true then d else { d with down:=true,eL:=0,queue:=[],files:=λk=>⟨(AE keep 0 d.queue d.files k).last,(AE keep 0 d.queue d.files k).last⟩ }
def bW (d:gZ) (f a:Int) (s:Bs):gZ × Int :=
 if CP d=true then (cQ (dY (fY d) f a s).1 d.keep,9) else dY (fY d) f a s
def E8 (d:gZ) (f:Int) (s:Bs):gZ:={ d.set f ⟨s,s⟩ with queue:=d.queue.filter λp=>decide (p.1≠f) }
def mR (d:gZ):gZ:=if CP d=true then cQ (fY d) d.keep else fY d
def LW (d:gZ) (f:Int):gZ × Int :=
 if sD d f≠0 then (d,sD d f) else if 0<d.lost then ({ d with lost:=d.lost - 1 },10) else (E8 d f (d.files f).now,0)
def bM (d:gZ) (f:Int):gZ × Int:=LW (mR d) f
def dA (d:gZ) (f a n:Int):Bs × Int :=
 if sD d f≠0 then ([],sD d f) else if a<0\/n<0 then ([],1) else (((d.files f).now.drop a.toNat).take n.toNat,0)
def eA (d:gZ):gZ:={ d with down:=false }
def nL (d:gZ) (n:Int):gZ:={ d with lost:=max n 0 }
def vU (d:gZ) (n:Int) (keep:List Int):gZ:={ d with eL:=max n 0,keep:=keep }
structure IM where
 file:Int
 slot:Nat
 value:Bs
 sure:Bool
def iM (slot:Nat):Nat:=if slot=1 then 64 else if slot=2 then 131072 else 0
def jK (slot:Nat) (n:Nat):Bs:=[slot.toUInt8,n.toUInt8,(n / 256).toUInt8,(n / 65536).toUInt8,(n / 16777216).toUInt8]
def QU (h:Bs):Nat:=(((h.getD 4 0).toNat*256+(h.getD 3 0).toNat)*256+(h.getD 2 0).toNat)*256+(h.getD 1 0).toNat
def uW (d:gZ) (file:Int):Option IM × Int :=
 if (dA d file 0 5).2≠0 then (none,(dA d file 0 5).2) else
 if (dA d file 0 5).1=[]\/(dA d file 0 5).1.getD 0 0=0 then (some ⟨file,0,[],false⟩,0) else
 if (dA d file 0 5).1.length<5\/(dA d file 0 5).1.getD 0 0≠1/\(dA d file 0 5).1.getD 0 0≠2 then (none,2) else
 if 65536<QU (dA d file 0 5).1 then (none,2) else
 if (dA d file (iM ((dA d file 0 5).1.getD 0 0).toNat) (QU (dA d file 0 5).1)).2≠0 then (none,(dA d file (iM ((dA d file 0 5).1.getD 0 0).toNat) (QU (dA d file 0 5).1)).2) else
 if (dA d file (iM ((dA d file 0 5).1.getD 0 0).toNat) (QU (dA d file 0 5).1)).1.length<QU (dA d file 0 5).1 then (none,2) else
 (some ⟨file,((dA d file 0 5).1.getD 0 0).toNat,(dA d file (iM ((dA d file 0 5).1.getD 0 0).toNat) (QU (dA d file 0 5).1)).1,false⟩,0)
def LX (d:gZ) (c:IM) (s:Bs) (slot:Nat):gZ × IM × Int :=
 if (bW d c.file (iM slot) s).2≠0 then ((bW d c.file (iM slot) s).1,c,(bW d c.file (iM slot) s).2) else
 if (bM (bW d c.file (iM slot) s).1 c.file).2≠0 then ((bM (bW d c.file (iM slot) s).1 c.file).1,c,(bM (bW d c.file (iM slot) s).1 c.file).2) else
 if (bW (bM (bW d c.file (iM slot) s).1 c.file).1 c.file 0 (jK slot s.length)).2≠0 then ((bW (bM (bW d c.file (iM slot) s).1 c.file).1 c.file 0 (jK slot s.length)).1,c,(bW (bM (bW d c.file (iM slot) s).1 c.file).1 c.file 0 (jK slot s.length)).2) else
 ((bM (bW (bM (bW d c.file (iM slot) s).1 c.file).1 c.file 0 (jK slot s.length)).1 c.file).1,⟨c.file,slot,s,decide ((bM (bW (bM (bW d c.file (iM slot) s).1 c.file).1 c.file 0 (jK slot s.length)).1 c.file).2=0)⟩,(bM (bW (bM (bW d c.file (iM slot) s).1 c.file).1 c.file 0 (jK slot s.length)).1 c.file).2)
def wY (d:gZ) (c:IM) (s:Bs):gZ × IM × Int :=
 if 65536<s.length then (d,c,6) else
 if c.sure=false/\0<c.slot then
  if (bM d c.file).2≠0 then ((bM d c.file).1,c,(bM d c.file).2) else LX (bM d c.file).1 { c with sure:=true } s (if c.slot=1 then 2 else 1)
 else LX d c s (if c.slot=1 then 2 else 1)
theorem QV (s a):iK s a []=s:=by unfold iK;rw [if_pos rfl]
theorem QW {s t:Bs} {a} (h:t≠[]):iK s a t=s.take a++List.replicate (a - s.length) 0++t++s.drop (a+t.length):=by unfold iK;rw [if_neg h]
theorem IP {s t:Bs} {a} (h:t≠[]):(iK s a t).length=max s.length (a+t.length):=by
 rw [QW h]
 simp only [List.length_append,List.length_take,List.length_replicate,List.length_drop]
 omega
theorem IQ {s t:Bs} {a i} (h:t≠[]) (hi:i<a):(iK s a t)[i]? = if i<s.length then s[i]? else some 0:=by
 rw [QW h,b9,b9]
 by_cases h1:i<s.length
 .rw [if_pos h1,List.getElem?_append_left (by rw [List.length_take];omega),List.getElem?_take_of_lt hi]
 .rw [if_neg h1,List.getElem?_append_right (by rw [List.length_take];omega),List.length_take,List.getElem?_append_left (by rw [List.length_replicate];omega),List.getElem?_replicate,if_pos (by omega)]
theorem IU {s t:Bs} {a i} (h:t≠[]) (h1:a<=i) (h2:i<a+t.length):(iK s a t)[i]? = t[i - a]? := by
 rw [QW h,b9,List.getElem?_append_right (by simp only [List.length_append,List.length_take,List.length_replicate];omega),List.getElem?_append_left (by simp only [List.length_append,List.length_take,List.length_replicate];omega)]
 simp only [List.length_append,List.length_take,List.length_replicate]
 congr 1
 omega
theorem JY {s t:Bs} {a i} (h:t≠[]) (h1:a+t.length<=i):(iK s a t)[i]? = s[i]? := by
 rw [QW h,List.getElem?_append_right (by simp only [List.length_append,List.length_take,List.length_replicate];omega),List.getElem?_drop]
 simp only [List.length_append,List.length_take,List.length_replicate]
 by_cases h2:a<=s.length
 .congr 1
  omega
 .rw [List.getElem?_eq_none (by omega),List.getElem?_eq_none (by omega)]
def ZU (N:Bs) (n:Nat):Bs:=(N.drop (n*64)).take 64
def NQ (N:Bs):List Nat->Bs->Bs
 | [],L=>L
 | n :: ns,L=>NQ N ns (iK L (n*64) (ZU N n))
theorem aLa {N n} (h:n*64<N.length):ZU N n≠[]:=by
 intro e
 have:=congrArg List.length e
 unfold ZU at this
 rw [List.length_take,List.length_drop,List.length_nil] at this
 omega
theorem aHi (N n):(ZU N n).length=min 64 (N.length - n*64):=by unfold ZU;rw [List.length_take,List.length_drop]
theorem aHj {N n i} (h1:n*64<=i) (h2:i<n*64+64):(ZU N n)[i - n*64]? = N[i]? := by
 unfold ZU
 rw [List.getElem?_take_of_lt (by omega),List.getElem?_drop]
 congr 1
 omega
theorem QX {N L n i} (h:n*64<N.length):(iK L (n*64) (ZU N n))[i]? = if n*64<=i/\i<n*64+64/\i<N.length then N[i]? else if i<n*64/\L.length<=i then some 0 else L[i]? := by
 have hne:=aLa h
 have hl:=aHi N n
 by_cases h1:i<n*64
 .rw [IQ hne h1]
  by_cases h2:i<L.length
  .rw [if_pos h2,if_neg (by omega),if_neg (by omega)]
  .rw [if_neg h2,if_neg (by omega),if_pos (by omega)]
 .by_cases h2:i<n*64+(ZU N n).length
  .rw [IU hne (by omega) h2,aHj (by omega) (by omega),if_pos (by omega)]
  .rw [JY hne (by omega),if_neg (by omega),if_neg (by omega)]
theorem qI {N} {i:Nat} {x} (hN:N[i]? = some x):∀ (ns:List Nat) (L:Bs),(∀ n∈ns,n*64<N.length)->L[i]? = some x->(NQ N ns L)[i]? = some x
 | [],L,_,h=>h
 | n :: ns,L,hs,h=>by
  refine qI hN ns _ (λm hm=>hs m (by simp [hm])) ?_
  have hi:i<L.length:=(List.getElem?_eq_some_iff.1 h).1
  rw [QX (hs n (by simp))]
  split
  .exact hN
  .rw [if_neg (by omega)];exact h
theorem aBS {N i x}:∀ (ns:List Nat) (L:Bs),(∀ n∈ns,n*64<N.length/\¬ (n*64<=i/\i<n*64+64))->L[i]? = some x->(NQ N ns L)[i]? = some x
 | [],L,_,h=>h
 | n :: ns,L,hs,h=>by
  refine aBS ns _ (λm hm=>hs m (by simp [hm])) ?_
  have hi:i<L.length:=(List.getElem?_eq_some_iff.1 h).1
  have h1:=hs n (by simp)
  rw [QX h1.1,if_neg (by omega),if_neg (by omega)]
  exact h
theorem a6U {N i} (hN:N.getD i 0=0):∀ (ns:List Nat) (L:Bs),(∀ n∈ns,n*64<N.length)->L.getD i 0=0->(NQ N ns L).getD i 0=0
 | [],L,_,h=>h
 | n :: ns,L,hs,h=>by
  refine a6U hN ns _ (λm hm=>hs m (by simp [hm])) ?_
  rw [List.getD_eq_getElem?_getD,QX (hs n (by simp))]
  split
  .rw [<-List.getD_eq_getElem?_getD];exact hN
  .split
   .rfl
   .rw [<-List.getD_eq_getElem?_getD];exact h
theorem aBT {N i x} (hN:N[i]? = some x):∀ (ns:List Nat) (L:Bs),(∀ n∈ns,n*64<N.length)->i / 64∈ns->(NQ N ns L)[i]? = some x
 | [],L,_,h=>by cases h
 | n :: ns,L,hs,h=>by
  by_cases e:i / 64=n
  .refine qI hN ns _ (λm hm=>hs m (by simp [hm])) ?_
   have hi:i<N.length:=(List.getElem?_eq_some_iff.1 hN).1
   rw [QX (hs n (by simp)),if_pos (by omega)]
   exact hN
  .refine aBT hN ns _ (λm hm=>hs m (by simp [hm])) ?_
   rcases List.mem_cons.1 h with h|h
   .exact absurd h e
   .exact h
def TN (F:Int) (q:List (Int × Int)):List Nat:=(q.filter λp=>decide (p.1=F)).map λp=>p.2.toNat
theorem a6V (F p q):TN F (p :: q)=if p.1=F then p.2.toNat :: TN F q else TN F q:=by
 unfold TN
 by_cases h:p.1=F
 .rw [List.filter_cons_of_pos (by simpa using h),if_pos h,List.map_cons]
 .rw [List.filter_cons_of_neg (by simpa using h),if_neg h]
theorem aHk (keep i p fs F):(L5 keep i p fs F).now=(fs F).now:=by
 unfold L5
 split
 .rfl
 .simp only
  split
  .rename_i h;rw [h]
  .rfl
theorem a2D (F):∀ (q:List (Int × Int)) (keep:List Int) (i:Nat) (fs:Int->vT),(∀ p∈q,0<=p.2) ->
  ∃ ns:List Nat,ns.Sublist (TN F q)/\(∀ n∈ns,n*64<(fs F).now.length)/\(AE keep i q fs F).now=(fs F).now/\(AE keep i q fs F).last=NQ (fs F).now ns (fs F).last
 | [],keep,i,fs,_=>⟨[],List.Sublist.refl _,by simp,rfl,rfl⟩
 | p :: q,keep,i,fs,hp=>by
  obtain ⟨ns,h1,h2,h3,h4⟩:=a2D F q keep (i+1) (L5 keep i p fs) (λx hx=>hp x (by simp [hx]))
  have hn:=aHk keep i p fs F
  rw [hn] at h2 h3 h4
  have hp0:=hp p (by simp)
  have e:AE keep i (p :: q) fs=AE keep (i+1) q (L5 keep i p fs):=rfl
  rw [e,a6V]
  by_cases hF:p.1=F
  .rw [if_pos hF]
   by_cases hs:keep=[]\/keep.getD (i % keep.length) 0 % 2=0\/((fs p.1).now.length:Int)<=p.2*64
   .have e2:L5 keep i p fs=fs:=by unfold L5;rw [if_pos hs]
    rw [e2] at h3 h4
    exact ⟨ns,h1.cons _,h2,by rw [e2];exact h3,by rw [e2];exact h4⟩
   .have e2:(L5 keep i p fs F).last=iK (fs F).last (p.2.toNat*64) (ZU (fs F).now p.2.toNat):=by
     unfold L5
     rw [if_neg hs,if_pos hF.symm,hF]
     unfold ZU
     rw [show (p.2*64).toNat=p.2.toNat*64 by omega]
    rw [e2] at h4
    refine ⟨p.2.toNat :: ns,h1.cons_cons _,λn hn'=>?_,h3,h4⟩
    rcases List.mem_cons.1 hn' with rfl|hn'
    .rw [hF] at hs
     have:¬ ((fs F).now.length:Int)<=p.2*64:=λh=>hs (.inr (.inr h))
     omega
    .exact h2 n hn'
  .rw [if_neg hF]
   have e2:(L5 keep i p fs F).last=(fs F).last:=by
    unfold L5
    split
    .rfl
    .dsimp only
     rw [if_neg λh=>hF h.symm]
   rw [e2] at h4
   exact ⟨ns,h1,h2,h3,h4⟩
theorem aDD {d} (hd:d.down=false) (keep) (hq:∀ p∈d.queue,0<=p.2) (F):
  ∃ ns:List Nat,ns.Sublist (TN F d.queue)/\(∀ n∈ns,n*64<(d.files F).now.length)/\(cQ d keep).files F=⟨NQ (d.files F).now ns (d.files F).last,NQ (d.files F).now ns (d.files F).last⟩:=by
 obtain ⟨ns,h1,h2,_,h4⟩:=a2D F d.queue keep 0 d.files hq
 refine ⟨ns,h1,h2,?_⟩
 unfold cQ
 rw [if_neg (by rw [hd];simp)]
 show vT.mk (AE keep 0 d.queue d.files F).last (AE keep 0 d.queue d.files F).last=_
 rw [h4]
theorem VG {d} (hd:d.down=false) (keep):(cQ d keep).queue=[]/\(cQ d keep).down=true/\(cQ d keep).eL=0/\(cQ d keep).lost=d.lost:=by
 unfold cQ
 rw [if_neg (by rw [hd];simp)]
 exact ⟨rfl,rfl,rfl,rfl⟩
def fH (N:Bs) (slot:Nat) (v:Bs):Prop :=
 (slot=0/\v=[]/\N.getD 0 0=0)\/((slot=1\/slot=2)/\v.length<=65536/\(∀ i,i<5->N[i]? = (jK slot v.length)[i]?)/\∀ i,i<v.length->N[iM slot+i]? = v[i]?)
theorem pO (slot n):(jK slot n).length=5:=rfl
theorem aLb {slot n} (h:n<=65536):QU (jK slot n)=n:=by
 unfold QU jK
 simp only [List.getD_cons_succ,List.getD_cons_zero,Nat.toUInt8,UInt8.toNat_ofNat']
 omega
theorem a6W {N h:Bs} {n} (hn:h.length=n) (hg:∀ i,i<n->N[i]? = h[i]?):N.take n=h:=by
 apply List.ext_getElem?
 intro i
 rcases Nat.lt_or_ge i n with hi|hi
 .rw [List.getElem?_take_of_lt hi,hg i hi]
 .rw [List.getElem?_eq_none (by rw [List.length_take];omega),List.getElem?_eq_none (by omega)]
theorem aLc {N v:Bs} {a} (hg:∀ i,i<v.length->N[a+i]? = v[i]?):(N.drop a).take v.length=v:=by
 apply List.ext_getElem?
 intro i
 rcases Nat.lt_or_ge i v.length with hi|hi
 .rw [List.getElem?_take_of_lt hi,List.getElem?_drop,hg i hi]
 .rw [List.getElem?_eq_none (by rw [List.length_take];omega),List.getElem?_eq_none hi]
theorem ZV {d F a n} (hd:d.down=false) (hF:0<=F/\F<16) (ha:0<=a) (hn:0<=n):dA d F a n=(((d.files F).now.drop a.toNat).take n.toNat,0):=by
 have hm:sD d F=0:=by unfold sD;rw [if_neg (by rw [hd];simp),if_neg (by omega)]
 unfold dA
 rw [if_neg (by rw [hm];simp),if_neg (by omega)]
theorem a6X {d F slot v} (hd:d.down=false) (hF:0<=F/\F<16) (h:fH (d.files F).now slot v):uW d F=(some ⟨F,slot,v,false⟩,0):=by
 have hr:=ZV (d:=d) (F:=F) (a:=0) (n:=5) hd hF (by omega) (by omega)
 have hr:dA d F 0 5=((d.files F).now.take 5,0):=hr
 obtain ⟨N,hN⟩:∃ N,(d.files F).now=N:=⟨_,rfl⟩
 rw [hN] at h hr
 unfold uW
 rw [hr]
 simp only
 rw [if_neg (by simp)]
 rcases h with ⟨rfl,rfl,h0⟩|⟨hs,hv,hh,hval⟩
 .have h1:(N.take 5).getD 0 0=0:=by
   cases N with
   | nil=>rfl
   | cons x r=>exact h0
  rw [if_pos (.inr h1)]
 .have ht:N.take 5=jK slot v.length:=a6W (pO _ _) hh
  have hsn:(slot.toUInt8).toNat=slot:=by rcases hs with rfl|rfl<;>rfl
  have h0:(jK slot v.length).getD 0 0=slot.toUInt8:=rfl
  have hs8:slot.toUInt8=1\/slot.toUInt8=2:=by rcases hs with rfl|rfl<;>decide
  have b0h:slot.toUInt8≠0:=by rcases hs with rfl|rfl<;>decide
  rw [ht,h0,hsn,aLb hv]
  have hoff:(0:Int)<=(iM slot:Int):=by omega
  rw [ZV hd hF hoff (by omega),hN]
  simp only [Int.toNat_natCast]
  rw [aLc hval]
  rw [if_neg (by
   intro h
   rcases h with h|h
   .have:=congrArg List.length h
    rw [pO] at this
    cases this
   .exact b0h h),if_neg (by
   intro h
   rcases h with h|h
   .rw [pO] at h;omega
   .rcases hs8 with h8|h8
    .exact h.1 h8
    .exact h.2 h8),if_neg (by omega),if_neg (by simp),if_neg (by omega)]
def Fut (f:vT) (P:Nat->Bs->Prop):Prop:=(∃ s v,fH f.now s v/\P s v)/\∀ ns:List Nat,(∀ n∈ns,n*64<f.now.length)->∃ s v,fH (NQ f.now ns f.last) s v/\P s v
theorem QY {N L s v} (hN:fH N s v) (hL:fH L s v) {ns} (hs:∀ n∈ns,n*64<N.length):fH (NQ N ns L) s v:=by
 rcases hL with ⟨rfl,rfl,h0⟩|⟨h1,h2,h3,h4⟩
 .rcases hN with ⟨_,_,n0⟩|⟨h,_⟩
  .exact .inl ⟨rfl,rfl,a6U n0 ns L hs h0⟩
  .omega
 .rcases hN with ⟨rfl,_⟩|⟨_,_,n3,n4⟩
  .omega
  .refine .inr ⟨h1,h2,λi hi=>?_,λi hi=>?_⟩
   .have e:(jK s v.length)[i]? = some ((jK s v.length)[i]'(by rw [pO];exact hi)):=List.getElem?_eq_getElem _
    rw [e]
    exact qI (by rw [n3 i hi,e]) ns L hs (by rw [h3 i hi,e])
   .have e:v[i]? = some v[i]:=List.getElem?_eq_getElem hi
    rw [e]
    exact qI (by rw [n4 i hi,e]) ns L hs (by rw [h4 i hi,e])
theorem mG {f s v P} (hN:fH f.now s v) (hL:fH f.last s v) (hP:P s v):Fut f P:=⟨⟨s,v,hN,hP⟩,λns hs=>⟨s,v,QY hN hL hs,hP⟩⟩
theorem QZ {N}:∀ (ns:List Nat) (L:Bs),(∀ n∈ns,n*64<N.length/\n≠0)->L.getD 0 0=0->(NQ N ns L).getD 0 0=0
 | [],L,_,h=>h
 | n :: ns,L,hs,h=>by
  refine QZ ns _ (λm hm=>hs m (by simp [hm])) ?_
  have h1:=hs n (by simp)
  rw [List.getD_eq_getElem?_getD,QX h1.1,if_neg (by omega)]
  split
  .rfl
  .rw [<-List.getD_eq_getElem?_getD];exact h
theorem a9K {f s s' v v' P} (hs':s'=1\/s'=2) (S8:v'.length<=65536) (hL:fH f.last s v) (hnew:∀ i,i<v'.length->f.last[iM s'+i]? = v'[i]?) (IV:f.now=iK f.last 0 (jK s' v'.length)) (hP:P s v) (hP':P s' v'):Fut f P:=by
 have hne:jK s' v'.length≠[]:=by intro e;have:=congrArg List.length e;cases this
 have aVb:∀ i,i<5->f.now[i]? = (jK s' v'.length)[i]? := λi hi=>by
  rw [IV,IU hne (Nat.zero_le _) (by rw [pO];omega),Nat.sub_zero]
 have aHl:∀ i,5<=i->f.now[i]? = f.last[i]? := λi hi=>by
  rw [IV,JY hne (by rw [pO];omega)]
 have hoff:∀ k,(k=1\/k=2)->5<=iM k:=λk hk=>by rcases hk with rfl|rfl<;>decide
 have hN:fH f.now s' v':=.inr ⟨hs',S8,aVb,λi hi=>by
  have:=hoff s' hs'
  rw [aHl _ (by omega)]
  exact hnew i hi⟩
 refine ⟨⟨s',v',hN,hP'⟩,λns hns=>?_⟩
 by_cases h0:0∈ns
 .refine ⟨s',v',.inr ⟨hs',S8,λi hi=>?_,λi hi=>?_⟩,hP'⟩
  .have e:(jK s' v'.length)[i]? = some ((jK s' v'.length)[i]'(by rw [pO];exact hi)):=List.getElem?_eq_getElem _
   rw [e]
   exact aBT (by rw [aVb i hi,e]) ns _ hns (by rw [show i / 64=0 by omega];exact h0)
  .have:=hoff s' hs'
   have e:v'[i]? = some v'[i]:=List.getElem?_eq_getElem hi
   rw [e]
   exact qI (by rw [aHl _ (by omega),hnew i hi,e]) ns _ hns (by rw [hnew i hi,e])
 .have aPC:∀ n∈ns,n*64<f.now.length/\n≠0:=λn hn=>⟨hns n hn,λe=>h0 (e ▸ hn)⟩
  rcases hL with ⟨rfl,rfl,hz⟩|⟨h1,h2,h3,h4⟩
  .exact ⟨0,[],.inl ⟨rfl,rfl,QZ ns _ aPC hz⟩,hP⟩
  .refine ⟨s,v,.inr ⟨h1,h2,λi hi=>?_,λi hi=>?_⟩,hP⟩
   .have e:(jK s v.length)[i]? = some ((jK s v.length)[i]'(by rw [pO];exact hi)):=List.getElem?_eq_getElem _
    rw [e]
    exact aBS ns _ (λn hn=>⟨(aPC n hn).1,by have:=(aPC n hn).2;omega⟩) (by rw [h3 i hi,e])
   .have:=hoff s h1
    have e:v[i]? = some v[i]:=List.getElem?_eq_getElem hi
    rw [e]
    exact qI (by rw [aHl _ (by omega),h4 i hi,e]) ns _ hns (by rw [h4 i hi,e])
theorem Fut.mono {f P Q} (h:Fut f P) (hPQ:∀ s v,P s v->Q s v):Fut f Q :=
 ⟨by obtain ⟨s,v,h1,h2⟩:=h.1;exact ⟨s,v,h1,hPQ s v h2⟩,λns hs=>by obtain ⟨s,v,h1,h2⟩:=h.2 ns hs;exact ⟨s,v,h1,hPQ s v h2⟩⟩
theorem Fut.a6Y {f P} (h:Fut f P) {ns} (hs:∀ n∈ns,n*64<f.now.length):Fut ⟨NQ f.now ns f.last,NQ f.now ns f.last⟩ P:=by
 obtain ⟨s,v,h1,h2⟩:=h.2 ns hs
 exact mG h1 h1 h2
inductive Ev:vT->vT->Prop
 | refl (f:vT):Ev f f
 | step {f g:vT} {ns:List Nat}:Ev f g->(∀ n∈ns,n*64<g.now.length)->Ev f ⟨NQ g.now ns g.last,NQ g.now ns g.last⟩
theorem Ev.trans {f g h} (h1:Ev f g) (h2:Ev g h):Ev f h:=by
 induction h2 with
 | refl=>exact h1
 | step _ hs ih=>exact .step ih hs
theorem Ev.fut {f g P} (h:Ev f g) (hP:Fut f P):Fut g P:=by
 induction h with
 | refl=>exact hP
 | step _ hs ih=>exact ih.a6Y hs
def Pre (B:Bs) (f:vT):Prop:=∀ (i:Nat) (x:UInt8),B[i]? = some x->f.now[i]? = some x/\f.last[i]? = some x
theorem Ev.pre {B f g} (h:Ev f g) (hP:Pre B f):Pre B g:=by
 induction h with
 | refl=>exact hP
 | step _ hs ih =>
  intro i x hx
  obtain ⟨h1,h2⟩:=ih i x hx
  exact ⟨qI h1 _ _ hs h2,qI h1 _ _ hs h2⟩
def EZ (d:gZ):Prop:=∀ p∈d.queue,0<=p.2
def OB (d:gZ):Prop:=d.down=false/\d.eL=0/\d.lost=0
theorem aLd:EZ nK:=λp hp=>by cases hp
theorem aLe:OB nK:=⟨rfl,rfl,rfl⟩
theorem X0 {d} (hw:EZ d) (keep):EZ (cQ d keep):=by
 unfold cQ
 split
 .exact hw
 .exact λp hp=>by cases hp
theorem IW {d} (hw:EZ d) (keep F):Ev (d.files F) ((cQ d keep).files F):=by
 cases hd:d.down with
 | true =>
  have:cQ d keep=d:=by unfold cQ;rw [if_pos hd]
  rw [this]
  exact .refl _
 | false =>
  obtain ⟨ns,_,h2,h3⟩:=aDD hd keep hw F
  rw [h3]
  exact .step (.refl _) h2
theorem aBU (d):(fY d).files=d.files/\(fY d).queue=d.queue/\(fY d).down=d.down/\(fY d).lost=d.lost/\(fY d).keep=d.keep:=by
 unfold fY
 split<;>exact ⟨rfl,rfl,rfl,rfl,rfl⟩
theorem a4r {d} (h:OB d):fY d=d/\CP d=false:=by
 unfold fY CP
 rw [if_pos (.inr h.2.1),h.2.1,h.1]
 exact ⟨rfl,rfl⟩
theorem aHm (f):∀ (ns:List Int) (q:List (Int × Int)),(∀ n∈ns,0<=n)->(∀ p∈q,0<=p.2)->∀ p∈WM f ns q,0<=p.2
 | [],q,_,hq=>hq
 | n :: ns,q,hn,hq=>by
  refine aHm f ns _ (λm hm=>hn m (by simp [hm])) λp hp=>?_
  split at hp
  .exact hq p hp
  .rcases List.mem_append.1 hp with hp|hp
   .exact hq p hp
   .rw [List.mem_singleton.1 hp];exact hn n (by simp)
theorem aHn (a n):∀ m∈LV a n,0<=m:=λm hm=>by
 unfold LV at hm
 obtain ⟨i,_,rfl⟩:=List.mem_map.1 hm
 omega
theorem a9M {d} {F a:Int} {s} (hF:0<=F/\F<16) (ha:0<=a) (hs:a+s.length<=16777216) (hw:EZ d):
  EZ (dY d F a s).1/\(∀ G,G≠F->(dY d F a s).1.files G=d.files G)/\(dY d F a s).1.down=d.down/\(dY d F a s).1.eL=d.eL/\(dY d F a s).1.lost=d.lost /\
  ((d.down=false/\(dY d F a s).2=0/\(dY d F a s).1.files F=⟨iK (d.files F).now a.toNat s,(d.files F).last⟩)\/(d.down=true/\(dY d F a s).2=9/\(dY d F a s).1=d)):=by
 cases hd:d.down with
 | true =>
  have hm:sD d F=9:=by unfold sD;rw [if_pos hd]
  have e:dY d F a s=(d,9):=by unfold dY;rw [hm,if_pos (by decide)]
  rw [e]
  exact ⟨hw,λ_ _=>rfl,hd,rfl,rfl,.inr ⟨rfl,rfl,rfl⟩⟩
 | false =>
  have hm:sD d F=0:=by unfold sD;rw [if_neg (by rw [hd];simp),if_neg (by omega)]
  by_cases h0:s=[]
  .have e:dY d F a s=(d,0):=by unfold dY;rw [hm,if_neg (by decide),if_neg (by omega),if_neg (by omega),if_pos h0]
   rw [e,h0,QV]
   exact ⟨hw,λ_ _=>rfl,hd,rfl,rfl,.inl ⟨rfl,rfl,rfl⟩⟩
  .have e:dY d F a s=({ d.set F ⟨iK (d.files F).now a.toNat s,(d.files F).last⟩ with queue:=WM F (LV a.toNat s.length) d.queue },0):=by
    unfold dY;rw [hm,if_neg (by decide),if_neg (by omega),if_neg (by omega),if_neg h0]
   rw [e]
   refine ⟨aHm F _ _ (aHn _ _) hw,λG hG=>?_,hd,rfl,rfl,.inl ⟨rfl,rfl,?_⟩⟩
   .show (if G=F then _ else d.files G)=_
    rw [if_neg hG]
   .show (if F=F then _ else d.files F)=_
    rw [if_pos rfl]
theorem TO {d} {F a:Int} {s} (hF:0<=F/\F<16) (ha:0<=a) (hs:a+s.length<=16777216) (hw:EZ d):
  EZ (bW d F a s).1/\(∀ G,G≠F->Ev (d.files G) ((bW d F a s).1.files G))/\(OB d->OB (bW d F a s).1/\(bW d F a s).2=0)/\((bW d F a s).1.lost=d.lost) /\
  (((bW d F a s).2=0/\(bW d F a s).1.files F=⟨iK (d.files F).now a.toNat s,(d.files F).last⟩)\/((bW d F a s).2=9/\(Ev (d.files F) ((bW d F a s).1.files F)\/Ev ⟨iK (d.files F).now a.toNat s,(d.files F).last⟩ ((bW d F a s).1.files F)))):=by
 obtain ⟨t1,t2,t3,t4,t5⟩:=aBU d
 have rS:EZ (fY d):=by unfold EZ;rw [t2];exact hw
 obtain ⟨w1,w2,w3,w4,w5,w6⟩:=a9M (d:=fY d) (s:=s) hF ha hs rS
 rw [t1] at w2 w6
 rw [t3] at w3 w6
 rw [t4] at w5
 cases he:CP d with
 | true =>
  have e:bW d F a s=(cQ (dY (fY d) F a s).1 d.keep,9):=by unfold bW;rw [if_pos he]
  have hd:d.down=false:=by
   unfold CP at he
   cases h:d.down with
   | true=>rw [h] at he;cases he
   | false=>rfl
  rw [e]
  refine ⟨X0 w1 _,λG hG=>?_,λh=>?_,?_,.inr ⟨rfl,.inr ?_⟩⟩
  .rw [<-w2 G hG];exact IW w1 _ G
  .rw [(a4r h).2] at he;cases he
  .rw [<-w5]
   exact (VG (by rw [w3];exact hd) _).2.2.2
  .rcases w6 with ⟨_,_,w7⟩|⟨h,_⟩
   .rw [<-w7];exact IW w1 _ F
   .rw [hd] at h;cases h
 | false =>
  have e:bW d F a s=dY (fY d) F a s:=by unfold bW;rw [if_neg (by rw [he];simp)]
  rw [e]
  refine ⟨w1,λG hG=>by rw [w2 G hG];exact .refl _,λh=>?_,w5,?_⟩
  .rcases w6 with ⟨_,w7,_⟩|⟨h2,_⟩
   .have ht:=(a4r h).1
    rw [ht] at w3 w4 w5 w7 ⊢
    exact ⟨⟨by rw [w3];exact h.1,by rw [w4];exact h.2.1,by rw [w5];exact h.2.2⟩,w7⟩
   .rw [h.1] at h2;cases h2
  .rcases w6 with ⟨_,w7,w8⟩|⟨_,w7,w8⟩
   .exact .inl ⟨w7,w8⟩
   .refine .inr ⟨w7,.inl ?_⟩
    rw [w8,t1]
    exact .refl _
theorem aHo {d} (hw:EZ d):EZ (mR d)/\(∀ G,Ev (d.files G) ((mR d).files G))/\(OB d->mR d=d)/\(mR d).lost=d.lost/\((mR d).down=false->(mR d).files=d.files):=by
 obtain ⟨t1,t2,t3,t4,t5⟩:=aBU d
 have rS:EZ (fY d):=by unfold EZ;rw [t2];exact hw
 unfold mR
 cases he:CP d with
 | true =>
  rw [if_pos rfl]
  have hd:d.down=false:=by
   unfold CP at he
   cases h:d.down with
   | true=>rw [h] at he;cases he
   | false=>rfl
  have hq:=VG (d:=fY d) (by rw [t3];exact hd) d.keep
  refine ⟨X0 rS _,λG=>by rw [<-t1];exact IW rS _ G,λh=>?_,by rw [hq.2.2.2,t4],λh=>?_⟩
  .rw [(a4r h).2] at he;cases he
  .rw [hq.2.1] at h;cases h
 | false =>
  rw [if_neg (by simp)]
  exact ⟨rS,λG=>by rw [t1];exact .refl _,λh=>(a4r h).1,t4,λ_=>t1⟩
theorem yC {d F} (hF:0<=F/\F<16) (hw:EZ d):
  EZ (bM d F).1/\(∀ G,G≠F->Ev (d.files G) ((bM d F).1.files G))/\(OB d->OB (bM d F).1/\(bM d F).2=0) /\
  (((bM d F).2=0/\(bM d F).1.down=false/\(bM d F).1.files F=⟨(d.files F).now,(d.files F).now⟩)\/(((bM d F).2=9\/(bM d F).2=10)/\Ev (d.files F) ((bM d F).1.files F))):=by
 obtain ⟨f1,f2,f3,f4,f5⟩:=aHo hw
 unfold bM LW
 cases hd:(mR d).down with
 | true =>
  have hm:sD (mR d) F=9:=by unfold sD;rw [if_pos hd]
  rw [hm,if_pos (by decide)]
  refine ⟨f1,λG _=>f2 G,λh=>?_,.inr ⟨.inl rfl,f2 F⟩⟩
  rw [f3 h,h.1] at hd;cases hd
 | false =>
  have hm:sD (mR d) F=0:=by unfold sD;rw [if_neg (by rw [hd];simp),if_neg (by omega)]
  rw [hm,if_neg (by decide)]
  by_cases hl:0<(mR d).lost
  .rw [if_pos hl]
   refine ⟨f1,λG _=>f2 G,λh=>?_,.inr ⟨.inr rfl,f2 F⟩⟩
   rw [f4,h.2.2] at hl;omega
  .rw [if_neg hl]
   refine ⟨λp hp=>f1 p (List.mem_filter.1 hp).1,λG hG=>?_,λh=>?_,.inl ⟨rfl,hd,?_⟩⟩
   .show Ev (d.files G) (if G=F then _ else (mR d).files G)
    rw [if_neg hG];exact f2 G
   .rw [f3 h]
    exact ⟨h,rfl⟩
   .show (if F=F then _ else (mR d).files F)=_
    rw [if_pos rfl,f5 hd]
theorem aLf {N s s' v v'} (S8:v'.length<=65536) (h:fH N s v) (hs':s'=if s=1 then 2 else 1):fH (iK N (iM s') v') s v/\∀ i,i<v'.length->(iK N (iM s') v')[iM s'+i]? = v'[i]? := by
 by_cases h0:v'=[]
 .rw [h0,QV]
  exact ⟨h,λi hi=>by cases hi⟩
 refine ⟨?_,λi hi=>?_⟩
 .rcases h with ⟨rfl,rfl,hz⟩|⟨h1,h2,h3,h4⟩
  .refine .inl ⟨rfl,rfl,?_⟩
   rw [if_neg (by decide)] at hs'
   subst hs'
   rw [List.getD_eq_getElem?_getD,IQ h0 (by decide)]
   split
   .rw [<-List.getD_eq_getElem?_getD];exact hz
   .rfl
  .have hne:∀ i,i<5\/(iM s<=i/\i<iM s+v.length)->N[i]? ≠ none->(iK N (iM s') v')[i]? = N[i]? := by
    intro i hi hx
    have hl:i<N.length:=by
     rcases Nat.lt_or_ge i N.length with h|h
     .exact h
     .exact absurd (List.getElem?_eq_none h) hx
    rcases h1 with rfl|rfl
    .rw [if_pos rfl] at hs'
     subst hs'
     rw [IQ h0 (by
      have e1:iM 1=64:=rfl
      have e2:iM 2=131072:=rfl
      omega),if_pos hl]
    .rw [if_neg (by decide)] at hs'
     subst hs'
     have e1:iM 1=64:=rfl
     have e2:iM 2=131072:=rfl
     rcases Nat.lt_or_ge i 64 with h64|h64
     .rw [IQ h0 (by omega),if_pos hl]
     .rw [JY h0 (by omega)]
   refine .inr ⟨h1,h2,λi hi=>?_,λi hi=>?_⟩
   .have e:=h3 i hi
    rw [hne i (.inl hi) (by rw [e,List.getElem?_eq_getElem (by rw [pO];exact hi)];simp)]
    exact e
   .have e:=h4 i hi
    rw [hne _ (.inr ⟨by omega,by omega⟩) (by rw [e,List.getElem?_eq_getElem hi];simp)]
    exact e
 .rw [IU h0 (by omega) (by omega),Nat.add_sub_cancel_left]
def aM3 (k:Nat) (v:Bs) (k':Nat) (v':Bs):Nat->Bs->Prop:=λs w=>(s=k/\w=v)\/(s=k'/\w=v')
structure aVc (d:gZ) (c:IM) (s:Bs) (slot':Nat) (r:gZ × IM × Int):Prop where
 w:EZ r.1
 other:∀ G,G≠c.file->Ev (d.files G) (r.1.files G)
 BG:OB d->OB r.1/\r.2.2=0
 file:r.2.1.file=c.file
 ok:r.2.2=0->r.2.1.slot=slot'/\r.2.1.value=s/\∃ X,r.1.files c.file=⟨X,X⟩/\fH X slot' s
 bad:r.2.2≠0->(r.2.2=9\/r.2.2=10)/\Fut (r.1.files c.file) (aM3 c.slot c.value slot' s)
theorem a2E {d c s slot'} (hF:0<=c.file/\c.file<16) (hw:EZ d) (hs:s.length<=65536) (RA:slot'=if c.slot=1 then 2 else 1) (hN:fH (d.files c.file).now c.slot c.value) (hL:fH (d.files c.file).last c.slot c.value):aVc d c s slot' (LX d c s slot'):=by
 have aLg:slot'=1\/slot'=2:=by rw [RA];split<;>simp
 have hoff:0<=(iM slot':Int)/\(iM slot':Int)+s.length<=16777216:=by rcases aLg with rfl|rfl<;>exact ⟨by decide,by show (_:Int)+_<=_;have e1:iM 1=64:=rfl;have e2:iM 2=131072:=rfl;omega⟩
 obtain ⟨p1,p2⟩:=aLf hs hN RA
 have hA:=TO (d:=d) (F:=c.file) (a:=(iM slot':Int)) (s:=s) hF hoff.1 hoff.2 hw
 unfold LX
 obtain ⟨⟨d1,e1⟩,h1⟩:∃ x,bW d c.file (iM slot') s=x:=⟨_,rfl⟩
 rw [h1] at hA ⊢
 simp only at hA ⊢
 rw [Int.toNat_natCast] at hA
 obtain ⟨a1,a2,a3,_,a5⟩:=hA
 by_cases D1:e1≠0
 .rw [if_pos D1]
  refine ⟨a1,a2,λh=>absurd (a3 h).2 D1,rfl,λh=>absurd h D1,λ_=>?_⟩
  rcases a5 with ⟨h,_⟩|⟨h,h2⟩
  .exact absurd h D1
  .refine ⟨.inl h,?_⟩
   rcases h2 with h2|h2
   .exact h2.fut (mG hN hL (.inl ⟨rfl,rfl⟩))
   .exact h2.fut (mG p1 hL (.inl ⟨rfl,rfl⟩))
 rw [if_neg D1]
 have D1:e1=0:=Decidable.not_not.1 D1
 have b5:d1.files c.file=⟨iK (d.files c.file).now (iM slot') s,(d.files c.file).last⟩:=by
  rcases a5 with ⟨_,h⟩|⟨h,_⟩
  .exact h
  .rw [D1] at h;cases h
 have hB:=yC (d:=d1) (F:=c.file) hF a1
 obtain ⟨⟨d2,e2⟩,h2⟩:∃ x,bM d1 c.file=x:=⟨_,rfl⟩
 rw [h2] at hB ⊢
 simp only at hB ⊢
 rw [b5] at hB
 obtain ⟨c1,c2,c3,c4⟩:=hB
 by_cases V1:e2≠0
 .rw [if_pos V1]
  refine ⟨c1,λG hG=>(a2 G hG).trans (c2 G hG),λh=>absurd (c3 (a3 h).1).2 V1,rfl,λh=>absurd h V1,λ_=>?_⟩
  rcases c4 with ⟨h,_⟩|⟨h,h2⟩
  .exact absurd h V1
  .exact ⟨h,h2.fut (mG p1 hL (.inl ⟨rfl,rfl⟩))⟩
 rw [if_neg V1]
 have V1:e2=0:=Decidable.not_not.1 V1
 have b6:d2.files c.file=⟨iK (d.files c.file).now (iM slot') s,iK (d.files c.file).now (iM slot') s⟩:=by
  rcases c4 with ⟨_,_,h⟩|⟨h,_⟩
  .exact h
  .rw [V1] at h;omega
 obtain ⟨X,hX⟩:∃ X,iK (d.files c.file).now (iM slot') s=X:=⟨_,rfl⟩
 rw [hX] at p1 p2 b6
 have hC:=TO (d:=d2) (F:=c.file) (a:=0) (s:=jK slot' s.length) hF (Int.le_refl 0) (by rw [pO];decide) c1
 obtain ⟨⟨d3,e3⟩,h3⟩:∃ x,bW d2 c.file 0 (jK slot' s.length)=x:=⟨_,rfl⟩
 rw [h3] at hC ⊢
 simp only at hC ⊢
 rw [b6] at hC
 obtain ⟨g1,g2,g3,_,g5⟩:=hC
 have aVd:Fut ⟨iK X 0 (jK slot' s.length),X⟩ (aM3 c.slot c.value slot' s):=a9K aLg hs p1 p2 rfl (.inl ⟨rfl,rfl⟩) (.inr ⟨rfl,rfl⟩)
 by_cases he3:e3≠0
 .rw [if_pos he3]
  refine ⟨g1,λG hG=>((a2 G hG).trans (c2 G hG)).trans (g2 G hG),λh=>absurd (g3 (c3 (a3 h).1).1).2 he3,rfl,λh=>absurd h he3,λ_=>?_⟩
  rcases g5 with ⟨h,_⟩|⟨h,h2⟩
  .exact absurd h he3
  .refine ⟨.inl h,?_⟩
   rcases h2 with h2|h2
   .exact h2.fut (mG p1 p1 (.inl ⟨rfl,rfl⟩))
   .exact h2.fut aVd
 rw [if_neg he3]
 have he3:e3=0:=Decidable.not_not.1 he3
 have b7:d3.files c.file=⟨iK X 0 (jK slot' s.length),X⟩:=by
  rcases g5 with ⟨_,h⟩|⟨h,_⟩
  .exact h
  .rw [he3] at h;cases h
 have hD:=yC (d:=d3) (F:=c.file) hF g1
 obtain ⟨⟨d4,e4⟩,h4⟩:∃ x,bM d3 c.file=x:=⟨_,rfl⟩
 rw [h4] at hD ⊢
 simp only at hD ⊢
 rw [b7] at hD
 obtain ⟨k1,k2,k3,k4⟩:=hD
 refine ⟨k1,λG hG=>(((a2 G hG).trans (c2 G hG)).trans (g2 G hG)).trans (k2 G hG),λh=>k3 (g3 (c3 (a3 h).1).1).1,rfl,λh=>⟨rfl,rfl,iK X 0 (jK slot' s.length),?_,?_⟩,λh=>?_⟩
 .rcases k4 with ⟨_,_,h'⟩|⟨h',_⟩
  .exact h'
  .simp only at h;rw [h] at h';omega
 .have hne:jK slot' s.length≠[]:=by intro e;have:=congrArg List.length e;cases this
  refine .inr ⟨aLg,hs,λi hi=>?_,λi hi=>?_⟩
  .rw [IU hne (Nat.zero_le _) (by rw [pO];omega),Nat.sub_zero]
  .have hge:5<=iM slot':=by rcases aLg with rfl|rfl<;>decide
   rw [JY hne (by rw [pO];omega)]
   exact p2 i hi
 .rcases k4 with ⟨h',_⟩|⟨h',h2⟩
  .exact absurd h' h
  .exact ⟨h',h2.fut aVd⟩
theorem a6Z {d c s} (hF:0<=c.file/\c.file<16) (hw:EZ d) (hs:s.length<=65536) (hN:fH (d.files c.file).now c.slot c.value) (hL:fH (d.files c.file).last c.slot c.value):aVc d c s (if c.slot=1 then 2 else 1) (wY d c s):=by
 obtain ⟨k,hk⟩:∃ k:Nat,k=(if c.slot=1 then 2 else 1):=⟨_,rfl⟩
 unfold wY
 rw [<-hk,if_neg (by omega:¬ 65536<s.length)]
 split
 .obtain ⟨a1,a2,a3,a4⟩:=yC (d:=d) (F:=c.file) hF hw
  obtain ⟨⟨d1,e1⟩,h1⟩:∃ x,bM d c.file=x:=⟨_,rfl⟩
  rw [h1] at a1 a2 a3 a4 ⊢
  simp only at a1 a2 a3 a4 ⊢
  by_cases he:e1≠0
  .rw [if_pos he]
   refine ⟨a1,a2,λh=>absurd (a3 h).2 he,rfl,λh=>absurd h he,λ_=>?_⟩
   rcases a4 with ⟨h,_⟩|⟨h,h2⟩
   .exact absurd h he
   .exact ⟨h,h2.fut (mG hN hL (.inl ⟨rfl,rfl⟩))⟩
  .rw [if_neg he]
   have he:e1=0:=Decidable.not_not.1 he
   have b:d1.files c.file=⟨(d.files c.file).now,(d.files c.file).now⟩:=by
    rcases a4 with ⟨_,_,h⟩|⟨h,_⟩
    .exact h
    .rw [he] at h;omega
   have h:=a2E (d:=d1) (c:={ c with sure:=true }) (s:=s) (slot':=k) hF a1 hs hk (by show fH (d1.files c.file).now c.slot c.value;rw [b];exact hN) (by show fH (d1.files c.file).last c.slot c.value;rw [b];exact hN)
   exact ⟨h.w,λG hG=>(a2 G hG).trans (h.other G hG),λhh=>h.BG (a3 hh).1,h.file,h.ok,h.bad⟩
 .exact a2E hF hw hs hk hN hL
def aO (l:List ByteArray):Bs:=l.flatMap λs=>(oC s).data.toList
def NR (b n:Nat):Bs:=(oO b).data.toList++(oO n).data.toList
def qJ (c:IM):Int × Int × Bool:=if c.slot=0 then (0,0,true) else ((mF (c.value,false)).1,(mF (mF (c.value,false)).2).1,rL (mF (mF (c.value,false)).2).2)
def oE:Nat->FW->Int->List ByteArray->List ByteArray × FW
 | 0,st,n,acc=>(acc,st)
 | k+1,st,n,acc=>if (acc.length:Int)<n then (if st.1.length<=(stepT st).2.1.length\/st.1=[] then (acc,(stepT st).2) else oE k (stepT st).2 n (acc++[(stepT st).1])) else (acc,st)
def a1I (s:Bs) (n:Int) (x:List ByteArray × FW):Option (List ByteArray):=if rL x.2=true/\(x.1.length:Int)=n/\aO x.1=s then some x.1 else none
def a2F (s:Bs) (n:Int):Option (List ByteArray):=a1I s n (oE (s.length+1) (s,false) n [])
structure sE where
 base:Int
 cell:IM
 list:List ByteArray
 bytes:Nat
 broken:Bool
def sM (d:gZ) (j:sE) (bytes n:Nat):gZ × sE × Int:=((wY d j.cell (NR bytes n)).1,{ j with cell:=(wY d j.cell (NR bytes n)).2.1,broken:=decide ((wY d j.cell (NR bytes n)).2.2≠0) },(wY d j.cell (NR bytes n)).2.2)
def L6 (d:gZ) (j:sE) (l:List ByteArray):gZ × Int:=if (bW d j.base j.bytes (aO l)).2=0 then bM (bW d j.base j.bytes (aO l)).1 j.base else bW d j.base j.bytes (aO l)
def IX (j:sE) (list:List ByteArray) (bytes:Nat) (r:gZ × sE × Int):gZ × sE × Int:=if r.2.2≠0 then r else (r.1,{ r.2.1 with list:=list,bytes:=bytes },0)
def dU (d:gZ) (j:sE) (l:List ByteArray):gZ × sE × Int :=
 if j.broken=true then (d,j,7) else if l=[] then (d,j,0) else if 1048576<j.bytes+(aO l).length then (d,j,6) else
 if (L6 d j l).2≠0 then ((L6 d j l).1,{ j with broken:=true },(L6 d j l).2) else
 IX j (j.list++l) (j.bytes+(aO l).length) (sM (L6 d j l).1 j (j.bytes+(aO l).length) (j.list.length+l.length))
def j4 (d:gZ) (j:sE) (n:Int):gZ × sE × Int :=
 if j.broken=true then (d,j,7) else if n<0\/(j.list.length:Int)<n then (d,j,1) else if n=(j.list.length:Int) then (d,j,0) else
 IX j (j.list.take n.toNat) (aO (j.list.take n.toNat)).length (sM d j (aO (j.list.take n.toNat)).length n.toNat)
def a4s (d:gZ) (base:Int) (c:IM):Option sE × Int :=
 if (qJ c).2.2=false then (none,2) else if (dA d base 0 (qJ c).1).2≠0 then (none,(dA d base 0 (qJ c).1).2) else
 match a2F (dA d base 0 (qJ c).1).1 (qJ c).2.1 with
 | none=>(none,2)
 | some l=>if ((dA d base 0 (qJ c).1).1.length:Int)≠(qJ c).1 then (none,2) else (some ⟨base,c,l,(qJ c).1.toNat,false⟩,0)
def IY (d:gZ) (base:Int):Option sE × Int:=match uW d (base+1) with
 | (none,e)=>(none,e)
 | (some c,_)=>a4s d base c
def qK (d:gZ) (base:Int):gZ × Option sE × Int :=
 if base<0\/14<base then (d,none,1) else
 if (bM d base).2≠0 then ((bM d base).1,none,(bM d base).2) else
 if (bM (bM d base).1 (base+1)).2≠0 then ((bM (bM d base).1 (base+1)).1,none,(bM (bM d base).1 (base+1)).2) else
 ((bM (bM d base).1 (base+1)).1,IY (bM (bM d base).1 (base+1)).1 base)
theorem yD (x l):aO (x :: l)=(oC x).data.toList++aO l:=by simp [aO]
theorem mI (a b):aO (a++b)=aO a++aO b:=List.flatMap_append
theorem a60 {x} (h:x.size<=9223372036854775807):2<=(oC x).data.toList.length:=by
 rw [tN,List.length_append,List.length_cons,List.length_append,List.length_singleton]
 omega
theorem x7 {l} (h:∀ x∈l,x.size<=9223372036854775807):l.length*2<=(aO l).length:=by
 induction l with
 | nil=>simp [aO]
 | cons x l ih =>
  have h1:=ih λy hy=>h y (by simp [hy])
  have h2:=a60 (h x (by simp))
  rw [yD,List.length_append,List.length_cons]
  omega
theorem jS {l x} (hx:x∈l):x.size<=(aO l).length:=by
 induction l with
 | nil=>cases hx
 | cons y l ih =>
  rw [yD,List.length_append]
  rcases List.mem_cons.1 hx with rfl|hx
  .have:x.size<=(oC x).data.toList.length:=by
    rw [tN,List.length_append,List.length_cons,List.length_append,fT]
    omega
   omega
  .have:=ih hx
   omega
theorem a2G:∀ (k:Nat) (l acc:List ByteArray),(∀ x∈l,x.size<=9223372036854775807)->l.length<k->oE k (aO l,false) ((acc.length+l.length:Nat):Int) acc=(acc++l,([],false))
 | 0,l,acc,_,h=>by omega
 | k+1,[],acc,_,_=>by
  unfold oE
  rw [if_neg (by rw [List.length_nil];omega),List.append_nil]
  rfl
 | k+1,x :: l,acc,hx,h=>by
  have h1:=hx x (by simp)
  have h2:=a60 h1
  have e:stepT (aO (x :: l),false)=(x,(aO l,false)):=by rw [yD];exact a2y h1
  have ih:=a2G k l (acc++[x]) (λy hy=>hx y (by simp [hy])) (by rw [List.length_cons] at h;omega)
  have hl:(aO (x :: l)).length=(oC x).data.toList.length+(aO l).length:=by rw [yD,List.length_append]
  unfold oE
  rw [e,if_pos (by rw [List.length_cons];omega),if_neg (by
   simp only
   intro h
   rcases h with h|h
   .omega
   .rw [h,List.length_nil] at hl;omega)]
  simp only
  rw [List.length_append,List.length_singleton] at ih
  rw [show ((acc.length+(x :: l).length:Nat):Int)=((acc.length+1+l.length:Nat):Int) by rw [List.length_cons];omega,ih,b9]
  rfl
theorem aDE {l} (h:(aO l).length<=9223372036854775807):a2F (aO l) l.length=some l:=by
 have hx:∀ x∈l,x.size<=9223372036854775807:=λx hx=>Nat.le_trans (jS hx) h
 have hl:=x7 hx
 have h1:=a2G ((aO l).length+1) l [] hx (by omega)
 rw [List.length_nil,Nat.zero_add,List.nil_append] at h1
 unfold a2F
 rw [h1]
 exact if_pos ⟨rfl,rfl,rfl⟩
theorem aHp {c b n} (hs:c.slot≠0) (hv:c.value=NR b n) (hb:b<=1099511627776) (hn:n<=1099511627776):qJ c=((b:Int),(n:Int),true):=by
 have e1:mF (NR b n,false)=((b:Int),((oO n).data.toList,false)):=ZS (n:=b) (r:=(oO n).data.toList) (bad:=false) (by omega)
 have e2:mF ((oO n).data.toList,false)=((n:Int),([],false)):=by
  have h:=ZS (n:=n) (r:=[]) (bad:=false) (by omega)
  rw [List.append_nil] at h
  exact h
 unfold qJ
 rw [if_neg hs,hv,e1]
 simp only
 rw [e2]
 rfl
theorem aHq {b n} (hb:b<=1099511627776) (hn:n<=1099511627776):(NR b n).length<=100:=by
 have h1:=fU (n:=(b:Int)) (by unfold aX;omega)
 have h2:=fU (n:=(n:Int)) (by unfold aX;omega)
 unfold NR
 rw [List.length_append,fT,fT]
 omega
def Enc (s:Nat) (v:Bs) (l:List ByteArray):Prop:=(s=0/\l=[])\/(s≠0/\v=NR (aO l).length l.length)
structure Live (d:gZ) (j:sE):Prop where
 base:0<=j.base/\j.base<=14
 file:j.cell.file=j.base+1
 bytes:j.bytes=(aO j.list).length
 most:(aO j.list).length<=1048576
 now:fH (d.files (j.base+1)).now j.cell.slot j.cell.value
 last:fH (d.files (j.base+1)).last j.cell.slot j.cell.value
 enc:Enc j.cell.slot j.cell.value j.list
 log:Pre (aO j.list) (d.files j.base)
def IZ (d:gZ) (b:Int) (P:List ByteArray->Prop):Prop:=Fut (d.files (b+1)) λs v=>∃ l,Enc s v l/\Pre (aO l) (d.files b)/\(aO l).length<=1048576/\P l
theorem Live.fut {d j} (h:Live d j) {P} (hP:P j.list):IZ d j.base P:=mG h.now h.last ⟨j.list,h.enc,h.log,h.most,hP⟩
theorem IZ.mono {d b P Q} (h:IZ d b P) (hPQ:∀ l,P l->Q l):IZ d b Q:=Fut.mono h λs v ⟨l,h1,h2,h3,h4⟩=>⟨l,h1,h2,h3,hPQ l h4⟩
theorem IZ.ev {d d' b P} (h:IZ d b P) (h1:Ev (d.files (b+1)) (d'.files (b+1))) (h2:Ev (d.files b) (d'.files b)):IZ d' b P :=
 (h1.fut h).mono λs v ⟨l,e1,e2,e3,e4⟩=>⟨l,e1,h2.pre e2,e3,e4⟩
theorem Live.frame {d d' j} (h:Live d j) (hf:d'.files=d.files):Live d' j:=⟨h.base,h.file,h.bytes,h.most,by rw [hf];exact h.now,by rw [hf];exact h.last,h.enc,by rw [hf];exact h.log⟩
theorem aLh (b):IZ nK b λl=>l=[]:=mG (s:=0) (v:=[]) (.inl ⟨rfl,rfl,rfl⟩) (.inl ⟨rfl,rfl,rfl⟩) ⟨[],.inl ⟨rfl,rfl⟩,(show Pre (aO []) (nK.files b) from λi x h=>by simp [aO] at h),by decide,rfl⟩
theorem aHr {B f} (h:Pre B f):f.now.take B.length=B:=a6W rfl λi hi=>by
 rw [List.getElem?_eq_getElem hi]
 exact (h i _ (List.getElem?_eq_getElem hi)).1
structure aVe (d:gZ) (b:Int) (P:List ByteArray->Prop) (r:gZ × Option sE × Int):Prop where
 w:EZ r.1
 other:∀ G,Ev (d.files G) (r.1.files G)\/(G=b\/G=b+1)
 BG:OB d->OB r.1/\r.2.2=0
 or:(∃ j,r.2.1=some j/\r.2.2=0/\Live r.1 j/\P j.list/\j.base=b/\j.broken=false)\/(r.2.1=none/\(r.2.2=9\/r.2.2=10)/\IZ r.1 b P)
theorem TP {d b P} (hb:0<=b/\b<=14) (hw:EZ d) (h:IZ d b P):aVe d b P (qK d b):=by
 have hb1:0<=b/\b<16:=by omega
 have hb2:0<=b+1/\b+1<16:=by omega
 unfold qK
 rw [if_neg (by omega)]
 obtain ⟨a1,a2,a3,a4⟩:=yC (d:=d) (F:=b) hb1 hw
 obtain ⟨⟨d1,e1⟩,h1⟩:∃ x,bM d b=x:=⟨_,rfl⟩
 rw [h1] at a1 a2 a3 a4 ⊢
 simp only at a1 a2 a3 a4 ⊢
 by_cases D1:e1≠0
 .rw [if_pos D1]
  rcases a4 with ⟨h',_⟩|⟨h',h2⟩
  .exact absurd h' D1
  .refine ⟨a1,λG=>?_,λh=>absurd (a3 h).2 D1,.inr ⟨rfl,h',h.ev (a2 _ (by omega)) h2⟩⟩
   by_cases hG:G=b
   .exact .inr (.inl hG)
   .exact .inl (a2 G hG)
 rw [if_neg D1]
 have D1:e1=0:=Decidable.not_not.1 D1
 have f1:d1.files b=⟨(d.files b).now,(d.files b).now⟩:=by
  rcases a4 with ⟨_,_,h⟩|⟨h,_⟩
  .exact h
  .rw [D1] at h;omega
 have j1:IZ d1 b P:=((a2 (b+1) (by omega)).fut h).mono λs v ⟨l,g1,g2,g3,g4⟩=>⟨l,g1,λi x hx=>by rw [f1];exact ⟨(g2 i x hx).1,(g2 i x hx).1⟩,g3,g4⟩
 obtain ⟨c1,c2,c3,c4⟩:=yC (d:=d1) (F:=b+1) hb2 a1
 obtain ⟨⟨d2,e2⟩,h2⟩:∃ x,bM d1 (b+1)=x:=⟨_,rfl⟩
 rw [h2] at c1 c2 c3 c4 ⊢
 simp only at c1 c2 c3 c4 ⊢
 have oth:∀ G,Ev (d.files G) (d2.files G)\/(G=b\/G=b+1):=λG=>by
  by_cases hG:G=b
  .exact .inr (.inl hG)
  .by_cases hG2:G=b+1
   .exact .inr (.inr hG2)
   .exact .inl ((a2 G hG).trans (c2 G hG2))
 by_cases V1:e2≠0
 .rw [if_pos V1]
  rcases c4 with ⟨h',_⟩|⟨h',h2⟩
  .exact absurd h' V1
  .exact ⟨c1,oth,λh=>absurd (c3 (a3 h).1).2 V1,.inr ⟨rfl,h',j1.ev h2 (c2 _ (by omega))⟩⟩
 rw [if_neg V1]
 have V1:e2=0:=Decidable.not_not.1 V1
 obtain ⟨hdn,f2⟩:d2.down=false/\d2.files (b+1)=⟨(d1.files (b+1)).now,(d1.files (b+1)).now⟩:=by
  rcases c4 with ⟨_,h1,h2⟩|⟨h,_⟩
  .exact ⟨h1,h2⟩
  .rw [V1] at h;omega
 obtain ⟨⟨s,v,k1,l,k2,k3,k4,k5⟩,_⟩:=j1
 have kb:=c2 b (by omega)
 have k3:=kb.pre k3
 have k6:fH (d2.files (b+1)).now s v:=by rw [f2];exact k1
 have k7:fH (d2.files (b+1)).last s v:=by rw [f2];exact k1
 have ho:=a6X hdn hb2 k6
 have hl2:l.length<=(aO l).length:=by
  have:=x7 (l:=l) λx hx=>Nat.le_trans (jS hx) (by omega)
  omega
 have hn:qJ ⟨b+1,s,v,false⟩=(((aO l).length:Int),(l.length:Int),true):=by
  rcases k2 with ⟨hs,hl⟩|⟨hs,hv⟩
  .subst hl
   unfold qJ
   rw [if_pos hs]
   rfl
  .exact aHp hs hv (by omega) (by omega)
 have hr:dA d2 b 0 ((aO l).length:Nat)=(aO l,0):=by
  rw [ZV hdn hb1 (Int.le_refl 0) (by omega)]
  simp only [Int.toNat_natCast]
  rw [show (0:Int).toNat=0 from rfl,List.drop_zero,aHr k3]
 have hj:IY d2 b=(some ⟨b,⟨b+1,s,v,false⟩,l,(aO l).length,false⟩,0):=by
  unfold IY
  rw [ho]
  simp only
  unfold a4s
  rw [hn]
  simp only
  rw [hr]
  simp only
  rw [if_neg (by simp),if_neg (by simp),aDE (by omega)]
  simp only
  rw [if_neg (by simp)]
  rfl
 rw [hj]
 exact ⟨c1,oth,λh=>⟨(c3 (a3 h).1).1,rfl⟩,.inl ⟨_,rfl,rfl,⟨hb,rfl,rfl,k4,k6,k7,k2,k3⟩,k5,rfl,rfl⟩⟩
structure ZW (d:gZ) (j:sE) (want:List ByteArray) (r:gZ × sE × Int):Prop where
 w:EZ r.1
 other:∀ G,Ev (d.files G) (r.1.files G)\/(G=j.base\/G=j.base+1)
 BG:OB d->OB r.1/\r.2.2=0
 base:r.2.1.base=j.base
 or:(r.2.2=0/\r.2.1.broken=false/\r.2.1.list=want/\Live r.1 r.2.1)\/((r.2.2=9\/r.2.2=10)/\r.2.1.broken=true/\r.2.1.list=j.list/\IZ r.1 j.base λl=>l=j.list\/l=want)
theorem a61 {d j want} (h:Live d j) (hw:EZ d) (pX:Pre (aO want) (d.files j.base)) (aBV:(aO want).length<=1048576):
  ZW d j want (IX j want (aO want).length (sM d j (aO want).length want.length)):=by
 have hbs:=h.base
 have hwl:want.length<=(aO want).length:=by
  have:=x7 (l:=want) λx hx=>Nat.le_trans (jS hx) (by omega)
  omega
 have hS:=a6Z (d:=d) (c:=j.cell) (s:=NR (aO want).length want.length) (by rw [h.file];omega) hw (by have:=aHq (b:=(aO want).length) (n:=want.length) (by omega) (by omega);omega) (by rw [h.file];exact h.now) (by rw [h.file];exact h.last)
 obtain ⟨⟨d1,c1,e1⟩,hx⟩:∃ x,wY d j.cell (NR (aO want).length want.length)=x:=⟨_,rfl⟩
 have hn:sM d j (aO want).length want.length=(d1,{ j with cell:=c1,broken:=decide (e1≠0) },e1):=by unfold sM;rw [hx]
 rw [hx] at hS
 rw [hn]
 have J0:c1.file=j.base+1:=by have:=hS.file;rw [h.file] at this;exact this
 have oth:∀ G,Ev (d.files G) (d1.files G)\/(G=j.base\/G=j.base+1):=λG=>by
  by_cases hG:G=j.base+1
  .exact .inr (.inr hG)
  .exact .inl (hS.other G (by rw [h.file];exact hG))
 have evb:Ev (d.files j.base) (d1.files j.base):=hS.other _ (by rw [h.file];omega)
 have RA:((if j.cell.slot=1 then 2 else 1):Nat)≠0:=by split<;>decide
 unfold IX
 simp only
 by_cases he:e1≠0
 .rw [if_pos he]
  obtain ⟨h1,h2⟩:=hS.bad he
  refine ⟨hS.w,oth,λhh=>absurd (hS.BG hh).2 he,rfl,.inr ⟨h1,by simpa using he,rfl,?_⟩⟩
  rw [h.file] at h2
  refine Fut.mono h2 λs v hv=>?_
  rcases hv with ⟨rfl,rfl⟩|⟨rfl,rfl⟩
  .exact ⟨j.list,h.enc,evb.pre h.log,h.most,.inl rfl⟩
  .exact ⟨want,.inr ⟨RA,rfl⟩,evb.pre pX,aBV,.inr rfl⟩
 .rw [if_neg he]
  have he:e1=0:=Decidable.not_not.1 he
  obtain ⟨h1,h2,X,h3,h4⟩:=hS.ok he
  have h1:c1.slot=if j.cell.slot=1 then 2 else 1:=h1
  have h2:c1.value=NR (aO want).length want.length:=h2
  rw [h.file] at h3
  rw [<-h1,<-h2] at h4
  refine ⟨hS.w,oth,λhh=>⟨(hS.BG hh).1,rfl⟩,rfl,.inl ⟨rfl,by rw [he];rfl,rfl,⟨hbs,J0,rfl,aBV,?_,?_,.inr ⟨by rw [h1];exact RA,h2⟩,evb.pre pX⟩⟩⟩
  .show fH (d1.files (j.base+1)).now c1.slot c1.value
   rw [h3];exact h4
  .show fH (d1.files (j.base+1)).last c1.slot c1.value
   rw [h3];exact h4
theorem ZW.from {d d' j want r} (h:ZW d' j want r) (ho:∀ G,G≠j.base->Ev (d.files G) (d'.files G)) (hf:OB d->OB d'):ZW d j want r :=
 ⟨h.w,λG=>by
  by_cases hG:G=j.base
  .exact .inr (.inl hG)
  .rcases h.other G with h1|h1
   .exact .inl ((ho G hG).trans h1)
   .exact .inr h1,λhh=>h.BG (hf hh),h.base,h.or⟩
theorem a9O {d j l} (h:Live d j) (hb:j.broken=false) (hw:EZ d) (hl:l≠[]) (aBV:j.bytes+(aO l).length<=1048576):ZW d j (j.list++l) (dU d j l):=by
 have hbs:=h.base
 have hby:=h.bytes
 have hF:0<=j.base/\j.base<16:=by omega
 unfold dU
 rw [if_neg (by rw [hb];simp),if_neg hl,if_neg (by omega)]
 have hfa:(aO (j.list++l)).length=j.bytes+(aO l).length:=by rw [mI,List.length_append,hby]
 obtain ⟨a1,a2,a3,_,a5⟩:=TO (d:=d) (F:=j.base) (a:=(j.bytes:Int)) (s:=aO l) hF (by omega) (by omega) hw
 rw [Int.toNat_natCast] at a5
 unfold L6
 obtain ⟨⟨d1,e1⟩,h1⟩:∃ x,bW d j.base j.bytes (aO l)=x:=⟨_,rfl⟩
 rw [h1] at a1 a2 a3 a5 ⊢
 simp only at a1 a2 a3 a5 ⊢
 have aPD:∀ X:Bs,(∀ i x,(aO j.list)[i]? = some x->X[i]? = some x)->∀ i x,(aO j.list)[i]? = some x->(iK X j.bytes (aO l))[i]? = some x:=λX hX i x hx=>by
  have hi:i<j.bytes:=by rw [hby];exact (List.getElem?_eq_some_iff.1 hx).1
  have h2:=hX i x hx
  have h3:i<X.length:=(List.getElem?_eq_some_iff.1 h2).1
  by_cases h0:aO l=[]
  .rw [h0,QV];exact h2
  .rw [IQ h0 hi,if_pos h3];exact h2
 have pw:Pre (aO j.list) ⟨iK (d.files j.base).now j.bytes (aO l),(d.files j.base).last⟩:=λi x hx=>⟨aPD _ (λi x hx=>(h.log i x hx).1) i x hx,(h.log i x hx).2⟩
 have aHs:∀ {d':gZ},Ev (d.files (j.base+1)) (d'.files (j.base+1))->Pre (aO j.list) (d'.files j.base)->IZ d' j.base λx=>x=j.list\/x=j.list++l:=λhev hp =>
  (hev.fut (mG h.now h.last (P:=λs v=>s=j.cell.slot/\v=j.cell.value) ⟨rfl,rfl⟩)).mono λs v hv=>⟨j.list,by rw [hv.1,hv.2];exact h.enc,hp,h.most,.inl rfl⟩
 by_cases D1:e1=0
 .rw [if_pos D1]
  have f1:d1.files j.base=⟨iK (d.files j.base).now j.bytes (aO l),(d.files j.base).last⟩:=by
   rcases a5 with ⟨_,h⟩|⟨h,_⟩
   .exact h
   .rw [D1] at h;cases h
  obtain ⟨c1,c2,c3,c4⟩:=yC (d:=d1) (F:=j.base) hF a1
  obtain ⟨⟨d2,e2⟩,h2⟩:∃ x,bM d1 j.base=x:=⟨_,rfl⟩
  rw [h2] at c1 c2 c3 c4 ⊢
  simp only at c1 c2 c3 c4 ⊢
  rw [f1] at c4
  by_cases V1:e2≠0
  .rw [if_pos V1]
   rcases c4 with ⟨h',_⟩|⟨h',hev⟩
   .exact absurd h' V1
   .refine ⟨c1,λG=>?_,λhh=>absurd (c3 (a3 hh).1).2 V1,rfl,.inr ⟨h',rfl,rfl,aHs ((a2 _ (by omega)).trans (c2 _ (by omega))) (hev.pre pw)⟩⟩
    by_cases hG:G=j.base
    .exact .inr (.inl hG)
    .exact .inl ((a2 G hG).trans (c2 G hG))
  rw [if_neg V1]
  have V1:e2=0:=Decidable.not_not.1 V1
  have f2:d2.files j.base=⟨iK (d.files j.base).now j.bytes (aO l),iK (d.files j.base).now j.bytes (aO l)⟩:=by
   rcases c4 with ⟨_,_,h⟩|⟨h,_⟩
   .exact h
   .rw [V1] at h;omega
  have evc:Ev (d.files (j.base+1)) (d2.files (j.base+1)):=(a2 _ (by omega)).trans (c2 _ (by omega))
  have IV:=h.now
  have both:fH (d2.files (j.base+1)).now j.cell.slot j.cell.value/\fH (d2.files (j.base+1)).last j.cell.slot j.cell.value:=by
   have:∀ {f g:vT},Ev f g->fH f.now j.cell.slot j.cell.value->fH f.last j.cell.slot j.cell.value->fH g.now j.cell.slot j.cell.value/\fH g.last j.cell.slot j.cell.value:=λhev h1 h2=>by
    induction hev with
    | refl=>exact ⟨h1,h2⟩
    | step _ hs ih=>exact ⟨QY ih.1 ih.2 hs,QY ih.1 ih.2 hs⟩
   exact this evc h.now h.last
  have lg:Pre (aO (j.list++l)) (d2.files j.base):=λi x hx=>by
   rw [f2]
   have key:(iK (d.files j.base).now j.bytes (aO l))[i]? = some x:=by
    rw [mI] at hx
    by_cases hi:i<(aO j.list).length
    .rw [List.getElem?_append_left hi] at hx
     exact aPD _ (λi x hx=>(h.log i x hx).1) i x hx
    .rw [List.getElem?_append_right (by omega)] at hx
     have hi2:i - (aO j.list).length<(aO l).length:=(List.getElem?_eq_some_iff.1 hx).1
     have h0:aO l≠[]:=λe=>by rw [e] at hi2;cases hi2
     rw [IU h0 (by omega) (by omega),hby]
     exact hx
   exact ⟨key,key⟩
  have aVf:Live d2 j:=⟨h.base,h.file,h.bytes,h.most,both.1,both.2,h.enc,λi x hx=>by
   rw [f2]
   have:=aPD _ (λi x hx=>(h.log i x hx).1) i x hx
   exact ⟨this,this⟩⟩
  have hN:=a61 aVf c1 lg (by omega)
  rw [hfa,List.length_append] at hN
  exact hN.from (λG hG=>(a2 G hG).trans (c2 G hG)) λhh=>(c3 (a3 hh).1).1
 .rw [if_neg D1]
  simp only
  rw [if_pos D1]
  rcases a5 with ⟨h',_⟩|⟨h',hev⟩
  .exact absurd h' D1
  .refine ⟨a1,λG=>?_,λhh=>absurd (a3 hh).2 D1,rfl,.inr ⟨.inl h',rfl,rfl,aHs (a2 _ (by omega)) ?_⟩⟩
   .by_cases hG:G=j.base
    .exact .inr (.inl hG)
    .exact .inl (a2 G hG)
   .rcases hev with hev|hev
    .exact hev.pre h.log
    .exact hev.pre pw
theorem aLi {A B f} (h:Pre (A++B) f):Pre A f:=λi x hx=>h i x (by rw [List.getElem?_append_left (List.getElem?_eq_some_iff.1 hx).1];exact hx)
theorem aLj {d j n} (h:Live d j) (hb:j.broken=false) (hw:EZ d) (hn:n<j.list.length):ZW d j (j.list.take n) (j4 d j n):=by
 have e:aO j.list=aO (j.list.take n)++aO (j.list.drop n):=by rw [<-mI,List.take_append_drop]
 have hm:=h.most
 rw [e,List.length_append] at hm
 have hp:Pre (aO (j.list.take n)) (d.files j.base):=aLi (B:=aO (j.list.drop n)) (by rw [<-e];exact h.log)
 unfold j4
 rw [if_neg (by rw [hb];simp),if_neg (by omega),if_neg (by omega),Int.toNat_natCast]
 have hN:=a61 h hw hp (by omega)
 rw [List.length_take,Nat.min_eq_left (by omega)] at hN
 exact hN
structure NS where
 src:Int
 to:Int
 body:ByteArray
structure L7 where
 aM:List NS
 split:Int
def CQ (a:Int):Bool:=decide (0<=a)&&decide (a<16)
def aDF (s a:Int):Int:=s / 2 ^ a.toNat % 2
def yE (s a b:Int):Bool:=CQ a&&(CQ b&&decide (aDF s a=aDF s b))
def wC (n:L7) (a b:Int) (body:ByteArray):L7 × Int :=
 if (CQ a&&(CQ b&&decide (a≠b)))=false then (n,1) else if yE n.split a b=false then (n,10) else if 500<=n.aM.length then (n,6) else ({ n with aM:=n.aM++[⟨a,b,body⟩] },0)
def takeN (n:L7) (i:Nat):L7:={ n with aM:=n.aM.eraseIdx i }
def CR (t v:Int):Bs:=(oO t).data.toList++(oO v).data.toList
def b0l:bQ:=⟨0,.empty⟩
def mX (s:ByteArray):bQ:=(VF s.data.toList).getD b0l
def gX (x:bQ):ByteArray:=bs (vS x)
def kU (c:IM):Int × Int:=if c.slot=0 then (0,-1) else ((eH (c.value,false)).1,(eH (eH (c.value,false)).2).1)
structure WN where
 j:sE
 c:IM
 r:dX
structure RC where
 d:gZ
 up:Option WN
def ZX (id:Nat) (d:gZ) (j:sE):gZ × Option WN × Int:=match uW d 2 with
 | (none,e)=>(d,none,e)
 | (some c,_)=>(d,some ⟨j,c,dR id (kU c).1 (kU c).2 (j.list.map mX)⟩,0)
def ZY (id:Nat) (d:gZ):gZ × Option WN × Int:=match qK d 0 with
 | (d1,none,e)=>(d1,none,e)
 | (d1,some j,_)=>ZX id d1 j
def bZ (id:Nat) (d:gZ):gZ × Option WN × Int :=
 if (bM d 2).2≠0 then ((bM d 2).1,none,(bM d 2).2) else ZY id (bM d 2).1
def qL (d:gZ) (u:WN) (o:lT):gZ × IM × Int:=if o.save=true then wY d u.c (CR o.term o.aQ) else (d,u.c,0)
def sO (d:gZ) (u:WN) (o:lT):gZ × sE × Int :=
 if 0<o.src then
  let b:=j4 d u.j (min (o.src - 1) (u.j.list.length:Int))
  if b.2.2≠0 then b else dU b.1 b.2.1 (o.aF.map gX)
 else (d,u.j,0)
def cY (d:gZ) (u:WN) (o:lT):gZ × WN × Int :=
 let a:=qL d u o
 if a.2.2≠0 then (a.1,{ u with c:=a.2.1 },a.2.2) else
 let b:=sO a.1 u o
 (b.1,{ u with c:=a.2.1,j:=b.2.1 },b.2.2)
structure gP where
 mem:Nat->RC
 eX:L7
 fV:List ByteArray
def iE (G:gP) (i:Nat):gP:=match (G.mem i).up with
 | none=>G
 | some u=>if G.fV.length<u.r.aE then { G with fV:=(u.r.log.take u.r.aE).map bQ.data } else G
def iX (G:gP):gP:=iE (iE (iE G 0) 1) 2
def cV (G:gP) (i:Nat) (m:RC):gP:={ G with mem:=put G.mem i m }
def lV (id:Nat) (n:L7) (l:List bR):L7:=l.foldl (λn m=>(wC n id m.to (bs (rZ m))).1) n
def doG (G:gP) (i:Nat) (u:WN) (x:dX × lT):gP × Int :=
 let s:=cY (G.mem i).d { u with r:=x.1 } x.2
 if s.2.2=0 then
  let G1:=cV G i ⟨s.1,some s.2.1⟩
  (iX { G1 with eX:=lV i G1.eX x.2.send },0)
 else (iX (cV G i ⟨s.1,none⟩),s.2.2)
def upG (G:gP) (id:Int):Int:=if id<0\/3<=id then 1 else if (G.mem id.toNat).up.isNone=true then 9 else 0
def CS (G:gP) (id:Int) (f:dX->dX × lT):gP × Int :=
 if id<0\/3<=id then (G,1) else match (G.mem id.toNat).up with
 | none=>(G,9)
 | some u=>doG G id.toNat u (f u.r)
def yF (G:gP) (id:Int):gP × Int:=CS G id eG
def dN (G:gP) (id:Int) (data:ByteArray):gP × Int × Int :=
 if id<0\/3<=id then (G,0,1) else match (G.mem id.toNat).up with
 | none=>(G,0,9)
 | some u =>
  let p:=aK u.r data
  if p.2.2.1≠0 then (G,0,p.2.2.1) else
  let x:=doG G id.toNat u (p.1,p.2.2.2)
  if x.2≠0 then (x.1,0,x.2) else (x.1,p.2.1,0)
def gF (G:gP) (i:Int):gP × Int :=
 if i<0 then (G,4) else match G.eX.aM[i.toNat]? with
 | none=>(G,4)
 | some p =>
  let G1:={ G with eX:=takeN G.eX i.toNat }
  if yE G.eX.split p.src p.to=false then (G1,10) else CS G1 p.to λr=>cX r ((AD p.body.data.toList).getD VE)
def F0 (G:gP) (i:Int):gP × Int:=if i<0\/(G.eX.aM.length:Int)<=i then (G,4) else ({ G with eX:=takeN G.eX i.toNat },0)
def pP (G:gP) (i:Int):gP × Int :=
 if i<0 then (G,4) else match G.eX.aM[i.toNat]? with
 | none=>(G,4)
 | some p=>if 500<=G.eX.aM.length then (G,6) else ({ G with eX:={ G.eX with aM:=G.eX.aM++[p] } },0)
def TQ (G:gP) (mask:Int):gP:={ G with eX:={ G.eX with split:=mask % 65536 } }
def a2H (G:gP):gP:={ G with eX:={ G.eX with split:=0 } }
def E9 (G:gP) (id:Int) (keep:List Int):gP × Int:=if id<0\/3<=id then (G,1) else (iX (cV G id.toNat ⟨cQ (G.mem id.toNat).d keep,none⟩),0)
def BH (G:gP) (id:Int):gP × Int :=
 if id<0\/3<=id then (G,1) else match (G.mem id.toNat).up with
 | some _=>(iX G,7)
 | none =>
  let r:=bZ id.toNat (eA (G.mem id.toNat).d)
  (iX (cV G id.toNat ⟨r.1,r.2.1⟩),r.2.2)
def RD (G:gP) (id n:Int):gP × Int:=if id<0\/3<=id then (G,1) else (iX (cV G id.toNat { G.mem id.toNat with d:=nL (G.mem id.toNat).d n }),0)
def a4t (G:gP) (id n:Int) (keep:List Int):gP × Int:=if id<0\/3<=id then (G,1) else (iX (cV G id.toNat { G.mem id.toNat with d:=vU (G.mem id.toNat).d n keep }),0)
def yG:Nat->gP->gP × Nat
 | 0,G=>(G,0)
 | k+1,G=>if G.eX.aM=[] then (G,0) else
  let x:=yG k (gF G 0).1
  (x.1,x.2+1)
def cE (G:gP) (id most:Int):gP × Nat:=yG most.toNat (yF G id).1
def yH (G:gP) (id:Int):Int:=if id<0\/3<=id then -1 else match (G.mem id.toNat).up with
 | none => -1
 | some u=>u.r.role
def wD (G:gP) (id:Int):Int:=if id<0\/3<=id then 0 else match (G.mem id.toNat).up with
 | none=>0
 | some u=>u.r.term
def aVg (G:gP) (id:Int):List bQ:=if id<0\/3<=id then [] else match (G.mem id.toNat).up with
 | none=>[]
 | some u=>u.r.log
def LY (d:gZ):gZ:=eA (cQ (vU (nL d 0) 0 []) [])
def mS (d:gZ):List bQ:=match (qK (LY d) 0).2.1 with
 | none=>[]
 | some j=>j.list.map mX
def wZ (G:gP) (id:Int):List bQ:=if id<0\/3<=id then [] else mS (G.mem id.toNat).d
def CT (i:Nat):RC:=⟨(bZ i nK).1,(bZ i nK).2.1⟩
def J1:gP:=⟨CT,⟨[],0⟩,[]⟩
end Go.Proofs.YtnlkemjhgdbfkaaGreatDoor
end

section
namespace Go.Vc
structure aVh where
 key:Int × ByteArray
 val:Int
 born:Nat
abbrev aLk (k:Int × ByteArray):Value:=.agg #[.int .i64 k.1,.string k.2]
def aVh.m (e:aVh):MapEntry:=⟨aLk e.key,.int .i64 e.val,e.born⟩
structure aVi (P:Program) (t k e:TypeId):Prop where
 map:P.underlying t=some (.map k e)
 str:∃ fs,P.underlying k=some (.struct fs)
 chk:∀ b x w,(Instr.checkKey b 10000 k (aLk x)).run P w=.ok () w
 eq:∀ x y w,(Op.equal k (aLk x) (aLk y)).run P w=.ok (decide (x=y)) w
 zero:∀ w,(zeroValue e).run P w=.ok (.int .i64 0) w
section
variable {P:Program} {t k e:TypeId} (T:aVi P t k e)
include T
omit T
theorem pH {α β:Type} {f:α->β}:∀ {l:List α},l.Pairwise (λa b=>f a≠f b)->∀ {a b:α},a∈l->b∈l->f a=f b->a=b
 | [],_,_,_,ha,_,_=>by cases ha
 | x :: l,h,a,b,ha,hb,e=>by
  obtain ⟨h1,h2⟩:=List.pairwise_cons.1 h
  rcases List.mem_cons.1 ha with ea|ha
  .rcases List.mem_cons.1 hb with eb|hb
   .rw [ea,eb]
   .exact absurd (by rw [<-ea];exact e) (h1 b hb)
  .rcases List.mem_cons.1 hb with eb|hb
   .exact absurd (by rw [<-eb];exact e.symm) (h1 a ha)
   .exact pH h2 ha hb e
theorem ZZ {α:Type} {p}:∀ {l:List α} {a:α},a∈l->p a=true->(∀ c∈l,p c=true->c=a)->∃ n,l.findIdx? p=some n/\l[n]? = some a
 | [],_,h,_,_=>by cases h
 | x :: l,a,h,hp,hu=>by
  rw [List.findIdx?_cons]
  by_cases hx:p x=true
  .rw [if_pos hx]
   exact ⟨0,rfl,by rw [hu x (by simp) hx];rfl⟩
  .rw [if_neg hx]
   rcases List.mem_cons.1 h with rfl|h
   .exact absurd hp hx
   .obtain ⟨n,h1,h2⟩:=ZZ h hp λc hc=>hu c (by simp [hc])
    exact ⟨n+1,by rw [h1];rfl,by simpa using h2⟩
include T
end
section
variable {P:Program} {W w:World} {Q R G:List Own} {Φ Ψ:PW} {f:FuncId} {args:Array Value}
end
variable {κ ν:Type} [DecidableEq κ] {kv:κ->Value} {vv:ν->Value} {z:ν}
structure bT (κ ν:Type) where
 key:κ
 val:ν
 born:Nat
def bT.m (kv:κ->Value) (vv:ν->Value) (e:bT κ ν):MapEntry:=⟨kv e.key,vv e.val,e.born⟩
def bK (kv:κ->Value) (vv:ν->Value) (es:List (bT κ ν)) (clock:Nat):Obj:=.map (es.map (bT.m kv vv)).toArray clock
def gQ (z:ν):List (bT κ ν)->κ->ν
 | [],_=>z
 | e :: es,k=>if k=e.key then e.val else gQ z es k
def yI (vv:ν->Value):List (bT κ ν)->κ->Nat->Option (Nat × Value)
 | [],_,_=>none
 | e :: es,k,i=>if k=e.key then some (i,vv e.val) else yI vv es k (i+1)
structure GOk (es:List (bT κ ν)) (clock:Nat):Prop where
 keys:es.Pairwise λa b=>a.key≠b.key
 sQ:es.Pairwise λa b=>a.born≠b.born
 lt:∀ e∈es,e.born<clock
structure GTy (P:Program) (t k e:TypeId) (kv:κ->Value) (vv:ν->Value) (z:ν):Prop where
 map:P.underlying t=some (.map k e)
 find:∀ (x:κ) (es:List (bT κ ν)) w,(Instr.findKey k (kv x) (es.map (bT.m kv vv))).run P w=.ok (yI vv es x 0) w
 chk:∀ b x w,(Instr.checkKey b 10000 k (kv x)).run P w=.ok () w
 stays:∀ x w,(Instr.keyThatStays (kv x) (kv x)).run P w=.ok (kv x) w
 zero:∀ w,(zeroValue e).run P w=.ok (vv z) w
theorem tO:∀ {es:List (bT κ ν)} {k:κ} {i:Nat},yI vv es k i=none->∀ e∈es,e.key≠k
 | [],_,_,_,e,he=>by cases he
 | x :: es,k,i,h,e,he=>by
  unfold yI at h
  split at h
  .cases h
  .rename_i hk
   rcases List.mem_cons.1 he with rfl|he
   .exact λe=>hk e.symm
   .exact tO h e he
theorem qM:∀ {es:List (bT κ ν)} {k:κ},(∀ e∈es,e.key≠k)->gQ z es k=z
 | [],_,_=>rfl
 | x :: es,k,h=>by
  unfold gQ
  rw [if_neg λe=>h x (by simp) e.symm]
  exact qM λe he=>h e (by simp [he])
theorem tP:∀ {es:List (bT κ ν)} {k:κ} {i j:Nat} {v:Value},yI vv es k i=some (j,v)->∃ n e,j=i+n/\es[n]? = some e/\e.key=k/\v=vv e.val/\gQ z es k=e.val
 | [],_,_,_,_,h=>by cases h
 | x :: es,k,i,j,v,h=>by
  unfold yI at h
  split at h
  .rename_i hk
   cases h
   exact ⟨0,x,rfl,rfl,hk.symm,rfl,by unfold gQ;rw [if_pos hk]⟩
  .rename_i hk
   obtain ⟨n,e,h1,h2,h3,h4,h5⟩:=tP h
   exact ⟨n+1,e,by omega,by simpa using h2,h3,h4,by unfold gQ;rw [if_neg hk];exact h5⟩
section
variable {P:Program} {t k e:TypeId} (T:GTy P t k e kv vv z)
include T
theorem uX {w b es clock} (hb:w.heap[b]? = some (bK kv vv es clock)) (x):
  Sem.run P (Instr.lookup t (.map (some b)) (kv x) false) w=.ok (vv (gQ z es x)) w:=by
 have h1:=T.find x es w
 unfold bK at hb
 unfold Instr.lookup
 simp only [Sem.run_bind,run_underlying T.map,MapKept.run_getObj_map hb,Result.andThen,T.chk,Sem.run_pure,h1]
 cases hf:yI vv es x 0 with
 | none=>simp only [Sem.run_bind,T.zero,Result.andThen,Sem.run_pure,qM (tO hf)];rfl
 | some r =>
  obtain ⟨j,v⟩:=r
  obtain ⟨n,e',_,_,_,hv,hg⟩:=tP (z:=z) hf
  simp only [Sem.run_pure,Result.andThen]
  rw [hg,hv];rfl
theorem a9Q {w b es clock} (ok:GOk es clock) (hb:w.heap[b]? = some (bK kv vv es clock)) (x):
  ∃ fM a0a s,Sem.run P (Instr.mapEntry t (.map (some b)) (kv x)) w=.ok (.tuple #[vv (gQ z es x),.int .i64 (s:Nat)]) (DC w b (bK kv vv fM a0a))/\GOk fM a0a/\(∀ y,gQ z fM y=gQ z es y)/\∃ a∈fM,a.key=x/\a.born=s:=by
 have h1:=T.find x es w
 unfold bK at hb
 cases hf:yI vv es x 0 with
 | none =>
  have hn:=tO hf
  refine ⟨es++[⟨x,z,clock⟩],clock+1,clock,?_,⟨?_,?_,?_⟩,λy=>?_,⟨x,z,clock⟩,by simp,rfl,rfl⟩
  .have h3:=MapKept.run_setObj_map (P:=P) (.map ((es.map (bT.m kv vv)).toArray.push ⟨kv x,vv z,clock⟩) (clock+1)) hb
   unfold Instr.mapEntry
   rw [hf] at h1
   simp only [Sem.run_bind,run_underlying T.map,MapKept.run_getObj_map hb,Result.andThen,T.chk,Sem.run_pure,h1,T.zero,h3]
   rw [qM hn]
   congr 2
   unfold bK
   simp [bT.m]
  .exact List.pairwise_append.2 ⟨ok.keys,by simp,λa ha c hc=>by rw [List.mem_singleton.1 hc];exact hn a ha⟩
  .exact List.pairwise_append.2 ⟨ok.sQ,by simp,λa ha c hc=>by rw [List.mem_singleton.1 hc];exact Nat.ne_of_lt (ok.lt a ha)⟩
  .intro a ha
   rcases List.mem_append.1 ha with ha|ha
   .have:=ok.lt a ha;omega
   .rw [List.mem_singleton.1 ha];exact Nat.lt_succ_self _
  .clear hb h1 hf ok
   induction es with
   | nil=>simp [gQ]
   | cons a es ih =>
    rw [List.cons_append]
    unfold gQ
    split
    .rfl
    .exact ih λe he=>hn e (by simp [he])
 | some r =>
  obtain ⟨j,v⟩:=r
  obtain ⟨n,a,hj,ha,hk,hv,hg⟩:=tP (z:=z) hf
  have hj:j=n:=by omega
  subst hj
  refine ⟨es,clock,a.born,?_,ok,λ_=>rfl,a,List.mem_of_getElem? ha,hk,rfl⟩
  have ha2:(es.map (bT.m kv vv)).toArray[j]? = some (bT.m kv vv a):=by simp [ha]
  have h3:=MapKept.run_setObj_map (P:=P) (.map ((es.map (bT.m kv vv)).toArray.modify j λe=>{ e with key:=kv x }) clock) hb
  unfold Instr.mapEntry
  rw [hf] at h1
  simp only [Sem.run_bind,run_underlying T.map,MapKept.run_getObj_map hb,Result.andThen,T.chk,Sem.run_pure,h1,ha2,Option.map_some,Option.getD_some]
  rw [show (bT.m kv vv a).key=kv x by rw [<-hk];rfl,T.stays x w]
  simp only [h3]
  rw [hg,hv]
  congr 2
  unfold bK
  refine congrArg (λa=>w.heap.setIfInBounds b (Obj.map a clock)) ?_
  apply Array.ext
  .simp
  .intro i hi1 hi2
   rw [Array.getElem_modify]
   split
   .rename_i e
    subst e
    have:(es.map (bT.m kv vv)).toArray[j]=bT.m kv vv a:=by
     have:=Array.getElem?_eq_getElem (xs:=(es.map (bT.m kv vv)).toArray) hi2
     rw [ha2] at this
     exact (Option.some.inj this).symm
    rw [this,<-hk];rfl
   .rfl
omit T
theorem a62 {s v x}:∀ {es:List (bT κ ν)},(∀ a∈es,a.born=s ↔ a.key=x)->∀ y,gQ z (es.map λa=>if a.born=s then { a with val:=v } else a) y=if y=x/\∃ a∈es,a.key=x then v else gQ z es y
 | [],_,y=>by simp [gQ]
 | a :: es,h,y=>by
  have ih:=a62 (v:=v) (es:=es) (λa ha=>h a (by simp [ha])) y
  rw [List.map_cons]
  unfold gQ
  by_cases h1:a.born=s
  .have hk:=(h a (by simp)).1 h1
   rw [if_pos h1]
   simp only
   by_cases h2:y=a.key
   .rw [if_pos h2,if_pos ⟨h2.trans hk,a,by simp,hk⟩]
   .rw [if_neg h2,if_neg h2,ih,if_neg λe=>h2 (e.1.trans hk.symm),if_neg λe=>h2 (e.1.trans hk.symm)]
  .have hk:¬ a.key=x:=λe=>h1 ((h a (by simp)).2 e)
   rw [if_neg h1]
   by_cases h2:y=a.key
   .rw [if_pos h2,if_pos h2,if_neg λe=>hk (h2.symm.trans e.1)]
   .rw [if_neg h2,if_neg h2,ih]
    by_cases h3:y=x/\∃ c∈es,c.key=x
    .rw [if_pos h3]
     obtain ⟨h4,c,h5,h6⟩:=h3
     rw [if_pos ⟨h4,c,by simp [h5],h6⟩]
    .rw [if_neg h3,if_neg λe=>h3 ⟨e.1,by
      obtain ⟨c,h5,h6⟩:=e.2
      rcases List.mem_cons.1 h5 with rfl|h5
      .exact absurd h6 hk
      .exact ⟨c,h5,h6⟩⟩]
theorem a9R {w b es clock s x} (t) (ok:GOk es clock) (hx:∃ a∈es,a.key=x/\a.born=s) (hb:w.heap[b]? = some (bK kv vv es clock)) (v):
  ∃ fM,Sem.run P (Instr.entryStore t (.map (some b)) (.int .i64 (s:Nat)) (vv v)) w=.ok () (DC w b (bK kv vv fM clock))/\GOk fM clock/\∀ y,gQ z fM y=if y=x then v else gQ z es y:=by
 obtain ⟨a,ha,hk,hs⟩:=hx
 have hiff:∀ c∈es,c.born=s ↔ c.key=x:=λc hc=>⟨λh=>by rw [pH ok.sQ hc ha (h.trans hs.symm)];exact hk,λh=>by rw [pH ok.keys hc ha (h.trans hk.symm)];exact hs⟩
 refine ⟨es.map λa=>if a.born=s then { a with val:=v } else a,?_,⟨?_,?_,?_⟩,λy=>?_⟩
 .unfold bK at hb
  obtain ⟨n,h1,h2⟩:=ZZ (p:=λe:MapEntry=>(e.born:Int) == ((s:Nat):Int)) (l:=es.map (bT.m kv vv)) (a:=bT.m kv vv a) (List.mem_map.2 ⟨a,ha,rfl⟩) (by
    show ((a.born:Int) == _)=true
    rw [hs];simp) (λc hc hcb=>by
   obtain ⟨c',F5,rfl⟩:=List.mem_map.1 hc
   have:c'.born=s:=by
    have h:((c'.born:Int) == ((s:Nat):Int))=true:=hcb
    simp at h;omega
   rw [pH ok.sQ F5 ha (this.trans hs.symm)])
  have h3:=MapKept.run_setObj_map (P:=P) (.map ((es.map (bT.m kv vv)).toArray.modify n λe=>{ e with val:=vv v }) clock) hb
  have h0:(asIntOf (.int .i64 ((s:Nat):Int))).run P w=.ok (.i64,((s:Nat):Int)) w:=rfl
  unfold Instr.entryStore
  simp only [Sem.run_bind,MapKept.run_getObj_map hb,Result.andThen,Sem.run_pure,asInt]
  have h4:Array.findIdx? (λe:MapEntry=>(e.born:Int) == ((s:Nat):Int)) (es.map (bT.m kv vv)).toArray=some n:=by simpa using h1
  simp only [h0,h4,h3]
  congr 2
  unfold bK
  refine congrArg (λa=>w.heap.setIfInBounds b (Obj.map a clock)) ?_
  have h2':es[n]? = some a:=by
   rw [List.getElem?_map] at h2
   cases he:es[n]? with
   | none=>rw [he] at h2;cases h2
   | some c =>
    rw [he] at h2
    have hb2:c.born=a.born:=congrArg MapEntry.born (Option.some.inj h2)
    rw [pH ok.sQ (List.mem_of_getElem? he) ha hb2]
  apply Array.ext
  .simp
  .intro i hi1 hi2
   have hi3:i<es.length:=by simpa using hi1
   rw [Array.getElem_modify]
   simp only [List.getElem_toArray,List.getElem_map]
   split
   .rename_i e
    subst e
    have:es[n]=a:=by
     have:=List.getElem?_eq_getElem hi3
     rw [h2'] at this
     exact (Option.some.inj this).symm
    rw [this,if_pos hs];rfl
   .rename_i e
    rw [if_neg]
    intro hbi
    have hea:=pH ok.sQ (List.getElem_mem hi3) ha (hbi.trans hs.symm)
    have hn:n<es.length:=(List.getElem?_eq_some_iff.1 h2').1
    have hp:=ok.sQ
    rw [List.pairwise_iff_getElem] at hp
    have hna:es[n]=a:=(List.getElem?_eq_some_iff.1 h2').2
    rcases Nat.lt_or_gt_of_ne e with h|h
    .exact hp n i hn hi3 h (by rw [hna,hea])
    .exact hp i n hi3 hn h (by rw [hna,hea])
 .refine List.pairwise_map.2 (ok.keys.imp fun {a b} h=>?_)
  split<;>split<;>exact h
 .refine List.pairwise_map.2 (ok.sQ.imp fun {a b} h=>?_)
  split<;>split<;>exact h
 .intro c hc
  obtain ⟨c',F5,rfl⟩:=List.mem_map.1 hc
  have:=ok.lt c' F5
  split<;>exact this
 .rw [a62 hiff y]
  by_cases h:y=x
  .rw [if_pos ⟨h,a,ha,hk⟩,if_pos h]
  .rw [if_neg λe=>h e.1,if_neg h]
omit [DecidableEq κ] in
theorem a0b:∀ (es:List (bT κ ν)) (j:Nat),(es.map (bT.m kv vv)).eraseIdx j=(es.eraseIdx j).map (bT.m kv vv)
 | [],_=>rfl
 | _ :: _,0=>rfl
 | a :: es,j+1=>by
  rw [List.map_cons,List.eraseIdx_cons_succ,List.eraseIdx_cons_succ,List.map_cons,a0b es j]
theorem a0c {x}:∀ {es:List (bT κ ν)} {n:Nat} {a:bT κ ν},es.Pairwise (λa b=>a.key≠b.key)->es[n]? = some a->a.key=x->∀ y,gQ z (es.eraseIdx n) y=if y=x then z else gQ z es y
 | [],_,_,_,h,_,_=>by simp at h
 | c :: es,0,a,hp,h,hk,y=>by
  have:c=a:=by simpa using h
  subst this
  rw [List.eraseIdx_cons_zero]
  obtain ⟨h1,_⟩:=List.pairwise_cons.1 hp
  by_cases hy:y=x
  .rw [if_pos hy,hy]
   exact qM λe he h2=>h1 e he (hk.trans h2.symm)
  .rw [if_neg hy]
   unfold gQ
   rw [if_neg λe=>hy (e.trans hk)]
   cases es<;>rfl
 | c :: es,n+1,a,hp,h,hk,y=>by
  obtain ⟨h1,h2⟩:=List.pairwise_cons.1 hp
  have h':es[n]? = some a:=by simpa using h
  have ih:=a0c h2 h' hk y
  rw [List.eraseIdx_cons_succ]
  unfold gQ
  by_cases hy:y=c.key
  .rw [if_pos hy,if_pos hy,if_neg]
   intro e
   exact h1 a (List.mem_of_getElem? h') (hy.symm.trans (e.trans hk.symm))
  .rw [if_neg hy,if_neg hy]
   exact ih
include T
end
section
variable {P:Program} {t k e:TypeId} (T:GTy P t k e kv vv z)
omit [DecidableEq κ] in
theorem TR (n v):∀ (es:List (bT κ ν)),(es.modify n λa=>{ a with val:=v }).map bT.key=es.map bT.key:=λes=>by
 apply List.ext_getElem?
 intro i
 rw [List.getElem?_map,List.getElem?_map,List.getElem?_modify]
 cases es[i]? with
 | none=>rfl
 | some a=>by_cases h:n=i<;>simp [h]
omit [DecidableEq κ] in
theorem yJ (n v):∀ (es:List (bT κ ν)),(es.modify n λa=>{ a with val:=v }).map bT.born=es.map bT.born:=λes=>by
 apply List.ext_getElem?
 intro i
 rw [List.getElem?_map,List.getElem?_map,List.getElem?_modify]
 cases es[i]? with
 | none=>rfl
 | some a=>by_cases h:n=i<;>simp [h]
theorem a2I {x v b}:∀ {es:List (bT κ ν)},(∀ a∈es,a.key≠x)->∀ y,gQ z (es++[⟨x,v,b⟩]) y=if y=x then v else gQ z es y
 | [],_,y=>by simp [gQ]
 | a :: es,h,y=>by
  have ih:=a2I (v:=v) (b:=b) (es:=es) (λa ha=>h a (by simp [ha])) y
  rw [List.cons_append]
  unfold gQ
  by_cases h1:y=a.key
  .rw [if_pos h1,if_pos h1,if_neg λe=>h a (by simp) (h1.symm.trans e)]
  .rw [if_neg h1,if_neg h1,ih]
theorem a0d {x v}:∀ {es:List (bT κ ν)} {n:Nat} {a:bT κ ν},es.Pairwise (λa b=>a.key≠b.key)->es[n]? = some a->a.key=x->∀ y,gQ z (es.modify n λa=>{ a with val:=v }) y=if y=x then v else gQ z es y
 | [],_,_,_,h,_,_=>by simp at h
 | c :: es,0,a,hp,h,hk,y=>by
  have:c=a:=by simpa using h
  subst this
  rw [List.modify_zero_cons]
  unfold gQ
  by_cases hy:y=x
  .rw [if_pos (hy.trans hk.symm),if_pos hy]
  .rw [if_neg λe=>hy (e.trans hk),if_neg hy]
   cases es<;>simp [gQ,hk,hy]
 | c :: es,n+1,a,hp,h,hk,y=>by
  obtain ⟨h1,h2⟩:=List.pairwise_cons.1 hp
  have h':es[n]? = some a:=by simpa using h
  have ih:=a0d (v:=v) h2 h' hk y
  rw [List.modify_succ_cons]
  unfold gQ
  by_cases hy:y=c.key
  .rw [if_pos hy,if_pos hy,if_neg]
   intro e
   exact h1 a (List.mem_of_getElem? h') (hy.symm.trans (e.trans hk.symm))
  .rw [if_neg hy,if_neg hy]
   exact ih
include T
theorem J2 {w b es clock} (ok:GOk es clock) (hb:w.heap[b]? = some (bK kv vv es clock)) (x v):
  ∃ fM a0a,Sem.run P (Instr.mapUpdate t (.map (some b)) (kv x) (vv v)) w=.ok () (DC w b (bK kv vv fM a0a))/\GOk fM a0a/\∀ y,gQ z fM y=if y=x then v else gQ z es y:=by
 have h1:=T.find x es w
 unfold bK at hb
 cases hf:yI vv es x 0 with
 | none =>
  have hn:=tO hf
  refine ⟨es++[⟨x,v,clock⟩],clock+1,?_,⟨?_,?_,?_⟩,a2I hn⟩
  .have h3:=MapKept.run_setObj_map (P:=P) (.map ((es.map (bT.m kv vv)).toArray.push ⟨kv x,vv v,clock⟩) (clock+1)) hb
   unfold Instr.mapUpdate
   rw [hf] at h1
   simp only [Sem.run_bind,run_underlying T.map,MapKept.run_getObj_map hb,Result.andThen,T.chk,Sem.run_pure,h1,h3]
   unfold bK
   simp [bT.m]
   rfl
  .exact List.pairwise_append.2 ⟨ok.keys,by simp,λa ha c hc=>by rw [List.mem_singleton.1 hc];exact hn a ha⟩
  .exact List.pairwise_append.2 ⟨ok.sQ,by simp,λa ha c hc=>by rw [List.mem_singleton.1 hc];exact Nat.ne_of_lt (ok.lt a ha)⟩
  .intro a ha
   rcases List.mem_append.1 ha with ha|ha
   .have:=ok.lt a ha;omega
   .rw [List.mem_singleton.1 ha];exact Nat.lt_succ_self _
 | some r =>
  obtain ⟨j,u⟩:=r
  obtain ⟨n,a,hj,ha,hk,hv,hg⟩:=tP (z:=z) hf
  have hj:j=n:=by omega
  subst hj
  have ha2:(es.map (bT.m kv vv)).toArray[j]? = some (bT.m kv vv a):=by simp [ha]
  have h3:=MapKept.run_setObj_map (P:=P) (.map ((es.map (bT.m kv vv)).toArray.modify j λe=>{ e with key:=kv x,val:=vv v }) clock) hb
  refine ⟨es.modify j λa=>{ a with val:=v },clock,?_,⟨?_,?_,?_⟩,a0d ok.keys ha hk⟩
  .unfold Instr.mapUpdate
   rw [hf] at h1
   simp only [Sem.run_bind,run_underlying T.map,MapKept.run_getObj_map hb,Result.andThen,T.chk,Sem.run_pure,h1,ha2,Option.map_some,Option.getD_some]
   rw [show (bT.m kv vv a).key=kv x by rw [<-hk];rfl,T.stays x w]
   simp only [h3]
   congr 2
   unfold bK
   refine congrArg (λa=>w.heap.setIfInBounds b (Obj.map a clock)) ?_
   apply Array.ext'
   apply List.ext_getElem?
   intro i
   simp only [Array.toList_modify,List.getElem?_modify,List.getElem?_map]
   by_cases h:j=i
   .subst h
    rw [ha]
    simp [bT.m,hk]
   .simp [h]
  .have:=List.pairwise_map.2 ok.keys
   exact List.pairwise_map.1 (by rw [TR];exact List.pairwise_map.2 ok.keys)
  .exact List.pairwise_map.1 (by rw [yJ];exact List.pairwise_map.2 ok.sQ)
  .intro c hc
   have hm:c.born∈(es.modify j λa=>{ a with val:=v }).map bT.born:=List.mem_map.2 ⟨c,hc,rfl⟩
   rw [yJ] at hm
   obtain ⟨d,hd,he⟩:=List.mem_map.1 hm
   rw [<-he];exact ok.lt d hd
end
section
variable {P:Program} {t k e:TypeId}
theorem VH {kk} (x):∀ (es:List (bT Int ν)) (i:Nat),Instr.findNow (.int kk) (.int kk x) (es.map (bT.m (Value.int kk) vv)) i=some (yI vv es x i)
 | [],_=>rfl
 | a :: es,i=>by
  rw [List.map_cons]
  unfold Instr.findNow
  have e1:Instr.sameNow (.int kk) (.int kk x) (bT.m (Value.int kk) vv a).key=some (x == a.key):=by
   show (if kk=kk then some (x == a.key) else none)=_
   rw [if_pos rfl]
  rw [e1]
  unfold yI
  by_cases h:x=a.key
  .rw [if_pos h,show (x == a.key)=true by rw [h];exact beq_self_eq_true _];rfl
  .rw [if_neg h,show (x == a.key)=false from Bool.eq_false_iff.2 λhb=>h (by simpa using hb)]
   exact VH x es (i+1)
theorem GTy.ofInt {kk} (hm:P.underlying t=some (.map k e)) (hk:P.underlying k=some (.int kk)) (hc:∀ b (x:Int) w,(Instr.checkKey b 10000 k (.int kk x)).run P w=.ok () w) (hz:∀ w,(zeroValue e).run P w=.ok (vv z) w):GTy P t k e (Value.int kk) vv z where
 map:=hm
 chk:=hc
 zero:=hz
 stays x w:=by
  have:Instr.sameBits 10000 (.int kk x) (.int kk x)=true:=by
   unfold Instr.sameBits
   simp [Instr.sameBits]
  unfold Instr.keyThatStays
  rw [if_pos this];rfl
 find x es w:=by
  unfold Instr.findKey
  simp only [Sem.run_bind,run_underlying hk,Result.andThen,VH]
  rfl
theorem GTy.aHu (hm:P.underlying t=some (.map k e)) (hk0:∃ fs,P.underlying k=some (.struct fs)) (hc:∀ b x w,(Instr.checkKey b 10000 k (kv x)).run P w=.ok () w) (hs:∀ x w,(Instr.keyThatStays (kv x) (kv x)).run P w=.ok (kv x) w) (he:∀ x y w,(Op.equal k (kv x) (kv y)).run P w=.ok (decide (x=y)) w) (hz:∀ w,(zeroValue e).run P w=.ok (vv z) w):GTy P t k e kv vv z where
 map:=hm
 chk:=hc
 zero:=hz
 stays:=hs
 find x es w:=by
  obtain ⟨fs,hk⟩:=hk0
  have ask:∀ (es:List (bT κ ν)) (i:Nat),(Instr.findAsking k (kv x) (es.map (bT.m kv vv)) i).run P w=.ok (yI vv es x i) w:=by
   intro es
   induction es with
   | nil=>intro i;rfl
   | cons a es ih =>
    intro i
    rw [List.map_cons]
    unfold Instr.findAsking
    simp only [Sem.run_bind]
    rw [show (bT.m kv vv a).key=kv a.key from rfl,he x a.key w]
    simp only [Result.andThen]
    unfold yI
    by_cases h:x=a.key
    .rw [if_pos (by simpa using h),if_pos h];rfl
    .rw [if_neg (by simpa using h),if_neg h]
     exact ih (i+1)
  unfold Instr.findKey
  simp only [Sem.run_bind,run_underlying hk,Result.andThen]
  cases es with
  | nil=>rfl
  | cons a es =>
   rw [List.map_cons]
   unfold Instr.findNow
   simp only [Instr.sameNow]
   exact ask (a :: es) 0
end
end Go.Vc
end

section
namespace Go.Vc
variable {κ ν:Type} {kv:κ->Value} {vv:ν->Value} {z:ν}
theorem LZ {x}:∀ {es:List (bT κ ν)} {n:Nat} {a:bT κ ν},es.Pairwise (λa b=>a.key≠b.key)->es[n]? = some a->a.key=x->∀ e∈es.eraseIdx n,e.key≠x
 | [],_,_,_,h,_,_,_=>by simp at h
 | c :: es,0,a,hp,h,hk,e,he=>by
  have:c=a:=by simpa using h
  subst this
  rw [List.eraseIdx_cons_zero] at he
  exact λh2=>(List.pairwise_cons.1 hp).1 e he (hk.trans h2.symm)
 | c :: es,n+1,a,hp,h,hk,e,he=>by
  obtain ⟨h1,h2⟩:=List.pairwise_cons.1 hp
  have h':es[n]? = some a:=by simpa using h
  rw [List.eraseIdx_cons_succ] at he
  rcases List.mem_cons.1 he with rfl|he
  .exact λe2=>h1 a (List.mem_of_getElem? h') (e2.trans hk.symm)
  .exact LZ h2 h' hk e he
section
variable [DecidableEq κ] {P:Program} {t k e:TypeId} (T:GTy P t k e kv vv z)
include T
theorem a63 {w b es clock} (ok:GOk es clock) (hb:w.heap[b]? = some (bK kv vv es clock)) (x kt ty cs):
  ∃ fM,Sem.run P (builtin Builtin.delete #[t,kt] ty cs #[.map (some b),kv x]) w=.ok (.value (.tuple #[])) (DC w b (bK kv vv fM clock))/\GOk fM clock/\(∀ y,gQ z fM y=if y=x then z else gQ z es y)/\fM.Sublist es/\∀ e∈fM,e.key≠x:=by
 have h1:=T.find x es w
 unfold bK at hb
 have run:∀ fM:List (bT κ ν),(Builtin.delete_ #[t,kt] ty #[.map (some b),kv x]).run P w=.ok (.tuple #[]) (DC w b (bK kv vv fM clock))->Sem.run P (builtin Builtin.delete #[t,kt] ty cs #[.map (some b),kv x]) w=.ok (.value (.tuple #[])) (DC w b (bK kv vv fM clock)):=λfM h=>by
  unfold builtin
  simp only [Sem.run_bind,h,Result.andThen,Sem.run_pure]
 cases hf:yI vv es x 0 with
 | none =>
  have hn:=tO hf
  refine ⟨es,run _ ?_,ok,λy=>?_,List.Sublist.refl _,hn⟩
  .have h3:=MapKept.run_setObj_map (P:=P) (.map (es.map (bT.m kv vv)).toArray clock) hb
   unfold Builtin.delete_
   rw [hf] at h1
   simp only [Array.getElem?_eq_getElem,List.size_toArray,List.length_cons,List.length_nil,Nat.zero_lt_succ,Nat.lt_add_one,List.getElem_toArray,List.getElem_cons_zero,List.getElem_cons_succ,Sem.run_bind,run_underlying T.map,MapKept.run_getObj_map hb,Result.andThen,T.chk,Sem.run_pure,h1,h3]
   rfl
  .by_cases hy:y=x
   .rw [if_pos hy,hy];exact qM hn
   .rw [if_neg hy]
 | some r =>
  obtain ⟨j,v⟩:=r
  obtain ⟨n,a,hj,ha,hk,hv,hg⟩:=tP (z:=z) hf
  have hj:j=n:=by omega
  subst hj
  have hlt:j<es.length:=(List.getElem?_eq_some_iff.1 ha).1
  refine ⟨es.eraseIdx j,run _ ?_,⟨ok.keys.sublist (List.eraseIdx_sublist _ _),ok.sQ.sublist (List.eraseIdx_sublist _ _),λe he=>ok.lt e ((List.eraseIdx_sublist _ _).mem he)⟩,a0c ok.keys ha hk,List.eraseIdx_sublist _ _,LZ ok.keys ha hk⟩
  have h3:=MapKept.run_setObj_map (P:=P) (.map ((es.map (bT.m kv vv)).toArray.eraseIdxIfInBounds j) clock) hb
  unfold Builtin.delete_
  rw [hf] at h1
  simp only [Array.getElem?_eq_getElem,List.size_toArray,List.length_cons,List.length_nil,Nat.zero_lt_succ,Nat.lt_add_one,List.getElem_toArray,List.getElem_cons_zero,List.getElem_cons_succ,Sem.run_bind,run_underlying T.map,MapKept.run_getObj_map hb,Result.andThen,T.chk,Sem.run_pure,h1,h3]
  congr 2
  unfold bK
  refine congrArg (λa=>w.heap.setIfInBounds b (Obj.map a clock)) ?_
  unfold Array.eraseIdxIfInBounds
  rw [dif_pos (by simpa using hlt)]
  apply Array.toList_inj.1
  simp
  exact a0b es j
theorem a65 {w b es clock} (ok:GOk es clock) (hb:w.heap[b]? = some (bK kv vv es clock)) (x v) (hx:∃ a∈es,a.key=x):
  ∃ fM,Sem.run P (Instr.mapUpdate t (.map (some b)) (kv x) (vv v)) w=.ok () (DC w b (bK kv vv fM clock))/\GOk fM clock/\(∀ y,gQ z fM y=if y=x then v else gQ z es y)/\fM.map bT.key=es.map bT.key/\fM.map bT.born=es.map bT.born:=by
 have h1:=T.find x es w
 unfold bK at hb
 cases hf:yI vv es x 0 with
 | none=>exact absurd hx λ⟨a,ha,hk⟩=>tO hf a ha hk
 | some r =>
  obtain ⟨j,u⟩:=r
  obtain ⟨n,a,hj,ha,hk,hv,hg⟩:=tP (z:=z) hf
  have hj:j=n:=by omega
  subst hj
  have ha2:(es.map (bT.m kv vv)).toArray[j]? = some (bT.m kv vv a):=by simp [ha]
  have h3:=MapKept.run_setObj_map (P:=P) (.map ((es.map (bT.m kv vv)).toArray.modify j λe=>{ e with key:=kv x,val:=vv v }) clock) hb
  refine ⟨es.modify j λa=>{ a with val:=v },?_,⟨?_,?_,?_⟩,a0d ok.keys ha hk,TR _ _ _,yJ _ _ _⟩
  .unfold Instr.mapUpdate
   rw [hf] at h1
   simp only [Sem.run_bind,run_underlying T.map,MapKept.run_getObj_map hb,Result.andThen,T.chk,Sem.run_pure,h1,ha2,Option.map_some,Option.getD_some]
   rw [show (bT.m kv vv a).key=kv x by rw [<-hk];rfl,T.stays x w]
   simp only [h3]
   congr 2
   unfold bK
   refine congrArg (λa=>w.heap.setIfInBounds b (Obj.map a clock)) ?_
   apply Array.ext'
   apply List.ext_getElem?
   intro i
   simp only [Array.toList_modify,List.getElem?_modify,List.getElem?_map]
   by_cases h:j=i
   .subst h
    rw [ha]
    simp [bT.m,hk]
   .simp [h]
  .have:=List.pairwise_map.2 ok.keys
   exact List.pairwise_map.1 (by rw [TR];exact List.pairwise_map.2 ok.keys)
  .exact List.pairwise_map.1 (by rw [yJ];exact List.pairwise_map.2 ok.sQ)
  .intro c hc
   have hm:c.born∈(es.modify j λa=>{ a with val:=v }).map bT.born:=List.mem_map.2 ⟨c,hc,rfl⟩
   rw [yJ] at hm
   obtain ⟨d,hd,he⟩:=List.mem_map.1 hm
   rw [<-he];exact ok.lt d hd
end
section
variable {P:Program} {w:World} {r bm since clock c0:Nat} {seen:Array Nat} {es:List (bT κ ν)}
theorem aHv (ty) (hr:w.heap[r]? = some (.mapIter (some bm) since seen c0)) (hb:w.heap[bm]? = some (bK kv vv es clock)) (hold:∀ e∈es,e.born<since) (hsc:since<=c0):
  ((∀ e∈es,e.born∈seen.toList)/\(Instr.next (.pointer (some ⟨r,0,none⟩)) false ty).run P w=.ok (.tuple #[.bool false]) w) \/
  ∃ a∈es,a.born ∉ seen.toList/\∃ w1:World,(w1=w\/w1=w.drewN 1)/\(Instr.next (.pointer (some ⟨r,0,none⟩)) false ty).run P w=.ok (.tuple #[.bool true,kv a.key,vv a.val]) (DC w1 r (.mapIter (some bm) since (seen.push a.born) clock)):=by
 have hmem:∀ x∈(es.map (bT.m kv vv)),∃ a∈es,bT.m kv vv a=x:=λx hx=>by
  obtain ⟨a,ha,e⟩:=List.mem_map.1 hx
  exact ⟨a,ha,e⟩
 rcases run_next_at (P:=P) w ty r bm since c0 seen (es.map (bT.m kv vv)).toArray clock hr hb (λx hx=>by
  obtain ⟨a,ha,rfl⟩:=hmem x hx
  exact hold a ha) hsc with ⟨h0,h1⟩|⟨x,hx,w1,hw,h1⟩
 .refine .inl ⟨λa ha=>?_,h1⟩
  refine Classical.byContradiction λhn=>?_
  have hin:bT.m kv vv a∈(leftOf (es.map (bT.m kv vv)).toArray seen).toList:=by
   unfold leftOf
   simp only [Array.toList_filter,List.mem_filter]
   refine ⟨List.mem_map.2 ⟨a,ha,rfl⟩,?_⟩
   have:¬ seen.contains a.born=true:=λh=>hn (by simpa using h)
   simpa [bT.m] using this
  have:(leftOf (es.map (bT.m kv vv)).toArray seen).toList=[]:=by
   have:=Array.eq_empty_of_size_eq_zero h0
   rw [this]
  rw [this] at hin
  cases hin
 .unfold leftOf at hx
  simp only [Array.toList_filter,List.mem_filter] at hx
  obtain ⟨a,ha,rfl⟩:=hmem x hx.1
  refine .inr ⟨a,ha,λh=>?_,w1,hw,h1⟩
  have h2:=hx.2
  simp [bT.m] at h2
  exact h2 (by simpa using h)
theorem aBW {a} (ok:GOk es clock) (hr:w.heap[r]? = some (.mapIter (some bm) since (seen.push a.born) clock)) (hb:w.heap[bm]? = some (bK kv vv es clock)) (ha:a∈es):
  (Instr.entry (.pointer (some ⟨r,0,none⟩))).run P w=.ok (.tuple #[kv a.key,vv a.val]) w:=by
 refine run_entry_at w r bm since seen (es.map (bT.m kv vv)).toArray clock (bT.m kv vv a) hr hb (List.mem_map.2 ⟨a,ha,rfl⟩) ?_
 have:((es.map (bT.m kv vv)).toArray.toList.map (·.born))=es.map bT.born:=by simp [bT.m,Function.comp_def]
 rw [this]
 exact List.nodup_iff_pairwise_ne.2 (List.pairwise_map.2 ok.sQ)
def RE (seen:List Nat) (es:List (bT κ ν)):Nat:=(es.filter λe => !seen.contains e.born).length
theorem NT {seen} {es fM:List (bT κ ν)} {a} (hs:(fM.map bT.born).Sublist (es.map bT.born)) (ha:a∈es) (hn:a.born ∉ seen) (hb:(es.map bT.born).Nodup):
  RE (seen++[a.born]) fM<RE seen es:=by
 have key:∀ (l:List (bT κ ν)) (s:List Nat),RE s l=((l.map bT.born).filter λb => !s.contains b).length:=λl s=>by
  unfold RE
  rw [List.filter_map,List.length_map]
  rfl
 rw [key,key]
 have h1:((fM.map bT.born).filter λb => !(seen++[a.born]).contains b).Sublist ((es.map bT.born).filter λb => !(seen++[a.born]).contains b):=hs.filter _
 refine Nat.lt_of_le_of_lt h1.length_le ?_
 have h2:((es.map bT.born).filter λb => !(seen++[a.born]).contains b)=((es.map bT.born).filter λb => !seen.contains b).filter λb=>b != a.born:=by
  rw [List.filter_filter]
  congr 1
  funext b
  rw [List.contains_append]
  cases h:seen.contains b<;>simp [bne]<;>rfl
 rw [h2]
 have hm:a.born∈(es.map bT.born).filter λb => !seen.contains b:=List.mem_filter.2 ⟨List.mem_map.2 ⟨a,ha,rfl⟩,by simpa using hn⟩
 generalize (es.map bT.born).filter (λb => !seen.contains b)=l at hm
 induction l with
 | nil=>cases hm
 | cons x l ih =>
  by_cases hx:x=a.born
  .rw [List.filter_cons_of_neg (by simp [hx])]
   exact Nat.lt_succ_of_le (List.length_filter_le _ _)
  .rw [List.filter_cons_of_pos (by simpa using hx),List.length_cons,List.length_cons]
   refine Nat.succ_lt_succ (ih ?_)
   rcases List.mem_cons.1 hm with h|h
   .exact absurd h.symm hx
   .exact h
end
end Go.Vc
end

section
namespace Go.Vc
theorem a4u {P ats ty cs args v w w'} (h:(Builtin.copy_ ats ty args).run P w=.ok v w'):Sem.run P (builtin Builtin.copy ats ty cs args) w=.ok (.value v) w':=by
 unfold builtin
 simp only [Sem.run_bind,h,Result.andThen,Sem.run_pure]
theorem aDG {P} (w dT sT ty elem) {i} (b o dLen dCap a sLen sCap cs) (hu:P.underlying dT=some (.slice elem)) (hi:P.info? elem=some i) (hn:cs.length=Nat.min sLen dLen*i.size) (hsrc:∀ j v,cs[j]? = some v->w.cell? (a.add j)=some v) (hc:∀ j,j<cs.length->(w.cell? ⟨b,o+j,none⟩).isSome=true) (hf:∀ j,j<cs.length->w.frozen? ⟨b,o+j,none⟩=false) (h1:∀ v∈cs,v.oneCell'=true):
  (Builtin.copy_ #[dT,sT] ty #[.slice (some ⟨b,o,none⟩) dLen dCap,.slice (some a) sLen sCap]).run P w=.ok (Go.goInt (Nat.min sLen dLen)) (w.setCells b o cs):=by
 have hl:=run_loadCells_list (P:=P) w a cs hsrc
 have hst:=run_storeCells_cells (P:=P) b o cs 0 w (by simpa using hc) (by simpa using hf) h1
 rw [hn] at hl
 simp [Builtin.copy_,run_underlying hu,Builtin.lenOf,Builtin.firstCells,sizeOf,typeInfo,hi,hl,hst]
theorem JZ (vs cs o) (h:o+vs.length<=cs.length):mV cs o vs=cs.take o++vs++cs.drop (o+vs.length):=by
 apply List.ext_getElem?
 intro i
 by_cases h1:i<o
 .rw [rH _ _ _ _ (.inl h1),b9,List.getElem?_append_left (by rw [List.length_take];omega),List.getElem?_take_of_lt h1]
 .by_cases h2:i<o+vs.length
  .obtain ⟨q,rfl⟩:∃ q,i=o+q:=⟨i - o,by omega⟩
   rw [QD _ _ _ _ (by omega) h,b9,List.getElem?_append_right (by rw [List.length_take];omega),List.getElem?_append_left (by rw [List.length_take];omega)]
   congr 1
   rw [List.length_take]
   omega
  .rw [rH _ _ _ _ (.inr (by omega)),List.getElem?_append_right (by rw [List.length_append,List.length_take];omega),List.getElem?_drop]
   congr 1
   rw [List.length_append,List.length_take]
   omega
section
variable {P:Program} {W w:World} {S:List Own} {Φ:PW}
end
theorem a2J (b sz k c) (h:k<c):cJ (some ⟨b,0,none⟩) sz k c=some ⟨b,k*sz,none⟩:=by
 unfold cJ
 rw [if_neg (by omega)]
 show some ((⟨b,0,none⟩:Addr).add (k*sz))=_
 rw [addr_add,Nat.zero_add]
theorem aDH (b sz k c):∃ o,cJ (some ⟨b,0,none⟩) sz k c=some ⟨b,o,none⟩:=by
 unfold cJ
 split
 .exact ⟨0,rfl⟩
 .refine ⟨k*sz,?_⟩
  show some ((⟨b,0,none⟩:Addr).add (k*sz))=_
  rw [addr_add,Nat.zero_add]
theorem J3 (b sz c):cJ (some ⟨b,0,none⟩) sz 0 c=some ⟨b,0,none⟩:=by
 unfold cJ
 split
 .rfl
 .show some ((⟨b,0,none⟩:Addr).add (0*sz))=_
  rw [addr_add,Nat.zero_mul]
section
variable {P:Program} {W w:World} {S:List Own} {Φ:PW}
end
theorem QH {P ats ty cs args v w w'} (h:(Builtin.clear_ ats ty args).run P w=.ok v w'):Sem.run P (builtin Builtin.clear ats ty cs args) w=.ok (.value v) w':=by
 unfold builtin
 simp only [Sem.run_bind,h,Result.andThen,Sem.run_pure]
theorem a9S {P} (w t e ty) {i z} (ht:P.underlying t=some (.slice e)) (hi:P.info? e=some i) (hz:i.zero=some z) (b o n c) (hn:0<n) (hc:∀ j,j<(Builtin.zeroCells z.cells n).toList.length->(w.cell? ⟨b,o+j,none⟩).isSome=true) (hf:∀ j,j<(Builtin.zeroCells z.cells n).toList.length->w.frozen? ⟨b,o+j,none⟩=false) (h1:∀ v∈(Builtin.zeroCells z.cells n).toList,v.oneCell'=true):
  (Builtin.clear_ #[t] ty #[.slice (some ⟨b,o,none⟩) n c]).run P w=.ok (.tuple #[]) (w.setCells b o (Builtin.zeroCells z.cells n).toList):=by
 have hst:=run_storeCells_cells (P:=P) b o (Builtin.zeroCells z.cells n).toList 0 w (by simpa using hc) (by simpa using hf) h1
 rw [Nat.add_zero] at hst
 obtain ⟨m,rfl⟩:∃ m,n=m+1:=⟨n - 1,by omega⟩
 simp [Builtin.clear_,run_underlying ht,zeroValue,typeInfo,hi,hz,hst]
def aM5 (P:Program) (t:TypeId):Bool:=match P.info? t with|some i=>(match i.zero with|some z=>z.cells.toList.all (λu=>Value.oneCell' u)|none=>false)|none=>false
theorem a1J (cs n):∀ v∈(Builtin.zeroCells cs n).toList,v∈cs.toList:=by
 intro v hv
 unfold Builtin.zeroCells at hv
 rw [Array.toList_map] at hv
 obtain ⟨a,ha,rfl⟩:=List.mem_map.1 hv
 have ha:a<n*cs.size:=by simpa using ha
 have h0:0<cs.size:=by
  rcases Nat.eq_zero_or_pos cs.size with h|h
  .rw [h,Nat.mul_zero] at ha;omega
  .exact h
 have hlt:a % cs.size<cs.size:=Nat.mod_lt _ h0
 rw [getElem!_pos cs (a % cs.size) hlt]
 exact Array.getElem_mem_toList hlt
section
variable {P:Program} {W w:World} {S:List Own} {Φ:PW}
theorem Ctx.X1 [aB Φ] {p n cap cs t size} (c:Ctx W w (.buf p n cap cs t size :: S) Φ) {k} (hk:k<=n):Ctx W w (.buf p k cap (cs.take (k*size)) t size :: S) Φ:=by
 have hown:=c.own _ List.mem_cons_self
 have hmul:k*size<=n*size:=Nat.mul_le_mul_right _ hk
 refine c.upd (k:=0) (o':=.buf p k cap (cs.take (k*size)) t size) rfl (lA.refl _ _) (λx hx=>.inl (by cases p<;>exact hx)) (Own.nodup _) ?_
 obtain ⟨h1,h2⟩:=hown
 refine ⟨by rw [List.length_take,h1];omega,?_⟩
 rcases h2 with ⟨e,rfl⟩|⟨g,cap',cur,e,h3,hg,hnc,hcm,hcs,r3⟩
 .cases e
  have:k=0:=by omega
  subst this
  exact .inl ⟨rfl,by simp⟩
 .cases e
  exact .inr ⟨g,cap,cur,rfl,h3,hg,by omega,hcm,hcs,by rw [<-r3,List.take_take,Nat.min_eq_left hmul]⟩
theorem Ctx.aPE [aB Φ] {p n cap cs t size bytes} (c:Ctx W w (.buf p n cap cs t size :: S) Φ) {b} (hp:p=some ⟨b,0,none⟩) {ts ty kb} (hb:aDo P ts t size bytes=true) (hz:aM5 P t=true) (hpos:0<size) {k} (hk:k<=n):∃ w',Sem.run P (builtin Builtin.clear #[ts] ty kb #[.slice (cJ p size k cap) (n - k) (cap - k)]) w=.ok (.value (.tuple #[])) w'/\Ctx W w' (.buf p k cap (cs.take (k*size)) t size :: S) Φ:=by
 obtain ⟨i,z,e1,e2,e3,e4,e5,e6⟩:=uP hb
 subst hp e4
 have hz:z.cells.toList.all (λu=>Value.oneCell' u)=true:=by unfold aM5 at hz;rw [e2] at hz;simp only [e3] at hz;exact hz
 obtain ⟨rW,hnc,hcm⟩:=c.sU 0 rfl
 rcases Nat.eq_zero_or_pos (n - k) with h0|h0
 .obtain ⟨o,ho⟩:=aDH b i.size k cap
  rw [h0,ho]
  exact ⟨w,QH (by simp [Builtin.clear_,run_underlying e1]),c.X1 hk⟩
 .rw [a2J b i.size k cap (by omega)]
  have hzl:(Builtin.zeroCells z.cells (n - k)).toList.length=(n - k)*i.size:=by rw [Array.length_toList,size_zeroCells,e5]
  have hsub:(n - k)*i.size=n*i.size - k*i.size:=Nat.sub_mul _ _ _
  have hmul:k*i.size<=n*i.size:=Nat.mul_le_mul_right _ hk
  have hn0:0<(n - k)*i.size:=Nat.mul_pos h0 hpos
  obtain ⟨b',hb',_,hcell⟩:=c.nR 0 rfl (by omega)
  cases hb'
  have hat:∀ j,(hj:j<(Builtin.zeroCells z.cells (n - k)).toList.length)->w.cell? ⟨b,k*i.size+j,none⟩=some (cs[k*i.size+j]'(by omega))/\w.frozen? ⟨b,k*i.size+j,none⟩=false:=λj hj=>hcell _ _ (List.getElem?_eq_getElem _)
  refine ⟨_,QH (a9S w ts t ty e1 e2 e3 b (k*i.size) (n - k) (cap - k) h0 (λj hj=>by rw [(hat j hj).1];rfl) (λj hj=>(hat j hj).2) (λv hv=>List.all_eq_true.1 hz v (a1J _ _ v hv))),?_⟩
  have c2:=(c.WV 0 rfl rfl (by omega) (by omega) rfl:Ctx W (w.setCells b (k*i.size) (Builtin.zeroCells z.cells (n - k)).toList) (.buf (some ⟨b,0,none⟩) n cap (mV cs (k*i.size) (Builtin.zeroCells z.cells (n - k)).toList) t i.size :: S) Φ)
  have c3:=c2.X1 hk
  rw [JZ _ _ _ (by omega),b9,List.take_append_of_le_length (by rw [List.length_take];omega),List.take_take,Nat.min_self] at c3
  exact c3
end
end Go.Vc
end

