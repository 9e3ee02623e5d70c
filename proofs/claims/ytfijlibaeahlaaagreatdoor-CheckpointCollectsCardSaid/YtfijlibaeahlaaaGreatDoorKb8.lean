/-
 Rows,read: in plain Lean,and walked.
-/
import Derived.Test.YtfijlibaeahlaaaGreatDoorKb7
import Derived.Test.YtfijlibaeahlaaaGreatDoorKb5
open Go.Proofs.Tryz
set_option linter.unusedVariables false
set_option linter.unusedSimpArgs false
section
namespace Go.Proofs.YtfijlibaeahlaaaGreatDoor
open Go.Vc
def fj(st:bu):bF × bu:=(⟨(ax st).1,(ax (ax st).2).1,(stepT (ax (ax st).2).2).1⟩,(stepT (ax (ax st).2).2).2)
def uV:Nat->bu->List bF->Option (List bF × bu)
 | 0,st,acc=>some (acc,st)
 | n+1,st,acc=>if st.1=[] then none else uV n (fj st).2 (acc++[(fj st).1])
def qE(l:List UInt8):Option (List bF):=match uV (kY (l,false)).1.toNat (kY (l,false)).2 [] with
 | some (acc,st)=>if xj st then some acc else none
 | none=>none
theorem R2{e:UInt8}(he:e.toNat=58\/e.toNat=59\/e.toNat=91){least n:Int}{r:List UInt8}{bad:Bool}(h:V n)(h2:least<=n):fB e least (Lib.itoa n++e :: r,bad)=(n,(r,bad)) :=
 aIY (st:=(Lib.itoa n++e :: r,bad)) ((R1 he).2 ⟨⟨h,h2⟩,rfl⟩)
theorem a8v(n:Int):(aK n).data.toList=Lib.itoa n++[59]:=by
 unfold aK gi;rw [ByteArray.data_append,Array.toList_append]
theorem uA{n:Int}{r:List UInt8}{bad:Bool}(h:V n):ax ((aK n).data.toList++r,bad)=(n,(r,bad)):=by
 rw [a8v,aq];exact R2 (.inr (.inl rfl)) h h.1
theorem YJ{n:Nat}{r:List UInt8}{bad:Bool}(h:(n:Int)<=9223372036854775807):kY ((cY n).data.toList++r,bad)=((n:Int),(r,bad)):=by
 unfold cY;rw [if_neg (by omega),a8v,aq];exact R2 (.inr (.inl rfl)) (by unfold V;omega) (by omega)
theorem aZL(s:ByteArray):(bx s).data.toList=Lib.itoa s.size++58 :: (s.data.toList++[44]):=by
 unfold bx gi;simp [ByteArray.data_append]
theorem Rp{s:ByteArray}{r:List UInt8}(h:s.size<=9223372036854775807):stepT ((bx s).data.toList++r,false)=(s,(r,false)):=by
 have e1:fB 58 0 ((bx s).data.toList++r,false)=((s.size:Int),(s.data.toList++44 :: r,false)):=by
  rw [aZL,aq,List.cons_append,aq];exact R2 (.inl rfl) (by unfold V;omega) (by omega)
 unfold stepT;simp only [e1];have hl:s.data.toList.length=s.size:=cF s;rw [if_neg (by rw [List.length_append,List.length_cons,hl];omega),Int.toNat_natCast,List.drop_left' hl,List.take_left' hl];rfl
theorem aZc{v:bF}{r:List UInt8}(h1:V v.kind)(h2:V v.num)(h3:v.text.size<=9223372036854775807):fj ((nG v).data.toList++r,false)=(v,(r,false)):=by
 have e:(nG v).data.toList++r=(aK v.kind).data.toList++((aK v.num).data.toList++((bx v.text).data.toList++r)):=by
  unfold nG;simp [ByteArray.data_append]
 unfold fj;rw [e,uA h1];simp only;rw [uA h2];simp only;rw [Rp h3]
theorem aZa(v:bF)(h:V v.kind):(nG v).data.toList≠[]:=λe=>by
 have h1:=cC h;have h2:=congrArg List.length e;rw [cF] at h2;unfold nG at h2;rw [av,av,List.length_nil] at h2;omega
def HT(v:bF):Prop:=(V v.kind/\V v.num)/\v.text.size<=9223372036854775807
theorem aIz:∀ (r:List bF) (acc:List bF) (t:List UInt8),(∀ v∈r,HT v)->uV r.length (fC r++t,false) acc=some (acc++r,(t,false))
 | [],acc,t,_=>by simp [uV,fC]
 | v :: r,acc,t,h=>by
  obtain ⟨⟨h1,h2⟩,h3⟩:=h v (by simp);have e:fC (v :: r)++t=(nG v).data.toList++(fC r++t):=by simp [fC]
  have hp:=aZa v h1;rw [e,List.length_cons,uV,if_neg (by intro e;exact hp (List.append_eq_nil_iff.1 e).1),aZc h1 h2 h3];simp only;rw [aIz r _ t λu hu=>h u (by simp [hu]),aq];rfl
theorem aYb{r:List bF}(h:∀ v∈r,HT v)(hl:r.length<=9223372036854775807):qE (w4 r)=some r:=by
 have h1:=aIz r [] [] h;rw [List.append_nil,List.nil_append] at h1;unfold qE w4;rw [YJ (by omega)];simp only [Int.toNat_natCast];rw [h1];rfl
theorem aZ3(c:UInt8)(st:bu):(pL c st).1.length<=st.1.length:=by
 unfold pL;split
 .simp
 .rename_i h;split
  .rw [h];simp
  .simp
theorem Za(st:bu):(stepT st).2.1.length<=st.1.length/\(stepT st).1.size<=st.1.length:=by
 have h1:=rA 58 0 st;have h2:=aZ3 44 (((fB 58 0 st).2.1.drop (fB 58 0 st).1.toNat,(fB 58 0 st).2.2));rw [List.length_drop] at h2;unfold stepT;simp only;split
 .exact ⟨Nat.zero_le _,Nat.zero_le _⟩
 .refine ⟨by simp only;omega,?_⟩;simp only;split
  .exact Nat.zero_le _
  .rw [dx,List.length_take];omega
theorem aZ5(e:UInt8)(least:Int)(st:bu)(h:st.1≠[]):(fB e least st).2.1.length<st.1.length:=by
 have hp:=List.length_pos_iff.2 h;unfold fB;split
 .rename_i n r h;unfold p8 at h;simp only at h;split at h
  .cases h
  .split at h
   .split at h
    .cases h;simp only [List.length_drop];omega
    .cases h
   .cases h
 .simpa using hp
theorem aZ8(st:bu):(fj st).2.1.length<=st.1.length/\(st.1≠[]->(fj st).2.1.length<st.1.length)/\(fj st).1.text.size<=st.1.length:=by
 have a:=rA 59 (-9223372036854775808) st;have b:=rA 59 (-9223372036854775808) (ax st).2;have c:=Za (ax (ax st).2).2;have a':(ax st).2.1.length<=st.1.length:=a;have b':(ax (ax st).2).2.1.length<=(ax st).2.1.length:=b;unfold fj;refine ⟨by simp only;omega,λh=>?_,by simp only;omega⟩;have d:(ax st).2.1.length<st.1.length:=aZ5 59 (-9223372036854775808) st h;simp only;omega
theorem vv(st:bu):V (ax st).1:=by
 unfold ax fB;split
 .rename_i n r h;exact ((R1 (.inr (.inl rfl))).1 h).1.1
 .unfold V;simp
section
variable {W w:World}{R G S:List Own}{Φ:Y}{b:Nat}{st:bu}
theorem aZI[O Φ](hΦ:∀ M w,Φ M w->fG M w)(hl:st.1.length<=1000000000)(c:Ctx W w (rd b st :: S++G) Φ){K:Int->Int->ByteArray->List Own->Y->Prop}
  (hk:K (fj st).1.kind (fj st).1.num (fj st).1.text (rd b (fj st).2 :: S) Φ) :
  ω F.a04 #[aA b 0] w λe w'=>∃ n m s,e=.returned (.agg #[.int .i64 n,.int .i64 m,.string s])/\∃ R' Z,O Z/\Ctx W w' (R'++G) Z/\K n m s R' Z:=by
 refine cn (aNU b 0 (J:=λu w'=>∃ n m s,(Ending.returned u)=.returned (.agg #[.int .i64 n,.int .i64 m,.string s])/\∃ R' Z,O Z/\Ctx W w' (R'++G) Z/\K n m s R' Z) (R:=rd b st :: (S++G)) c ?_);have a:(ax st).2.1.length<=st.1.length:=rA 59 (-9223372036854775808) st;have b:(ax (ax st).2).2.1.length<=(ax st).2.1.length:=rA 59 (-9223372036854775808) (ax st).2;exact λ_ w ek B=>tG (S:=S++G) hΦ (by omega) B λw ek B=>tG (S:=S++G) hΦ (by omega) B λ_ w ek B=>OO (S:=S++G) hΦ (by omega) B λw ek B=>⟨_,_,_,rfl,_,Φ,γ,B.left,hk⟩
theorem aYT{M:List Nat}{w:World}{v:bF}(h1:V v.kind)(h2:V v.num)(h3:v.text.size<=maxLen):ι.rep M w [.int .i64 v.kind,.int .i64 v.num,.string v.text] v :=
 ⟨[.int .i64 v.kind],[.int .i64 v.num,.string v.text],rfl,⟨rfl,h1⟩,[.int .i64 v.num],[.string v.text],rfl,⟨rfl,h2⟩,rfl,h3⟩
set_option maxHeartbeats 1000000 in
theorem aPV[O Φ](hΦ:∀ M w,Φ M w->fG M w)(l:List UInt8)(hl:l.length<=10000000)(c:Ctx W w S Φ){K:c6}
  (h0:qE l=none->∀ w',Ctx W w' S Φ->K (.returned (.tuple #[.slice none 0 0,.bool false])) w')
  (h1:∀ r p cap w',qE l=some r->r.length<=cap->cap<=maxLen->Ctx W w' S (λM w=>Φ M w/\ζ M w p r)->K (.returned (.tuple #[.slice p r.length cap,.bool true])) w') :
  ω F.Mp #[.string (bs l)] w K:=by
 refine cn (aNN (bs l) (J:=K∘.returned) (R:=S) c ?_);clear c;refine λw G B=>Ny l B λb w B=>⟨_,rfl,rd b (l,false) :: S,Φ,γ,B,?_⟩;clear B;refine λw G B=>UE (S:=S) hΦ (by simp only;omega) B ?_;clear B;have hlen:(kY (l,false)).2.1.length<=l.length:=rA 59 0 (l,false);have hnn:=Rn (e:=59) (.inr (.inl rfl)) (l,false);have hrow:qE l=match uV (kY (l,false)).1.toNat (kY (l,false)).2 [] with
  | some (acc,st)=>if xj st then some acc else none
  | none=>none:=rfl
 have hnn:0<=(kY (l,false)).1/\(kY (l,false)).1<=9223372036854775807:=hnn;obtain ⟨⟨n0,kC⟩,hst⟩:∃ x,kY (l,false)=x:=⟨_,rfl⟩;rw [hst] at hlen hnn hrow ⊢;simp only at hlen hnn hrow ⊢;refine bK (λp n c m R' Z k=>∃ (st:bu) (acc:List bF) (ds:List Value),n=acc.length/\R'=.buf p n c ds 115 3 :: rd b st :: S/\Z=(λM w=>Φ M w/\Δ M w ds acc)/\k=m.toNat/\0<=m/\m<=9223372036854775807/\acc.length+st.1.length<=l.length/\uV n0.toNat kC []=uV m.toNat st acc)
  ⟨⟨.buf none 0 0 [] 115 3 :: rd b kC :: S,λM w=>Φ M w/\Δ M w [] ([]:List bF),_,γ,λw G B=>(B.sI 115 3).weak λM w h=>⟨h,Δ.nil⟩,kC,[],[],rfl,rfl,rfl,rfl,hnn.1,hnn.2,by simp only [List.length_nil];omega,rfl⟩,?_⟩
 rintro p n c m ν θ k _ ⟨st,acc,ds,rfl,rfl,rfl,rfl,hm0,KE,q4,hrl⟩;have ze:O (λM w=>Φ M w/\Δ M w ds acc):=γ;refine U.intro (λhpos=>?_) (λhz=>?_)
 .have hpos:=aD hpos;refine λw G B=>aOL (S:=.buf p acc.length c ds 115 3 :: S) B.swap ?_;refine U.intro (λhz=>λw G B=>?_) (λhnz=>?_)
  .have hz:=aD hz;refine h0 ?_ w (B.left.eN.eN.weak λM w h=>h.1);rw [hrow,hrl,show m.toNat=(m.toNat - 1)+1 by omega,uV,if_pos (List.length_eq_zero_iff.1 (by omega))]
  .have hnz:=aO hnz;have hne:st.1≠[]:=λe=>hnz (by rw [e];rfl);obtain ⟨q1,iL,DQ⟩:=aZ8 st;have iL:=iL hne;have hi1:=vv st;have hi2:=vv (ax st).2;refine λw G B=>aZI (S:=.buf p acc.length c ds 115 3 :: S) (λM w h=>hΦ M w h.1) (by omega) B ?_;refine λUS w G B=>?_;have bG:Ctx W w (.blk US [.int .i64 (fj st).1.kind,.int .i64 (fj st).1.num,.string (fj st).1.text] 115 :: .buf p acc.length c ds 115 3 :: (rd b (fj st).2 :: S++G)) (λM w=>Φ M w/\Δ M w ds acc):=B.perm ((List.Perm.swap _ _ _).cons _)
   obtain ⟨p',cap',w',hrun,_,cJ⟩:=Ctx.vB (P:=prog) (ts:=111) (ty:=111) (kb:=#[false,false]) (size:=3) (bytes:=32) bG (by kernel_rfl) (by omega) rfl rfl (by omega) (by omega);have u6:O (λM w=>Φ M w/\Δ M w (ds++[.int .i64 (fj st).1.kind,.int .i64 (fj st).1.num,.string (fj st).1.text]) (acc++[(fj st).1])):=γ;have WY:Ctx W w' (.buf p' (acc++[(fj st).1]).length cap' (ds++[.int .i64 (fj st).1.kind,.int .i64 (fj st).1.num,.string (fj st).1.text]) 115 3 :: rd b (fj st).2 :: S++G) (λM w=>Φ M w/\Δ M w (ds++[.int .i64 (fj st).1.kind,.int .i64 (fj st).1.num,.string (fj st).1.text]) (acc++[(fj st).1])):=by
    rw [List.length_append,List.length_singleton];exact cJ.weak λM w h=>⟨h.1,h.2.snoc (aYT hi1 hi2 (Nat.le_trans DQ (Nat.le_trans (by omega:st.1.length<=10000000) (by decide))))⟩
   refine ⟨p',acc.length+1,cap',w',hrun,_,_,u6,WY,by unfold V;omega,_,_,(m - 1).toNat,u6,λw G B=>B,⟨(fj st).2,acc++[(fj st).1],_,by simp,by simp,rfl,rfl,by omega,by omega,by rw [List.length_append,List.length_singleton];omega,?_⟩,by omega⟩;rw [hrl,show m.toNat=(m - 1).toNat+1 by omega,uV,if_neg hne]
 .have hz:=aO hz;have hm:m.toNat=0:=by omega
  rw [hm,uV] at hrl;rw [hrl] at hrow;simp only at hrow;refine λw G B=>TD (S:=.buf p acc.length c ds 115 3 :: S) B.swap ?_;refine U.intro (λhd=>λw G B=>?_) (λhd=>λw G B=>?_)
  .refine h0 ?_ w (B.left.eN.eN.weak λM w h=>h.1);rw [hrow,if_neg (by simpa using hd)]
  .have B:=B.left.eN;obtain ⟨cW,hs,_,g1,g2⟩:=Ctx.freeze (α:=bF) B.fst B.Γ.2;exact h1 acc p c w (by rw [hrow,if_pos (by simpa using hd)]) g1 g2 (cW.add hs)
theorem aPU[O Φ](hΦ:∀ M w,Φ M w->fG M w)(l:List UInt8)(hl:l.length<=10000000)(c:Ctx W w (R++G) Φ){K:Option Addr->Nat->Nat->Bool->List Own->Y->Prop}
  (h0:qE l=none->K none 0 0 false R Φ)
  (h1:∀ r p cap,qE l=some r->r.length<=cap->cap<=maxLen->O (λM w=>Φ M w/\ζ M w p r)->K p r.length cap true R (λM w=>Φ M w/\ζ M w p r)) :
  ω F.Mp #[.string (bs l)] w λe w'=>∃ p n c ok,e=.returned (.tuple #[.slice p n c,.bool ok])/\∃ R' Z,O Z/\Ctx W w' (R'++G) Z/\K p n c ok R' Z :=
 aPV hΦ l hl c (λh w' c=>⟨none,0,0,false,rfl,R,Φ,γ,c,h0 h⟩) λr p cap w' h g1 g2 c=>⟨p,r.length,cap,true,rfl,R,_,γ,c,h1 r p cap h g1 g2 γ⟩
theorem aPT[O Φ](hΦ:∀ M w,Φ M w->fG M w)(s:ByteArray)(hl:s.size<=10000000)(c:Ctx W w (R++G) Φ){K:Option Addr->Nat->Nat->Bool->List Own->Y->Prop}
  (h0:qE s.data.toList=none->K none 0 0 false R Φ)
  (h1:∀ r p cap,qE s.data.toList=some r->r.length<=cap->cap<=maxLen->O (λM w=>Φ M w/\ζ M w p r)->K p r.length cap true R (λM w=>Φ M w/\ζ M w p r)) :
  ω F.Mp #[.string s] w λe w'=>∃ p n c ok,e=.returned (.tuple #[.slice p n c,.bool ok])/\∃ R' Z,O Z/\Ctx W w' (R'++G) Z/\K p n c ok R' Z :=
 aPU hΦ s.data.toList (by rw [cF];exact hl) c h0 h1
end
def sQ(st:bu):Option (μ × bu):=(qE (stepT (ax st).2).1.data.toList).map λr=>(⟨(ax st).1,r,(ax (stepT (ax st).2).2).1⟩,(ax (stepT (ax st).2).2).2)
theorem aZ4{st:bu}(h:qE (stepT (ax st).2).1.data.toList=none):sQ st=none:=by unfold sQ;rw [h];rfl
theorem aIX{st:bu}{r:List bF}(h:qE (stepT (ax st).2).1.data.toList=some r):sQ st=some (⟨(ax st).1,r,(ax (stepT (ax st).2).2).1⟩,(ax (stepT (ax st).2).2).2):=by unfold sQ;rw [h];rfl
attribute [irreducible] sQ
def xk:Nat->bu->List μ->Option (List μ)
 | 0,_,acc=>some acc
 | n+1,st,acc=>(sQ st).bind λy=>xk n y.2 (acc++[y.1])
theorem aYN(st:bu)(acc:List μ):xk 0 st acc=some acc:=rfl
theorem aYM{n:Nat}{st:bu}{acc:List μ}(h:sQ st=none):xk (n+1) st acc=none:=by
 show (sQ st).bind _=none;rw [h];rfl
theorem aHG{n:Nat}{st st':bu}{acc:List μ}{x:μ}(h:sQ st=some (x,st')):xk (n+1) st acc=xk n st' (acc++[x]):=by
 show (sQ st).bind _=_;rw [h];rfl
def readAll(l:List UInt8):Option (List μ):=xk (min (kY (l,false)).1 l.length).toNat (kY (l,false)).2 []
def sL(l:List UInt8):Option (List μ):=match readAll l with
 | some out=>if kQ out&&decide (bQ out=l) then some out else none
 | none=>none
theorem aR0(x:μ):(j7 x).data.toList=(aK x.time).data.toList++((bx (gB x.row)).data.toList++(aK x.n).data.toList):=by
 unfold j7;simp [ByteArray.data_append]
theorem aR3{x:μ}{t:List UInt8}(h1:V x.time)(h2:V x.n)(h3:∀ v∈x.row,HT v)(h4:x.row.length<=9223372036854775807)(h5:(gB x.row).size<=9223372036854775807):sQ ((j7 x).data.toList++t,false)=some (x,(t,false)):=by
 have e1:ax ((j7 x).data.toList++t,false)=(x.time,((bx (gB x.row)).data.toList++((aK x.n).data.toList++t),false)):=by
  rw [aR0,aq,uA h1,aq]
 have e2:=Rp (r:=(aK x.n).data.toList++t) h5;have eE:qE (stepT (ax ((j7 x).data.toList++t,false)).2).1.data.toList=some x.row:=by
  rw [e1];show qE (stepT ((bx (gB x.row)).data.toList++((aK x.n).data.toList++t),false)).1.data.toList=some x.row;rw [e2];exact aYb h3 h4
 rw [aIX eE,e1];simp only;rw [e2];simp only;rw [uA h2]
theorem a6d:∀ (c:List μ) (acc:List μ) (t:List UInt8),(∀ x∈c,(V x.time/\V x.n)/\(∀ v∈x.row,HT v)/\x.row.length<=9223372036854775807/\(gB x.row).size<=9223372036854775807)->xk c.length (eM c++t,false) acc=some (acc++c)
 | [],acc,t,_=>by rw [List.append_nil];rfl
 | x :: c,acc,t,h=>by
  obtain ⟨⟨h1,h2⟩,h3,h4,h5⟩:=h x (by simp);have e:eM (x :: c)++t=(j7 x).data.toList++(eM c++t):=by simp [eM]
  rw [e,List.length_cons,aHG (aR3 h1 h2 h3 h4 h5)];rw [a6d c _ t λy hy=>h y (by simp [hy]),aq];rfl
theorem aR1{x:μ}(h:V x.time):1<=(j7 x).data.toList.length:=by
 have h1:=cC h;rw [cF];unfold j7;rw [av,av];omega
theorem a6c:∀ {c:List μ},(∀ x∈c,V x.time)->c.length<=(eM c).length
 | [],_=>Nat.zero_le _
 | x :: c,h=>by
  have h1:=aR1 (h x (by simp));have h2:=a6c (c:=c) λy hy=>h y (by simp [hy]);have e:eM (x :: c)=(j7 x).data.toList++eM c:=by simp [eM]
  rw [e,List.length_append,List.length_cons];omega
def Np(x:μ):Prop:=(V x.time/\V x.n)/\(∀ v∈x.row,HT v)/\x.row.length<=9223372036854775807/\(gB x.row).size<=9223372036854775807
theorem UM{a:List μ}(h:∀ x∈bk a,Np x)(hl:(bk a).length<=1000000000):readAll (bQ a)=some (bk a):=by
 have h1:=a6d (bk a) [] [] h;rw [List.append_nil,List.nil_append] at h1;have h2:=a6c λx hx=>(h x hx).1.1;unfold readAll bQ;rw [YJ (by omega)];simp only;rw [show (min ((bk a).length:Int) (((cY (bk a).length).data.toList++eM (bk a)).length:Int)).toNat=(bk a).length by rw [List.length_append];omega];exact h1
theorem aQI(a:List μ):bQ (bk a)=bQ a:=by
 unfold bQ;rw [a6U]
theorem aHJ{a:List μ}(h:∀ x∈bk a,Np x)(hl:(bk a).length<=1000000000):sL (bQ a)=some (bk a):=by
 unfold sL;rw [UM h hl];simp only;rw [aXk (BS a).1,aQI,decide_eq_true rfl];rfl
section
variable {W w:World}{R G S:List Own}{Φ:Y}{b:Nat}{st:bu}
set_option maxHeartbeats 2000000 in
theorem a4T[O Φ](hΦ:∀ M w,Φ M w->fG M w)(l:List UInt8)(hl:l.length<=10000000)(hfit:∀ out,readAll l=some out->out.length<=400/\∀ x∈out,Fit x)(c:Ctx W w S Φ){K:c6}
  (h0:sL l=none->∀ w',Ctx W w' S Φ->K (.returned (.tuple #[.slice none 0 0,.bool false])) w')
  (h1:∀ r p cap w',sL l=some r->r.length<=cap->cap<=maxLen->Ctx W w' S (λM w=>Φ M w/\ζ M w p r)->K (.returned (.tuple #[.slice p r.length cap,.bool true])) w') :
  ω F.JA #[.string (bs l)] w K:=by
 refine cn (aMF (bs l) (J:=K∘.returned) (R:=S) c ?_);clear c;refine λw G B=>Ny l B λb w B=>⟨_,rfl,rd b (l,false) :: S,Φ,γ,B,?_⟩;clear B;refine λw G B=>UE (S:=S) hΦ (by simp only;omega) B ?_;clear B;have hlen:(kY (l,false)).2.1.length<=l.length:=rA 59 0 (l,false);have hnn:0<=(kY (l,false)).1/\(kY (l,false)).1<=9223372036854775807:=Rn (e:=59) (.inr (.inl rfl)) (l,false);have hall:readAll l=xk (min (kY (l,false)).1 l.length).toNat (kY (l,false)).2 []:=rfl
 have hrow:sL l=match readAll l with
  | some out=>if kQ out&&decide (bQ out=l) then some out else none
  | none=>none:=rfl
 obtain ⟨⟨n0,kC⟩,hst⟩:∃ x,kY (l,false)=x:=⟨_,rfl⟩;rw [hst] at hlen hnn hall ⊢;simp only at hlen hnn hall ⊢;obtain ⟨m0,hm0⟩:∃ m,(min n0 (l.length:Int)).toNat=m:=⟨_,rfl⟩;rw [hm0] at hall;have hsz:(bs l).size=l.length:=dx l;have hml:m0<=l.length:=by omega
 refine bK (λp n c i R' Z k=>∃ (j:Nat) (st:bu) (acc:List μ) (ds:List Value),n=acc.length/\R'=.buf p n c ds 113 3 :: rd b st :: S/\Z=(λM w=>Φ M w/\Δ M w ds acc)/\k=m0 - j/\i=j/\j<=m0/\st.1.length<=l.length/\acc.length<=j/\readAll l=xk (m0 - j) st acc)
  ⟨⟨.buf none 0 0 [] 113 3 :: rd b kC :: S,λM w=>Φ M w/\Δ M w [] ([]:List μ),_,γ,λw G B=>(B.sI 113 3).weak λM w h=>⟨h,Δ.nil⟩,0,kC,[],[],rfl,rfl,rfl,rfl,rfl,Nat.zero_le _,hlen,Nat.le_refl _,hall⟩,?_⟩
 rintro p n c i ν θ k _ ⟨j,st,acc,ds,rfl,rfl,rfl,rfl,rfl,hj,vP,haj,hrl⟩;clear hall;have ze:O (λM w=>Φ M w/\Δ M w ds acc):=γ;refine U.intro (λhlt=>?_) (λhge=>?_)
 .have hlt:=aD hlt;have a8H:j<m0:=by omega
  rw [show m0 - j=(m0 - (j+1))+1 by omega] at hrl;have q1:(ax st).2.1.length<=st.1.length:=rA 59 (-9223372036854775808) st;obtain ⟨iL,DQ⟩:=Za (ax st).2;have aYD:(ax (stepT (ax st).2).2).2.1.length<=(stepT (ax st).2).2.1.length:=rA 59 (-9223372036854775808) _;have hi1:=vv st;have hi2:=vv (stepT (ax st).2).2;refine λw G B=>tG (S:=.buf p acc.length c ds 113 3 :: S) (λM w h=>hΦ M w h.1) (by omega) B.swap ?_
  refine λ_ w G B=>OO (S:=.buf p acc.length c ds 113 3 :: S) (λM w h=>hΦ M w h.1) (by omega) B ?_;refine λw G B=>aPT (R:=rd b (stepT (ax st).2).2 :: .buf p acc.length c ds 113 3 :: S) (λM w h=>hΦ M w h.1) (stepT (ax st).2).1 (by omega) B (λhn=>?_) (λr q qc hr g1 g2 u6=>?_)
  .rw [aYM (aZ4 hn)] at hrl;refine U.intro (λ_=>λw G B=>h0 (by rw [hrow,hrl]) w (B.left.eN.eN.weak λM w h=>h.1)) (λh=>by cases h)
  .refine U.intro (λh=>by cases h) (λ_=>?_);have hd:sQ st=some (⟨(ax st).1,r,(ax (stepT (ax st).2).2).1⟩,(ax (stepT (ax st).2).2).2):=aIX hr;obtain ⟨x,hx⟩:∃ x:μ,x=⟨(ax st).1,r,(ax (stepT (ax st).2).2).1⟩:=⟨_,rfl⟩;rw [<-hx] at hd;rw [aHG hd] at hrl;refine λw G B=>tG (S:=.buf p acc.length c ds 113 3 :: S) (λM w h=>hΦ M w h.1.1) (by omega) B ?_;refine λUS w G B=>?_;have bG:Ctx W w (.blk US (x.cells q qc) 113 :: .buf p acc.length c ds 113 3 :: (rd b (ax (stepT (ax st).2).2).2 :: S++G)) (λM w=>(Φ M w/\Δ M w ds acc)/\ζ M w q r):=by rw [hx];exact B.perm ((List.Perm.swap _ _ _).cons _)
   obtain ⟨p',cap',w',hrun,_,cJ⟩:=Ctx.vB (P:=prog) (ts:=25) (ty:=25) (kb:=#[false,false]) (size:=3) (bytes:=40) bG (by kernel_rfl) (by omega) rfl rfl (by omega) (by omega);have C5:O (λM w=>Φ M w/\Δ M w (ds++x.cells q qc) (acc++[x])):=γ;have WY:Ctx W w' (.buf p' (acc++[x]).length cap' (ds++x.cells q qc) 113 3 :: rd b (ax (stepT (ax st).2).2).2 :: S++G) (λM w=>Φ M w/\Δ M w (ds++x.cells q qc) (acc++[x])):=by
    rw [List.length_append,List.length_singleton];exact cJ.weak λM w h=>⟨h.1.1,h.1.2.snoc (AR (x:=x) (by rw [hx];exact g1) g2 (by rw [hx];exact hi1) (by rw [hx];exact hi2) (by rw [hx];exact h.2))⟩
   refine ⟨p',acc.length+1,cap',w',hrun,_,_,C5,WY,by unfold V;omega,_,_,m0 - (j+1),C5,λw G B=>B,⟨j+1,_,acc++[x],_,by simp,by simp,rfl,rfl,by omega,by omega,by omega,by rw [List.length_append,List.length_singleton];omega,hrl⟩,by omega⟩
 .have hge:=aO hge;have a8H:m0 - j=0:=by omega
  rw [a8H,aYN] at hrl;rw [hrl] at hrow;simp only at hrow;obtain ⟨PY,aUx⟩:=hfit acc hrl;have u6:O (λM w=>Φ M w/\ζ M w p acc):=γ;intro w G B;obtain ⟨cW,hs,_,g1,g2⟩:=Ctx.freeze (α:=μ) B.fst B.Γ.2;refine (aNy (Φ:=λM w=>Φ M w/\ζ M w p acc) p c acc (λM w h=>h.2) (by omega)).Rq (R:=rd b st :: S) (cW.add hs) ?_;clear B cW hs;refine U.intro (λhc=>λw G B=>h0 ?_ w (B.left.eN.weak λM w h=>h.1)) (λhc=>?_)
  .have hc:kQ acc=false:=by simpa using hc
   rw [hrow,hc,if_neg (by simp)]
  .have hc:kQ acc=true:=by simpa using hc
   rw [hc,Bool.true_and] at hrow;refine λw G B=>(TA (Φ:=λM w=>Φ M w/\ζ M w p acc) p c acc (λ_ M w h=>(hΦ M w h.1).1) (λM w h=>h.2) PY aUx).bE (R:=rd b st :: S) B ?_;refine U.intro (λhb=>λw G B=>h0 ?_ w (B.left.eN.weak λM w h=>h.1)) (λhb=>λw G B=>h1 acc p c w ?_ g1 g2 B.left.eN)
   .have hb:bQ acc≠l:=λe=>aD hb (by rw [e];rfl);rw [hrow,decide_eq_false hb,if_neg (by simp)]
   .have hb:bQ acc=l:=UX.1 (Decidable.not_not.1 (aO hb));rw [hrow,decide_eq_true hb,if_pos rfl]
end
end Go.Proofs.YtfijlibaeahlaaaGreatDoor
end

section
namespace Go.Proofs.YtfijlibaeahlaaaGreatDoor
open Go.Vc
def fK(m:bP):ByteArray:=aK m.kind++aK m.node++aK m.dS++aK m.bucket++aK m.n++bx (bs (bQ m.ξ))
theorem aXT{m:bP}(hok:m.lP)(hb:(bQ m.ξ).length<=100000000000):(fK m).size<=(bQ m.ξ).length+200:=by
 have h0:=cC hok.kind;have h1:=cC hok.node;have h2:=cC hok.dS;have h3:=cC hok.bucket;have h4:=cC hok.n;have h5:=mJ (s:=bs (bQ m.ξ)) (by rw [dx];omega);rw [dx] at h5;unfold fK;rw [av,av,av,av,av];omega
section
variable {Φ:Y}
theorem a2O[O Φ](hT:∀ M w,Φ M w->oP M w){m:bP}{p:Option Addr}{c:Nat}(hΦ:∀ M w,Φ M w->ζ M w p m.ξ)(hok:m.lP)(hl:m.ξ.length<=400)(hf:∀ x∈m.ξ,Fit x)(hb:(bQ m.ξ).length<=100000000000):
  ay Φ prog F.Oo #[m.v p c] (.string (fK m)):=by
 have h0:=cC hok.kind;have h1:=cC hok.node;have h2:=cC hok.dS;have h3:=cC hok.bucket;have h4:=cC hok.n;have h5:=mJ (s:=bs (bQ m.ξ)) (by rw [dx];omega);have h6:(bs (bQ m.ξ)).size=(bQ m.ξ).length:=dx _;refine dN (aLn m.kind m.node m.dS m.bucket m.n p m.ξ.length c) λW R=>λ_=>?_;have any:∀ {w:World} {R G:List Own} {Ψ:Y} [O Ψ],Ctx W w (R++G) Ψ->Ctx W w ([]++G) (λ_ _=>True):=λB=>(Ctx.right B).weak λ_ _ _=>trivial
 refine ⟨[],λ_ _=>True,γ,λw G B=>any B,λw G B=>?_⟩;refine (mV (.inl ⟨hT,hok.kind⟩)).bE B ⟨λw G B=>any B,λw G B=>(mV (.inl ⟨hT,hok.node⟩)).bE B ⟨λw G B=>any B,by show (aK m.kind).size+(aK m.node).size<=_;omega,λw G B=>(mV (.inl ⟨hT,hok.dS⟩)).bE B ⟨λw G B=>any B,by show (aK m.kind++aK m.node).size+(aK m.dS).size<=_;rw [av];omega,λw G B=>(mV (.inl ⟨hT,hok.bucket⟩)).bE B ⟨λw G B=>any B,by show (aK m.kind++aK m.node++aK m.dS).size+(aK m.bucket).size<=_;rw [av,av];omega,λw G B=>(mV (.inl ⟨hT,hok.n⟩)).bE B ⟨λw G B=>any B,by show (aK m.kind++aK m.node++aK m.dS++aK m.bucket).size+(aK m.n).size<=_;rw [av,av,av];omega,λw G B=>?_⟩⟩⟩⟩⟩
 refine (TA p c m.ξ (λ_=>hT) hΦ hl hf).bE B ⟨λw G B=>any B,λw G B=>(BF (s:=bs (bQ m.ξ)) (.inl ⟨hT,by unfold V;omega⟩) (by omega)).bE B ⟨λw G B=>any B,?_,λw G B=>⟨rfl,B.left⟩⟩⟩;show (aK m.kind++aK m.node++aK m.dS++aK m.bucket++aK m.n).size+(bx (bs (bQ m.ξ))).size<=_;rw [av,av,av,av];omega
theorem a2N[O Φ]{m:bP}{p:Option Addr}{c:Nat}(hΦ:∀ M w,Φ M w->ζ M w p m.ξ)(hok:m.lP)(ey:m.ξ.length<=c)(gY:c<=maxLen)(hl:m.ξ.length<=400)(hf:∀ x∈m.ξ,Fit x)(hb:(bQ m.ξ).length<=100000000000):
  ay Φ prog F.PN #[m.v p c] (.string (fK m)):=by
 have h0:=cC hok.kind;have h1:=cC hok.node;have h2:=cC hok.dS;have h3:=cC hok.bucket;have h4:=cC hok.n;have h5:=mJ (s:=bs (bQ m.ξ)) (by rw [dx];omega);have h6:(bs (bQ m.ξ)).size=(bQ m.ξ).length:=dx _;refine dN (aMi m.kind m.node m.dS m.bucket m.n p m.ξ.length c) λW R=>λ_=>?_;have any:∀ {w:World} {R G:List Own} {Ψ:Y} [O Ψ],Ctx W w (R++G) Ψ->Ctx W w ([]++G) (λ_ _=>True):=λB=>(Ctx.right B).weak λ_ _ _=>trivial
 refine ⟨[],λ_ _=>True,γ,λw G B=>any B,λw G B=>?_⟩;refine ((mU _ hok.kind).in).bE B ⟨λw G B=>any B,λw G B=>((mU _ hok.node).in).bE B ⟨λw G B=>any B,by show (aK m.kind).size+(aK m.node).size<=_;omega,λw G B=>((mU _ hok.dS).in).bE B ⟨λw G B=>any B,by show (aK m.kind++aK m.node).size+(aK m.dS).size<=_;rw [av];omega,λw G B=>((mU _ hok.bucket).in).bE B ⟨λw G B=>any B,by show (aK m.kind++aK m.node++aK m.dS).size+(aK m.bucket).size<=_;rw [av,av];omega,λw G B=>((mU _ hok.n).in).bE B ⟨λw G B=>any B,by show (aK m.kind++aK m.node++aK m.dS++aK m.bucket).size+(aK m.n).size<=_;rw [av,av,av];omega,λw G B=>?_⟩⟩⟩⟩⟩
 refine (a4S (cap:=c) (hΦ:=⟨hΦ⟩) ey gY hl hf).bE B ⟨λw G B=>any B,λw G B=>((BE (bs (bQ m.ξ)) (by omega)).in).bE B ⟨λw G B=>any B,?_,λw G B=>⟨rfl,B.left⟩⟩⟩;show (aK m.kind++aK m.node++aK m.dS++aK m.bucket++aK m.n).size+(bx (bs (bQ m.ξ))).size<=_;rw [av,av,av,av];omega
end
end Go.Proofs.YtfijlibaeahlaaaGreatDoor
end

section
namespace Go.Proofs.YtfijlibaeahlaaaGreatDoor
open Go.Vc
end Go.Proofs.YtfijlibaeahlaaaGreatDoor
end

section
namespace Go.Proofs.YtfijlibaeahlaaaGreatDoor
open Go.Vc
theorem a6W:∀ {l:List μ},∀ z∈bk l,∃ y∈l,y.key=z.key
 | [],z,hz=>by cases hz
 | x :: l,z,hz=>by
  rcases a8r x (bk l) z hz with h|⟨y,hy,h⟩
  .exact ⟨x,by simp,h.symm⟩
  .obtain ⟨u,hu,he⟩:=a6W y hy;exact ⟨u,by simp [hu],he.trans h⟩
def yX(l:List μ):Prop:=∀ x∈l,(V x.time/\V x.n)/\∀ v∈x.row,(V v.kind/\V v.num)/\v.text.size<=maxLen
theorem aIM{M:List Nat}{w:World}{p:Option Addr}{l:List μ}(h:ζ M w p l):yX l:=λx hx=>by
 obtain ⟨i,hi,rfl⟩:=List.getElem_of_mem hx;obtain ⟨_,_,_,_,_,_,hr⟩:=h i hi;obtain ⟨_,_,_,_,_,ht,hn,hs⟩:=BU hr;exact ⟨⟨ht,hn⟩,Mb hs⟩
theorem a6Y{a:List μ}(h:yX a):yX (bk a):=λz hz=>by
 obtain ⟨y,hy,he⟩:=a6W z hz;have h1:=h y hy;have e1:y.time=z.time:=congrArg Prod.fst he;have e2:y.row=z.row:=congrArg Prod.snd he;rw [<-e1,<-e2];exact ⟨⟨h1.1.1,(BS a).1.i64 z hz⟩,h1.2⟩
structure Good(m:bP):Prop where
 ok:m.lP
 right:kZ m=true
 Fw:yX m.ξ
theorem pG{m:bP}(h:kZ m=true):m.ξ.length<=8/\∀ x∈m.ξ,x.row.length<=12/\∀ v∈x.row,v.text.size<=200:=by
 unfold kZ tr at h;simp only [Bool.and_eq_true,Bool.not_eq_true',Bool.or_eq_false_iff,decide_eq_false_iff_not] at h;obtain ⟨⟨⟨_,⟨⟨_,h1⟩,_⟩⟩,_⟩,h2⟩:=h;refine ⟨by omega,λx hx=>?_⟩;rw [List.any_eq_false] at h2;have:=h2 x hx;simp only [Bool.not_eq_true',Bool.not_eq_false] at this;unfold sN at this;simp only [Bool.and_eq_true,decide_eq_true_eq,List.all_eq_true] at this;refine ⟨by have:=this.1;omega,λv hv=>?_⟩
 have h3:=this.2 v hv;unfold lH at h3;split at h3
 .rw [aD h3];exact Nat.zero_le _
 .split at h3
  .simp only [Bool.and_eq_true,decide_eq_true_eq] at h3;omega
  .simp only [Bool.and_eq_true,decide_eq_true_eq] at h3;rw [h3.2];exact Nat.zero_le _
theorem aYY{m:bP}(h:kZ m=true):kQ m.ξ=true:=by
 unfold kZ at h;simp only [Bool.and_eq_true] at h;exact h.1.2
theorem Good.fit{m:bP}(h:Good m):∀ x∈m.ξ,Fit x:=λx hx=>by
 have:=(pG h.right).2 x hx;exact ⟨by omega,λv hv=>Nat.le_trans (this.2 v hv) (by decide)⟩
theorem Good.row{m:bP}(h:Good m){x:μ}(hx:x∈bk m.ξ):(V x.time/\V x.n)/\(gB x.row).size<=3229/\x.row.length<=12/\∀ v∈x.row,(V v.kind/\V v.num)/\v.text.size<=200:=by
 have h1:=J3 (P:=λr=>r.length<=12/\∀ v∈r,v.text.size<=200) (pG h.right).2 x hx;have h2:=a6Y h.Fw x hx;have h3:∀ v∈x.row,(V v.kind/\V v.num)/\v.text.size<=200:=λv hv=>⟨(h2.2 v hv).1,h1.2 v hv⟩;have h:=MO (m:=200) (r:=x.row) h3 (by decide) (by omega);have:x.row.length*(200+64)<=12*(200+64):=Nat.mul_le_mul_right _ h1.1;refine ⟨h2.1,?_,h1.1,h3⟩;unfold gB;rw [qI];omega
theorem V6:∀ {c:List μ},(∀ x∈c,(j7 x).size<=3300)->(eM c).length<=c.length*3300
 | [],_=>by simp [eM]
 | x :: c,h=>by
  have h1:=V6 (c:=c) λy hy=>h y (by simp [hy]);have h2:=h x (by simp);have e:eM (x :: c)=(j7 x).data.toList++eM c:=by simp [eM]
  rw [e,List.length_append,cF,List.length_cons,Nat.add_mul];omega
theorem Good.bytes{m:bP}(h:Good m):(bQ m.ξ).length<=30000:=by
 have h1:∀ x∈bk m.ξ,(j7 x).size<=3300:=λx hx=>by
  obtain ⟨h2,h3,_⟩:=h.row hx;have a1:=cC h2.1;have a2:=cC h2.2;have a3:=mJ (s:=gB x.row) (by omega);unfold j7;rw [av,av];omega
 have h4:=V6 h1;have h5:=wY m.ξ;have ach:=(pG h.right).1;have h6:=p7 (n:=((bk m.ξ).length:Int)) (by unfold V;omega);unfold bQ;rw [List.length_append,cF];omega
theorem Good.msg{m:bP}(h:Good m):(fK m).size<=30200:=Nat.le_trans (aXT h.ok (by have:=h.bytes;omega)) (by have:=h.bytes;omega)
theorem tN(a:List UInt8)(b:ByteArray):bs a++b=bs (a++b.data.toList):=by
 apply ByteArray.ext;apply Array.toList_inj.1;rw [ByteArray.data_append,Array.toList_append];rfl
theorem Good.text{m:bP}(h:Good m):(bx (fK m)).size<=30300:=by
 have h1:=h.msg;have h2:=mJ (s:=fK m) (by omega);omega
section
variable {W w:World}{S:List Own}{Φ:Y}
end
end Go.Proofs.YtfijlibaeahlaaaGreatDoor
end

section
namespace Go.Proofs.YtfijlibaeahlaaaGreatDoor
open Go.Vc
section
variable {W w:World}{R G S:List Own}{Φ:Y}{b:Nat}{st:bu}
end
theorem aQk{x y z:μ}(h1:ew x y<0)(h2:ew y z<0):ew x z<0:=by
 rw [iW] at *;exact fH.trans _ _ _ h1 h2
theorem a6V{l:List μ}(h:kQ l=true){j:Nat}(hj:j<l.length):mj l j=true:=by
 unfold kQ at h;rw [List.all_eq_true] at h;exact h j (List.mem_range.2 hj)
theorem a6X{l:List μ}(h:kQ l=true):∀ (j i:Nat) (hj:j<l.length) (hij:i<j),ew (l[i]'(by omega)) l[j]<0
 | 0,i,hj,hij=>by omega
 | j+1,i,hj,hij=>by
  have h1:=a6V h hj;unfold mj at h1;rw [List.getElem?_eq_getElem hj] at h1;simp only [List.getElem?_eq_getElem (show j<l.length by omega),Bool.and_eq_true,decide_eq_true_eq] at h1;by_cases e:i=j
  .subst e;exact h1.2
  .exact aQk (a6X h j i (by omega) (by omega)) h1.2
theorem aQu{l:List μ}(h:kQ l=true)(hm:yX l):Norm l:=by
 refine ⟨List.pairwise_iff_getElem.2 λi j hi hj hij=>a6X h j i hj hij,λx hx=>?_,λx hx=>(hm x hx).1.2⟩;obtain ⟨j,hj,rfl⟩:=List.getElem_of_mem hx;have h1:=a6V h hj;unfold mj at h1;rw [List.getElem?_eq_getElem hj] at h1;simp only [Bool.and_eq_true,decide_eq_true_eq] at h1;exact h1.1
theorem Good.self{m:bP}(h:Good m):bk m.ξ=m.ξ:=V3 (aQu (aYY h.right) h.Fw)
def n3:Nat->bu->List Int × bu
 | 0,st=>([],st)
 | k+1,st=>((ax st).1 :: (n3 k (ax st).2).1,(n3 k (ax st).2).2)
def Qr(ns:List Int)(ds:List μ):bP:=⟨ns.getD 0 0,ns.getD 1 0,ns.getD 2 0,ns.getD 3 0,ns.getD 4 0,ds⟩
def Cz(l:List UInt8):List Int:=(n3 5 (l,false)).1
def zJ(l:List UInt8):List UInt8:=(stepT (n3 5 (l,false)).2).1.data.toList
def FC(l:List UInt8):bu:=(stepT (n3 5 (l,false)).2).2
def Je(l:List UInt8)(m:bP):Option bP:=if xj (FC l)=true/\kZ m=true then some m else none
def xl(l:List UInt8):Option bP:=match sL (zJ l) with
 | none=>none
 | some ds=>Je l (Qr (Cz l) ds)
def Nw(l:List UInt8):Prop:=∀ out,readAll l=some out->out.length<=400/\∀ x∈out,Fit x
def a2M(l:List UInt8):Prop:=l.length<=1000000/\Nw (zJ l)
theorem aXm(a b:ByteArray):(a++b).data.toList=a.data.toList++b.data.toList:=by simp [ByteArray.data_append]
theorem aXS(m:bP)(t:List UInt8):(fK m).data.toList++t=(aK m.kind).data.toList++((aK m.node).data.toList++((aK m.dS).data.toList++((aK m.bucket).data.toList++((aK m.n).data.toList++((bx (bs (bQ m.ξ))).data.toList++t))))):=by
 unfold fK;simp only [aXm,aq]
theorem aV4{m:bP}(h:m.lP)(t:List UInt8):n3 5 ((fK m).data.toList++t,false)=([m.kind,m.node,m.dS,m.bucket,m.n],((bx (bs (bQ m.ξ))).data.toList++t,false)):=by
 rw [aXS];simp only [n3];rw [uA h.kind];simp only;rw [uA h.node];simp only;rw [uA h.dS];simp only;rw [uA h.bucket];simp only;rw [uA h.n]
theorem Good.Jf{m:bP}(h:Good m):∀ x∈bk m.ξ,Np x:=λx hx=>by
 obtain ⟨h1,h2,h3,h4⟩:=h.row hx;exact ⟨h1,λv hv=>⟨(h4 v hv).1,Nat.le_trans (h4 v hv).2 (by decide)⟩,Nat.le_trans h3 (by decide),Nat.le_trans h2 (by decide)⟩
theorem Good.aHF{m:bP}(h:Good m):n3 5 ((fK m).data.toList,false)=([m.kind,m.node,m.dS,m.bucket,m.n],((bx (bs (bQ m.ξ))).data.toList,false)):=by
 have h1:=aV4 h.ok [];rw [List.append_nil,List.append_nil] at h1;exact h1
theorem Good.aHI{m:bP}(h:Good m):stepT (n3 5 ((fK m).data.toList,false)).2=(bs (bQ m.ξ),([],false)):=by
 have hb:=h.bytes;have h2:=Rp (s:=bs (bQ m.ξ)) (r:=[]) (by rw [dx];omega);rw [List.append_nil] at h2;rw [h.aHF];exact h2
theorem Good.dat{m:bP}(h:Good m):zJ (fK m).data.toList=bQ m.ξ:=by
 unfold zJ;rw [h.aHI,Im]
theorem Good.a6T{m:bP}(h:Good m):(bk m.ξ).length<=8:=Nat.le_trans (wY _) (pG h.right).1
theorem Good.read{m:bP}(h:Good m):xl (fK m).data.toList=some m:=by
 have hn:=h.a6T;unfold xl;rw [h.dat,aHJ h.Jf (by omega)];simp only;rw [h.self];have e1:Qr (Cz (fK m).data.toList) m.ξ=m:=by
  unfold Cz;rw [h.aHF];rfl
 rw [e1];unfold Je FC;rw [h.aHI];exact if_pos ⟨rfl,h.right⟩
theorem Good.aXQ{m:bP}(h:Good m):a2M (fK m).data.toList:=by
 have hn:=h.a6T;have hs:=h.msg;refine ⟨by rw [cF];omega,?_⟩;rw [h.dat];intro out ho;rw [UM h.Jf (by omega)] at ho;cases ho;exact ⟨by omega,λx hx=>by
  obtain ⟨_,_,h3,h4⟩:=h.row hx;exact ⟨by omega,λv hv=>Nat.le_trans (h4 v hv).2 (by decide)⟩⟩
theorem a90:∀ (k:Nat) (st:bu),(n3 k st).2.1.length<=st.1.length
 | 0,st=>Nat.le_refl _
 | k+1,st=>by
  have h1:(ax st).2.1.length<=st.1.length:=rA 59 (-9223372036854775808) st;have h2:=a90 k (ax st).2;show (n3 k (ax st).2).2.1.length<=_;omega
attribute [local irreducible] xl stepT ax
def Rl(l:List UInt8):bu:=(kY (ax (l,false)).2).2
end Go.Proofs.YtfijlibaeahlaaaGreatDoor
end

section
namespace Go.Proofs.YtfijlibaeahlaaaGreatDoor
open Go.Vc
section
variable {W w:World}{R G S:List Own}{Φ:Y}{b:Nat}{st:bu}
end
theorem RL(st:bu):(ax st).2.1.length<=st.1.length:=rA 59 (-9223372036854775808) st
section
variable {W w:World}{R G S:List Own}{Φ:Y}{b:Nat}{st:bu}
end
section
variable {W w:World}{R G S:List Own}{Φ:Y}{b:Nat}{st:bu}
theorem aPW[O Φ](hΦ:∀ M w,Φ M w->fG M w)(s:ByteArray)(hl:s.size<=10000000)(hfit:Nw s.data.toList)(c:Ctx W w S Φ){K:c6}
  (h0:sL s.data.toList=none->∀ w',Ctx W w' S Φ->K (.returned (.tuple #[.slice none 0 0,.bool false])) w')
  (h1:∀ r p cap w',sL s.data.toList=some r->r.length<=cap->cap<=maxLen->Ctx W w' S (λM w=>Φ M w/\ζ M w p r)->K (.returned (.tuple #[.slice p r.length cap,.bool true])) w') :
  ω F.JA #[.string s] w K:=by
 have:=a4T hΦ s.data.toList (by rw [cF];exact hl) hfit c h0 h1;rw [a58] at this;exact this
theorem aXU{l:List UInt8}(h:sL (zJ l)=none):xl l=none:=by unfold xl;rw [h]
theorem aXV{l:List UInt8}{ds:List μ}(h:sL (zJ l)=some ds):xl l=Je l (Qr (Cz l) ds):=by unfold xl;rw [h]
theorem a6s{l:List UInt8}{m:bP}(h:¬ (xj (FC l)=true/\kZ m=true)):Je l m=none:=if_neg h
theorem aUz{l:List UInt8}{m:bP}(h:xj (FC l)=true/\kZ m=true):Je l m=some m:=if_pos h
theorem aQz(l:List UInt8):(n3 5 (l,false)).2.1.length<=l.length/\(stepT (n3 5 (l,false)).2).1.size<=l.length:=by
 have h1:=(Za (n3 5 (l,false)).2).2;have h2:(n3 5 (l,false)).2.1.length<=l.length:=a90 5 (l,false);exact ⟨h2,by omega⟩
set_option maxHeartbeats 1000000 in
theorem aPS[O Φ](hN:∀ M w,Φ M w->fG M w)(l:List UInt8)(hm:a2M l)(c:Ctx W w S Φ){K:c6}
  (h0:xl l=none->∀ w',Ctx W w' S Φ->K (.returned (.tuple #[aXR.v none 0,.bool false])) w')
  (h1:∀ m p cap w',xl l=some m->Good m->m.ξ.length<=cap->cap<=maxLen->Ctx W w' S (λM w=>Φ M w/\ζ M w p m.ξ)->K (.returned (.tuple #[m.v p cap,.bool true])) w') :
  ω F.Uo #[.string (bs l)] w K:=by
 obtain ⟨hl,hf⟩:=hm;obtain ⟨hd1,a7y⟩:=aQz l;obtain ⟨⟨n1,s1⟩,e1⟩:∃ x,ax (l,false)=x:=⟨_,rfl⟩;obtain ⟨⟨n2,s2⟩,e2⟩:∃ x,ax s1=x:=⟨_,rfl⟩;obtain ⟨⟨nA,fN⟩,eE⟩:∃ x,ax s2=x:=⟨_,rfl⟩;obtain ⟨⟨cX,eC⟩,bR⟩:∃ x,ax fN=x:=⟨_,rfl⟩;obtain ⟨⟨uN,k9⟩,fY⟩:∃ x,ax eC=x:=⟨_,rfl⟩;have lY:n3 5 (l,false)=([n1,n2,nA,cX,uN],k9):=by simp only [n3,e1,e2,eE,bR,fY]
 have zL:Cz l=[n1,n2,nA,cX,uN]:=by unfold Cz;rw [lY]
 have ed:zJ l=(stepT k9).1.data.toList:=by unfold zJ;rw [lY]
 have ee:FC l=(stepT k9).2:=by unfold FC;rw [lY]
 have q1:s1.1.length<=l.length:=by have:=RL (l,false);rw [e1] at this;exact this
 have iL:s2.1.length<=s1.1.length:=by have:=RL s1;rw [e2] at this;exact this
 have DQ:fN.1.length<=s2.1.length:=by have:=RL s2;rw [eE] at this;exact this
 have aYD:eC.1.length<=fN.1.length:=by have:=RL fN;rw [bR] at this;exact this
 have i1:V n1:=by have:=vv (l,false);rw [e1] at this;exact this
 have i2:V n2:=by have:=vv s1;rw [e2] at this;exact this
 have i3:V nA:=by have:=vv s2;rw [eE] at this;exact this
 have i4:V cX:=by have:=vv fN;rw [bR] at this;exact this
 have i5:V uN:=by have:=vv eC;rw [fY] at this;exact this
 rw [lY] at hd1 a7y;rw [ed] at hf;simp only at hd1 a7y;refine cn (aLo (bs l) (J:=K∘.returned) (R:=S) c ?_);clear c;refine λ_ w G B=>Ny l B λb w B=>⟨_,rfl,rd b (l,false) :: S,Φ,γ,B,?_⟩;clear B;refine λw G B=>tG (S:=S) hN (by show l.length<=_;omega) B ?_;clear B;rw [e1];refine λw G B=>tG (S:=S) hN (by show s1.1.length<=_;omega) B ?_;clear B;rw [e2];refine λw G B=>tG (S:=S) hN (by show s2.1.length<=_;omega) B ?_
 clear B;rw [eE];refine λw G B=>tG (S:=S) hN (by show fN.1.length<=_;omega) B ?_;clear B;rw [bR];refine λw G B=>tG (S:=S) hN (by show eC.1.length<=_;omega) B ?_;clear B;rw [fY];refine λ_ w G B=>OO (S:=S) hN (by show k9.1.length<=_;omega) B ?_;clear B;refine λw G B=>aPW (S:=rd b (stepT k9).2 :: S++G) hN (stepT k9).1 (by omega) hf B (λhn w B=>?_) (λds p cap w hs g1 g2 B=>?_)
 .exact ⟨none,0,0,false,rfl,rd b (stepT k9).2 :: S,Φ,γ,B,U.intro (λ_=>λw G B=>h0 (aXU (by rw [ed];exact hn)) w B.left.eN) (λh=>by cases h)⟩
 have hx:=aXV (l:=l) (by rw [ed];exact hs);obtain ⟨m,hme⟩:∃ m,Qr (Cz l) ds=m:=⟨_,rfl⟩;have hok:m.lP:=by rw [<-hme,zL];exact ⟨i1,i2,i3,i4,i5⟩
 have aVz:m.ξ=ds:=by rw [<-hme];rfl
 rw [hme] at hx;have aZ1:O (λM w=>Φ M w/\ζ M w p ds):=γ;refine ⟨p,_,cap,true,rfl,rd b (stepT k9).2 :: S,_,aZ1,B,U.intro (λh=>by cases h) (λ_=>λw G B=>TD (S:=S) B (U.intro (λhd=>λw G B=>h0 ?_ w (B.left.eN.weak λM w h=>h.1)) (λhd=>λw G B=>?_)))⟩
 .have hd:xj (stepT k9).2=false:=by simpa using hd
  rw [hx,a6s (by rw [ee,hd];simp)]
 have hd:xj (stepT k9).2=true:=by simpa using hd
 have aW1:m.v p cap=.agg #[.int .i64 n1,.int .i64 n2,.int .i64 nA,.int .i64 cX,.int .i64 uN,.slice p ds.length cap]:=by rw [<-hme,zL];rfl
 have aVy:yX ds:=aIM B.Γ.2;subst aVz;rw [<-aW1];refine (aPf p cap m (λM w h=>h.2) (by unfold maxLen at g2;omega)).Rq B (U.intro (λhr=>λw G B=>h0 ?_ w (B.left.eN.weak λM w h=>h.1)) (λhr=>λw G B=>?_))
 .have hr:kZ m=false:=by simpa using hr
  rw [hx,a6s (by rw [hr];simp)]
 have hr:kZ m=true:=by simpa using hr
 exact h1 m p cap w (by rw [hx,aUz ⟨by rw [ee];exact hd,hr⟩]) ⟨hok,hr,aVy⟩ g1 g2 B.left.eN
end
end Go.Proofs.YtfijlibaeahlaaaGreatDoor
end

