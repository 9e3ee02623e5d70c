/-
 The reader of encodings: in plain Lean,and walked.
-/
import Derived.Test.YtnlkemjhgdbfkaaGreatDoorCu7
import Derived.Shelf.Strconv.AtoiAll
import Derived.Shelf.Small.Wraps
import Derived.Stop.IfaceNil
import Derived.Lib.AtoiErrMem
import Derived.Lib.AtoiAllCases
import Derived.Test.YtnlkemjhgdbfkaaGreatDoorCu6
import Derived.MapKept
import Derived.Maps.RangeRun
import Derived.Lib.AppendZerosOnto
import Derived.Lib.Overlaps
import Derived.Laws.IdiomCopy
import Derived.Laws.Externs
import Derived.Test.YtnlkemjhgdbfkaaGreatDoorCu5
import Derived.Lib.LazyBuf
import Derived.Lib.SlBytesRow
import Derived.Laws.Cells
open Go.Proofs.Tryz
set_option linter.unusedVariables false
set_option linter.unusedSimpArgs false
section
namespace Go.Vc
def UJ(g:Nat):PW:=λM w=>g ∉ M/\∃ ev,w.cell? ⟨g,0,none⟩=some ev/\(ev=.nilIface\/∃ te pe,ev=.iface te pe)
instance aE4(g:Nat):aB (UJ g):=⟨fun {M M' w w'} hs ⟨h1,ev,h2,h3⟩=>by
 have hlt:g<w.heap.size:=by
  rcases Nat.lt_or_ge g w.heap.size with h'|h'
  .exact h'
  .simp [World.cell?,Array.getElem?_eq_none h'] at h2
 refine ⟨λhm=>?_,ev,hs.chg.cell h2 h1,h3⟩;rcases hs.sub g hm with h|h
 .exact h1 h
 .omega⟩
theorem T3{w w'}(h:Go.RowKit.Below w.heap.size w w'):kT [] w w':=⟨h.os,h.tape,h.output,h.size,λk hk _=>h.block k hk⟩
theorem a1n{P op t ox oy u v}(w):(eqGuard op t ox oy (.iface u v) .nilIface).run P w=.ok () w:=by
 unfold eqGuard;cases op<;>rfl
theorem a6J{P op t}{k:Nat}{v}(w):(eqGuard op t (.tmp k) (.const v) .nilIface .nilIface).run P w=.ok () w:=by
 unfold eqGuard;cases op<;>rfl
theorem aK9{P op t t'}{k:Nat}{v}(ht:P.isIface t'=true)(w):((eqGuard op t (.tmp k) (.const v) .nilIface .nilIface) >>= λ_=>binOp .neq t' .nilIface .nilIface).run P w=.ok (.bool false) w:=by
 rw [Sem.run_bind,a6J];exact Go.run_neq_nil_nil_at w t' ht
theorem aLa{P op t t' ox oy u v}(ht:P.isIface t'=true)(w):((eqGuard op t ox oy (.iface u v) .nilIface) >>= λ_=>binOp .neq t' (.iface u v) .nilIface).run P w=.ok (.bool true) w:=by
 rw [Sem.run_bind,a1n];exact Go.run_neq_iface_nil w t' ht u v
end Go.Vc
namespace Go.Proofs.YtnlkemjhgdbfkaaGreatDoor
open Go.Vc
def wU:PW:=λM w=>yB M w/\UJ 3 M w/\UJ 4 M w
instance aHd:aB wU:=dD yB (λM w=>UJ 3 M w/\UJ 4 M w)
def bs(l:List UInt8):ByteArray:=⟨l.toArray⟩
theorem pT(l):(bs l).data.toList=l:=rfl
theorem bK(l):(bs l).size=l.length:=a2h l
theorem Z5(l a b):(bs l).extract a b=bs ((l.drop a).take (b - a)):=by
 apply ByteArray.ext;apply Array.toList_inj.1;rw [ByteArray.data_extract,Array.toList_extract];rfl
theorem a35{a b}:bs a=bs b ↔ a=b:=⟨λh=>by have:=congrArg (λx=>x.data.toList) h;exact this,λh=>by rw [h]⟩
theorem aVL(s):bs s.data.toList=s:=rfl
abbrev FF:=List UInt8 × Bool
def HU(e:UInt8)(least:Int)(l:List UInt8):Option (Int × List UInt8) :=
 let i:=Lib.indexByte (l.take 21) e
 if i<0 then none else match Lib.atoiAll (l.take i.toNat) with
  | .ok n=>if Lib.itoa n=l.take i.toNat/\least<=n then some (n,l.drop (i.toNat+1)) else none
  | _=>none
def gE(e:UInt8)(least:Int)(st:FF):Int × FF:=match HU e least st.1 with
 | some (n,r)=>(n,(r,st.2))
 | none=>(0,([],true))
def HV(c:UInt8)(st:FF):FF:=match st.1 with
 | []=>([],true)
 | x :: r=>if x=c then (r,st.2) else ([],true)
def stepT(st:FF):ByteArray × FF :=
 let a:=gE 58 0 st
 if (a.2.1.length:Int)<a.1 then (ByteArray.mk #[],([],true)) else
  let c:=HV 44 (a.2.1.drop a.1.toNat,a.2.2)
  (if c.2 then ByteArray.mk #[] else bs (a.2.1.take a.1.toNat),c)
theorem a6K{l r:List UInt8}{i e}(h:l.take i++e :: r=l)(hi:i<l.length):l[i]? = some e:=by
 have hl:(l.take i).length=i:=by rw [List.length_take];omega
 rw [<-h,List.getElem?_append_right (by omega),hl,Nat.sub_self];rfl
theorem T4:∀ (l:List UInt8) (c:UInt8),-1<=Lib.indexByte l c/\(Lib.indexByte l c = -1\/(0<=Lib.indexByte l c/\Lib.indexByte l c<l.length/\l.take (Lib.indexByte l c).toNat++c :: l.drop ((Lib.indexByte l c).toNat+1)=l/\c ∉ l.take (Lib.indexByte l c).toNat))
 | [],c=>by simp [Lib.indexByte]
 | b :: l,c=>by
  have ih:=T4 l c;unfold Lib.indexByte;by_cases hb:(b == c)=true
  .rw [if_pos hb];have:b=c:=by simpa using hb
   subst this;refine ⟨by omega,.inr ⟨by omega,by simp,by simp,by simp⟩⟩
  .rw [if_neg hb];by_cases h1:(Lib.indexByte l c == -1)=true
   .rw [if_pos h1];exact ⟨by omega,.inl rfl⟩
   .rw [if_neg h1];have h1:Lib.indexByte l c ≠ -1:=by simpa using h1
    obtain ⟨h2,h3⟩:=ih;rcases h3 with h3|⟨h3,h4,h5,h6⟩
    .exact absurd h3 h1
    .have e:(Lib.indexByte l c+1).toNat=(Lib.indexByte l c).toNat+1:=by omega
     refine ⟨by omega,.inr ⟨by omega,by simp;omega,?_,?_⟩⟩
     .rw [e,List.take_succ_cons,List.drop_succ_cons,List.cons_append,h5]
     .rw [e,List.take_succ_cons,List.mem_cons,not_or];exact ⟨λe=>hb (by simp [e]),h6⟩
theorem a6L{l c a r}(hl:l=a++c :: r)(hc:c ∉ a):Lib.indexByte l c=a.length:=by
 subst hl
 induction a with
 | nil=>simp [Lib.indexByte]
 | cons b a ih =>
  have hb:b≠c:=λe=>hc (by simp [e]);have ih:=ih λh=>hc (by simp [h]);rw [List.cons_append];unfold Lib.indexByte;rw [if_neg (by simpa using hb),if_neg (by rw [ih];simp),ih];simp
theorem wV:∀ (u:Nat),∀ c∈Lib.decDigits u,48<=c.toNat/\c.toNat<=57:=by
 intro u
 induction u using Nat.strongRecOn with
 | _ u ih =>
  intro c hc;rw [Lib.decDigits] at hc;split at hc
  .rename_i h;rw [List.mem_singleton] at hc;subst hc;have:(UInt8.ofNat (48+u)).toNat=48+u:=by simp;omega
   omega
  .rename_i h;rcases List.mem_append.1 hc with hc|hc
   .exact ih (u / 10) (by omega) c hc
   .rw [List.mem_singleton] at hc;subst hc;have:(UInt8.ofNat (48+u % 10)).toNat=48+u % 10:=by simp;omega
    omega
theorem a9x{n c}(h:c∈Lib.itoa n):c.toNat=45\/48<=c.toNat/\c.toNat<=57:=by
 unfold Lib.itoa at h;split at h
 .rcases List.mem_cons.1 h with rfl|h
  .left;rfl
  .right;exact wV _ c h
 .right;exact wV _ c h
def a1o(acc:Nat)(l:List UInt8):Nat:=l.foldl (λa c=>a*10+(c.toNat - 48)) acc
theorem aDd(acc l c):a1o acc (l++[c])=a1o acc l*10+(c.toNat - 48):=by simp [a1o]
theorem a6M:∀ u:Nat,a1o 0 (Lib.decDigits u)=u:=by
 intro u
 induction u using Nat.strongRecOn with
 | _ u ih =>
  rw [Lib.decDigits];split
  .rename_i h;show 0*10+((UInt8.ofNat (48+u)).toNat - 48)=u;have:(UInt8.ofNat (48+u)).toNat=48+u:=by simp;omega
   omega
  .rename_i h;rw [aDd,ih (u / 10) (by omega)];have:(UInt8.ofNat (48+u % 10)).toNat=48+u % 10:=by simp;omega
   omega
theorem a2i:∀ (l:List UInt8) (acc:Nat),acc<=a1o acc l
 | [],acc=>Nat.le_refl _
 | c :: l,acc=>by
  have:=a2i l (acc*10+(c.toNat - 48));show acc<=a1o (acc*10+(c.toNat - 48)) l;omega
theorem a2j:∀ (l:List UInt8) (acc:Nat),(∀ c∈l,48<=c.toNat/\c.toNat<=57)->a1o acc l<18446744073709551616->Lib.parseUint10 acc l=.ok (a1o acc l)
 | [],acc,_,_=>rfl
 | c :: l,acc,hc,h=>by
  have h0:=hc c (by simp);have hm:=a2i l (acc*10+(c.toNat - 48));have e:a1o acc (c :: l)=a1o (acc*10+(c.toNat - 48)) l:=rfl;rw [e] at h ⊢;unfold Lib.parseUint10;rw [if_pos h0,if_neg (by omega),if_neg (by omega)];exact a2j l _ (λd hd=>hc d (by simp [hd])) h
theorem aHe(u):Lib.decDigits u≠[]:=by
 intro e;have h1:=Lib.decDigits_length u;have h2:=Lib.nDigits_pos u;rw [e] at h1;simp at h1;omega
theorem aBD{u}(h:u<18446744073709551616):Lib.parseMag (Lib.decDigits u)=.ok u:=by
 unfold Lib.parseMag;rw [if_neg (aHe u),a2j _ 0 (wV u) (by rw [a6M];exact h),a6M]
theorem aDe{n}(h:bE n):Lib.atoiAll (Lib.itoa n)=.ok n:=by
 unfold bE at h;unfold Lib.itoa;split
 .rename_i hn;have hm:=aBD (u:=n.natAbs) (by omega);unfold Lib.atoiAll;simp only;rw [if_pos (.inr rfl),hm];simp only;have e45:(45:UInt8).toNat=45:=rfl;rw [if_neg (by intro h;exact h.1 e45),if_neg (by intro h;omega),if_pos e45]
  congr 1
  omega
 .rename_i hn;have hm:=aBD (u:=n.toNat) (by omega);obtain ⟨c,r,hcr⟩:∃ c r,Lib.decDigits n.toNat=c :: r:=by
   cases hd:Lib.decDigits n.toNat with
   | nil=>exact absurd hd (aHe _)
   | cons c r=>exact ⟨c,r,rfl⟩
  have h0:=wV n.toNat c (by rw [hcr];simp);rw [hcr] at hm ⊢;unfold Lib.atoiAll;simp only;rw [if_neg (by omega),hm];simp only;rw [if_neg (by omega),if_neg (by omega),if_neg (by omega)]
  congr 1
  omega
theorem HW{e}(he:e.toNat=58\/e.toNat=59\/e.toNat=91){least l n r}:HU e least l=some (n,r) ↔ (bE n/\least<=n)/\l=Lib.itoa n++e :: r:=by
 have hne:∀ n:Int,e ∉ Lib.itoa n:=λn h=>by have:=a9x h;omega
 constructor
 .intro h;unfold HU at h;simp only at h;split at h
  .cases h
  .rename_i hi;split at h
   .rename_i m hm;split at h
    .rename_i hc;cases h;have hb:=Lib.atoiAll_bounds hm;obtain ⟨_,h3⟩:=T4 (l.take 21) e;rcases h3 with h3|⟨h3,h4,h5,h6⟩
     .omega
     .refine ⟨⟨by unfold bE;omega,hc.2⟩,?_⟩;rw [hc.1];have hlt:(Lib.indexByte (l.take 21) e).toNat<(l.take 21).length:=by omega
      have aLb:(Lib.indexByte (l.take 21) e).toNat<l.length:=by rw [List.length_take] at hlt;omega
      have hg:l[(Lib.indexByte (l.take 21) e).toNat]=e:=by
       have h7:(l.take 21)[(Lib.indexByte (l.take 21) e).toNat]? = some e:=a6K h5 (by omega);rw [List.getElem?_take_of_lt (by rw [List.length_take] at hlt;omega),List.getElem?_eq_getElem aLb] at h7;exact Option.some.inj h7
      conv=>lhs;rw [<-List.take_append_drop (Lib.indexByte (l.take 21) e).toNat l,List.drop_eq_getElem_cons aLb,hg]
    .cases h
   .cases h
 .rintro ⟨⟨h1,h2⟩,rfl⟩;have hlen:=a6H h1;have ht:(Lib.itoa n++e :: r).take 21=Lib.itoa n++e :: r.take (20 - (Lib.itoa n).length):=by
   rw [List.take_append,List.take_of_length_le (by omega)]
   congr 1
   rw [show 21 - (Lib.itoa n).length=(20 - (Lib.itoa n).length)+1 by omega,List.take_succ_cons]
  have hi:=a6L ht (hne n);unfold HU;simp only;rw [hi,if_neg (by omega),Int.toNat_natCast,List.take_left',aDe h1]
  .simp only;rw [if_pos ⟨by simp,h2⟩]
   congr 2
   rw [List.drop_append,List.drop_of_length_le (by omega),List.nil_append,show (Lib.itoa n).length+1 - (Lib.itoa n).length=1 by omega];rfl
  .rfl
abbrev rd(b:Nat)(st:FF):Own:=.blk b [.string (bs st.1),.bool st.2] 288
section
variable {W w:World}{R G S:List Own}{Φ:PW}{b:Nat}{st:FF}
theorem HX[aB Φ](l)(c:Ctx W w S Φ){K}(hk:∀ b w',Ctx W w' (rd b (l,false) :: S) Φ->K (.returned (.pointer (some ⟨b,0,none⟩))) w'):
  aG F.tG #[.string (bs l)] w K:=by
 refine iO (Y6 (bs l) (J:=K∘.returned) c ?_);exact λb w G cx=>hk b w (Ctx.left (S:=rd b (l,false) :: S) cx)
theorem aHf[aB Φ](c:Ctx W w (rd b st :: S) Φ){K}(hk:∀ w',Ctx W w' (rd b ([],true) :: S) Φ->K (.returned (.tuple #[])) w'):
  aG F.cS #[.pointer (some ⟨b,0,none⟩)] w K:=by
 refine iO (F2 b 0 (J:=K∘.returned) c ?_);refine λw G cx=>⟨cx.can 0 rfl (by simp),λw' hw'=>⟨.blk b [.string (bs []),.bool st.2] 288 :: S,Φ,aR,cx.put 0 hw' rfl,λw G cx=>⟨cx.can 0 rfl (by simp),λw' hw'=>⟨rd b ([],true) :: S,Φ,aR,cx.put 0 hw' rfl,λw G cx=>hk w cx.left⟩⟩⟩⟩
theorem W7[aB Φ](c:Ctx W w (rd b st :: S++G) Φ){K:List Own->PW->Prop}(hk:K (rd b ([],true) :: S) Φ):
  aG F.cS #[.pointer (some ⟨b,0,none⟩)] w λe w'=>e=.returned (.tuple #[])/\∃ R' aX,aB aX/\Ctx W w' (R'++G) aX/\K R' aX :=
 aHf (S:=S++G) c λw' c=>⟨rfl,rd b ([],true) :: S,Φ,aR,c,hk⟩
theorem aLc(s c):YO prog F.strings_IndexByte #[.string s,.int .u8 c] (.int .i64 (Lib.indexByte s.data.toList c.toNat.toUInt8)) :=
 Quiet.a19 ⟨λw=>Any.strings_IndexByte Tryz.aK2 s c w⟩
theorem aLd[aB Φ](h1:∀ M w,Φ M w->UJ 3 M w)(h2:∀ M w,Φ M w->UJ 4 M w)(s)(hs:s.size<=1000000)(c:Ctx W w (R++G) Φ){K1:Int->List Own->PW->Prop}{K2:Int->TypeId->Value->List Own->PW->Prop}(k1:∀ n,Lib.atoiAll s.data.toList=.ok n->K1 n R Φ)(k2:∀ n t v,(∀ m,Lib.atoiAll s.data.toList≠.ok m)->K2 n t v R Φ):
  aG F.strconv_Atoi #[.string s] w λe w'=>(∃ n:Int,e=.returned (.tuple #[.int .i64 n,.nilIface])/\∃ R' aX,aB aX/\Ctx W w' (R'++G) aX/\K1 n R' aX) \/
   ∃ (n:Int) (t:TypeId) (v:Value),e=.returned (.tuple #[.int .i64 n,.iface t v])/\∃ R' aX,aB aX/\Ctx W w' (R'++G) aX/\K2 n t v R' aX:=by
 obtain ⟨_,ev,hv,hev⟩:=h1 _ _ c.yK;obtain ⟨_,er,hr,her⟩:=h2 _ _ c.yK;cases h:Lib.atoiAll s.data.toList
 .rename_i n;refine (Any.strconv_Atoi_ok Tryz.YR s (by omega) n h w).mono λe w' ⟨he,hw⟩=>.inl ⟨n,he,R,Φ,aR,?_,k1 n h⟩;rcases hw with rfl|⟨t,rfl⟩
  .exact c
  .exact c.call (T3 (Lib.bytesWorld_below _ _ _))
 .exact (Any.strconv_Atoi_syntax Tryz.YR s (by omega) h ev w hv hev).mono λe w' ⟨N,he,_,_,hb⟩=>.inr ⟨_,_,_,he,R,Φ,aR,c.call (T3 hb),k2 _ _ _ λm hm=>by rw [h] at hm;cases hm⟩
 .exact (Any.strconv_Atoi_range Tryz.YR s (by omega) h er w hr her).mono λe w' ⟨N,he,_,_,hb⟩=>.inr ⟨_,_,_,he,R,Φ,aR,c.call (T3 hb),k2 _ _ _ λm hm=>by rw [h] at hm;cases hm⟩
theorem Z6{e least}(h:HU e least st.1=none):gE e least st=(0,([],true)):=by unfold gE;rw [h]
theorem Z7{e least n r}(h:HU e least st.1=some (n,r)):gE e least st=(n,(r,st.2)):=by unfold gE;rw [h]
set_option maxHeartbeats 2000000 in
theorem a9y[aB Φ](oX:∀ M w,Φ M w->wU M w)(e least)(hl:st.1.length<=1000000000000000)(c:Ctx W w (rd b st :: S) Φ){K}(hk:∀ w',Ctx W w' (rd b (gE e.toNat.toUInt8 least st).2 :: S) Φ->K (.returned (.int .i64 (gE e.toNat.toUInt8 least st).1)) w'):
  aG F.gG #[.pointer (some ⟨b,0,none⟩),.int .u8 e,.int .i64 least] w K:=by
 refine iO (BR b 0 e least (J:=K∘.returned) c ?_);clear c;obtain ⟨l,bad⟩:=st;simp only at hl;have hsz:(bs l).size=l.length:=bK l;have hmin:(min ((bs l).size:Int) 21).toNat=min l.length 21:=by rw [hsz];omega
 have aVM:(bs l).extract 0 (min ((bs l).size:Int) 21).toNat=bs (l.take 21):=by
  rw [hmin,Z5,List.drop_zero,Nat.sub_zero]
  congr 1
  rcases Nat.le_total l.length 21 with h|h
  .rw [Nat.min_eq_left h,List.take_of_length_le (Nat.le_refl _),List.take_of_length_le h]
  .rw [Nat.min_eq_right h]
 refine λw G cx=>⟨bs l,cx.get 0 rfl rfl,bs l,cx.get 0 rfl rfl,by omega,λw G cx=>?_⟩;rw [aVM];refine (aLc (bs (l.take 21)) e).in.toI (R:=rd b (l,bad) :: S) cx ?_;rw [pT];obtain ⟨i,hi⟩:∃ i,Lib.indexByte (l.take 21) e.toNat.toUInt8=i:=⟨_,rfl⟩;obtain ⟨hge,hidx⟩:=T4 (l.take 21) e.toNat.toUInt8;rw [hi] at hge hidx ⊢;have failK:HU e.toNat.toUInt8 least l=none->∀ (w:World) (G:List Own),Ctx W w (rd b (l,bad) :: S++G) Φ->aG F.cS #[.pointer (some ⟨b,0,none⟩)] w λe w'=>e=.returned (.tuple #[])/\∃ R' aX,aB aX/\Ctx W w' (R'++G) aX/\∀ w F1,Ctx W w (R'++F1) aX->K (.returned (.int .i64 0)) w:=λhn w G cx=>by
  rw [Z6 (st:=(l,bad)) hn] at hk;exact W7 (S:=S) cx λw F1 cx=>hk w cx.left
 refine Br.intro (λhneg=>λw G cx=>failK ?_ w G cx) (λhpos=>?_)
 .unfold HU;simp only [hi];rw [if_pos (fV hneg)]
 have hpos:=eV hpos;rcases hidx with hidx|⟨_,hlt,_,_⟩
 .omega
 have aLb:i.toNat<(l.take 21).length:=by omega
 have hll:(l.take 21).length<=l.length:=by rw [List.length_take];omega
 have h21:(l.take 21).length<=21:=by rw [List.length_take];omega
 have hhd:(bs (l.take 21)).extract 0 i.toNat=bs (l.take i.toNat):=by
  rw [Z5,List.drop_zero,Nat.sub_zero,List.take_take,Nat.min_eq_left (by omega)]
 refine ⟨⟨by omega,by rw [bK];omega⟩,λw G cx=>?_⟩;rw [hhd];refine aLd (R:=rd b (l,bad) :: S) (λM w h=>(oX M w h).2.1) (λM w h=>(oX M w h).2.2) (bs (l.take i.toNat)) (by rw [bK,List.length_take];omega) cx (λn hn=>?_) (λn t v hn=>?_)
 .rw [pT] at hn;have hb:=Lib.atoiAll_bounds hn;refine ⟨rd b (l,bad) :: S,Φ,aR,λw G cx=>cx,false,λw=>aK9 (by decide +kernel) w,Br.intro (λh=>by cases h) (λ_=>⟨⟨by omega,by rw [bK];omega⟩,λw G cx=>?_⟩)⟩;refine (aBB (λM w h=>(oX M w h).1) n (by unfold bE;omega)).toS cx ⟨λw G cx=>cx,Br.intro (λhne=>λw G cx=>failK ?_ w G cx) (λheq=>Br.intro (λhls=>λw G cx=>failK ?_ w G cx) (λhls=>λw G cx=>?_))⟩
  .have hne:=fV hne;unfold HU;simp only [hi];rw [if_neg (by omega),hn];simp only;rw [if_neg (λh=>hne (by show bs (Lib.itoa n)=_;rw [h.1]))]
  .unfold HU;simp only [hi];rw [if_neg (by omega),hn];simp only;rw [if_neg (λh=>by have:=fV hls;omega)]
  .have heq:Lib.itoa n=l.take i.toNat:=a35.1 (Decidable.not_not.1 (eV heq));have hls:=eV hls;have b02:HU e.toNat.toUInt8 least l=some (n,l.drop (i.toNat+1)):=by
    unfold HU;simp only [hi];rw [if_neg (by omega),hn];simp only;rw [if_pos ⟨heq,by omega⟩]
   rw [Z7 (st:=(l,bad)) b02] at hk;have hex:(bs l).extract (i+1).toNat (bs l).size=bs (l.drop (i.toNat+1)):=by
    rw [Z5,hsz,show (i+1).toNat=i.toNat+1 by omega]
    congr 1
    exact List.take_of_length_le (by rw [List.length_drop];omega)
   refine ⟨bs l,cx.get 0 rfl rfl,?_,⟨by omega,by omega,Nat.le_refl _⟩,λw G cx=>⟨cx.can 0 rfl (by simp),λw' hw'=>?_⟩⟩
   .unfold bE;omega
   rw [hex] at hw';exact ⟨rd b (l.drop (i.toNat+1),bad) :: S,Φ,aR,cx.put 0 hw' rfl,λw G cx=>hk w cx.left⟩
 .rw [pT] at hn;refine ⟨[],λ_ _=>True,aR,λw G cx=>(cx.weak λ_ _ _=>trivial).right,true,λw=>?_,Br.intro (λ_=>λw G cx=>failK ?_ w G cx) (λh=>by cases h)⟩
  .exact aLa (by decide +kernel) w
  .unfold HU;simp only [hi];rw [if_neg (by omega)]
theorem T6[aB Φ](oX:∀ M w,Φ M w->wU M w)(e least)(hl:st.1.length<=1000000000000000)(c:Ctx W w (rd b st :: S++G) Φ){K:Int->List Own->PW->Prop}(hk:K (gE e.toNat.toUInt8 least st).1 (rd b (gE e.toNat.toUInt8 least st).2 :: S) Φ):
  aG F.gG #[.pointer (some ⟨b,0,none⟩),.int .u8 e,.int .i64 least] w λe w'=>∃ n,e=.returned (.int .i64 n)/\∃ R' aX,aB aX/\Ctx W w' (R'++G) aX/\K n R' aX :=
 a9y (S:=S++G) oX e least hl c λw' c=>⟨_,rfl,_,Φ,aR,c,hk⟩
def eJ(st:FF):Int × FF:=gE 59 (-9223372036854775808) st
def lY(st:FF):Int × FF:=gE 59 0 st
theorem QF[aB Φ](oX:∀ M w,Φ M w->wU M w)(hl:st.1.length<=1000000000000000)(c:Ctx W w (rd b st :: S++G) Φ){K:Int->List Own->PW->Prop}(hk:K (eJ st).1 (rd b (eJ st).2 :: S) Φ):
  aG F.cH #[.pointer (some ⟨b,0,none⟩)] w λe w'=>∃ n,e=.returned (.int .i64 n)/\∃ R' aX,aB aX/\Ctx W w' (R'++G) aX/\K n R' aX:=by
 refine iO (GN b 0 (J:=λu w'=>∃ n,(Ending.returned u)=.returned (.int .i64 n)/\∃ R' aX,aB aX/\Ctx W w' (R'++G) aX/\K n R' aX) (R:=rd b st :: (S++G)) c ?_);exact λw F1 cx=>T6 (S:=S++G) oX 59 _ hl cx λw F1 cx=>⟨_,rfl,_,Φ,aR,cx.left,hk⟩
theorem a36[aB Φ](oX:∀ M w,Φ M w->wU M w)(hl:st.1.length<=1000000000000000)(c:Ctx W w (rd b st :: S++G) Φ){K:Int->List Own->PW->Prop}(hk:K (lY st).1 (rd b (lY st).2 :: S) Φ):
  aG F.j5 #[.pointer (some ⟨b,0,none⟩)] w λe w'=>∃ n,e=.returned (.int .i64 n)/\∃ R' aX,aB aX/\Ctx W w' (R'++G) aX/\K n R' aX:=by
 refine iO (GO b 0 (J:=λu w'=>∃ n,(Ending.returned u)=.returned (.int .i64 n)/\∃ R' aX,aB aX/\Ctx W w' (R'++G) aX/\K n R' aX) (R:=rd b st :: (S++G)) c ?_);exact λw F1 cx=>T6 (S:=S++G) oX 59 _ hl cx λw F1 cx=>⟨_,rfl,_,Φ,aR,cx.left,hk⟩
theorem a38[aB Φ](c:Ctx W w (rd b st :: S++G) Φ){K:Int->List Own->PW->Prop}(hk:K st.1.length (rd b st :: S) Φ):
  aG F.jY #[.pointer (some ⟨b,0,none⟩)] w λe w'=>∃ n,e=.returned (.int .i64 n)/\∃ R' aX,aB aX/\Ctx W w' (R'++G) aX/\K n R' aX:=by
 refine iO (EZ b 0 (J:=λu w'=>∃ n,(Ending.returned u)=.returned (.int .i64 n)/\∃ R' aX,aB aX/\Ctx W w' (R'++G) aX/\K n R' aX) (R:=rd b st :: (S++G)) c ?_);exact λw F1 cx=>⟨bs st.1,cx.get 0 rfl rfl,λw F1 cx=>⟨st.1.length,by rw [bK],_,Φ,aR,cx.left,hk⟩⟩
def rN(st:FF):Bool := !st.2&&decide (st.1=[])
theorem W8[aB Φ](c:Ctx W w (rd b st :: S++G) Φ){K:Bool->List Own->PW->Prop}(hk:K (rN st) (rd b st :: S) Φ):
  aG F.dY #[.pointer (some ⟨b,0,none⟩)] w λe w'=>∃ n,e=.returned (.bool n)/\∃ R' aX,aB aX/\Ctx W w' (R'++G) aX/\K n R' aX:=by
 refine iO (EY b 0 (J:=λu w'=>∃ n,(Ending.returned u)=.returned (.bool n)/\∃ R' aX,aB aX/\Ctx W w' (R'++G) aX/\K n R' aX) (R:=rd b st :: (S++G)) c ?_);refine λw F1 cx=>⟨st.2,cx.get 0 rfl rfl,bs st.1,λ_=>cx.get 0 rfl rfl,λw F1 cx=>⟨rN st,?_,_,Φ,aR,cx.left,hk⟩⟩;have e:decide (bs st.1=ByteArray.mk #[])=decide (st.1=[]):=by
  rw [show ByteArray.mk #[]=bs [] from rfl];exact decide_eq_decide.2 a35
 rw [e];rfl
theorem a9z(c:UInt8)(l:List UInt8):Lib.hasPrefix l [c]=(match l with | []=>false|x :: _=>x == c):=by
 cases l with
 | nil=>rfl
 | cons x r =>
  unfold Lib.hasPrefix;rw [List.isPrefixOf_cons_cons];simp [Bool.beq_comm]
theorem aHg[aB Φ](e)(c:Ctx W w (rd b st :: S++G) Φ){K:List Own->PW->Prop}(hk:K (rd b (HV e st) :: S) Φ):
  aG F.rH #[.pointer (some ⟨b,0,none⟩),.string (ByteArray.mk #[e])] w λe w'=>e=.returned (.tuple #[])/\∃ R' aX,aB aX/\Ctx W w' (R'++G) aX/\K R' aX:=by
 refine iO (DR b 0 (ByteArray.mk #[e]) (J:=λu w'=>(Ending.returned u)=.returned (.tuple #[])/\∃ R' aX,aB aX/\Ctx W w' (R'++G) aX/\K R' aX) (R:=rd b st :: (S++G)) c ?_);clear c;obtain ⟨l,bad⟩:=st;refine λw F1 cx=>⟨bs l,cx.get 0 rfl rfl,λw F1 cx=>?_⟩;refine (Any.strings_CutPrefix Tryz.aK3 (bs l) (ByteArray.mk #[e]) w).mono λe2 w' ⟨he,hw⟩=>?_;subst hw;refine ⟨_,_,he,rd b (l,bad) :: (S++G),Φ,aR,cx,?_⟩
 clear cx;rw [pT,show (ByteArray.mk #[e]).data.toList=[e] from rfl];unfold Lib.trimPrefix;rw [a9z];unfold HV at hk;cases l with
 | nil =>
  refine λw F1 cx=>⟨cx.can 0 rfl (by simp),λw' hw'=>⟨rd b ([],bad) :: (S++G),Φ,aR,cx.put 0 hw' rfl,Br.intro (λ_=>λw F1 cx=>W7 (S:=S++G) cx λw F1 cx=>⟨by first|trivial|rfl,_,Φ,aR,cx.left,hk⟩) (λh=>by cases h)⟩⟩
 | cons x r =>
  simp only at hk ⊢;by_cases hx:x=e
  .subst hx;rw [if_pos rfl] at hk;rw [if_pos (by simp)];refine λw F1 cx=>⟨cx.can 0 rfl (by simp),λw' hw'=>⟨rd b (r,bad) :: (S++G),Φ,aR,cx.put 0 hw' rfl,Br.intro (λh=>by simp at h) (λ_=>λw F1 cx=>⟨by first|trivial|rfl,_,Φ,aR,cx.left,hk⟩)⟩⟩
  .rw [if_neg hx] at hk;rw [if_neg (by simpa using hx)];refine λw F1 cx=>⟨cx.can 0 rfl (by simp),λw' hw'=>⟨rd b (x :: r,bad) :: (S++G),Φ,aR,cx.put 0 hw' rfl,Br.intro (λ_=>λw F1 cx=>W7 (S:=S++G) cx λw F1 cx=>⟨by first|trivial|rfl,_,Φ,aR,cx.left,hk⟩) (λh=>by simp at h;exact absurd h hx)⟩⟩
theorem a39{e}(he:e.toNat=58\/e.toNat=59\/e.toNat=91)(st):0<=(gE e 0 st).1/\(gE e 0 st).1<=9223372036854775807:=by
 unfold gE;split
 .rename_i n r h;obtain ⟨⟨h1,h2⟩,_⟩:=(HW he).1 h;unfold bE at h1;simp only;omega
 .simp only;omega
theorem qK(e least st):(gE e least st).2.1.length<=st.1.length:=by
 unfold gE;split
 .rename_i n r h;unfold HU at h;simp only at h;split at h
  .cases h
  .split at h
   .split at h
    .cases h;simp only [List.length_drop];omega
    .cases h
   .cases h
 .simp
theorem a4a[aB Φ](oX:∀ M w,Φ M w->wU M w)(hl:st.1.length<=1000000000000000)(c:Ctx W w (rd b st :: S++G) Φ){K:ByteArray->List Own->PW->Prop}(hk:K (stepT st).1 (rd b (stepT st).2 :: S) Φ):
  aG F.jX #[.pointer (some ⟨b,0,none⟩)] w λe w'=>∃ n,e=.returned (.string n)/\∃ R' aX,aB aX/\Ctx W w' (R'++G) aX/\K n R' aX:=by
 refine iO (EX b 0 (J:=λu w'=>∃ n,(Ending.returned u)=.returned (.string n)/\∃ R' aX,aB aX/\Ctx W w' (R'++G) aX/\K n R' aX) (R:=rd b st :: (S++G)) c ?_);clear c;refine λw F1 cx=>T6 (S:=S++G) oX 58 0 hl cx ?_;rw [show ((58:Int).toNat.toUInt8)=(58:UInt8) from rfl];unfold stepT at hk;simp only at hk;have hn:=a39 (e:=58) (.inl rfl) st;obtain ⟨⟨n,l,bad⟩,ha⟩:∃ a,gE 58 0 st=a:=⟨_,rfl⟩;rw [ha] at hk hn ⊢;simp only at hk hn ⊢
 refine λw F1 cx=>⟨bs l,cx.get 0 rfl rfl,Br.intro (λh=>?_) (λh=>?_)⟩
 .have h:=fV h;rw [bK] at h;rw [if_pos h] at hk;exact λw F1 cx=>W7 (S:=S++G) cx λw F1 cx=>⟨_,rfl,_,Φ,aR,cx.left,hk⟩
 .have h:=eV h;rw [bK] at h;rw [if_neg h] at hk;have e1:(bs l).extract n.toNat (bs l).size=bs (l.drop n.toNat):=by
   rw [Z5,bK]
   congr 1
   exact List.take_of_length_le (by rw [List.length_drop];omega)
  have e2:(bs l).extract 0 n.toNat=bs (l.take n.toNat):=by rw [Z5,List.drop_zero,Nat.sub_zero]
  refine λw F1 cx=>⟨bs l,cx.get 0 rfl rfl,⟨by omega,by rw [bK];omega⟩,λw F1 cx=>⟨bs l,cx.get 0 rfl rfl,⟨by omega,by rw [bK];omega,Nat.le_refl _⟩,λw F1 cx=>⟨cx.can 0 rfl (by simp),λw' hw'=>?_⟩⟩⟩;rw [e1] at hw';refine ⟨rd b (l.drop n.toNat,bad) :: (S++G),Φ,aR,cx.put 0 hw' rfl,λw F1 cx=>aHg (S:=S++G) 44 cx λw F1 cx=>⟨(HV 44 (l.drop n.toNat,bad)).2,cx.get 0 rfl rfl,Br.intro (λhb=>?_) (λhb=>?_)⟩⟩
  .rw [hb] at hk;exact λw F1 cx=>⟨_,rfl,_,Φ,aR,cx.left,hk⟩
  .rw [hb] at hk;rw [e2];exact λw F1 cx=>⟨_,rfl,_,Φ,aR,cx.left,hk⟩
end
end Go.Proofs.YtnlkemjhgdbfkaaGreatDoor
end

section
namespace Go.Proofs.YtnlkemjhgdbfkaaGreatDoor
open Go.Vc
theorem Z8{e}(he:e.toNat=58\/e.toNat=59\/e.toNat=91){least n r bad}(h:bE n)(h2:least<=n):gE e least (Lib.itoa n++e :: r,bad)=(n,(r,bad)) :=
 Z7 (st:=(Lib.itoa n++e :: r,bad)) ((HW he).2 ⟨⟨h,h2⟩,rfl⟩)
theorem a2k(n):(oS n).data.toList=Lib.itoa n++[59]:=by
 unfold oS QE;rw [ByteArray.data_append,Array.toList_append]
theorem QG{n r bad}(h:bE n):eJ ((oS n).data.toList++r,bad)=(n,(r,bad)):=by
 rw [a2k,bM];exact Z8 (.inr (.inl rfl)) h h.1
theorem Z9{n:Nat}{r bad}(h:(n:Int)<=9223372036854775807):lY ((SZ n).data.toList++r,bad)=((n:Int),(r,bad)):=by
 unfold SZ;rw [if_neg (by omega),a2k,bM];exact Z8 (.inr (.inl rfl)) (by unfold bE;omega) (by omega)
theorem tT(s):(oF s).data.toList=Lib.itoa s.size++58 :: (s.data.toList++[44]):=by
 unfold oF QE;simp [ByteArray.data_append]
theorem a2l{s r}(h:s.size<=9223372036854775807):stepT ((oF s).data.toList++r,false)=(s,(r,false)):=by
 have e1:gE 58 0 ((oF s).data.toList++r,false)=((s.size:Int),(s.data.toList++44 :: r,false)):=by
  rw [tT,bM,List.cons_append,bM];exact Z8 (.inl rfl) (by unfold bE;omega) (by omega)
 unfold stepT;simp only [e1];have hl:s.data.toList.length=s.size:=fT s;rw [if_neg (by rw [List.length_append,List.length_cons,hl];omega),Int.toNat_natCast,List.drop_left' hl,List.take_left' hl];rfl
theorem aDf(c st):(HV c st).1.length<=st.1.length:=by
 unfold HV;split
 .simp
 .rename_i h;split
  .rw [h];simp
  .simp
theorem a2m(st):(stepT st).2.1.length<=st.1.length/\(stepT st).1.size<=st.1.length:=by
 have h1:=qK 58 0 st;have h2:=aDf 44 (((gE 58 0 st).2.1.drop (gE 58 0 st).1.toNat,(gE 58 0 st).2.2));rw [List.length_drop] at h2;unfold stepT;simp only;split
 .exact ⟨Nat.zero_le _,Nat.zero_le _⟩
 .refine ⟨by simp only;omega,?_⟩;simp only;split
  .exact Nat.zero_le _
  .rw [bK,List.length_take];omega
theorem a2n(st):bE (eJ st).1:=by
 unfold eJ gE;split
 .rename_i n r h;exact ((HW (.inr (.inl rfl))).1 h).1.1
 .unfold bE;simp
section
variable {W w:World}{R G S:List Own}{Φ:PW}{b:Nat}{st:FF}
end
theorem aHh{e}(he:e.toNat=58\/e.toNat=59\/e.toNat=91){least st}(h:(gE e least st).2.2=false):
  st.2=false/\bE (gE e least st).1/\least<=(gE e least st).1/\st.1=Lib.itoa (gE e least st).1++e :: (gE e least st).2.1:=by
 unfold gE at h ⊢;split at h
 .rename_i n r hn;obtain ⟨⟨h1,h2⟩,h3⟩:=(HW he).1 hn;exact ⟨h,h1,h2,h3⟩
 .cases h
theorem aHi{c st}(h:(HV c st).2=false):st.2=false/\st.1=c :: (HV c st).1:=by
 obtain ⟨l,bad⟩:=st;unfold HV at h ⊢;cases l with
 | nil=>cases h
 | cons x r =>
  simp only at h ⊢;by_cases hx:x=c
  .rw [if_pos hx] at h ⊢;exact ⟨h,by rw [hx]⟩
  .rw [if_neg hx] at h;cases h
theorem a4b{st}(h:(stepT st).2.2=false):st.2=false/\st.1=(oF (stepT st).1).data.toList++(stepT st).2.1:=by
 unfold stepT at h ⊢;simp only at h ⊢;split at h
 .cases h
 rename_i hlt;rw [if_neg hlt];simp only at h ⊢;rw [if_neg (by rw [h];simp)];obtain ⟨h1,h2⟩:=aHi h;simp only at h1 h2;obtain ⟨h3,h4,h5,h6⟩:=aHh (e:=58) (.inl rfl) h1;refine ⟨h3,?_⟩;have hl:((gE 58 0 st).2.1.take (gE 58 0 st).1.toNat).length=(gE 58 0 st).1.toNat:=by rw [List.length_take];omega
 rw [tT,pT,bK,hl,show (((gE 58 0 st).1.toNat:Nat):Int)=(gE 58 0 st).1 by omega,bM,List.cons_append,bM,List.singleton_append,<-h2,List.take_append_drop];exact h6
theorem aLe{st}(h:rN st=true):st=([],false):=by
 unfold rN at h;rw [Bool.and_eq_true] at h;obtain ⟨l,bad⟩:=st;have h1:=fV h.2;have h2:=h.1;simp only at h1 h2;cases bad with
 | true=>cases h2
 | false=>rw [h1]
def vP(x:bH):List UInt8:=(oS x.term++oF x.data).data.toList
def kW(l:List bH):List UInt8:=l.flatMap vP
def oG(l:List Int):List UInt8:=l.flatMap λn=>(oS n).data.toList
def pL(m:bA):List Int:=[m.kind,m.src,m.to,m.term,m.index,m.prev,m.aD,if m.yes then 1 else 0]
def EK(m:bA):List UInt8:=oG (pL m)++(SZ m.aE.length).data.toList
def rZ(m:bA):List UInt8:=EK m++kW m.aE
def NB(st:FF):bH × FF:=(⟨(eJ st).1,(stepT (eJ st).2).1⟩,(stepT (eJ st).2).2)
def HY:Nat->FF->List bH->List bH × FF
 | 0,st,acc=>(acc,st)
 | k+1,st,acc=>if st.1=[] then (acc,st) else HY k (NB st).2 (acc++[(NB st).1])
def UK:Nat->FF->List Int × FF
 | 0,st=>([],st)
 | k+1,st=>((eJ st).1 :: (UK k (eJ st).2).1,(UK k (eJ st).2).2)
def aPM(ns:List Int)(rs:List bH):bA:=⟨ns.getD 0 0,ns.getD 1 0,ns.getD 2 0,ns.getD 3 0,ns.getD 4 0,ns.getD 5 0,ns.getD 6 0,decide (ns.getD 7 0=1),rs⟩
def UL:bA:=⟨0,0,0,0,0,0,0,false,[]⟩
def UM(l:List UInt8):Option bH:=if rN (NB (l,false)).2=true then some (NB (l,false)).1 else none
def aVN(l:List UInt8)(ns:List Int)(rs:List bH × FF):Option bA:=if rN rs.2=true/\rZ (aPM ns rs.1)=l then some (aPM ns rs.1) else none
def aHj(l:List UInt8)(ns:List Int)(st:FF):Option bA:=aVN l ns (HY (lY st).1.toNat (lY st).2 [])
def zX(l:List UInt8):Option bA:=aHj l (UK 8 (l,false)).1 (UK 8 (l,false)).2
theorem NC(k st acc):HY (k+1) st acc=if st.1=[] then (acc,st) else HY k (NB st).2 (acc++[(NB st).1]):=rfl
theorem aDg:∀ (k:Nat) (st:FF) (acc:List bH),st.1=[]->HY k st acc=(acc,st)
 | 0,_,_,_=>rfl
 | k+1,st,acc,h=>by rw [NC,if_pos h]
theorem a9A{st}(h:st.1≠[]):(eJ st).2.1.length<st.1.length:=by
 unfold eJ gE;split
 .rename_i n r hn;obtain ⟨_,h2⟩:=(HW (e:=59) (.inr (.inl rfl))).1 hn;rw [h2,List.length_append,List.length_cons];simp only;omega
 .exact List.length_pos_iff.2 h
theorem aDh{st}(h:st.1≠[]):(NB st).2.1.length<st.1.length:=by
 have h1:=a9A h;have h2:=(a2m (eJ st).2).1;show (stepT (eJ st).2).2.1.length<_;omega
theorem aDi(st):(NB st).1.data.size<=st.1.length:=by
 have h1:=qK 59 (-9223372036854775808) st;have h2:=(a2m (eJ st).2).2;show (stepT (eJ st).2).1.size<=_;have h3:(eJ st).2.1.length<=st.1.length:=h1;omega
theorem aDj(st):bE (NB st).1.term:=a2n st
theorem a6N(x t):vP x++t=(oS x.term).data.toList++((oF x.data).data.toList++t):=by
 unfold vP;simp [ByteArray.data_append]
theorem ND(x l):kW (x :: l)=vP x++kW l:=by simp [kW]
theorem aDk(a b):kW (a++b)=kW a++kW b:=List.flatMap_append
theorem aDl(x):kW [x]=vP x:=by simp [kW]
theorem NF(n l):oG (n :: l)=(oS n).data.toList++oG l:=by simp [oG]
theorem aDm(a b):oG (a++b)=oG a++oG b:=List.flatMap_append
theorem aDn(n):oG [n]=(oS n).data.toList:=by simp [oG]
theorem a6O{x t}(h:bE x.term)(h2:x.data.size<=1000000):NB (vP x++t,false)=(x,(t,false)):=by
 unfold NB;rw [a6N,QG h];simp only;rw [a2l (by omega)]
theorem aLf{x}(h:bE x.term)(t):vP x++t≠[]:=by
 rw [a6N];have h1:=(fU h).1;intro e;have e:=congrArg List.length e;rw [List.length_append,fT,show ([]:List UInt8).length=0 from rfl] at e;omega
theorem a2o:∀ (l acc:List bH) (t:List UInt8),(∀ x∈l,bE x.term/\x.data.size<=1000000)->HY l.length (kW l++t,false) acc=(acc++l,(t,false))
 | [],acc,t,_=>by rw [List.append_nil];rfl
 | x :: l,acc,t,h=>by
  have hx:=h x (by simp);rw [List.length_cons,NC,ND,bM,if_neg (aLf hx.1 _),a6O hx.1 hx.2];simp only;rw [a2o l (acc++[x]) t (λy hy=>h y (by simp [hy])),bM];rfl
theorem a2p:∀ (l:List Int) (t:List UInt8),(∀ n∈l,bE n)->UK l.length (oG l++t,false)=(l,(t,false))
 | [],t,_=>rfl
 | n :: l,t,h=>by
  have ih:=a2p l t λy hy=>h y (by simp [hy]);rw [List.length_cons,NF,bM];unfold UK;rw [QG (h n (by simp))];simp only;rw [ih]
structure T7(m:bA):Prop where
 ints:∀ n∈pL m,bE n
 aE:∀ x∈m.aE,bE x.term/\x.data.size<=1000000
theorem aLg(m):aPM (pL m) m.aE=m:=by
 obtain ⟨k,s,t,e,i,p,c,y,r⟩:=m;cases y<;>rfl
theorem ZA{m}(h:T7 m)(hl:m.aE.length<=1000000):zX (rZ m)=some m:=by
 have h1:=a2p (pL m) ((SZ m.aE.length).data.toList++(kW m.aE++[])) h.ints;have h2:=a2o m.aE [] [] h.aE;have e:rZ m=oG (pL m)++((SZ m.aE.length).data.toList++(kW m.aE++[])):=by
  unfold rZ EK;simp only [bM,List.append_nil]
 have e8:(pL m).length=8:=rfl;rw [e8,<-e] at h1;unfold zX;rw [h1];unfold aHj;simp only;rw [Z9 (by omega)];simp only;rw [Int.toNat_natCast,h2];unfold aVN;simp only;rw [List.nil_append,aLg];exact if_pos ⟨rfl,rfl⟩
theorem aDo{x}(h:bE x.term)(h2:x.data.size<=1000000):UM (vP x)=some x:=by
 have h3:=a6O (t:=[]) h h2;rw [List.append_nil] at h3;unfold UM;rw [h3];exact if_pos rfl
abbrev Bs:=List UInt8
structure vQ where
 now:Bs
 last:Bs
structure iH where
 files:Int->vQ
 queue:List (Int × Int)
 lost:Int
 down:Bool
 fD:Int
 keep:List Int
def nN:iH:=⟨λ_=>⟨[],[]⟩,[],0,false,0,[]⟩
def iM(s:Bs)(a:Nat)(t:Bs):Bs:=if t=[] then s else s.take a++List.replicate (a - s.length) 0++t++s.drop (a+t.length)
def iH.set(d:iH)(f:Int)(x:vQ):iH:={ d with files:=λk=>if k=f then x else d.files k }
def sD(d:iH)(f:Int):Int:=if d.down=true then 9 else if f<0\/16<=f then 1 else 0
def LG(a n:Nat):List Int:=(List.range ((a+n - 1) / 64+1 - a / 64)).map λi=>((a / 64+i:Nat):Int)
def VU(f:Int):List Int->List (Int × Int)->List (Int × Int)
 | [],q=>q
 | n :: ns,q=>VU f ns (if (f,n)∈q then q else q++[(f,n)])
def eC(d:iH)(f a:Int)(s:Bs):iH × Int :=
 if sD d f≠0 then (d,sD d f) else if a<0 then (d,1) else if 16777216<a\/16777216 - a<(s.length:Int) then (d,6) else if s=[] then (d,0) else
 ({ d.set f ⟨iM (d.files f).now a.toNat s,(d.files f).last⟩ with queue:=VU f (LG a.toNat s.length) d.queue },0)
def CF(d:iH):Bool := !d.down&&decide (d.fD=1)
def fZ(d:iH):iH:=if d.down=true\/d.fD=0 then d else { d with fD:=d.fD - 1 }
def KO(keep:List Int)(i:Nat)(p:Int × Int)(fs:Int->vQ):Int->vQ :=
 if keep=[]\/keep.getD (i % keep.length) 0 % 2=0\/((fs p.1).now.length:Int)<=p.2*64 then fs
 else λk=>if k=p.1 then ⟨(fs p.1).now,iM (fs p.1).last (p.2*64).toNat (((fs p.1).now.drop (p.2*64).toNat).take 64)⟩ else fs k
def zY(keep:List Int):Nat->List (Int × Int)->(Int->vQ)->Int->vQ
 | _,[],fs=>fs
 | i,p :: ps,fs=>zY keep (i+1) ps (KO keep i p fs)
def eP(d:iH)(keep:List Int):iH :=
 if d.down=true then d else { d with down:=true,fD:=0,queue:=[],files:=λk=>⟨(zY keep 0 d.queue d.files k).last,(zY keep 0 d.queue d.files k).last⟩ }
def cD(d:iH)(f a:Int)(s:Bs):iH × Int :=
 if CF d=true then (eP (eC (fZ d) f a s).1 d.keep,9) else eC (fZ d) f a s
def E2(d:iH)(f:Int)(s:Bs):iH:={ d.set f ⟨s,s⟩ with queue:=d.queue.filter λp=>decide (p.1≠f) }
def mR(d:iH):iH:=if CF d=true then eP (fZ d) d.keep else fZ d
def LH(d:iH)(f:Int):iH × Int :=
 if sD d f≠0 then (d,sD d f) else if 0<d.lost then ({ d with lost:=d.lost - 1 },10) else (E2 d f (d.files f).now,0)
def bR(d:iH)(f:Int):iH × Int:=LH (mR d) f
def cZ(d:iH)(f a n:Int):Bs × Int :=
 if sD d f≠0 then ([],sD d f) else if a<0\/n<0 then ([],1) else (((d.files f).now.drop a.toNat).take n.toNat,0)
def aHk(d:iH):iH:={ d with down:=false }
def a6P(d:iH)(n:Int):iH:={ d with lost:=max n 0 }
def aHl(d:iH)(n:Int)(keep:List Int):iH:={ d with fD:=max n 0,keep:=keep }
structure HZ where
 file:Int
 slot:Nat
 value:Bs
 sure:Bool
def iQ(slot:Nat):Nat:=if slot=1 then 64 else if slot=2 then 131072 else 0
def jG(slot:Nat)(n:Nat):Bs:=[slot.toUInt8,n.toUInt8,(n / 256).toUInt8,(n / 65536).toUInt8,(n / 16777216).toUInt8]
def QH(h:Bs):Nat:=(((h.getD 4 0).toNat*256+(h.getD 3 0).toNat)*256+(h.getD 2 0).toNat)*256+(h.getD 1 0).toNat
def uS(d:iH)(file:Int):Option HZ × Int :=
 if (cZ d file 0 5).2≠0 then (none,(cZ d file 0 5).2) else
 if (cZ d file 0 5).1=[]\/(cZ d file 0 5).1.getD 0 0=0 then (some ⟨file,0,[],false⟩,0) else
 if (cZ d file 0 5).1.length<5\/(cZ d file 0 5).1.getD 0 0≠1/\(cZ d file 0 5).1.getD 0 0≠2 then (none,2) else
 if 65536<QH (cZ d file 0 5).1 then (none,2) else
 if (cZ d file (iQ ((cZ d file 0 5).1.getD 0 0).toNat) (QH (cZ d file 0 5).1)).2≠0 then (none,(cZ d file (iQ ((cZ d file 0 5).1.getD 0 0).toNat) (QH (cZ d file 0 5).1)).2) else
 if (cZ d file (iQ ((cZ d file 0 5).1.getD 0 0).toNat) (QH (cZ d file 0 5).1)).1.length<QH (cZ d file 0 5).1 then (none,2) else
 (some ⟨file,((cZ d file 0 5).1.getD 0 0).toNat,(cZ d file (iQ ((cZ d file 0 5).1.getD 0 0).toNat) (QH (cZ d file 0 5).1)).1,false⟩,0)
def LJ(d:iH)(c:HZ)(s:Bs)(slot:Nat):iH × HZ × Int :=
 if (cD d c.file (iQ slot) s).2≠0 then ((cD d c.file (iQ slot) s).1,c,(cD d c.file (iQ slot) s).2) else
 if (bR (cD d c.file (iQ slot) s).1 c.file).2≠0 then ((bR (cD d c.file (iQ slot) s).1 c.file).1,c,(bR (cD d c.file (iQ slot) s).1 c.file).2) else
 if (cD (bR (cD d c.file (iQ slot) s).1 c.file).1 c.file 0 (jG slot s.length)).2≠0 then ((cD (bR (cD d c.file (iQ slot) s).1 c.file).1 c.file 0 (jG slot s.length)).1,c,(cD (bR (cD d c.file (iQ slot) s).1 c.file).1 c.file 0 (jG slot s.length)).2) else
 ((bR (cD (bR (cD d c.file (iQ slot) s).1 c.file).1 c.file 0 (jG slot s.length)).1 c.file).1,⟨c.file,slot,s,decide ((bR (cD (bR (cD d c.file (iQ slot) s).1 c.file).1 c.file 0 (jG slot s.length)).1 c.file).2=0)⟩,(bR (cD (bR (cD d c.file (iQ slot) s).1 c.file).1 c.file 0 (jG slot s.length)).1 c.file).2)
def wW(d:iH)(c:HZ)(s:Bs):iH × HZ × Int :=
 if 65536<s.length then (d,c,6) else
 if c.sure=false/\0<c.slot then
  if (bR d c.file).2≠0 then ((bR d c.file).1,c,(bR d c.file).2) else LJ (bR d c.file).1 { c with sure:=true } s (if c.slot=1 then 2 else 1)
 else LJ d c s (if c.slot=1 then 2 else 1)
theorem QI(s a):iM s a []=s:=by unfold iM;rw [if_pos rfl]
theorem QJ{s t:Bs}{a}(h:t≠[]):iM s a t=s.take a++List.replicate (a - s.length) 0++t++s.drop (a+t.length):=by unfold iM;rw [if_neg h]
theorem I3{s t:Bs}{a}(h:t≠[]):(iM s a t).length=max s.length (a+t.length):=by
 rw [QJ h];simp only [List.length_append,List.length_take,List.length_replicate,List.length_drop];omega
theorem I4{s t:Bs}{a i}(h:t≠[])(hi:i<a):(iM s a t)[i]? = if i<s.length then s[i]? else some 0:=by
 rw [QJ h,bM,bM];by_cases h1:i<s.length
 .rw [if_pos h1,List.getElem?_append_left (by rw [List.length_take];omega),List.getElem?_take_of_lt hi]
 .rw [if_neg h1,List.getElem?_append_right (by rw [List.length_take];omega),List.length_take,List.getElem?_append_left (by rw [List.length_replicate];omega),List.getElem?_replicate,if_pos (by omega)]
theorem IA{s t:Bs}{a i}(h:t≠[])(h1:a<=i)(h2:i<a+t.length):(iM s a t)[i]? = t[i - a]? := by
 rw [QJ h,bM,List.getElem?_append_right (by simp only [List.length_append,List.length_take,List.length_replicate];omega),List.getElem?_append_left (by simp only [List.length_append,List.length_take,List.length_replicate];omega)];simp only [List.length_append,List.length_take,List.length_replicate]
 congr 1
 omega
theorem JT{s t:Bs}{a i}(h:t≠[])(h1:a+t.length<=i):(iM s a t)[i]? = s[i]? := by
 rw [QJ h,List.getElem?_append_right (by simp only [List.length_append,List.length_take,List.length_replicate];omega),List.getElem?_drop];simp only [List.length_append,List.length_take,List.length_replicate];by_cases h2:a<=s.length
 .congr 1
  omega
 .rw [List.getElem?_eq_none (by omega),List.getElem?_eq_none (by omega)]
def ZB(N:Bs)(n:Nat):Bs:=(N.drop (n*64)).take 64
def NG(N:Bs):List Nat->Bs->Bs
 | [],L=>L
 | n :: ns,L=>NG N ns (iM L (n*64) (ZB N n))
theorem aLh{N n}(h:n*64<N.length):ZB N n≠[]:=by
 intro e;have:=congrArg List.length e;unfold ZB at this;rw [List.length_take,List.length_drop,List.length_nil] at this;omega
theorem aHm(N n):(ZB N n).length=min 64 (N.length - n*64):=by unfold ZB;rw [List.length_take,List.length_drop]
theorem aHn{N n i}(h1:n*64<=i)(h2:i<n*64+64):(ZB N n)[i - n*64]? = N[i]? := by
 unfold ZB;rw [List.getElem?_take_of_lt (by omega),List.getElem?_drop]
 congr 1
 omega
theorem QK{N L n i}(h:n*64<N.length):(iM L (n*64) (ZB N n))[i]? = if n*64<=i/\i<n*64+64/\i<N.length then N[i]? else if i<n*64/\L.length<=i then some 0 else L[i]? := by
 have hne:=aLh h;have hl:=aHm N n;by_cases h1:i<n*64
 .rw [I4 hne h1];by_cases h2:i<L.length
  .rw [if_pos h2,if_neg (by omega),if_neg (by omega)]
  .rw [if_neg h2,if_neg (by omega),if_pos (by omega)]
 .by_cases h2:i<n*64+(ZB N n).length
  .rw [IA hne (by omega) h2,aHn (by omega) (by omega),if_pos (by omega)]
  .rw [JT hne (by omega),if_neg (by omega),if_neg (by omega)]
theorem qL{N}{i:Nat}{x}(hN:N[i]? = some x):∀ (ns:List Nat) (L:Bs),(∀ n∈ns,n*64<N.length)->L[i]? = some x->(NG N ns L)[i]? = some x
 | [],L,_,h=>h
 | n :: ns,L,hs,h=>by
  refine qL hN ns _ (λm hm=>hs m (by simp [hm])) ?_;have hi:i<L.length:=(List.getElem?_eq_some_iff.1 h).1;rw [QK (hs n (by simp))];split
  .exact hN
  .rw [if_neg (by omega)];exact h
theorem aBE{N i x}:∀ (ns:List Nat) (L:Bs),(∀ n∈ns,n*64<N.length/\¬ (n*64<=i/\i<n*64+64))->L[i]? = some x->(NG N ns L)[i]? = some x
 | [],L,_,h=>h
 | n :: ns,L,hs,h=>by
  refine aBE ns _ (λm hm=>hs m (by simp [hm])) ?_;have hi:i<L.length:=(List.getElem?_eq_some_iff.1 h).1;have h1:=hs n (by simp);rw [QK h1.1,if_neg (by omega),if_neg (by omega)];exact h
theorem a6Q{N i}(hN:N.getD i 0=0):∀ (ns:List Nat) (L:Bs),(∀ n∈ns,n*64<N.length)->L.getD i 0=0->(NG N ns L).getD i 0=0
 | [],L,_,h=>h
 | n :: ns,L,hs,h=>by
  refine a6Q hN ns _ (λm hm=>hs m (by simp [hm])) ?_;rw [List.getD_eq_getElem?_getD,QK (hs n (by simp))];split
  .rw [<-List.getD_eq_getElem?_getD];exact hN
  .split
   .rfl
   .rw [<-List.getD_eq_getElem?_getD];exact h
theorem aBF{N i x}(hN:N[i]? = some x):∀ (ns:List Nat) (L:Bs),(∀ n∈ns,n*64<N.length)->i / 64∈ns->(NG N ns L)[i]? = some x
 | [],L,_,h=>by cases h
 | n :: ns,L,hs,h=>by
  by_cases e:i / 64=n
  .refine qL hN ns _ (λm hm=>hs m (by simp [hm])) ?_;have hi:i<N.length:=(List.getElem?_eq_some_iff.1 hN).1;rw [QK (hs n (by simp)),if_pos (by omega)];exact hN
  .refine aBF hN ns _ (λm hm=>hs m (by simp [hm])) ?_;rcases List.mem_cons.1 h with h|h
   .exact absurd h e
   .exact h
def T8(F:Int)(q:List (Int × Int)):List Nat:=(q.filter λp=>decide (p.1=F)).map λp=>p.2.toNat
theorem a6R(F p q):T8 F (p :: q)=if p.1=F then p.2.toNat :: T8 F q else T8 F q:=by
 unfold T8;by_cases h:p.1=F
 .rw [List.filter_cons_of_pos (by simpa using h),if_pos h,List.map_cons]
 .rw [List.filter_cons_of_neg (by simpa using h),if_neg h]
theorem aHo(keep i p fs F):(KO keep i p fs F).now=(fs F).now:=by
 unfold KO;split
 .rfl
 .simp only;split
  .rename_i h;rw [h]
  .rfl
theorem a2q(F):∀ (q:List (Int × Int)) (keep:List Int) (i:Nat) (fs:Int->vQ),(∀ p∈q,0<=p.2) ->
  ∃ ns:List Nat,ns.Sublist (T8 F q)/\(∀ n∈ns,n*64<(fs F).now.length)/\(zY keep i q fs F).now=(fs F).now/\(zY keep i q fs F).last=NG (fs F).now ns (fs F).last
 | [],keep,i,fs,_=>⟨[],List.Sublist.refl _,by simp,rfl,rfl⟩
 | p :: q,keep,i,fs,hp=>by
  obtain ⟨ns,h1,h2,h3,h4⟩:=a2q F q keep (i+1) (KO keep i p fs) (λx hx=>hp x (by simp [hx]));have hn:=aHo keep i p fs F;rw [hn] at h2 h3 h4;have hp0:=hp p (by simp);have e:zY keep i (p :: q) fs=zY keep (i+1) q (KO keep i p fs):=rfl;rw [e,a6R];by_cases hF:p.1=F
  .rw [if_pos hF];by_cases hs:keep=[]\/keep.getD (i % keep.length) 0 % 2=0\/((fs p.1).now.length:Int)<=p.2*64
   .have e2:KO keep i p fs=fs:=by unfold KO;rw [if_pos hs]
    rw [e2] at h3 h4;exact ⟨ns,h1.cons _,h2,by rw [e2];exact h3,by rw [e2];exact h4⟩
   .have e2:(KO keep i p fs F).last=iM (fs F).last (p.2.toNat*64) (ZB (fs F).now p.2.toNat):=by
     unfold KO;rw [if_neg hs,if_pos hF.symm,hF];unfold ZB;rw [show (p.2*64).toNat=p.2.toNat*64 by omega]
    rw [e2] at h4;refine ⟨p.2.toNat :: ns,h1.cons_cons _,λn hn'=>?_,h3,h4⟩;rcases List.mem_cons.1 hn' with rfl|hn'
    .rw [hF] at hs;have:¬ ((fs F).now.length:Int)<=p.2*64:=λh=>hs (.inr (.inr h));omega
    .exact h2 n hn'
  .rw [if_neg hF];have e2:(KO keep i p fs F).last=(fs F).last:=by
    unfold KO;split
    .rfl
    .dsimp only;rw [if_neg λh=>hF h.symm]
   rw [e2] at h4;exact ⟨ns,h1,h2,h3,h4⟩
theorem aDp{d}(hd:d.down=false)(keep)(hq:∀ p∈d.queue,0<=p.2)(F):
  ∃ ns:List Nat,ns.Sublist (T8 F d.queue)/\(∀ n∈ns,n*64<(d.files F).now.length)/\(eP d keep).files F=⟨NG (d.files F).now ns (d.files F).last,NG (d.files F).now ns (d.files F).last⟩:=by
 obtain ⟨ns,h1,h2,_,h4⟩:=a2q F d.queue keep 0 d.files hq;refine ⟨ns,h1,h2,?_⟩;unfold eP;rw [if_neg (by rw [hd];simp)];show vQ.mk (zY keep 0 d.queue d.files F).last (zY keep 0 d.queue d.files F).last=_;rw [h4]
theorem UN{d}(hd:d.down=false)(keep):(eP d keep).queue=[]/\(eP d keep).down=true/\(eP d keep).fD=0/\(eP d keep).lost=d.lost:=by
 unfold eP;rw [if_neg (by rw [hd];simp)];exact ⟨rfl,rfl,rfl,rfl⟩
def fK(N:Bs)(slot:Nat)(v:Bs):Prop :=
 (slot=0/\v=[]/\N.getD 0 0=0)\/((slot=1\/slot=2)/\v.length<=65536/\(∀ i,i<5->N[i]? = (jG slot v.length)[i]?)/\∀ i,i<v.length->N[iQ slot+i]? = v[i]?)
theorem pU(slot n):(jG slot n).length=5:=rfl
theorem aLi{slot n}(h:n<=65536):QH (jG slot n)=n:=by
 unfold QH jG;simp only [List.getD_cons_succ,List.getD_cons_zero,Nat.toUInt8,UInt8.toNat_ofNat'];omega
theorem a6S{N h:Bs}{n}(hn:h.length=n)(hg:∀ i,i<n->N[i]? = h[i]?):N.take n=h:=by
 apply List.ext_getElem?;intro i;rcases Nat.lt_or_ge i n with hi|hi
 .rw [List.getElem?_take_of_lt hi,hg i hi]
 .rw [List.getElem?_eq_none (by rw [List.length_take];omega),List.getElem?_eq_none (by omega)]
theorem aLj{N v:Bs}{a}(hg:∀ i,i<v.length->N[a+i]? = v[i]?):(N.drop a).take v.length=v:=by
 apply List.ext_getElem?;intro i;rcases Nat.lt_or_ge i v.length with hi|hi
 .rw [List.getElem?_take_of_lt hi,List.getElem?_drop,hg i hi]
 .rw [List.getElem?_eq_none (by rw [List.length_take];omega),List.getElem?_eq_none hi]
theorem ZC{d F a n}(hd:d.down=false)(hF:0<=F/\F<16)(ha:0<=a)(hn:0<=n):cZ d F a n=(((d.files F).now.drop a.toNat).take n.toNat,0):=by
 have hm:sD d F=0:=by unfold sD;rw [if_neg (by rw [hd];simp),if_neg (by omega)]
 unfold cZ;rw [if_neg (by rw [hm];simp),if_neg (by omega)]
theorem a6T{d F slot v}(hd:d.down=false)(hF:0<=F/\F<16)(h:fK (d.files F).now slot v):uS d F=(some ⟨F,slot,v,false⟩,0):=by
 have hr:=ZC (d:=d) (F:=F) (a:=0) (n:=5) hd hF (by omega) (by omega);have hr:cZ d F 0 5=((d.files F).now.take 5,0):=hr;obtain ⟨N,hN⟩:∃ N,(d.files F).now=N:=⟨_,rfl⟩;rw [hN] at h hr;unfold uS;rw [hr];simp only;rw [if_neg (by simp)];rcases h with ⟨rfl,rfl,h0⟩|⟨hs,hv,hh,hval⟩
 .have h1:(N.take 5).getD 0 0=0:=by
   cases N with
   | nil=>rfl
   | cons x r=>exact h0
  rw [if_pos (.inr h1)]
 .have ht:N.take 5=jG slot v.length:=a6S (pU _ _) hh;have hsn:(slot.toUInt8).toNat=slot:=by rcases hs with rfl|rfl<;>rfl
  have h0:(jG slot v.length).getD 0 0=slot.toUInt8:=rfl;have hs8:slot.toUInt8=1\/slot.toUInt8=2:=by rcases hs with rfl|rfl<;>decide
  have b03:slot.toUInt8≠0:=by rcases hs with rfl|rfl<;>decide
  rw [ht,h0,hsn,aLi hv];have hoff:(0:Int)<=(iQ slot:Int):=by omega
  rw [ZC hd hF hoff (by omega),hN];simp only [Int.toNat_natCast];rw [aLj hval];rw [if_neg (by
   intro h;rcases h with h|h
   .have:=congrArg List.length h;rw [pU] at this;cases this
   .exact b03 h),if_neg (by
   intro h;rcases h with h|h
   .rw [pU] at h;omega
   .rcases hs8 with h8|h8
    .exact h.1 h8
    .exact h.2 h8),if_neg (by omega),if_neg (by simp),if_neg (by omega)]
def Fut(f:vQ)(P:Nat->Bs->Prop):Prop:=(∃ s v,fK f.now s v/\P s v)/\∀ ns:List Nat,(∀ n∈ns,n*64<f.now.length)->∃ s v,fK (NG f.now ns f.last) s v/\P s v
theorem QL{N L s v}(hN:fK N s v)(hL:fK L s v){ns}(hs:∀ n∈ns,n*64<N.length):fK (NG N ns L) s v:=by
 rcases hL with ⟨rfl,rfl,h0⟩|⟨h1,h2,h3,h4⟩
 .rcases hN with ⟨_,_,n0⟩|⟨h,_⟩
  .exact .inl ⟨rfl,rfl,a6Q n0 ns L hs h0⟩
  .omega
 .rcases hN with ⟨rfl,_⟩|⟨_,_,n3,n4⟩
  .omega
  .refine .inr ⟨h1,h2,λi hi=>?_,λi hi=>?_⟩
   .have e:(jG s v.length)[i]? = some ((jG s v.length)[i]'(by rw [pU];exact hi)):=List.getElem?_eq_getElem _;rw [e];exact qL (by rw [n3 i hi,e]) ns L hs (by rw [h3 i hi,e])
   .have e:v[i]? = some v[i]:=List.getElem?_eq_getElem hi;rw [e];exact qL (by rw [n4 i hi,e]) ns L hs (by rw [h4 i hi,e])
theorem lZ{f s v P}(hN:fK f.now s v)(hL:fK f.last s v)(hP:P s v):Fut f P:=⟨⟨s,v,hN,hP⟩,λns hs=>⟨s,v,QL hN hL hs,hP⟩⟩
theorem QM{N}:∀ (ns:List Nat) (L:Bs),(∀ n∈ns,n*64<N.length/\n≠0)->L.getD 0 0=0->(NG N ns L).getD 0 0=0
 | [],L,_,h=>h
 | n :: ns,L,hs,h=>by
  refine QM ns _ (λm hm=>hs m (by simp [hm])) ?_;have h1:=hs n (by simp);rw [List.getD_eq_getElem?_getD,QK h1.1,if_neg (by omega)];split
  .rfl
  .rw [<-List.getD_eq_getElem?_getD];exact h
theorem a9B{f s s' v v' P}(hs':s'=1\/s'=2)(RW:v'.length<=65536)(hL:fK f.last s v)(hnew:∀ i,i<v'.length->f.last[iQ s'+i]? = v'[i]?)(IB:f.now=iM f.last 0 (jG s' v'.length))(hP:P s v)(hP':P s' v'):Fut f P:=by
 have hne:jG s' v'.length≠[]:=by intro e;have:=congrArg List.length e;cases this
 have aVO:∀ i,i<5->f.now[i]? = (jG s' v'.length)[i]? := λi hi=>by
  rw [IB,IA hne (Nat.zero_le _) (by rw [pU];omega),Nat.sub_zero]
 have aHp:∀ i,5<=i->f.now[i]? = f.last[i]? := λi hi=>by
  rw [IB,JT hne (by rw [pU];omega)]
 have hoff:∀ k,(k=1\/k=2)->5<=iQ k:=λk hk=>by rcases hk with rfl|rfl<;>decide
 have hN:fK f.now s' v':=.inr ⟨hs',RW,aVO,λi hi=>by
  have:=hoff s' hs';rw [aHp _ (by omega)];exact hnew i hi⟩
 refine ⟨⟨s',v',hN,hP'⟩,λns hns=>?_⟩;by_cases h0:0∈ns
 .refine ⟨s',v',.inr ⟨hs',RW,λi hi=>?_,λi hi=>?_⟩,hP'⟩
  .have e:(jG s' v'.length)[i]? = some ((jG s' v'.length)[i]'(by rw [pU];exact hi)):=List.getElem?_eq_getElem _;rw [e];exact aBF (by rw [aVO i hi,e]) ns _ hns (by rw [show i / 64=0 by omega];exact h0)
  .have:=hoff s' hs';have e:v'[i]? = some v'[i]:=List.getElem?_eq_getElem hi;rw [e];exact qL (by rw [aHp _ (by omega),hnew i hi,e]) ns _ hns (by rw [hnew i hi,e])
 .have aPO:∀ n∈ns,n*64<f.now.length/\n≠0:=λn hn=>⟨hns n hn,λe=>h0 (e ▸ hn)⟩;rcases hL with ⟨rfl,rfl,hz⟩|⟨h1,h2,h3,h4⟩
  .exact ⟨0,[],.inl ⟨rfl,rfl,QM ns _ aPO hz⟩,hP⟩
  .refine ⟨s,v,.inr ⟨h1,h2,λi hi=>?_,λi hi=>?_⟩,hP⟩
   .have e:(jG s v.length)[i]? = some ((jG s v.length)[i]'(by rw [pU];exact hi)):=List.getElem?_eq_getElem _;rw [e];exact aBE ns _ (λn hn=>⟨(aPO n hn).1,by have:=(aPO n hn).2;omega⟩) (by rw [h3 i hi,e])
   .have:=hoff s h1;have e:v[i]? = some v[i]:=List.getElem?_eq_getElem hi;rw [e];exact qL (by rw [aHp _ (by omega),h4 i hi,e]) ns _ hns (by rw [h4 i hi,e])
theorem Fut.mono{f P Q}(h:Fut f P)(hPQ:∀ s v,P s v->Q s v):Fut f Q :=
 ⟨by obtain ⟨s,v,h1,h2⟩:=h.1;exact ⟨s,v,h1,hPQ s v h2⟩,λns hs=>by obtain ⟨s,v,h1,h2⟩:=h.2 ns hs;exact ⟨s,v,h1,hPQ s v h2⟩⟩
theorem Fut.aVP{f P}(h:Fut f P){ns}(hs:∀ n∈ns,n*64<f.now.length):Fut ⟨NG f.now ns f.last,NG f.now ns f.last⟩ P:=by
 obtain ⟨s,v,h1,h2⟩:=h.2 ns hs;exact lZ h1 h1 h2
inductive Ev:vQ->vQ->Prop
 | refl (f:vQ):Ev f f
 | step {f g:vQ} {ns:List Nat}:Ev f g->(∀ n∈ns,n*64<g.now.length)->Ev f ⟨NG g.now ns g.last,NG g.now ns g.last⟩
theorem Ev.trans{f g h}(h1:Ev f g)(h2:Ev g h):Ev f h:=by
 induction h2 with
 | refl=>exact h1
 | step _ hs ih=>exact .step ih hs
theorem Ev.fut{f g P}(h:Ev f g)(hP:Fut f P):Fut g P:=by
 induction h with
 | refl=>exact hP
 | step _ hs ih=>exact ih.aVP hs
def Pre(B:Bs)(f:vQ):Prop:=∀ (i:Nat) (x:UInt8),B[i]? = some x->f.now[i]? = some x/\f.last[i]? = some x
theorem Ev.pre{B f g}(h:Ev f g)(hP:Pre B f):Pre B g:=by
 induction h with
 | refl=>exact hP
 | step _ hs ih =>
  intro i x hx;obtain ⟨h1,h2⟩:=ih i x hx;exact ⟨qL h1 _ _ hs h2,qL h1 _ _ hs h2⟩
def FJ(d:iH):Prop:=∀ p∈d.queue,0<=p.2
def NV(d:iH):Prop:=d.down=false/\d.fD=0/\d.lost=0
theorem aLk:FJ nN:=λp hp=>by cases hp
theorem aLl:NV nN:=⟨rfl,rfl,rfl⟩
theorem a4c{d}(hw:FJ d)(keep):FJ (eP d keep):=by
 unfold eP;split
 .exact hw
 .exact λp hp=>by cases hp
theorem QN{d}(hw:FJ d)(keep F):Ev (d.files F) ((eP d keep).files F):=by
 cases hd:d.down with
 | true =>
  have:eP d keep=d:=by unfold eP;rw [if_pos hd]
  rw [this];exact .refl _
 | false =>
  obtain ⟨ns,_,h2,h3⟩:=aDp hd keep hw F;rw [h3];exact .step (.refl _) h2
theorem aBH(d):(fZ d).files=d.files/\(fZ d).queue=d.queue/\(fZ d).down=d.down/\(fZ d).lost=d.lost/\(fZ d).keep=d.keep:=by
 unfold fZ;split<;>exact ⟨rfl,rfl,rfl,rfl,rfl⟩
theorem a4d{d}(h:NV d):fZ d=d/\CF d=false:=by
 unfold fZ CF;rw [if_pos (.inr h.2.1),h.2.1,h.1];exact ⟨rfl,rfl⟩
theorem aHq(f):∀ (ns:List Int) (q:List (Int × Int)),(∀ n∈ns,0<=n)->(∀ p∈q,0<=p.2)->∀ p∈VU f ns q,0<=p.2
 | [],q,_,hq=>hq
 | n :: ns,q,hn,hq=>by
  refine aHq f ns _ (λm hm=>hn m (by simp [hm])) λp hp=>?_;split at hp
  .exact hq p hp
  .rcases List.mem_append.1 hp with hp|hp
   .exact hq p hp
   .rw [List.mem_singleton.1 hp];exact hn n (by simp)
theorem aHr(a n):∀ m∈LG a n,0<=m:=λm hm=>by
 unfold LG at hm;obtain ⟨i,_,rfl⟩:=List.mem_map.1 hm;omega
theorem a9C{d}{F a:Int}{s}(hF:0<=F/\F<16)(ha:0<=a)(hs:a+s.length<=16777216)(hw:FJ d):
  FJ (eC d F a s).1/\(∀ G,G≠F->(eC d F a s).1.files G=d.files G)/\(eC d F a s).1.down=d.down/\(eC d F a s).1.fD=d.fD/\(eC d F a s).1.lost=d.lost /\
  ((d.down=false/\(eC d F a s).2=0/\(eC d F a s).1.files F=⟨iM (d.files F).now a.toNat s,(d.files F).last⟩)\/(d.down=true/\(eC d F a s).2=9/\(eC d F a s).1=d)):=by
 cases hd:d.down with
 | true =>
  have hm:sD d F=9:=by unfold sD;rw [if_pos hd]
  have e:eC d F a s=(d,9):=by unfold eC;rw [hm,if_pos (by decide)]
  rw [e];exact ⟨hw,λ_ _=>rfl,hd,rfl,rfl,.inr ⟨rfl,rfl,rfl⟩⟩
 | false =>
  have hm:sD d F=0:=by unfold sD;rw [if_neg (by rw [hd];simp),if_neg (by omega)]
  by_cases h0:s=[]
  .have e:eC d F a s=(d,0):=by unfold eC;rw [hm,if_neg (by decide),if_neg (by omega),if_neg (by omega),if_pos h0]
   rw [e,h0,QI];exact ⟨hw,λ_ _=>rfl,hd,rfl,rfl,.inl ⟨rfl,rfl,rfl⟩⟩
  .have e:eC d F a s=({ d.set F ⟨iM (d.files F).now a.toNat s,(d.files F).last⟩ with queue:=VU F (LG a.toNat s.length) d.queue },0):=by
    unfold eC;rw [hm,if_neg (by decide),if_neg (by omega),if_neg (by omega),if_neg h0]
   rw [e];refine ⟨aHq F _ _ (aHr _ _) hw,λG hG=>?_,hd,rfl,rfl,.inl ⟨rfl,rfl,?_⟩⟩
   .show (if G=F then _ else d.files G)=_;rw [if_neg hG]
   .show (if F=F then _ else d.files F)=_;rw [if_pos rfl]
theorem T9{d}{F a:Int}{s}(hF:0<=F/\F<16)(ha:0<=a)(hs:a+s.length<=16777216)(hw:FJ d):
  FJ (cD d F a s).1/\(∀ G,G≠F->Ev (d.files G) ((cD d F a s).1.files G))/\(NV d->NV (cD d F a s).1/\(cD d F a s).2=0)/\((cD d F a s).1.lost=d.lost) /\
  (((cD d F a s).2=0/\(cD d F a s).1.files F=⟨iM (d.files F).now a.toNat s,(d.files F).last⟩)\/((cD d F a s).2=9/\(Ev (d.files F) ((cD d F a s).1.files F)\/Ev ⟨iM (d.files F).now a.toNat s,(d.files F).last⟩ ((cD d F a s).1.files F)))):=by
 obtain ⟨t1,t2,t3,t4,t5⟩:=aBH d;have qY:FJ (fZ d):=by unfold FJ;rw [t2];exact hw
 obtain ⟨w1,w2,w3,w4,w5,w6⟩:=a9C (d:=fZ d) (s:=s) hF ha hs qY;rw [t1] at w2 w6;rw [t3] at w3 w6;rw [t4] at w5;cases he:CF d with
 | true =>
  have e:cD d F a s=(eP (eC (fZ d) F a s).1 d.keep,9):=by unfold cD;rw [if_pos he]
  have hd:d.down=false:=by
   unfold CF at he;cases h:d.down with
   | true=>rw [h] at he;cases he
   | false=>rfl
  rw [e];refine ⟨a4c w1 _,λG hG=>?_,λh=>?_,?_,.inr ⟨rfl,.inr ?_⟩⟩
  .rw [<-w2 G hG];exact QN w1 _ G
  .rw [(a4d h).2] at he;cases he
  .rw [<-w5];exact (UN (by rw [w3];exact hd) _).2.2.2
  .rcases w6 with ⟨_,_,w7⟩|⟨h,_⟩
   .rw [<-w7];exact QN w1 _ F
   .rw [hd] at h;cases h
 | false =>
  have e:cD d F a s=eC (fZ d) F a s:=by unfold cD;rw [if_neg (by rw [he];simp)]
  rw [e];refine ⟨w1,λG hG=>by rw [w2 G hG];exact .refl _,λh=>?_,w5,?_⟩
  .rcases w6 with ⟨_,w7,_⟩|⟨h2,_⟩
   .have ht:=(a4d h).1;rw [ht] at w3 w4 w5 w7 ⊢;exact ⟨⟨by rw [w3];exact h.1,by rw [w4];exact h.2.1,by rw [w5];exact h.2.2⟩,w7⟩
   .rw [h.1] at h2;cases h2
  .rcases w6 with ⟨_,w7,w8⟩|⟨_,w7,w8⟩
   .exact .inl ⟨w7,w8⟩
   .refine .inr ⟨w7,.inl ?_⟩;rw [w8,t1];exact .refl _
theorem aHs{d}(hw:FJ d):FJ (mR d)/\(∀ G,Ev (d.files G) ((mR d).files G))/\(NV d->mR d=d)/\(mR d).lost=d.lost/\((mR d).down=false->(mR d).files=d.files):=by
 obtain ⟨t1,t2,t3,t4,t5⟩:=aBH d;have qY:FJ (fZ d):=by unfold FJ;rw [t2];exact hw
 unfold mR;cases he:CF d with
 | true =>
  rw [if_pos rfl];have hd:d.down=false:=by
   unfold CF at he;cases h:d.down with
   | true=>rw [h] at he;cases he
   | false=>rfl
  have hq:=UN (d:=fZ d) (by rw [t3];exact hd) d.keep;refine ⟨a4c qY _,λG=>by rw [<-t1];exact QN qY _ G,λh=>?_,by rw [hq.2.2.2,t4],λh=>?_⟩
  .rw [(a4d h).2] at he;cases he
  .rw [hq.2.1] at h;cases h
 | false =>
  rw [if_neg (by simp)];exact ⟨qY,λG=>by rw [t1];exact .refl _,λh=>(a4d h).1,t4,λ_=>t1⟩
theorem yC{d F}(hF:0<=F/\F<16)(hw:FJ d):
  FJ (bR d F).1/\(∀ G,G≠F->Ev (d.files G) ((bR d F).1.files G))/\(NV d->NV (bR d F).1/\(bR d F).2=0) /\
  (((bR d F).2=0/\(bR d F).1.down=false/\(bR d F).1.files F=⟨(d.files F).now,(d.files F).now⟩)\/(((bR d F).2=9\/(bR d F).2=10)/\Ev (d.files F) ((bR d F).1.files F))):=by
 obtain ⟨f1,f2,f3,f4,f5⟩:=aHs hw;unfold bR LH;cases hd:(mR d).down with
 | true =>
  have hm:sD (mR d) F=9:=by unfold sD;rw [if_pos hd]
  rw [hm,if_pos (by decide)];refine ⟨f1,λG _=>f2 G,λh=>?_,.inr ⟨.inl rfl,f2 F⟩⟩;rw [f3 h,h.1] at hd;cases hd
 | false =>
  have hm:sD (mR d) F=0:=by unfold sD;rw [if_neg (by rw [hd];simp),if_neg (by omega)]
  rw [hm,if_neg (by decide)];by_cases hl:0<(mR d).lost
  .rw [if_pos hl];refine ⟨f1,λG _=>f2 G,λh=>?_,.inr ⟨.inr rfl,f2 F⟩⟩;rw [f4,h.2.2] at hl;omega
  .rw [if_neg hl];refine ⟨λp hp=>f1 p (List.mem_filter.1 hp).1,λG hG=>?_,λh=>?_,.inl ⟨rfl,hd,?_⟩⟩
   .show Ev (d.files G) (if G=F then _ else (mR d).files G);rw [if_neg hG];exact f2 G
   .rw [f3 h];exact ⟨h,rfl⟩
   .show (if F=F then _ else (mR d).files F)=_;rw [if_pos rfl,f5 hd]
theorem aLm{N s s' v v'}(RW:v'.length<=65536)(h:fK N s v)(hs':s'=if s=1 then 2 else 1):fK (iM N (iQ s') v') s v/\∀ i,i<v'.length->(iM N (iQ s') v')[iQ s'+i]? = v'[i]? := by
 by_cases h0:v'=[]
 .rw [h0,QI];exact ⟨h,λi hi=>by cases hi⟩
 refine ⟨?_,λi hi=>?_⟩
 .rcases h with ⟨rfl,rfl,hz⟩|⟨h1,h2,h3,h4⟩
  .refine .inl ⟨rfl,rfl,?_⟩;rw [if_neg (by decide)] at hs';subst hs';rw [List.getD_eq_getElem?_getD,I4 h0 (by decide)];split
   .rw [<-List.getD_eq_getElem?_getD];exact hz
   .rfl
  .have hne:∀ i,i<5\/(iQ s<=i/\i<iQ s+v.length)->N[i]? ≠ none->(iM N (iQ s') v')[i]? = N[i]? := by
    intro i hi hx;have hl:i<N.length:=by
     rcases Nat.lt_or_ge i N.length with h|h
     .exact h
     .exact absurd (List.getElem?_eq_none h) hx
    rcases h1 with rfl|rfl
    .rw [if_pos rfl] at hs';subst hs';rw [I4 h0 (by
      have e1:iQ 1=64:=rfl;have e2:iQ 2=131072:=rfl;omega),if_pos hl]
    .rw [if_neg (by decide)] at hs';subst hs';have e1:iQ 1=64:=rfl;have e2:iQ 2=131072:=rfl;rcases Nat.lt_or_ge i 64 with h64|h64
     .rw [I4 h0 (by omega),if_pos hl]
     .rw [JT h0 (by omega)]
   refine .inr ⟨h1,h2,λi hi=>?_,λi hi=>?_⟩
   .have e:=h3 i hi;rw [hne i (.inl hi) (by rw [e,List.getElem?_eq_getElem (by rw [pU];exact hi)];simp)];exact e
   .have e:=h4 i hi;rw [hne _ (.inr ⟨by omega,by omega⟩) (by rw [e,List.getElem?_eq_getElem hi];simp)];exact e
 .rw [IA h0 (by omega) (by omega),Nat.add_sub_cancel_left]
def aNl(k:Nat)(v:Bs)(k':Nat)(v':Bs):Nat->Bs->Prop:=λs w=>(s=k/\w=v)\/(s=k'/\w=v')
structure aVQ(d:iH)(c:HZ)(s:Bs)(slot':Nat)(r:iH × HZ × Int):Prop where
 w:FJ r.1
 other:∀ G,G≠c.file->Ev (d.files G) (r.1.files G)
 vR:NV d->NV r.1/\r.2.2=0
 file:r.2.1.file=c.file
 ok:r.2.2=0->r.2.1.slot=slot'/\r.2.1.value=s/\∃ X,r.1.files c.file=⟨X,X⟩/\fK X slot' s
 bad:r.2.2≠0->(r.2.2=9\/r.2.2=10)/\Fut (r.1.files c.file) (aNl c.slot c.value slot' s)
theorem a2r{d c s slot'}(hF:0<=c.file/\c.file<16)(hw:FJ d)(hs:s.length<=65536)(QO:slot'=if c.slot=1 then 2 else 1)(hN:fK (d.files c.file).now c.slot c.value)(hL:fK (d.files c.file).last c.slot c.value):aVQ d c s slot' (LJ d c s slot'):=by
 have aLn:slot'=1\/slot'=2:=by rw [QO];split<;>simp
 have hoff:0<=(iQ slot':Int)/\(iQ slot':Int)+s.length<=16777216:=by rcases aLn with rfl|rfl<;>exact ⟨by decide,by show (_:Int)+_<=_;have e1:iQ 1=64:=rfl;have e2:iQ 2=131072:=rfl;omega⟩
 obtain ⟨p1,p2⟩:=aLm hs hN QO;have hA:=T9 (d:=d) (F:=c.file) (a:=(iQ slot':Int)) (s:=s) hF hoff.1 hoff.2 hw;unfold LJ;obtain ⟨⟨d1,e1⟩,h1⟩:∃ x,cD d c.file (iQ slot') s=x:=⟨_,rfl⟩;rw [h1] at hA ⊢;simp only at hA ⊢;rw [Int.toNat_natCast] at hA;obtain ⟨a1,a2,a3,_,a5⟩:=hA;by_cases CX:e1≠0
 .rw [if_pos CX];refine ⟨a1,a2,λh=>absurd (a3 h).2 CX,rfl,λh=>absurd h CX,λ_=>?_⟩;rcases a5 with ⟨h,_⟩|⟨h,h2⟩
  .exact absurd h CX
  .refine ⟨.inl h,?_⟩;rcases h2 with h2|h2
   .exact h2.fut (lZ hN hL (.inl ⟨rfl,rfl⟩))
   .exact h2.fut (lZ p1 hL (.inl ⟨rfl,rfl⟩))
 rw [if_neg CX];have CX:e1=0:=Decidable.not_not.1 CX;have b5:d1.files c.file=⟨iM (d.files c.file).now (iQ slot') s,(d.files c.file).last⟩:=by
  rcases a5 with ⟨_,h⟩|⟨h,_⟩
  .exact h
  .rw [CX] at h;cases h
 have hB:=yC (d:=d1) (F:=c.file) hF a1;obtain ⟨⟨d2,e2⟩,h2⟩:∃ x,bR d1 c.file=x:=⟨_,rfl⟩;rw [h2] at hB ⊢;simp only at hB ⊢;rw [b5] at hB;obtain ⟨c1,c2,c3,c4⟩:=hB;by_cases U9:e2≠0
 .rw [if_pos U9];refine ⟨c1,λG hG=>(a2 G hG).trans (c2 G hG),λh=>absurd (c3 (a3 h).1).2 U9,rfl,λh=>absurd h U9,λ_=>?_⟩;rcases c4 with ⟨h,_⟩|⟨h,h2⟩
  .exact absurd h U9
  .exact ⟨h,h2.fut (lZ p1 hL (.inl ⟨rfl,rfl⟩))⟩
 rw [if_neg U9];have U9:e2=0:=Decidable.not_not.1 U9;have b6:d2.files c.file=⟨iM (d.files c.file).now (iQ slot') s,iM (d.files c.file).now (iQ slot') s⟩:=by
  rcases c4 with ⟨_,_,h⟩|⟨h,_⟩
  .exact h
  .rw [U9] at h;omega
 obtain ⟨X,hX⟩:∃ X,iM (d.files c.file).now (iQ slot') s=X:=⟨_,rfl⟩;rw [hX] at p1 p2 b6;have hC:=T9 (d:=d2) (F:=c.file) (a:=0) (s:=jG slot' s.length) hF (Int.le_refl 0) (by rw [pU];decide) c1;obtain ⟨⟨d3,e3⟩,h3⟩:∃ x,cD d2 c.file 0 (jG slot' s.length)=x:=⟨_,rfl⟩;rw [h3] at hC ⊢;simp only at hC ⊢;rw [b6] at hC;obtain ⟨g1,g2,g3,_,g5⟩:=hC;have aVR:Fut ⟨iM X 0 (jG slot' s.length),X⟩ (aNl c.slot c.value slot' s):=a9B aLn hs p1 p2 rfl (.inl ⟨rfl,rfl⟩) (.inr ⟨rfl,rfl⟩)
 by_cases he3:e3≠0
 .rw [if_pos he3];refine ⟨g1,λG hG=>((a2 G hG).trans (c2 G hG)).trans (g2 G hG),λh=>absurd (g3 (c3 (a3 h).1).1).2 he3,rfl,λh=>absurd h he3,λ_=>?_⟩;rcases g5 with ⟨h,_⟩|⟨h,h2⟩
  .exact absurd h he3
  .refine ⟨.inl h,?_⟩;rcases h2 with h2|h2
   .exact h2.fut (lZ p1 p1 (.inl ⟨rfl,rfl⟩))
   .exact h2.fut aVR
 rw [if_neg he3];have he3:e3=0:=Decidable.not_not.1 he3;have b7:d3.files c.file=⟨iM X 0 (jG slot' s.length),X⟩:=by
  rcases g5 with ⟨_,h⟩|⟨h,_⟩
  .exact h
  .rw [he3] at h;cases h
 have hD:=yC (d:=d3) (F:=c.file) hF g1;obtain ⟨⟨d4,e4⟩,h4⟩:∃ x,bR d3 c.file=x:=⟨_,rfl⟩;rw [h4] at hD ⊢;simp only at hD ⊢;rw [b7] at hD;obtain ⟨k1,k2,k3,k4⟩:=hD;refine ⟨k1,λG hG=>(((a2 G hG).trans (c2 G hG)).trans (g2 G hG)).trans (k2 G hG),λh=>k3 (g3 (c3 (a3 h).1).1).1,rfl,λh=>⟨rfl,rfl,iM X 0 (jG slot' s.length),?_,?_⟩,λh=>?_⟩
 .rcases k4 with ⟨_,_,h'⟩|⟨h',_⟩
  .exact h'
  .simp only at h;rw [h] at h';omega
 .have hne:jG slot' s.length≠[]:=by intro e;have:=congrArg List.length e;cases this
  refine .inr ⟨aLn,hs,λi hi=>?_,λi hi=>?_⟩
  .rw [IA hne (Nat.zero_le _) (by rw [pU];omega),Nat.sub_zero]
  .have hge:5<=iQ slot':=by rcases aLn with rfl|rfl<;>decide
   rw [JT hne (by rw [pU];omega)];exact p2 i hi
 .rcases k4 with ⟨h',_⟩|⟨h',h2⟩
  .exact absurd h' h
  .exact ⟨h',h2.fut aVR⟩
theorem a6U{d c s}(hF:0<=c.file/\c.file<16)(hw:FJ d)(hs:s.length<=65536)(hN:fK (d.files c.file).now c.slot c.value)(hL:fK (d.files c.file).last c.slot c.value):aVQ d c s (if c.slot=1 then 2 else 1) (wW d c s):=by
 obtain ⟨k,hk⟩:∃ k:Nat,k=(if c.slot=1 then 2 else 1):=⟨_,rfl⟩;unfold wW;rw [<-hk,if_neg (by omega:¬ 65536<s.length)];split
 .obtain ⟨a1,a2,a3,a4⟩:=yC (d:=d) (F:=c.file) hF hw;obtain ⟨⟨d1,e1⟩,h1⟩:∃ x,bR d c.file=x:=⟨_,rfl⟩;rw [h1] at a1 a2 a3 a4 ⊢;simp only at a1 a2 a3 a4 ⊢;by_cases he:e1≠0
  .rw [if_pos he];refine ⟨a1,a2,λh=>absurd (a3 h).2 he,rfl,λh=>absurd h he,λ_=>?_⟩;rcases a4 with ⟨h,_⟩|⟨h,h2⟩
   .exact absurd h he
   .exact ⟨h,h2.fut (lZ hN hL (.inl ⟨rfl,rfl⟩))⟩
  .rw [if_neg he];have he:e1=0:=Decidable.not_not.1 he;have b:d1.files c.file=⟨(d.files c.file).now,(d.files c.file).now⟩:=by
    rcases a4 with ⟨_,_,h⟩|⟨h,_⟩
    .exact h
    .rw [he] at h;omega
   have h:=a2r (d:=d1) (c:={ c with sure:=true }) (s:=s) (slot':=k) hF a1 hs hk (by show fK (d1.files c.file).now c.slot c.value;rw [b];exact hN) (by show fK (d1.files c.file).last c.slot c.value;rw [b];exact hN);exact ⟨h.w,λG hG=>(a2 G hG).trans (h.other G hG),λhh=>h.vR (a3 hh).1,h.file,h.ok,h.bad⟩
 .exact a2r hF hw hs hk hN hL
def aM(l:List ByteArray):Bs:=l.flatMap λs=>(oF s).data.toList
def NH(b n:Nat):Bs:=(oS b).data.toList++(oS n).data.toList
def qM(c:HZ):Int × Int × Bool:=if c.slot=0 then (0,0,true) else ((lY (c.value,false)).1,(lY (lY (c.value,false)).2).1,rN (lY (lY (c.value,false)).2).2)
def oH:Nat->FF->Int->List ByteArray->List ByteArray × FF
 | 0,st,n,acc=>(acc,st)
 | k+1,st,n,acc=>if (acc.length:Int)<n then (if st.1.length<=(stepT st).2.1.length\/st.1=[] then (acc,(stepT st).2) else oH k (stepT st).2 n (acc++[(stepT st).1])) else (acc,st)
def a1p(s:Bs)(n:Int)(x:List ByteArray × FF):Option (List ByteArray):=if rN x.2=true/\(x.1.length:Int)=n/\aM x.1=s then some x.1 else none
def a2s(s:Bs)(n:Int):Option (List ByteArray):=a1p s n (oH (s.length+1) (s,false) n [])
structure sE where
 base:Int
 cell:HZ
 list:List ByteArray
 bytes:Nat
 broken:Bool
def sM(d:iH)(j:sE)(bytes n:Nat):iH × sE × Int:=((wW d j.cell (NH bytes n)).1,{ j with cell:=(wW d j.cell (NH bytes n)).2.1,broken:=decide ((wW d j.cell (NH bytes n)).2.2≠0) },(wW d j.cell (NH bytes n)).2.2)
def KP(d:iH)(j:sE)(l:List ByteArray):iH × Int:=if (cD d j.base j.bytes (aM l)).2=0 then bR (cD d j.base j.bytes (aM l)).1 j.base else cD d j.base j.bytes (aM l)
def IC(j:sE)(list:List ByteArray)(bytes:Nat)(r:iH × sE × Int):iH × sE × Int:=if r.2.2≠0 then r else (r.1,{ r.2.1 with list:=list,bytes:=bytes },0)
def dX(d:iH)(j:sE)(l:List ByteArray):iH × sE × Int :=
 if j.broken=true then (d,j,7) else if l=[] then (d,j,0) else if 1048576<j.bytes+(aM l).length then (d,j,6) else
 if (KP d j l).2≠0 then ((KP d j l).1,{ j with broken:=true },(KP d j l).2) else
 IC j (j.list++l) (j.bytes+(aM l).length) (sM (KP d j l).1 j (j.bytes+(aM l).length) (j.list.length+l.length))
def j4(d:iH)(j:sE)(n:Int):iH × sE × Int :=
 if j.broken=true then (d,j,7) else if n<0\/(j.list.length:Int)<n then (d,j,1) else if n=(j.list.length:Int) then (d,j,0) else
 IC j (j.list.take n.toNat) (aM (j.list.take n.toNat)).length (sM d j (aM (j.list.take n.toNat)).length n.toNat)
def a4e(d:iH)(base:Int)(c:HZ):Option sE × Int :=
 if (qM c).2.2=false then (none,2) else if (cZ d base 0 (qM c).1).2≠0 then (none,(cZ d base 0 (qM c).1).2) else
 match a2s (cZ d base 0 (qM c).1).1 (qM c).2.1 with
 | none=>(none,2)
 | some l=>if ((cZ d base 0 (qM c).1).1.length:Int)≠(qM c).1 then (none,2) else (some ⟨base,c,l,(qM c).1.toNat,false⟩,0)
def ID(d:iH)(base:Int):Option sE × Int:=match uS d (base+1) with
 | (none,e)=>(none,e)
 | (some c,_)=>a4e d base c
def rP(d:iH)(base:Int):iH × Option sE × Int :=
 if base<0\/14<base then (d,none,1) else
 if (bR d base).2≠0 then ((bR d base).1,none,(bR d base).2) else
 if (bR (bR d base).1 (base+1)).2≠0 then ((bR (bR d base).1 (base+1)).1,none,(bR (bR d base).1 (base+1)).2) else
 ((bR (bR d base).1 (base+1)).1,ID (bR (bR d base).1 (base+1)).1 base)
theorem yD(x l):aM (x :: l)=(oF x).data.toList++aM l:=by simp [aM]
theorem mD(a b):aM (a++b)=aM a++aM b:=List.flatMap_append
theorem a6V{x}(h:x.size<=9223372036854775807):2<=(oF x).data.toList.length:=by
 rw [tT,List.length_append,List.length_cons,List.length_append,List.length_singleton];omega
theorem CG{l}(h:∀ x∈l,x.size<=9223372036854775807):l.length*2<=(aM l).length:=by
 induction l with
 | nil=>simp [aM]
 | cons x l ih =>
  have h1:=ih λy hy=>h y (by simp [hy]);have h2:=a6V (h x (by simp));rw [yD,List.length_append,List.length_cons];omega
theorem nP{l x}(hx:x∈l):x.size<=(aM l).length:=by
 induction l with
 | nil=>cases hx
 | cons y l ih =>
  rw [yD,List.length_append];rcases List.mem_cons.1 hx with rfl|hx
  .have:x.size<=(oF x).data.toList.length:=by
    rw [tT,List.length_append,List.length_cons,List.length_append,fT];omega
   omega
  .have:=ih hx;omega
theorem a2t:∀ (k:Nat) (l acc:List ByteArray),(∀ x∈l,x.size<=9223372036854775807)->l.length<k->oH k (aM l,false) ((acc.length+l.length:Nat):Int) acc=(acc++l,([],false))
 | 0,l,acc,_,h=>by omega
 | k+1,[],acc,_,_=>by
  unfold oH;rw [if_neg (by rw [List.length_nil];omega),List.append_nil];rfl
 | k+1,x :: l,acc,hx,h=>by
  have h1:=hx x (by simp);have h2:=a6V h1;have e:stepT (aM (x :: l),false)=(x,(aM l,false)):=by rw [yD];exact a2l h1
  have ih:=a2t k l (acc++[x]) (λy hy=>hx y (by simp [hy])) (by rw [List.length_cons] at h;omega);have hl:(aM (x :: l)).length=(oF x).data.toList.length+(aM l).length:=by rw [yD,List.length_append]
  unfold oH;rw [e,if_pos (by rw [List.length_cons];omega),if_neg (by
   simp only;intro h;rcases h with h|h
   .omega
   .rw [h,List.length_nil] at hl;omega)]
  simp only;rw [List.length_append,List.length_singleton] at ih;rw [show ((acc.length+(x :: l).length:Nat):Int)=((acc.length+1+l.length:Nat):Int) by rw [List.length_cons];omega,ih,bM];rfl
theorem aDq{l}(h:(aM l).length<=9223372036854775807):a2s (aM l) l.length=some l:=by
 have hx:∀ x∈l,x.size<=9223372036854775807:=λx hx=>Nat.le_trans (nP hx) h;have hl:=CG hx;have h1:=a2t ((aM l).length+1) l [] hx (by omega);rw [List.length_nil,Nat.zero_add,List.nil_append] at h1;unfold a2s;rw [h1];exact if_pos ⟨rfl,rfl,rfl⟩
theorem aHt{c b n}(hs:c.slot≠0)(hv:c.value=NH b n)(hb:b<=1099511627776)(hn:n<=1099511627776):qM c=((b:Int),(n:Int),true):=by
 have e1:lY (NH b n,false)=((b:Int),((oS n).data.toList,false)):=Z9 (n:=b) (r:=(oS n).data.toList) (bad:=false) (by omega);have e2:lY ((oS n).data.toList,false)=((n:Int),([],false)):=by
  have h:=Z9 (n:=n) (r:=[]) (bad:=false) (by omega);rw [List.append_nil] at h;exact h
 unfold qM;rw [if_neg hs,hv,e1];simp only;rw [e2];rfl
theorem aHu{b n}(hb:b<=1099511627776)(hn:n<=1099511627776):(NH b n).length<=100:=by
 have h1:=fU (n:=(b:Int)) (by unfold bE;omega);have h2:=fU (n:=(n:Int)) (by unfold bE;omega);unfold NH;rw [List.length_append,fT,fT];omega
def Enc(s:Nat)(v:Bs)(l:List ByteArray):Prop:=(s=0/\l=[])\/(s≠0/\v=NH (aM l).length l.length)
structure Live(d:iH)(j:sE):Prop where
 base:0<=j.base/\j.base<=14
 file:j.cell.file=j.base+1
 bytes:j.bytes=(aM j.list).length
 most:(aM j.list).length<=1048576
 now:fK (d.files (j.base+1)).now j.cell.slot j.cell.value
 last:fK (d.files (j.base+1)).last j.cell.slot j.cell.value
 enc:Enc j.cell.slot j.cell.value j.list
 log:Pre (aM j.list) (d.files j.base)
def IE(d:iH)(b:Int)(P:List ByteArray->Prop):Prop:=Fut (d.files (b+1)) λs v=>∃ l,Enc s v l/\Pre (aM l) (d.files b)/\(aM l).length<=1048576/\P l
theorem Live.fut{d j}(h:Live d j){P}(hP:P j.list):IE d j.base P:=lZ h.now h.last ⟨j.list,h.enc,h.log,h.most,hP⟩
theorem IE.mono{d b P Q}(h:IE d b P)(hPQ:∀ l,P l->Q l):IE d b Q:=Fut.mono h λs v ⟨l,h1,h2,h3,h4⟩=>⟨l,h1,h2,h3,hPQ l h4⟩
theorem IE.ev{d d' b P}(h:IE d b P)(h1:Ev (d.files (b+1)) (d'.files (b+1)))(h2:Ev (d.files b) (d'.files b)):IE d' b P :=
 (h1.fut h).mono λs v ⟨l,e1,e2,e3,e4⟩=>⟨l,e1,h2.pre e2,e3,e4⟩
theorem aLo(b):IE nN b λl=>l=[]:=lZ (s:=0) (v:=[]) (.inl ⟨rfl,rfl,rfl⟩) (.inl ⟨rfl,rfl,rfl⟩) ⟨[],.inl ⟨rfl,rfl⟩,(show Pre (aM []) (nN.files b) from λi x h=>by simp [aM] at h),by decide,rfl⟩
theorem aHv{B f}(h:Pre B f):f.now.take B.length=B:=a6S rfl λi hi=>by
 rw [List.getElem?_eq_getElem hi];exact (h i _ (List.getElem?_eq_getElem hi)).1
structure aVS(d:iH)(b:Int)(P:List ByteArray->Prop)(r:iH × Option sE × Int):Prop where
 w:FJ r.1
 other:∀ G,Ev (d.files G) (r.1.files G)\/(G=b\/G=b+1)
 vR:NV d->NV r.1/\r.2.2=0
 or:(∃ j,r.2.1=some j/\r.2.2=0/\Live r.1 j/\P j.list/\j.base=b/\j.broken=false)\/(r.2.1=none/\(r.2.2=9\/r.2.2=10)/\IE r.1 b P)
theorem a2u{d b P}(hb:0<=b/\b<=14)(hw:FJ d)(h:IE d b P):aVS d b P (rP d b):=by
 have hb1:0<=b/\b<16:=by omega
 have hb2:0<=b+1/\b+1<16:=by omega
 unfold rP;rw [if_neg (by omega)];obtain ⟨a1,a2,a3,a4⟩:=yC (d:=d) (F:=b) hb1 hw;obtain ⟨⟨d1,e1⟩,h1⟩:∃ x,bR d b=x:=⟨_,rfl⟩;rw [h1] at a1 a2 a3 a4 ⊢;simp only at a1 a2 a3 a4 ⊢;by_cases CX:e1≠0
 .rw [if_pos CX];rcases a4 with ⟨h',_⟩|⟨h',h2⟩
  .exact absurd h' CX
  .refine ⟨a1,λG=>?_,λh=>absurd (a3 h).2 CX,.inr ⟨rfl,h',h.ev (a2 _ (by omega)) h2⟩⟩;by_cases hG:G=b
   .exact .inr (.inl hG)
   .exact .inl (a2 G hG)
 rw [if_neg CX];have CX:e1=0:=Decidable.not_not.1 CX;have f1:d1.files b=⟨(d.files b).now,(d.files b).now⟩:=by
  rcases a4 with ⟨_,_,h⟩|⟨h,_⟩
  .exact h
  .rw [CX] at h;omega
 have j1:IE d1 b P:=((a2 (b+1) (by omega)).fut h).mono λs v ⟨l,g1,g2,g3,g4⟩=>⟨l,g1,λi x hx=>by rw [f1];exact ⟨(g2 i x hx).1,(g2 i x hx).1⟩,g3,g4⟩;obtain ⟨c1,c2,c3,c4⟩:=yC (d:=d1) (F:=b+1) hb2 a1;obtain ⟨⟨d2,e2⟩,h2⟩:∃ x,bR d1 (b+1)=x:=⟨_,rfl⟩;rw [h2] at c1 c2 c3 c4 ⊢;simp only at c1 c2 c3 c4 ⊢;have oth:∀ G,Ev (d.files G) (d2.files G)\/(G=b\/G=b+1):=λG=>by
  by_cases hG:G=b
  .exact .inr (.inl hG)
  .by_cases hG2:G=b+1
   .exact .inr (.inr hG2)
   .exact .inl ((a2 G hG).trans (c2 G hG2))
 by_cases U9:e2≠0
 .rw [if_pos U9];rcases c4 with ⟨h',_⟩|⟨h',h2⟩
  .exact absurd h' U9
  .exact ⟨c1,oth,λh=>absurd (c3 (a3 h).1).2 U9,.inr ⟨rfl,h',j1.ev h2 (c2 _ (by omega))⟩⟩
 rw [if_neg U9];have U9:e2=0:=Decidable.not_not.1 U9;obtain ⟨hdn,f2⟩:d2.down=false/\d2.files (b+1)=⟨(d1.files (b+1)).now,(d1.files (b+1)).now⟩:=by
  rcases c4 with ⟨_,h1,h2⟩|⟨h,_⟩
  .exact ⟨h1,h2⟩
  .rw [U9] at h;omega
 obtain ⟨⟨s,v,k1,l,k2,k3,k4,k5⟩,_⟩:=j1;have kb:=c2 b (by omega);have k3:=kb.pre k3;have k6:fK (d2.files (b+1)).now s v:=by rw [f2];exact k1
 have k7:fK (d2.files (b+1)).last s v:=by rw [f2];exact k1
 have ho:=a6T hdn hb2 k6;have hl2:l.length<=(aM l).length:=by
  have:=CG (l:=l) λx hx=>Nat.le_trans (nP hx) (by omega);omega
 have hn:qM ⟨b+1,s,v,false⟩=(((aM l).length:Int),(l.length:Int),true):=by
  rcases k2 with ⟨hs,hl⟩|⟨hs,hv⟩
  .subst hl;unfold qM;rw [if_pos hs];rfl
  .exact aHt hs hv (by omega) (by omega)
 have hr:cZ d2 b 0 ((aM l).length:Nat)=(aM l,0):=by
  rw [ZC hdn hb1 (Int.le_refl 0) (by omega)];simp only [Int.toNat_natCast];rw [show (0:Int).toNat=0 from rfl,List.drop_zero,aHv k3]
 have hj:ID d2 b=(some ⟨b,⟨b+1,s,v,false⟩,l,(aM l).length,false⟩,0):=by
  unfold ID;rw [ho];simp only;unfold a4e;rw [hn];simp only;rw [hr];simp only;rw [if_neg (by simp),if_neg (by simp),aDq (by omega)];simp only;rw [if_neg (by simp)];rfl
 rw [hj];exact ⟨c1,oth,λh=>⟨(c3 (a3 h).1).1,rfl⟩,.inl ⟨_,rfl,rfl,⟨hb,rfl,rfl,k4,k6,k7,k2,k3⟩,k5,rfl,rfl⟩⟩
structure ZD(d:iH)(j:sE)(want:List ByteArray)(r:iH × sE × Int):Prop where
 w:FJ r.1
 other:∀ G,Ev (d.files G) (r.1.files G)\/(G=j.base\/G=j.base+1)
 vR:NV d->NV r.1/\r.2.2=0
 base:r.2.1.base=j.base
 or:(r.2.2=0/\r.2.1.broken=false/\r.2.1.list=want/\Live r.1 r.2.1)\/((r.2.2=9\/r.2.2=10)/\r.2.1.broken=true/\r.2.1.list=j.list/\IE r.1 j.base λl=>l=j.list\/l=want)
theorem a6W{d j want}(h:Live d j)(hw:FJ d)(nQ:Pre (aM want) (d.files j.base))(a6X:(aM want).length<=1048576):
  ZD d j want (IC j want (aM want).length (sM d j (aM want).length want.length)):=by
 have hbs:=h.base;have hwl:want.length<=(aM want).length:=by
  have:=CG (l:=want) λx hx=>Nat.le_trans (nP hx) (by omega);omega
 have hS:=a6U (d:=d) (c:=j.cell) (s:=NH (aM want).length want.length) (by rw [h.file];omega) hw (by have:=aHu (b:=(aM want).length) (n:=want.length) (by omega) (by omega);omega) (by rw [h.file];exact h.now) (by rw [h.file];exact h.last);obtain ⟨⟨d1,c1,e1⟩,hx⟩:∃ x,wW d j.cell (NH (aM want).length want.length)=x:=⟨_,rfl⟩;have hn:sM d j (aM want).length want.length=(d1,{ j with cell:=c1,broken:=decide (e1≠0) },e1):=by unfold sM;rw [hx]
 rw [hx] at hS;rw [hn];have IF:c1.file=j.base+1:=by have:=hS.file;rw [h.file] at this;exact this
 have oth:∀ G,Ev (d.files G) (d1.files G)\/(G=j.base\/G=j.base+1):=λG=>by
  by_cases hG:G=j.base+1
  .exact .inr (.inr hG)
  .exact .inl (hS.other G (by rw [h.file];exact hG))
 have evb:Ev (d.files j.base) (d1.files j.base):=hS.other _ (by rw [h.file];omega);have QO:((if j.cell.slot=1 then 2 else 1):Nat)≠0:=by split<;>decide
 unfold IC;simp only;by_cases he:e1≠0
 .rw [if_pos he];obtain ⟨h1,h2⟩:=hS.bad he;refine ⟨hS.w,oth,λhh=>absurd (hS.vR hh).2 he,rfl,.inr ⟨h1,by simpa using he,rfl,?_⟩⟩;rw [h.file] at h2;refine Fut.mono h2 λs v hv=>?_;rcases hv with ⟨rfl,rfl⟩|⟨rfl,rfl⟩
  .exact ⟨j.list,h.enc,evb.pre h.log,h.most,.inl rfl⟩
  .exact ⟨want,.inr ⟨QO,rfl⟩,evb.pre nQ,a6X,.inr rfl⟩
 .rw [if_neg he];have he:e1=0:=Decidable.not_not.1 he;obtain ⟨h1,h2,X,h3,h4⟩:=hS.ok he;have h1:c1.slot=if j.cell.slot=1 then 2 else 1:=h1
  have h2:c1.value=NH (aM want).length want.length:=h2;rw [h.file] at h3;rw [<-h1,<-h2] at h4;refine ⟨hS.w,oth,λhh=>⟨(hS.vR hh).1,rfl⟩,rfl,.inl ⟨rfl,by rw [he];rfl,rfl,⟨hbs,IF,rfl,a6X,?_,?_,.inr ⟨by rw [h1];exact QO,h2⟩,evb.pre nQ⟩⟩⟩
  .show fK (d1.files (j.base+1)).now c1.slot c1.value;rw [h3];exact h4
  .show fK (d1.files (j.base+1)).last c1.slot c1.value;rw [h3];exact h4
theorem ZD.from{d d' j want r}(h:ZD d' j want r)(ho:∀ G,G≠j.base->Ev (d.files G) (d'.files G))(hf:NV d->NV d'):ZD d j want r :=
 ⟨h.w,λG=>by
  by_cases hG:G=j.base
  .exact .inr (.inl hG)
  .rcases h.other G with h1|h1
   .exact .inl ((ho G hG).trans h1)
   .exact .inr h1,λhh=>h.vR (hf hh),h.base,h.or⟩
theorem a9D{d j l}(h:Live d j)(hb:j.broken=false)(hw:FJ d)(hl:l≠[])(a6X:j.bytes+(aM l).length<=1048576):ZD d j (j.list++l) (dX d j l):=by
 have hbs:=h.base;have hby:=h.bytes;have hF:0<=j.base/\j.base<16:=by omega
 unfold dX;rw [if_neg (by rw [hb];simp),if_neg hl,if_neg (by omega)];have hfa:(aM (j.list++l)).length=j.bytes+(aM l).length:=by rw [mD,List.length_append,hby]
 obtain ⟨a1,a2,a3,_,a5⟩:=T9 (d:=d) (F:=j.base) (a:=(j.bytes:Int)) (s:=aM l) hF (by omega) (by omega) hw;rw [Int.toNat_natCast] at a5;unfold KP;obtain ⟨⟨d1,e1⟩,h1⟩:∃ x,cD d j.base j.bytes (aM l)=x:=⟨_,rfl⟩;rw [h1] at a1 a2 a3 a5 ⊢;simp only at a1 a2 a3 a5 ⊢;have aPP:∀ X:Bs,(∀ i x,(aM j.list)[i]? = some x->X[i]? = some x)->∀ i x,(aM j.list)[i]? = some x->(iM X j.bytes (aM l))[i]? = some x:=λX hX i x hx=>by
  have hi:i<j.bytes:=by rw [hby];exact (List.getElem?_eq_some_iff.1 hx).1
  have h2:=hX i x hx;have h3:i<X.length:=(List.getElem?_eq_some_iff.1 h2).1;by_cases h0:aM l=[]
  .rw [h0,QI];exact h2
  .rw [I4 h0 hi,if_pos h3];exact h2
 have pw:Pre (aM j.list) ⟨iM (d.files j.base).now j.bytes (aM l),(d.files j.base).last⟩:=λi x hx=>⟨aPP _ (λi x hx=>(h.log i x hx).1) i x hx,(h.log i x hx).2⟩;have aHw:∀ {d':iH},Ev (d.files (j.base+1)) (d'.files (j.base+1))->Pre (aM j.list) (d'.files j.base)->IE d' j.base λx=>x=j.list\/x=j.list++l:=λhev hp =>
  (hev.fut (lZ h.now h.last (P:=λs v=>s=j.cell.slot/\v=j.cell.value) ⟨rfl,rfl⟩)).mono λs v hv=>⟨j.list,by rw [hv.1,hv.2];exact h.enc,hp,h.most,.inl rfl⟩
 by_cases CX:e1=0
 .rw [if_pos CX];have f1:d1.files j.base=⟨iM (d.files j.base).now j.bytes (aM l),(d.files j.base).last⟩:=by
   rcases a5 with ⟨_,h⟩|⟨h,_⟩
   .exact h
   .rw [CX] at h;cases h
  obtain ⟨c1,c2,c3,c4⟩:=yC (d:=d1) (F:=j.base) hF a1;obtain ⟨⟨d2,e2⟩,h2⟩:∃ x,bR d1 j.base=x:=⟨_,rfl⟩;rw [h2] at c1 c2 c3 c4 ⊢;simp only at c1 c2 c3 c4 ⊢;rw [f1] at c4;by_cases U9:e2≠0
  .rw [if_pos U9];rcases c4 with ⟨h',_⟩|⟨h',hev⟩
   .exact absurd h' U9
   .refine ⟨c1,λG=>?_,λhh=>absurd (c3 (a3 hh).1).2 U9,rfl,.inr ⟨h',rfl,rfl,aHw ((a2 _ (by omega)).trans (c2 _ (by omega))) (hev.pre pw)⟩⟩;by_cases hG:G=j.base
    .exact .inr (.inl hG)
    .exact .inl ((a2 G hG).trans (c2 G hG))
  rw [if_neg U9];have U9:e2=0:=Decidable.not_not.1 U9;have f2:d2.files j.base=⟨iM (d.files j.base).now j.bytes (aM l),iM (d.files j.base).now j.bytes (aM l)⟩:=by
   rcases c4 with ⟨_,_,h⟩|⟨h,_⟩
   .exact h
   .rw [U9] at h;omega
  have evc:Ev (d.files (j.base+1)) (d2.files (j.base+1)):=(a2 _ (by omega)).trans (c2 _ (by omega));have IB:=h.now;have both:fK (d2.files (j.base+1)).now j.cell.slot j.cell.value/\fK (d2.files (j.base+1)).last j.cell.slot j.cell.value:=by
   have:∀ {f g:vQ},Ev f g->fK f.now j.cell.slot j.cell.value->fK f.last j.cell.slot j.cell.value->fK g.now j.cell.slot j.cell.value/\fK g.last j.cell.slot j.cell.value:=λhev h1 h2=>by
    induction hev with
    | refl=>exact ⟨h1,h2⟩
    | step _ hs ih=>exact ⟨QL ih.1 ih.2 hs,QL ih.1 ih.2 hs⟩
   exact this evc h.now h.last
  have lg:Pre (aM (j.list++l)) (d2.files j.base):=λi x hx=>by
   rw [f2];have key:(iM (d.files j.base).now j.bytes (aM l))[i]? = some x:=by
    rw [mD] at hx;by_cases hi:i<(aM j.list).length
    .rw [List.getElem?_append_left hi] at hx;exact aPP _ (λi x hx=>(h.log i x hx).1) i x hx
    .rw [List.getElem?_append_right (by omega)] at hx;have hi2:i - (aM j.list).length<(aM l).length:=(List.getElem?_eq_some_iff.1 hx).1;have h0:aM l≠[]:=λe=>by rw [e] at hi2;cases hi2
     rw [IA h0 (by omega) (by omega),hby];exact hx
   exact ⟨key,key⟩
  have aVT:Live d2 j:=⟨h.base,h.file,h.bytes,h.most,both.1,both.2,h.enc,λi x hx=>by
   rw [f2];have:=aPP _ (λi x hx=>(h.log i x hx).1) i x hx;exact ⟨this,this⟩⟩
  have hN:=a6W aVT c1 lg (by omega);rw [hfa,List.length_append] at hN;exact hN.from (λG hG=>(a2 G hG).trans (c2 G hG)) λhh=>(c3 (a3 hh).1).1
 .rw [if_neg CX];simp only;rw [if_pos CX];rcases a5 with ⟨h',_⟩|⟨h',hev⟩
  .exact absurd h' CX
  .refine ⟨a1,λG=>?_,λhh=>absurd (a3 hh).2 CX,rfl,.inr ⟨.inl h',rfl,rfl,aHw (a2 _ (by omega)) ?_⟩⟩
   .by_cases hG:G=j.base
    .exact .inr (.inl hG)
    .exact .inl (a2 G hG)
   .rcases hev with hev|hev
    .exact hev.pre h.log
    .exact hev.pre pw
theorem aLp{A B f}(h:Pre (A++B) f):Pre A f:=λi x hx=>h i x (by rw [List.getElem?_append_left (List.getElem?_eq_some_iff.1 hx).1];exact hx)
theorem aLq{d j n}(h:Live d j)(hb:j.broken=false)(hw:FJ d)(hn:n<j.list.length):ZD d j (j.list.take n) (j4 d j n):=by
 have e:aM j.list=aM (j.list.take n)++aM (j.list.drop n):=by rw [<-mD,List.take_append_drop]
 have hm:=h.most;rw [e,List.length_append] at hm;have hp:Pre (aM (j.list.take n)) (d.files j.base):=aLp (B:=aM (j.list.drop n)) (by rw [<-e];exact h.log);unfold j4;rw [if_neg (by rw [hb];simp),if_neg (by omega),if_neg (by omega),Int.toNat_natCast];have hN:=a6W h hw hp (by omega);rw [List.length_take,Nat.min_eq_left (by omega)] at hN;exact hN
structure NI where
 src:Int
 to:Int
 body:ByteArray
structure KQ where
 aZ:List NI
 split:Int
def uT(a:Int):Bool:=decide (0<=a)&&decide (a<16)
def a9E(s a:Int):Int:=s / 2 ^ a.toNat % 2
def kY(s a b:Int):Bool:=uT a&&(uT b&&decide (a9E s a=a9E s b))
def vU(n:KQ)(a b:Int)(body:ByteArray):KQ × Int :=
 if (uT a&&(uT b&&decide (a≠b)))=false then (n,1) else if kY n.split a b=false then (n,10) else if 500<=n.aZ.length then (n,6) else ({ n with aZ:=n.aZ++[⟨a,b,body⟩] },0)
def takeN(n:KQ)(i:Nat):KQ:={ n with aZ:=n.aZ.eraseIdx i }
def CH(t v:Int):Bs:=(oS t).data.toList++(oS v).data.toList
def b06:bH:=⟨0,.empty⟩
def oT(s:ByteArray):bH:=(UM s.data.toList).getD b06
def iE(x:bH):ByteArray:=bs (vP x)
def kP(c:HZ):Int × Int:=if c.slot=0 then (0,-1) else ((eJ (c.value,false)).1,(eJ (eJ (c.value,false)).2).1)
structure VV where
 j:sE
 c:HZ
 r:dH
structure a6Y where
 d:iH
 up:Option VV
def ZE(id:Nat)(d:iH)(j:sE):iH × Option VV × Int:=match uS d 2 with
 | (none,e)=>(d,none,e)
 | (some c,_)=>(d,some ⟨j,c,dP id (kP c).1 (kP c).2 (j.list.map oT)⟩,0)
def ZF(id:Nat)(d:iH):iH × Option VV × Int:=match rP d 0 with
 | (d1,none,e)=>(d1,none,e)
 | (d1,some j,_)=>ZE id d1 j
def eZ(id:Nat)(d:iH):iH × Option VV × Int :=
 if (bR d 2).2≠0 then ((bR d 2).1,none,(bR d 2).2) else ZF id (bR d 2).1
def qN(d:iH)(u:VV)(o:kR):iH × HZ × Int:=if o.save=true then wW d u.c (CH o.term o.aK) else (d,u.c,0)
def sO(d:iH)(u:VV)(o:kR):iH × sE × Int :=
 if 0<o.src then
  let b:=j4 d u.j (min (o.src - 1) (u.j.list.length:Int))
  if b.2.2≠0 then b else dX b.1 b.2.1 (o.aE.map iE)
 else (d,u.j,0)
def cY(d:iH)(u:VV)(o:kR):iH × VV × Int :=
 let a:=qN d u o
 if a.2.2≠0 then (a.1,{ u with c:=a.2.1 },a.2.2) else
 let b:=sO a.1 u o
 (b.1,{ u with c:=a.2.1,j:=b.2.1 },b.2.2)
structure gV where
 mem:Nat->a6Y
 gF:KQ
 eS:List ByteArray
def iF(G:gV)(i:Nat):gV:=match (G.mem i).up with
 | none=>G
 | some u=>if G.eS.length<u.r.aD then { G with eS:=(u.r.log.take u.r.aD).map bH.data } else G
def kZ(G:gV):gV:=iF (iF (iF G 0) 1) 2
def fL(G:gV)(i:Nat)(m:a6Y):gV:={ G with mem:=put G.mem i m }
def lM(id:Nat)(n:KQ)(l:List bA):KQ:=l.foldl (λn m=>(vU n id m.to (bs (rZ m))).1) n
def doG(G:gV)(i:Nat)(u:VV)(x:dH × kR):gV × Int :=
 let s:=cY (G.mem i).d { u with r:=x.1 } x.2
 if s.2.2=0 then
  let G1:=fL G i ⟨s.1,some s.2.1⟩
  (kZ { G1 with gF:=lM i G1.gF x.2.send },0)
 else (kZ (fL G i ⟨s.1,none⟩),s.2.2)
def upG(G:gV)(id:Int):Int:=if id<0\/3<=id then 1 else if (G.mem id.toNat).up.isNone=true then 9 else 0
def CI(G:gV)(id:Int)(f:dH->dH × kR):gV × Int :=
 if id<0\/3<=id then (G,1) else match (G.mem id.toNat).up with
 | none=>(G,9)
 | some u=>doG G id.toNat u (f u.r)
def zZ(G:gV)(id:Int):gV × Int:=CI G id cV
def cR(G:gV)(id:Int)(data:ByteArray):gV × Int × Int :=
 if id<0\/3<=id then (G,0,1) else match (G.mem id.toNat).up with
 | none=>(G,0,9)
 | some u =>
  let p:=aF u.r data
  if p.2.2.1≠0 then (G,0,p.2.2.1) else
  let x:=doG G id.toNat u (p.1,p.2.2.2)
  if x.2≠0 then (x.1,0,x.2) else (x.1,p.2.1,0)
def gS(G:gV)(i:Int):gV × Int :=
 if i<0 then (G,4) else match G.gF.aZ[i.toNat]? with
 | none=>(G,4)
 | some p =>
  let G1:={ G with gF:=takeN G.gF i.toNat }
  if kY G.gF.split p.src p.to=false then (G1,10) else CI G1 p.to λr=>aT r ((zX p.body.data.toList).getD UL)
def aNn(G:gV)(i:Int):gV × Int:=if i<0\/(G.gF.aZ.length:Int)<=i then (G,4) else ({ G with gF:=takeN G.gF i.toNat },0)
def aBI(G:gV)(i:Int):gV × Int :=
 if i<0 then (G,4) else match G.gF.aZ[i.toNat]? with
 | none=>(G,4)
 | some p=>if 500<=G.gF.aZ.length then (G,6) else ({ G with gF:={ G.gF with aZ:=G.gF.aZ++[p] } },0)
def E3(G:gV)(mask:Int):gV:={ G with gF:={ G.gF with split:=mask % 65536 } }
def ZG(G:gV):gV:={ G with gF:={ G.gF with split:=0 } }
def aHx(G:gV)(id:Int)(keep:List Int):gV × Int:=if id<0\/3<=id then (G,1) else (kZ (fL G id.toNat ⟨eP (G.mem id.toNat).d keep,none⟩),0)
def aHy(G:gV)(id:Int):gV × Int :=
 if id<0\/3<=id then (G,1) else match (G.mem id.toNat).up with
 | some _=>(kZ G,7)
 | none =>
  let r:=eZ id.toNat (aHk (G.mem id.toNat).d)
  (kZ (fL G id.toNat ⟨r.1,r.2.1⟩),r.2.2)
def aNo(G:gV)(id n:Int):gV × Int:=if id<0\/3<=id then (G,1) else (kZ (fL G id.toNat { G.mem id.toNat with d:=a6P (G.mem id.toNat).d n }),0)
def aVU(G:gV)(id n:Int)(keep:List Int):gV × Int:=if id<0\/3<=id then (G,1) else (kZ (fL G id.toNat { G.mem id.toNat with d:=aHl (G.mem id.toNat).d n keep }),0)
def yE:Nat->gV->gV × Nat
 | 0,G=>(G,0)
 | k+1,G=>if G.gF.aZ=[] then (G,0) else
  let x:=yE k (gS G 0).1
  (x.1,x.2+1)
def bS(G:gV)(id most:Int):gV × Nat:=yE most.toNat (zZ G id).1
def UO(G:gV)(id:Int):Int:=if id<0\/3<=id then -1 else match (G.mem id.toNat).up with
 | none => -1
 | some u=>u.r.role
def UP(G:gV)(id:Int):Int:=if id<0\/3<=id then 0 else match (G.mem id.toNat).up with
 | none=>0
 | some u=>u.r.term
def a4f(G:gV)(id:Int):List bH:=if id<0\/3<=id then [] else match (G.mem id.toNat).up with
 | none=>[]
 | some u=>u.r.log
def a2v(d:iH):iH:=aHk (eP (aHl (a6P d 0) 0 []) [])
def W9(d:iH):List bH:=match (rP (a2v d) 0).2.1 with
 | none=>[]
 | some j=>j.list.map oT
def aBJ(G:gV)(id:Int):List bH:=if id<0\/3<=id then [] else W9 (G.mem id.toNat).d
def CJ(i:Nat):a6Y:=⟨(eZ i nN).1,(eZ i nN).2.1⟩
def NJ:gV:=⟨CJ,⟨[],0⟩,[]⟩
end Go.Proofs.YtnlkemjhgdbfkaaGreatDoor
end

section
namespace Go.Vc
structure aVV where
 key:Int × ByteArray
 val:Int
 born:Nat
abbrev aLr(k:Int × ByteArray):Value:=.agg #[.int .i64 k.1,.string k.2]
def aVV.m(e:aVV):MapEntry:=⟨aLr e.key,.int .i64 e.val,e.born⟩
structure aVW(P:Program)(t k e:TypeId):Prop where
 map:P.underlying t=some (.map k e)
 str:∃ fs,P.underlying k=some (.struct fs)
 chk:∀ b x w,(Instr.checkKey b 10000 k (aLr x)).run P w=.ok () w
 eq:∀ x y w,(Op.equal k (aLr x) (aLr y)).run P w=.ok (decide (x=y)) w
 zero:∀ w,(zeroValue e).run P w=.ok (.int .i64 0) w
section
variable {P:Program}{t k e:TypeId}(T:aVW P t k e)
include T
omit T
theorem pM{α β:Type}{f:α->β}:∀ {l:List α},l.Pairwise (λa b=>f a≠f b)->∀ {a b:α},a∈l->b∈l->f a=f b->a=b
 | [],_,_,_,ha,_,_=>by cases ha
 | x :: l,h,a,b,ha,hb,e=>by
  obtain ⟨h1,h2⟩:=List.pairwise_cons.1 h;rcases List.mem_cons.1 ha with ea|ha
  .rcases List.mem_cons.1 hb with eb|hb
   .rw [ea,eb]
   .exact absurd (by rw [<-ea];exact e) (h1 b hb)
  .rcases List.mem_cons.1 hb with eb|hb
   .exact absurd (by rw [<-eb];exact e.symm) (h1 a ha)
   .exact pM h2 ha hb e
theorem ZH{α:Type}{p}:∀ {l:List α} {a:α},a∈l->p a=true->(∀ c∈l,p c=true->c=a)->∃ n,l.findIdx? p=some n/\l[n]? = some a
 | [],_,h,_,_=>by cases h
 | x :: l,a,h,hp,hu=>by
  rw [List.findIdx?_cons];by_cases hx:p x=true
  .rw [if_pos hx];exact ⟨0,rfl,by rw [hu x (by simp) hx];rfl⟩
  .rw [if_neg hx];rcases List.mem_cons.1 h with rfl|h
   .exact absurd hp hx
   .obtain ⟨n,h1,h2⟩:=ZH h hp λc hc=>hu c (by simp [hc]);exact ⟨n+1,by rw [h1];rfl,by simpa using h2⟩
include T
end
section
variable {P:Program}{W w:World}{Q R G:List Own}{Φ Ψ:PW}{f:FuncId}{args:Array Value}
end
variable {κ ν:Type}[DecidableEq κ]{kv:κ->Value}{vv:ν->Value}{z:ν}
structure bV(κ ν:Type) where
 key:κ
 val:ν
 born:Nat
def bV.m(kv:κ->Value)(vv:ν->Value)(e:bV κ ν):MapEntry:=⟨kv e.key,vv e.val,e.born⟩
def cK(kv:κ->Value)(vv:ν->Value)(es:List (bV κ ν))(clock:Nat):Obj:=.map (es.map (bV.m kv vv)).toArray clock
def gT(z:ν):List (bV κ ν)->κ->ν
 | [],_=>z
 | e :: es,k=>if k=e.key then e.val else gT z es k
def yF(vv:ν->Value):List (bV κ ν)->κ->Nat->Option (Nat × Value)
 | [],_,_=>none
 | e :: es,k,i=>if k=e.key then some (i,vv e.val) else yF vv es k (i+1)
structure GOk(es:List (bV κ ν))(clock:Nat):Prop where
 keys:es.Pairwise λa b=>a.key≠b.key
 sQ:es.Pairwise λa b=>a.born≠b.born
 lt:∀ e∈es,e.born<clock
structure GTy(P:Program)(t k e:TypeId)(kv:κ->Value)(vv:ν->Value)(z:ν):Prop where
 map:P.underlying t=some (.map k e)
 find:∀ (x:κ) (es:List (bV κ ν)) w,(Instr.findKey k (kv x) (es.map (bV.m kv vv))).run P w=.ok (yF vv es x 0) w
 chk:∀ b x w,(Instr.checkKey b 10000 k (kv x)).run P w=.ok () w
 stays:∀ x w,(Instr.keyThatStays (kv x) (kv x)).run P w=.ok (kv x) w
 zero:∀ w,(zeroValue e).run P w=.ok (vv z) w
theorem tU:∀ {es:List (bV κ ν)} {k:κ} {i:Nat},yF vv es k i=none->∀ e∈es,e.key≠k
 | [],_,_,_,e,he=>by cases he
 | x :: es,k,i,h,e,he=>by
  unfold yF at h;split at h
  .cases h
  .rename_i hk;rcases List.mem_cons.1 he with rfl|he
   .exact λe=>hk e.symm
   .exact tU h e he
theorem qO:∀ {es:List (bV κ ν)} {k:κ},(∀ e∈es,e.key≠k)->gT z es k=z
 | [],_,_=>rfl
 | x :: es,k,h=>by
  unfold gT;rw [if_neg λe=>h x (by simp) e.symm];exact qO λe he=>h e (by simp [he])
theorem tV:∀ {es:List (bV κ ν)} {k:κ} {i j:Nat} {v:Value},yF vv es k i=some (j,v)->∃ n e,j=i+n/\es[n]? = some e/\e.key=k/\v=vv e.val/\gT z es k=e.val
 | [],_,_,_,_,h=>by cases h
 | x :: es,k,i,j,v,h=>by
  unfold yF at h;split at h
  .rename_i hk;cases h;exact ⟨0,x,rfl,rfl,hk.symm,rfl,by unfold gT;rw [if_pos hk]⟩
  .rename_i hk;obtain ⟨n,e,h1,h2,h3,h4,h5⟩:=tV h;exact ⟨n+1,e,by omega,by simpa using h2,h3,h4,by unfold gT;rw [if_neg hk];exact h5⟩
section
variable {P:Program}{t k e:TypeId}(T:GTy P t k e kv vv z)
include T
theorem uU{w b es clock}(hb:w.heap[b]? = some (cK kv vv es clock))(x):
  Sem.run P (Instr.lookup t (.map (some b)) (kv x) false) w=.ok (vv (gT z es x)) w:=by
 have h1:=T.find x es w;unfold cK at hb;unfold Instr.lookup;simp only [Sem.run_bind,run_underlying T.map,MapKept.run_getObj_map hb,Result.andThen,T.chk,Sem.run_pure,h1];cases hf:yF vv es x 0 with
 | none=>simp only [Sem.run_bind,T.zero,Result.andThen,Sem.run_pure,qO (tU hf)];rfl
 | some r =>
  obtain ⟨j,v⟩:=r;obtain ⟨n,e',_,_,_,hv,hg⟩:=tV (z:=z) hf;simp only [Sem.run_pure,Result.andThen];rw [hg,hv];rfl
theorem a9F{w b es clock}(ok:GOk es clock)(hb:w.heap[b]? = some (cK kv vv es clock))(x):
  ∃ fP ZI s,Sem.run P (Instr.mapEntry t (.map (some b)) (kv x)) w=.ok (.tuple #[vv (gT z es x),.int .i64 (s:Nat)]) (D9 w b (cK kv vv fP ZI))/\GOk fP ZI/\(∀ y,gT z fP y=gT z es y)/\∃ a∈fP,a.key=x/\a.born=s:=by
 have h1:=T.find x es w;unfold cK at hb;cases hf:yF vv es x 0 with
 | none =>
  have hn:=tU hf;refine ⟨es++[⟨x,z,clock⟩],clock+1,clock,?_,⟨?_,?_,?_⟩,λy=>?_,⟨x,z,clock⟩,by simp,rfl,rfl⟩
  .have h3:=MapKept.run_setObj_map (P:=P) (.map ((es.map (bV.m kv vv)).toArray.push ⟨kv x,vv z,clock⟩) (clock+1)) hb;unfold Instr.mapEntry;rw [hf] at h1;simp only [Sem.run_bind,run_underlying T.map,MapKept.run_getObj_map hb,Result.andThen,T.chk,Sem.run_pure,h1,T.zero,h3];rw [qO hn]
   congr 2
   unfold cK;simp [bV.m]
  .exact List.pairwise_append.2 ⟨ok.keys,by simp,λa ha c hc=>by rw [List.mem_singleton.1 hc];exact hn a ha⟩
  .exact List.pairwise_append.2 ⟨ok.sQ,by simp,λa ha c hc=>by rw [List.mem_singleton.1 hc];exact Nat.ne_of_lt (ok.lt a ha)⟩
  .intro a ha;rcases List.mem_append.1 ha with ha|ha
   .have:=ok.lt a ha;omega
   .rw [List.mem_singleton.1 ha];exact Nat.lt_succ_self _
  .clear hb h1 hf ok
   induction es with
   | nil=>simp [gT]
   | cons a es ih =>
    rw [List.cons_append];unfold gT;split
    .rfl
    .exact ih λe he=>hn e (by simp [he])
 | some r =>
  obtain ⟨j,v⟩:=r;obtain ⟨n,a,hj,ha,hk,hv,hg⟩:=tV (z:=z) hf;have hj:j=n:=by omega
  subst hj;refine ⟨es,clock,a.born,?_,ok,λ_=>rfl,a,List.mem_of_getElem? ha,hk,rfl⟩;have ha2:(es.map (bV.m kv vv)).toArray[j]? = some (bV.m kv vv a):=by simp [ha]
  have h3:=MapKept.run_setObj_map (P:=P) (.map ((es.map (bV.m kv vv)).toArray.modify j λe=>{ e with key:=kv x }) clock) hb;unfold Instr.mapEntry;rw [hf] at h1;simp only [Sem.run_bind,run_underlying T.map,MapKept.run_getObj_map hb,Result.andThen,T.chk,Sem.run_pure,h1,ha2,Option.map_some,Option.getD_some];rw [show (bV.m kv vv a).key=kv x by rw [<-hk];rfl,T.stays x w];simp only [h3];rw [hg,hv]
  congr 2
  unfold cK;refine congrArg (λa=>w.heap.setIfInBounds b (Obj.map a clock)) ?_;apply Array.ext
  .simp
  .intro i hi1 hi2;rw [Array.getElem_modify];split
   .rename_i e;subst e;have:(es.map (bV.m kv vv)).toArray[j]=bV.m kv vv a:=by
     have:=Array.getElem?_eq_getElem (xs:=(es.map (bV.m kv vv)).toArray) hi2;rw [ha2] at this;exact (Option.some.inj this).symm
    rw [this,<-hk];rfl
   .rfl
omit T
theorem a6Z{s v x}:∀ {es:List (bV κ ν)},(∀ a∈es,a.born=s ↔ a.key=x)->∀ y,gT z (es.map λa=>if a.born=s then { a with val:=v } else a) y=if y=x/\∃ a∈es,a.key=x then v else gT z es y
 | [],_,y=>by simp [gT]
 | a :: es,h,y=>by
  have ih:=a6Z (v:=v) (es:=es) (λa ha=>h a (by simp [ha])) y;rw [List.map_cons];unfold gT;by_cases h1:a.born=s
  .have hk:=(h a (by simp)).1 h1;rw [if_pos h1];simp only;by_cases h2:y=a.key
   .rw [if_pos h2,if_pos ⟨h2.trans hk,a,by simp,hk⟩]
   .rw [if_neg h2,if_neg h2,ih,if_neg λe=>h2 (e.1.trans hk.symm),if_neg λe=>h2 (e.1.trans hk.symm)]
  .have hk:¬ a.key=x:=λe=>h1 ((h a (by simp)).2 e);rw [if_neg h1];by_cases h2:y=a.key
   .rw [if_pos h2,if_pos h2,if_neg λe=>hk (h2.symm.trans e.1)]
   .rw [if_neg h2,if_neg h2,ih];by_cases h3:y=x/\∃ c∈es,c.key=x
    .rw [if_pos h3];obtain ⟨h4,c,h5,h6⟩:=h3;rw [if_pos ⟨h4,c,by simp [h5],h6⟩]
    .rw [if_neg h3,if_neg λe=>h3 ⟨e.1,by
      obtain ⟨c,h5,h6⟩:=e.2;rcases List.mem_cons.1 h5 with rfl|h5
      .exact absurd h6 hk
      .exact ⟨c,h5,h6⟩⟩]
theorem a9G{w b es clock s x}(t)(ok:GOk es clock)(hx:∃ a∈es,a.key=x/\a.born=s)(hb:w.heap[b]? = some (cK kv vv es clock))(v):
  ∃ fP,Sem.run P (Instr.entryStore t (.map (some b)) (.int .i64 (s:Nat)) (vv v)) w=.ok () (D9 w b (cK kv vv fP clock))/\GOk fP clock/\∀ y,gT z fP y=if y=x then v else gT z es y:=by
 obtain ⟨a,ha,hk,hs⟩:=hx;have hiff:∀ c∈es,c.born=s ↔ c.key=x:=λc hc=>⟨λh=>by rw [pM ok.sQ hc ha (h.trans hs.symm)];exact hk,λh=>by rw [pM ok.keys hc ha (h.trans hk.symm)];exact hs⟩;refine ⟨es.map λa=>if a.born=s then { a with val:=v } else a,?_,⟨?_,?_,?_⟩,λy=>?_⟩
 .unfold cK at hb;obtain ⟨n,h1,h2⟩:=ZH (p:=λe:MapEntry=>(e.born:Int) == ((s:Nat):Int)) (l:=es.map (bV.m kv vv)) (a:=bV.m kv vv a) (List.mem_map.2 ⟨a,ha,rfl⟩) (by
    show ((a.born:Int) == _)=true;rw [hs];simp) (λc hc hcb=>by
   obtain ⟨c',JB,rfl⟩:=List.mem_map.1 hc;have:c'.born=s:=by
    have h:((c'.born:Int) == ((s:Nat):Int))=true:=hcb;simp at h;omega
   rw [pM ok.sQ JB ha (this.trans hs.symm)])
  have h3:=MapKept.run_setObj_map (P:=P) (.map ((es.map (bV.m kv vv)).toArray.modify n λe=>{ e with val:=vv v }) clock) hb;have h0:(asIntOf (.int .i64 ((s:Nat):Int))).run P w=.ok (.i64,((s:Nat):Int)) w:=rfl;unfold Instr.entryStore;simp only [Sem.run_bind,MapKept.run_getObj_map hb,Result.andThen,Sem.run_pure,asInt];have h4:Array.findIdx? (λe:MapEntry=>(e.born:Int) == ((s:Nat):Int)) (es.map (bV.m kv vv)).toArray=some n:=by simpa using h1
  simp only [h0,h4,h3]
  congr 2
  unfold cK;refine congrArg (λa=>w.heap.setIfInBounds b (Obj.map a clock)) ?_;have h2':es[n]? = some a:=by
   rw [List.getElem?_map] at h2;cases he:es[n]? with
   | none=>rw [he] at h2;cases h2
   | some c =>
    rw [he] at h2;have hb2:c.born=a.born:=congrArg MapEntry.born (Option.some.inj h2);rw [pM ok.sQ (List.mem_of_getElem? he) ha hb2]
  apply Array.ext
  .simp
  .intro i hi1 hi2;have hi3:i<es.length:=by simpa using hi1
   rw [Array.getElem_modify];simp only [List.getElem_toArray,List.getElem_map];split
   .rename_i e;subst e;have:es[n]=a:=by
     have:=List.getElem?_eq_getElem hi3;rw [h2'] at this;exact (Option.some.inj this).symm
    rw [this,if_pos hs];rfl
   .rename_i e;rw [if_neg];intro hbi;have hea:=pM ok.sQ (List.getElem_mem hi3) ha (hbi.trans hs.symm);have hn:n<es.length:=(List.getElem?_eq_some_iff.1 h2').1;have hp:=ok.sQ;rw [List.pairwise_iff_getElem] at hp;have hna:es[n]=a:=(List.getElem?_eq_some_iff.1 h2').2;rcases Nat.lt_or_gt_of_ne e with h|h
    .exact hp n i hn hi3 h (by rw [hna,hea])
    .exact hp i n hi3 hn h (by rw [hna,hea])
 .refine List.pairwise_map.2 (ok.keys.imp fun {a b} h=>?_);split<;>split<;>exact h
 .refine List.pairwise_map.2 (ok.sQ.imp fun {a b} h=>?_);split<;>split<;>exact h
 .intro c hc;obtain ⟨c',JB,rfl⟩:=List.mem_map.1 hc;have:=ok.lt c' JB;split<;>exact this
 .rw [a6Z hiff y];by_cases h:y=x
  .rw [if_pos ⟨h,a,ha,hk⟩,if_pos h]
  .rw [if_neg λe=>h e.1,if_neg h]
omit [DecidableEq κ] in
theorem ZJ:∀ (es:List (bV κ ν)) (j:Nat),(es.map (bV.m kv vv)).eraseIdx j=(es.eraseIdx j).map (bV.m kv vv)
 | [],_=>rfl
 | _ :: _,0=>rfl
 | a :: es,j+1=>by
  rw [List.map_cons,List.eraseIdx_cons_succ,List.eraseIdx_cons_succ,List.map_cons,ZJ es j]
theorem ZK{x}:∀ {es:List (bV κ ν)} {n:Nat} {a:bV κ ν},es.Pairwise (λa b=>a.key≠b.key)->es[n]? = some a->a.key=x->∀ y,gT z (es.eraseIdx n) y=if y=x then z else gT z es y
 | [],_,_,_,h,_,_=>by simp at h
 | c :: es,0,a,hp,h,hk,y=>by
  have:c=a:=by simpa using h
  subst this;rw [List.eraseIdx_cons_zero];obtain ⟨h1,_⟩:=List.pairwise_cons.1 hp;by_cases hy:y=x
  .rw [if_pos hy,hy];exact qO λe he h2=>h1 e he (hk.trans h2.symm)
  .rw [if_neg hy];unfold gT;rw [if_neg λe=>hy (e.trans hk)];cases es<;>rfl
 | c :: es,n+1,a,hp,h,hk,y=>by
  obtain ⟨h1,h2⟩:=List.pairwise_cons.1 hp;have h':es[n]? = some a:=by simpa using h
  have ih:=ZK h2 h' hk y;rw [List.eraseIdx_cons_succ];unfold gT;by_cases hy:y=c.key
  .rw [if_pos hy,if_pos hy,if_neg];intro e;exact h1 a (List.mem_of_getElem? h') (hy.symm.trans (e.trans hk.symm))
  .rw [if_neg hy,if_neg hy];exact ih
include T
end
section
variable {P:Program}{t k e:TypeId}(T:GTy P t k e kv vv z)
omit [DecidableEq κ] in
theorem TA(n v):∀ (es:List (bV κ ν)),(es.modify n λa=>{ a with val:=v }).map bV.key=es.map bV.key:=λes=>by
 apply List.ext_getElem?;intro i;rw [List.getElem?_map,List.getElem?_map,List.getElem?_modify];cases es[i]? with
 | none=>rfl
 | some a=>by_cases h:n=i<;>simp [h]
omit [DecidableEq κ] in
theorem yG(n v):∀ (es:List (bV κ ν)),(es.modify n λa=>{ a with val:=v }).map bV.born=es.map bV.born:=λes=>by
 apply List.ext_getElem?;intro i;rw [List.getElem?_map,List.getElem?_map,List.getElem?_modify];cases es[i]? with
 | none=>rfl
 | some a=>by_cases h:n=i<;>simp [h]
theorem a2w{x v b}:∀ {es:List (bV κ ν)},(∀ a∈es,a.key≠x)->∀ y,gT z (es++[⟨x,v,b⟩]) y=if y=x then v else gT z es y
 | [],_,y=>by simp [gT]
 | a :: es,h,y=>by
  have ih:=a2w (v:=v) (b:=b) (es:=es) (λa ha=>h a (by simp [ha])) y;rw [List.cons_append];unfold gT;by_cases h1:y=a.key
  .rw [if_pos h1,if_pos h1,if_neg λe=>h a (by simp) (h1.symm.trans e)]
  .rw [if_neg h1,if_neg h1,ih]
theorem ZL{x v}:∀ {es:List (bV κ ν)} {n:Nat} {a:bV κ ν},es.Pairwise (λa b=>a.key≠b.key)->es[n]? = some a->a.key=x->∀ y,gT z (es.modify n λa=>{ a with val:=v }) y=if y=x then v else gT z es y
 | [],_,_,_,h,_,_=>by simp at h
 | c :: es,0,a,hp,h,hk,y=>by
  have:c=a:=by simpa using h
  subst this;rw [List.modify_zero_cons];unfold gT;by_cases hy:y=x
  .rw [if_pos (hy.trans hk.symm),if_pos hy]
  .rw [if_neg λe=>hy (e.trans hk),if_neg hy];cases es<;>simp [gT,hk,hy]
 | c :: es,n+1,a,hp,h,hk,y=>by
  obtain ⟨h1,h2⟩:=List.pairwise_cons.1 hp;have h':es[n]? = some a:=by simpa using h
  have ih:=ZL (v:=v) h2 h' hk y;rw [List.modify_succ_cons];unfold gT;by_cases hy:y=c.key
  .rw [if_pos hy,if_pos hy,if_neg];intro e;exact h1 a (List.mem_of_getElem? h') (hy.symm.trans (e.trans hk.symm))
  .rw [if_neg hy,if_neg hy];exact ih
include T
theorem IG{w b es clock}(ok:GOk es clock)(hb:w.heap[b]? = some (cK kv vv es clock))(x v):
  ∃ fP ZI,Sem.run P (Instr.mapUpdate t (.map (some b)) (kv x) (vv v)) w=.ok () (D9 w b (cK kv vv fP ZI))/\GOk fP ZI/\∀ y,gT z fP y=if y=x then v else gT z es y:=by
 have h1:=T.find x es w;unfold cK at hb;cases hf:yF vv es x 0 with
 | none =>
  have hn:=tU hf;refine ⟨es++[⟨x,v,clock⟩],clock+1,?_,⟨?_,?_,?_⟩,a2w hn⟩
  .have h3:=MapKept.run_setObj_map (P:=P) (.map ((es.map (bV.m kv vv)).toArray.push ⟨kv x,vv v,clock⟩) (clock+1)) hb;unfold Instr.mapUpdate;rw [hf] at h1;simp only [Sem.run_bind,run_underlying T.map,MapKept.run_getObj_map hb,Result.andThen,T.chk,Sem.run_pure,h1,h3];unfold cK;simp [bV.m];rfl
  .exact List.pairwise_append.2 ⟨ok.keys,by simp,λa ha c hc=>by rw [List.mem_singleton.1 hc];exact hn a ha⟩
  .exact List.pairwise_append.2 ⟨ok.sQ,by simp,λa ha c hc=>by rw [List.mem_singleton.1 hc];exact Nat.ne_of_lt (ok.lt a ha)⟩
  .intro a ha;rcases List.mem_append.1 ha with ha|ha
   .have:=ok.lt a ha;omega
   .rw [List.mem_singleton.1 ha];exact Nat.lt_succ_self _
 | some r =>
  obtain ⟨j,u⟩:=r;obtain ⟨n,a,hj,ha,hk,hv,hg⟩:=tV (z:=z) hf;have hj:j=n:=by omega
  subst hj;have ha2:(es.map (bV.m kv vv)).toArray[j]? = some (bV.m kv vv a):=by simp [ha]
  have h3:=MapKept.run_setObj_map (P:=P) (.map ((es.map (bV.m kv vv)).toArray.modify j λe=>{ e with key:=kv x,val:=vv v }) clock) hb;refine ⟨es.modify j λa=>{ a with val:=v },clock,?_,⟨?_,?_,?_⟩,ZL ok.keys ha hk⟩
  .unfold Instr.mapUpdate;rw [hf] at h1;simp only [Sem.run_bind,run_underlying T.map,MapKept.run_getObj_map hb,Result.andThen,T.chk,Sem.run_pure,h1,ha2,Option.map_some,Option.getD_some];rw [show (bV.m kv vv a).key=kv x by rw [<-hk];rfl,T.stays x w];simp only [h3]
   congr 2
   unfold cK;refine congrArg (λa=>w.heap.setIfInBounds b (Obj.map a clock)) ?_;apply Array.ext';apply List.ext_getElem?;intro i;simp only [Array.toList_modify,List.getElem?_modify,List.getElem?_map];by_cases h:j=i
   .subst h;rw [ha];simp [bV.m,hk]
   .simp [h]
  .have:=List.pairwise_map.2 ok.keys;exact List.pairwise_map.1 (by rw [TA];exact List.pairwise_map.2 ok.keys)
  .exact List.pairwise_map.1 (by rw [yG];exact List.pairwise_map.2 ok.sQ)
  .intro c hc;have hm:c.born∈(es.modify j λa=>{ a with val:=v }).map bV.born:=List.mem_map.2 ⟨c,hc,rfl⟩;rw [yG] at hm;obtain ⟨d,hd,he⟩:=List.mem_map.1 hm;rw [<-he];exact ok.lt d hd
end
section
variable {P:Program}{t k e:TypeId}
theorem UQ{kk}(x):∀ (es:List (bV Int ν)) (i:Nat),Instr.findNow (.int kk) (.int kk x) (es.map (bV.m (Value.int kk) vv)) i=some (yF vv es x i)
 | [],_=>rfl
 | a :: es,i=>by
  rw [List.map_cons];unfold Instr.findNow;have e1:Instr.sameNow (.int kk) (.int kk x) (bV.m (Value.int kk) vv a).key=some (x == a.key):=by
   show (if kk=kk then some (x == a.key) else none)=_;rw [if_pos rfl]
  rw [e1];unfold yF;by_cases h:x=a.key
  .rw [if_pos h,show (x == a.key)=true by rw [h];exact beq_self_eq_true _];rfl
  .rw [if_neg h,show (x == a.key)=false from Bool.eq_false_iff.2 λhb=>h (by simpa using hb)];exact UQ x es (i+1)
theorem GTy.ofInt{kk}(hm:P.underlying t=some (.map k e))(hk:P.underlying k=some (.int kk))(hc:∀ b (x:Int) w,(Instr.checkKey b 10000 k (.int kk x)).run P w=.ok () w)(hz:∀ w,(zeroValue e).run P w=.ok (vv z) w):GTy P t k e (Value.int kk) vv z where
 map:=hm
 chk:=hc
 zero:=hz
 stays x w:=by
  have:Instr.sameBits 10000 (.int kk x) (.int kk x)=true:=by
   unfold Instr.sameBits;simp [Instr.sameBits]
  unfold Instr.keyThatStays;rw [if_pos this];rfl
 find x es w:=by
  unfold Instr.findKey;simp only [Sem.run_bind,run_underlying hk,Result.andThen,UQ];rfl
theorem GTy.aHA(hm:P.underlying t=some (.map k e))(hk0:∃ fs,P.underlying k=some (.struct fs))(hc:∀ b x w,(Instr.checkKey b 10000 k (kv x)).run P w=.ok () w)(hs:∀ x w,(Instr.keyThatStays (kv x) (kv x)).run P w=.ok (kv x) w)(he:∀ x y w,(Op.equal k (kv x) (kv y)).run P w=.ok (decide (x=y)) w)(hz:∀ w,(zeroValue e).run P w=.ok (vv z) w):GTy P t k e kv vv z where
 map:=hm
 chk:=hc
 zero:=hz
 stays:=hs
 find x es w:=by
  obtain ⟨fs,hk⟩:=hk0;have ask:∀ (es:List (bV κ ν)) (i:Nat),(Instr.findAsking k (kv x) (es.map (bV.m kv vv)) i).run P w=.ok (yF vv es x i) w:=by
   intro es
   induction es with
   | nil=>intro i;rfl
   | cons a es ih =>
    intro i;rw [List.map_cons];unfold Instr.findAsking;simp only [Sem.run_bind];rw [show (bV.m kv vv a).key=kv a.key from rfl,he x a.key w];simp only [Result.andThen];unfold yF;by_cases h:x=a.key
    .rw [if_pos (by simpa using h),if_pos h];rfl
    .rw [if_neg (by simpa using h),if_neg h];exact ih (i+1)
  unfold Instr.findKey;simp only [Sem.run_bind,run_underlying hk,Result.andThen];cases es with
  | nil=>rfl
  | cons a es =>
   rw [List.map_cons];unfold Instr.findNow;simp only [Instr.sameNow];exact ask (a :: es) 0
end
end Go.Vc
end

section
namespace Go.Vc
variable {κ ν:Type}{kv:κ->Value}{vv:ν->Value}{z:ν}
theorem LK{x}:∀ {es:List (bV κ ν)} {n:Nat} {a:bV κ ν},es.Pairwise (λa b=>a.key≠b.key)->es[n]? = some a->a.key=x->∀ e∈es.eraseIdx n,e.key≠x
 | [],_,_,_,h,_,_,_=>by simp at h
 | c :: es,0,a,hp,h,hk,e,he=>by
  have:c=a:=by simpa using h
  subst this;rw [List.eraseIdx_cons_zero] at he;exact λh2=>(List.pairwise_cons.1 hp).1 e he (hk.trans h2.symm)
 | c :: es,n+1,a,hp,h,hk,e,he=>by
  obtain ⟨h1,h2⟩:=List.pairwise_cons.1 hp;have h':es[n]? = some a:=by simpa using h
  rw [List.eraseIdx_cons_succ] at he;rcases List.mem_cons.1 he with rfl|he
  .exact λe2=>h1 a (List.mem_of_getElem? h') (e2.trans hk.symm)
  .exact LK h2 h' hk e he
section
variable [DecidableEq κ]{P:Program}{t k e:TypeId}(T:GTy P t k e kv vv z)
include T
theorem a60{w b es clock}(ok:GOk es clock)(hb:w.heap[b]? = some (cK kv vv es clock))(x kt ty cs):
  ∃ fP,Sem.run P (builtin Builtin.delete #[t,kt] ty cs #[.map (some b),kv x]) w=.ok (.value (.tuple #[])) (D9 w b (cK kv vv fP clock))/\GOk fP clock/\(∀ y,gT z fP y=if y=x then z else gT z es y)/\fP.Sublist es/\∀ e∈fP,e.key≠x:=by
 have h1:=T.find x es w;unfold cK at hb;have run:∀ fP:List (bV κ ν),(Builtin.delete_ #[t,kt] ty #[.map (some b),kv x]).run P w=.ok (.tuple #[]) (D9 w b (cK kv vv fP clock))->Sem.run P (builtin Builtin.delete #[t,kt] ty cs #[.map (some b),kv x]) w=.ok (.value (.tuple #[])) (D9 w b (cK kv vv fP clock)):=λfP h=>by
  unfold builtin;simp only [Sem.run_bind,h,Result.andThen,Sem.run_pure]
 cases hf:yF vv es x 0 with
 | none =>
  have hn:=tU hf;refine ⟨es,run _ ?_,ok,λy=>?_,List.Sublist.refl _,hn⟩
  .have h3:=MapKept.run_setObj_map (P:=P) (.map (es.map (bV.m kv vv)).toArray clock) hb;unfold Builtin.delete_;rw [hf] at h1;simp only [Array.getElem?_eq_getElem,List.size_toArray,List.length_cons,List.length_nil,Nat.zero_lt_succ,Nat.lt_add_one,List.getElem_toArray,List.getElem_cons_zero,List.getElem_cons_succ,Sem.run_bind,run_underlying T.map,MapKept.run_getObj_map hb,Result.andThen,T.chk,Sem.run_pure,h1,h3]
   rfl
  .by_cases hy:y=x
   .rw [if_pos hy,hy];exact qO hn
   .rw [if_neg hy]
 | some r =>
  obtain ⟨j,v⟩:=r;obtain ⟨n,a,hj,ha,hk,hv,hg⟩:=tV (z:=z) hf;have hj:j=n:=by omega
  subst hj;have hlt:j<es.length:=(List.getElem?_eq_some_iff.1 ha).1;refine ⟨es.eraseIdx j,run _ ?_,⟨ok.keys.sublist (List.eraseIdx_sublist _ _),ok.sQ.sublist (List.eraseIdx_sublist _ _),λe he=>ok.lt e ((List.eraseIdx_sublist _ _).mem he)⟩,ZK ok.keys ha hk,List.eraseIdx_sublist _ _,LK ok.keys ha hk⟩;have h3:=MapKept.run_setObj_map (P:=P) (.map ((es.map (bV.m kv vv)).toArray.eraseIdxIfInBounds j) clock) hb
  unfold Builtin.delete_;rw [hf] at h1;simp only [Array.getElem?_eq_getElem,List.size_toArray,List.length_cons,List.length_nil,Nat.zero_lt_succ,Nat.lt_add_one,List.getElem_toArray,List.getElem_cons_zero,List.getElem_cons_succ,Sem.run_bind,run_underlying T.map,MapKept.run_getObj_map hb,Result.andThen,T.chk,Sem.run_pure,h1,h3]
  congr 2
  unfold cK;refine congrArg (λa=>w.heap.setIfInBounds b (Obj.map a clock)) ?_;unfold Array.eraseIdxIfInBounds;rw [dif_pos (by simpa using hlt)];apply Array.toList_inj.1;simp;exact ZJ es j
theorem a61{w b es clock}(ok:GOk es clock)(hb:w.heap[b]? = some (cK kv vv es clock))(x v)(hx:∃ a∈es,a.key=x):
  ∃ fP,Sem.run P (Instr.mapUpdate t (.map (some b)) (kv x) (vv v)) w=.ok () (D9 w b (cK kv vv fP clock))/\GOk fP clock/\(∀ y,gT z fP y=if y=x then v else gT z es y)/\fP.map bV.key=es.map bV.key/\fP.map bV.born=es.map bV.born:=by
 have h1:=T.find x es w;unfold cK at hb;cases hf:yF vv es x 0 with
 | none=>exact absurd hx λ⟨a,ha,hk⟩=>tU hf a ha hk
 | some r =>
  obtain ⟨j,u⟩:=r;obtain ⟨n,a,hj,ha,hk,hv,hg⟩:=tV (z:=z) hf;have hj:j=n:=by omega
  subst hj;have ha2:(es.map (bV.m kv vv)).toArray[j]? = some (bV.m kv vv a):=by simp [ha]
  have h3:=MapKept.run_setObj_map (P:=P) (.map ((es.map (bV.m kv vv)).toArray.modify j λe=>{ e with key:=kv x,val:=vv v }) clock) hb;refine ⟨es.modify j λa=>{ a with val:=v },?_,⟨?_,?_,?_⟩,ZL ok.keys ha hk,TA _ _ _,yG _ _ _⟩
  .unfold Instr.mapUpdate;rw [hf] at h1;simp only [Sem.run_bind,run_underlying T.map,MapKept.run_getObj_map hb,Result.andThen,T.chk,Sem.run_pure,h1,ha2,Option.map_some,Option.getD_some];rw [show (bV.m kv vv a).key=kv x by rw [<-hk];rfl,T.stays x w];simp only [h3]
   congr 2
   unfold cK;refine congrArg (λa=>w.heap.setIfInBounds b (Obj.map a clock)) ?_;apply Array.ext';apply List.ext_getElem?;intro i;simp only [Array.toList_modify,List.getElem?_modify,List.getElem?_map];by_cases h:j=i
   .subst h;rw [ha];simp [bV.m,hk]
   .simp [h]
  .have:=List.pairwise_map.2 ok.keys;exact List.pairwise_map.1 (by rw [TA];exact List.pairwise_map.2 ok.keys)
  .exact List.pairwise_map.1 (by rw [yG];exact List.pairwise_map.2 ok.sQ)
  .intro c hc;have hm:c.born∈(es.modify j λa=>{ a with val:=v }).map bV.born:=List.mem_map.2 ⟨c,hc,rfl⟩;rw [yG] at hm;obtain ⟨d,hd,he⟩:=List.mem_map.1 hm;rw [<-he];exact ok.lt d hd
end
section
variable {P:Program}{w:World}{r bm since clock c0:Nat}{seen:Array Nat}{es:List (bV κ ν)}
theorem aHB(ty)(hr:w.heap[r]? = some (.mapIter (some bm) since seen c0))(hb:w.heap[bm]? = some (cK kv vv es clock))(hold:∀ e∈es,e.born<since)(hsc:since<=c0):
  ((∀ e∈es,e.born∈seen.toList)/\(Instr.next (.pointer (some ⟨r,0,none⟩)) false ty).run P w=.ok (.tuple #[.bool false]) w) \/
  ∃ a∈es,a.born ∉ seen.toList/\∃ w1:World,(w1=w\/w1=w.drewN 1)/\(Instr.next (.pointer (some ⟨r,0,none⟩)) false ty).run P w=.ok (.tuple #[.bool true,kv a.key,vv a.val]) (D9 w1 r (.mapIter (some bm) since (seen.push a.born) clock)):=by
 have hmem:∀ x∈(es.map (bV.m kv vv)),∃ a∈es,bV.m kv vv a=x:=λx hx=>by
  obtain ⟨a,ha,e⟩:=List.mem_map.1 hx;exact ⟨a,ha,e⟩
 rcases run_next_at (P:=P) w ty r bm since c0 seen (es.map (bV.m kv vv)).toArray clock hr hb (λx hx=>by
  obtain ⟨a,ha,rfl⟩:=hmem x hx;exact hold a ha) hsc with ⟨h0,h1⟩|⟨x,hx,w1,hw,h1⟩
 .refine .inl ⟨λa ha=>?_,h1⟩;refine Classical.byContradiction λhn=>?_;have hin:bV.m kv vv a∈(leftOf (es.map (bV.m kv vv)).toArray seen).toList:=by
   unfold leftOf;simp only [Array.toList_filter,List.mem_filter];refine ⟨List.mem_map.2 ⟨a,ha,rfl⟩,?_⟩;have:¬ seen.contains a.born=true:=λh=>hn (by simpa using h);simpa [bV.m] using this
  have:(leftOf (es.map (bV.m kv vv)).toArray seen).toList=[]:=by
   have:=Array.eq_empty_of_size_eq_zero h0;rw [this]
  rw [this] at hin;cases hin
 .unfold leftOf at hx;simp only [Array.toList_filter,List.mem_filter] at hx;obtain ⟨a,ha,rfl⟩:=hmem x hx.1;refine .inr ⟨a,ha,λh=>?_,w1,hw,h1⟩;have h2:=hx.2;simp [bV.m] at h2;exact h2 (by simpa using h)
theorem aBK{a}(ok:GOk es clock)(hr:w.heap[r]? = some (.mapIter (some bm) since (seen.push a.born) clock))(hb:w.heap[bm]? = some (cK kv vv es clock))(ha:a∈es):
  (Instr.entry (.pointer (some ⟨r,0,none⟩))).run P w=.ok (.tuple #[kv a.key,vv a.val]) w:=by
 refine run_entry_at w r bm since seen (es.map (bV.m kv vv)).toArray clock (bV.m kv vv a) hr hb (List.mem_map.2 ⟨a,ha,rfl⟩) ?_;have:((es.map (bV.m kv vv)).toArray.toList.map (·.born))=es.map bV.born:=by simp [bV.m,Function.comp_def]
 rw [this];exact List.nodup_iff_pairwise_ne.2 (List.pairwise_map.2 ok.sQ)
def QS(seen:List Nat)(es:List (bV κ ν)):Nat:=(es.filter λe => !seen.contains e.born).length
theorem NK{seen}{es fP:List (bV κ ν)}{a}(hs:(fP.map bV.born).Sublist (es.map bV.born))(ha:a∈es)(hn:a.born ∉ seen)(hb:(es.map bV.born).Nodup):
  QS (seen++[a.born]) fP<QS seen es:=by
 have key:∀ (l:List (bV κ ν)) (s:List Nat),QS s l=((l.map bV.born).filter λb => !s.contains b).length:=λl s=>by
  unfold QS;rw [List.filter_map,List.length_map];rfl
 rw [key,key];have h1:((fP.map bV.born).filter λb => !(seen++[a.born]).contains b).Sublist ((es.map bV.born).filter λb => !(seen++[a.born]).contains b):=hs.filter _;refine Nat.lt_of_le_of_lt h1.length_le ?_;have h2:((es.map bV.born).filter λb => !(seen++[a.born]).contains b)=((es.map bV.born).filter λb => !seen.contains b).filter λb=>b != a.born:=by
  rw [List.filter_filter]
  congr 1
  funext b
  rw [List.contains_append];cases h:seen.contains b<;>simp [bne]<;>rfl
 rw [h2];have hm:a.born∈(es.map bV.born).filter λb => !seen.contains b:=List.mem_filter.2 ⟨List.mem_map.2 ⟨a,ha,rfl⟩,by simpa using hn⟩;generalize (es.map bV.born).filter (λb => !seen.contains b)=l at hm
 induction l with
 | nil=>cases hm
 | cons x l ih =>
  by_cases hx:x=a.born
  .rw [List.filter_cons_of_neg (by simp [hx])];exact Nat.lt_succ_of_le (List.length_filter_le _ _)
  .rw [List.filter_cons_of_pos (by simpa using hx),List.length_cons,List.length_cons];refine Nat.succ_lt_succ (ih ?_);rcases List.mem_cons.1 hm with h|h
   .exact absurd h.symm hx
   .exact h
end
end Go.Vc
end

section
namespace Go.Vc
theorem a4g{P ats ty cs args v w w'}(h:(Builtin.copy_ ats ty args).run P w=.ok v w'):Sem.run P (builtin Builtin.copy ats ty cs args) w=.ok (.value v) w':=by
 unfold builtin;simp only [Sem.run_bind,h,Result.andThen,Sem.run_pure]
theorem aDr{P}(w dT sT ty elem){i}(b o dLen dCap a sLen sCap cs)(hu:P.underlying dT=some (.slice elem))(hi:P.info? elem=some i)(hn:cs.length=Nat.min sLen dLen*i.size)(hsrc:∀ j v,cs[j]? = some v->w.cell? (a.add j)=some v)(hc:∀ j,j<cs.length->(w.cell? ⟨b,o+j,none⟩).isSome=true)(hf:∀ j,j<cs.length->w.frozen? ⟨b,o+j,none⟩=false)(h1:∀ v∈cs,v.oneCell'=true):
  (Builtin.copy_ #[dT,sT] ty #[.slice (some ⟨b,o,none⟩) dLen dCap,.slice (some a) sLen sCap]).run P w=.ok (Go.goInt (Nat.min sLen dLen)) (w.setCells b o cs):=by
 have hl:=run_loadCells_list (P:=P) w a cs hsrc;have hst:=run_storeCells_cells (P:=P) b o cs 0 w (by simpa using hc) (by simpa using hf) h1;rw [hn] at hl;simp [Builtin.copy_,run_underlying hu,Builtin.lenOf,Builtin.firstCells,sizeOf,typeInfo,hi,hl,hst]
theorem JU(vs cs o)(h:o+vs.length<=cs.length):mS cs o vs=cs.take o++vs++cs.drop (o+vs.length):=by
 apply List.ext_getElem?;intro i;by_cases h1:i<o
 .rw [rK _ _ _ _ (.inl h1),bM,List.getElem?_append_left (by rw [List.length_take];omega),List.getElem?_take_of_lt h1]
 .by_cases h2:i<o+vs.length
  .obtain ⟨q,rfl⟩:∃ q,i=o+q:=⟨i - o,by omega⟩;rw [Q4 _ _ _ _ (by omega) h,bM,List.getElem?_append_right (by rw [List.length_take];omega),List.getElem?_append_left (by rw [List.length_take];omega)]
   congr 1
   rw [List.length_take];omega
  .rw [rK _ _ _ _ (.inr (by omega)),List.getElem?_append_right (by rw [List.length_append,List.length_take];omega),List.getElem?_drop]
   congr 1
   rw [List.length_append,List.length_take];omega
section
variable {P:Program}{W w:World}{S:List Own}{Φ:PW}
end
theorem a2x(b sz k c)(h:k<c):cT (some ⟨b,0,none⟩) sz k c=some ⟨b,k*sz,none⟩:=by
 unfold cT;rw [if_neg (by omega)];show some ((⟨b,0,none⟩:Addr).add (k*sz))=_;rw [addr_add,Nat.zero_add]
theorem aDs(b sz k c):∃ o,cT (some ⟨b,0,none⟩) sz k c=some ⟨b,o,none⟩:=by
 unfold cT;split
 .exact ⟨0,rfl⟩
 .refine ⟨k*sz,?_⟩;show some ((⟨b,0,none⟩:Addr).add (k*sz))=_;rw [addr_add,Nat.zero_add]
theorem II(b sz c):cT (some ⟨b,0,none⟩) sz 0 c=some ⟨b,0,none⟩:=by
 unfold cT;split
 .rfl
 .show some ((⟨b,0,none⟩:Addr).add (0*sz))=_;rw [addr_add,Nat.zero_mul]
section
variable {P:Program}{W w:World}{S:List Own}{Φ:PW}
end
theorem Q8{P ats ty cs args v w w'}(h:(Builtin.clear_ ats ty args).run P w=.ok v w'):Sem.run P (builtin Builtin.clear ats ty cs args) w=.ok (.value v) w':=by
 unfold builtin;simp only [Sem.run_bind,h,Result.andThen,Sem.run_pure]
theorem a9H{P}(w t e ty){i z}(ht:P.underlying t=some (.slice e))(hi:P.info? e=some i)(hz:i.zero=some z)(b o n c)(hn:0<n)(hc:∀ j,j<(Builtin.zeroCells z.cells n).toList.length->(w.cell? ⟨b,o+j,none⟩).isSome=true)(hf:∀ j,j<(Builtin.zeroCells z.cells n).toList.length->w.frozen? ⟨b,o+j,none⟩=false)(h1:∀ v∈(Builtin.zeroCells z.cells n).toList,v.oneCell'=true):
  (Builtin.clear_ #[t] ty #[.slice (some ⟨b,o,none⟩) n c]).run P w=.ok (.tuple #[]) (w.setCells b o (Builtin.zeroCells z.cells n).toList):=by
 have hst:=run_storeCells_cells (P:=P) b o (Builtin.zeroCells z.cells n).toList 0 w (by simpa using hc) (by simpa using hf) h1;rw [Nat.add_zero] at hst;obtain ⟨m,rfl⟩:∃ m,n=m+1:=⟨n - 1,by omega⟩;simp [Builtin.clear_,run_underlying ht,zeroValue,typeInfo,hi,hz,hst]
def aNq(P:Program)(t:TypeId):Bool:=match P.info? t with|some i=>(match i.zero with|some z=>z.cells.toList.all (λu=>Value.oneCell' u)|none=>false)|none=>false
theorem a1q(cs n):∀ v∈(Builtin.zeroCells cs n).toList,v∈cs.toList:=by
 intro v hv;unfold Builtin.zeroCells at hv;rw [Array.toList_map] at hv;obtain ⟨a,ha,rfl⟩:=List.mem_map.1 hv;have ha:a<n*cs.size:=by simpa using ha
 have h0:0<cs.size:=by
  rcases Nat.eq_zero_or_pos cs.size with h|h
  .rw [h,Nat.mul_zero] at ha;omega
  .exact h
 have hlt:a % cs.size<cs.size:=Nat.mod_lt _ h0;rw [getElem!_pos cs (a % cs.size) hlt];exact Array.getElem_mem_toList hlt
section
variable {P:Program}{W w:World}{S:List Own}{Φ:PW}
theorem Ctx.a4h[aB Φ]{p n cap cs t size}(c:Ctx W w (.buf p n cap cs t size :: S) Φ){k}(hk:k<=n):Ctx W w (.buf p k cap (cs.take (k*size)) t size :: S) Φ:=by
 have hown:=c.own _ List.mem_cons_self;have hmul:k*size<=n*size:=Nat.mul_le_mul_right _ hk;refine c.upd (k:=0) (o':=.buf p k cap (cs.take (k*size)) t size) rfl (kT.refl _ _) (λx hx=>.inl (by cases p<;>exact hx)) (Own.nodup _) ?_;obtain ⟨h1,h2⟩:=hown;refine ⟨by rw [List.length_take,h1];omega,?_⟩;rcases h2 with ⟨e,rfl⟩|⟨g,cap',cur,e,h3,hg,hnc,hcm,hcs,uL⟩
 .cases e;have:k=0:=by omega
  subst this;exact .inl ⟨rfl,by simp⟩
 .cases e;exact .inr ⟨g,cap,cur,rfl,h3,hg,by omega,hcm,hcs,by rw [<-uL,List.take_take,Nat.min_eq_left hmul]⟩
theorem Ctx.aPR[aB Φ]{p n cap cs t size bytes}(c:Ctx W w (.buf p n cap cs t size :: S) Φ){b}(hp:p=some ⟨b,0,none⟩){ts ty kb}(hb:aC9 P ts t size bytes=true)(hz:aNq P t=true)(hpos:0<size){k}(hk:k<=n):∃ w',Sem.run P (builtin Builtin.clear #[ts] ty kb #[.slice (cT p size k cap) (n - k) (cap - k)]) w=.ok (.value (.tuple #[])) w'/\Ctx W w' (.buf p k cap (cs.take (k*size)) t size :: S) Φ:=by
 obtain ⟨i,z,e1,e2,e3,e4,e5,e6⟩:=y5 hb;subst hp e4;have hz:z.cells.toList.all (λu=>Value.oneCell' u)=true:=by unfold aNq at hz;rw [e2] at hz;simp only [e3] at hz;exact hz
 obtain ⟨uK,hnc,hcm⟩:=c.sU 0 rfl;rcases Nat.eq_zero_or_pos (n - k) with h0|h0
 .obtain ⟨o,ho⟩:=aDs b i.size k cap;rw [h0,ho];exact ⟨w,Q8 (by simp [Builtin.clear_,run_underlying e1]),c.a4h hk⟩
 .rw [a2x b i.size k cap (by omega)];have hzl:(Builtin.zeroCells z.cells (n - k)).toList.length=(n - k)*i.size:=by rw [Array.length_toList,size_zeroCells,e5]
  have hsub:(n - k)*i.size=n*i.size - k*i.size:=Nat.sub_mul _ _ _;have hmul:k*i.size<=n*i.size:=Nat.mul_le_mul_right _ hk;have hn0:0<(n - k)*i.size:=Nat.mul_pos h0 hpos;obtain ⟨b',hb',_,hcell⟩:=c.nU 0 rfl (by omega);cases hb';have hat:∀ j,(hj:j<(Builtin.zeroCells z.cells (n - k)).toList.length)->w.cell? ⟨b,k*i.size+j,none⟩=some (cs[k*i.size+j]'(by omega))/\w.frozen? ⟨b,k*i.size+j,none⟩=false:=λj hj=>hcell _ _ (List.getElem?_eq_getElem _)
  refine ⟨_,Q8 (a9H w ts t ty e1 e2 e3 b (k*i.size) (n - k) (cap - k) h0 (λj hj=>by rw [(hat j hj).1];rfl) (λj hj=>(hat j hj).2) (λv hv=>List.all_eq_true.1 hz v (a1q _ _ v hv))),?_⟩;have c2:=(c.W5 0 rfl rfl (by omega) (by omega) rfl:Ctx W (w.setCells b (k*i.size) (Builtin.zeroCells z.cells (n - k)).toList) (.buf (some ⟨b,0,none⟩) n cap (mS cs (k*i.size) (Builtin.zeroCells z.cells (n - k)).toList) t i.size :: S) Φ)
  have c3:=c2.a4h hk;rw [JU _ _ _ (by omega),bM,List.take_append_of_le_length (by rw [List.length_take];omega),List.take_take,Nat.min_self] at c3;exact c3
end
end Go.Vc
end

section
namespace Go.Proofs.YtnlkemjhgdbfkaaGreatDoor
open Go.Vc
abbrev iY(f:vQ):Value:=.agg #[.string (bs f.now),.string (bs f.last)]
abbrev kS(p:Int × Int):Value:=.agg #[.int .i64 p.1,.int .i64 p.2]
abbrev a4i:vQ:=⟨[],[]⟩
theorem QT:GTy prog 252 3 322 (Value.int .i64) iY a4i:=.ofInt (by kernel_rfl) (by kernel_rfl) (λb x w=>by kernel_rfl) (λw=>by kernel_rfl)
theorem aBL:GTy prog 253 325 4 kS Value.bool false:=by
 refine .aHA (by kernel_rfl) ⟨_,underlying325⟩ (λb x w=>by kernel_rfl) (λx w=>?_) (λx y w=>?_) (λw=>by kernel_rfl)
 .have:Instr.sameBits 10000 (kS x) (kS x)=true:=by
   unfold Instr.sameBits;simp [Instr.sameBits]
  unfold Instr.keyThatStays;rw [if_pos this];rfl
 .have hs:prog.stoodInHeld 325=false:=by kernel_rfl
  obtain ⟨fs,ht⟩:∃ fs,prog.underlying 325=some (.struct fs):=⟨_,underlying325⟩;have hf:prog.fieldsOf 325=fs:=by simp [Program.fieldsOf,ht]
  have hr:D2 prog #[.int .i64 x.1,.int .i64 x.2] #[.int .i64 y.1,.int .i64 y.2] (prog.fieldsOf 325).toList=some (decide (x.1=y.1)&&(decide (x.2=y.2)&&true)):=by kernel_rfl
  have key:(Op.equalIn 10000 325 (kS x) (kS y)).run prog w=.ok (decide (x.1=y.1)&&(decide (x.2=y.2)&&true)) w:=by
   rw [show (10000:Nat)=9999+1 from rfl,run_equalIn_struct w 9999 325 _ _ (by rw [hf];exact ht) hs];exact LX hr
  have h2:Op.equal 325 (kS x) (kS y)=Op.equalIn 10000 325 (kS x) (kS y):=by delta Op.equal Op.maxDepth;exact Eq.refl _
  rw [h2,key];refine congrArg (λb=>Result.ok b w) ?_;rw [Bool.and_true,<-Bool.decide_and];exact decide_eq_decide.2 ⟨λh=>Prod.ext h.1 h.2,λh=>by rw [h];exact ⟨rfl,rfl⟩⟩
structure DkP where
 db:Nat
 fm:Nat
 A9:List (bV Int vQ)
 dI:Nat
 sm:Nat
 LM:List (bV (Int × Int) Bool)
 mA:Nat
 qp:Option Addr
 qc:Nat
 kp:Option Addr
 kc:Nat
abbrev sF(l:List (Int × Int)):List Value:=l.flatMap λp=>[.int .i64 p.1,.int .i64 p.2]
abbrev CK(q:DkP)(d:iH):List Value:=[.map (some q.fm),.slice q.qp d.queue.length q.qc,.map (some q.sm),.int .i64 d.lost,.bool d.down,.int .i64 d.fD,.slice q.kp d.keep.length q.kc]
def bQ(q:DkP)(d:iH):List Own:=[.blk q.db (CK q d) 256,.obj q.fm (cK (Value.int .i64) iY q.A9 q.dI),.obj q.sm (cK kS Value.bool q.LM q.mA),.buf q.qp d.queue.length q.qc (sF d.queue) 325 2]
structure rW(q:DkP)(d:iH):Prop where
 fok:GOk q.A9 q.dI
 sok:GOk q.LM q.mA
 a4j:∀ k,gT a4i q.A9 k=d.files k
 aDt:∀ p,gT false q.LM p=decide (p∈d.queue)
 nodup:d.queue.Nodup
 range:∀ p∈d.queue,(0<=p.1/\p.1<16)/\0<=p.2/\p.2<262145
 size:∀ k,(d.files k).now.length<=16777216/\(d.files k).last.length<=16777216
 lost:0<=d.lost/\d.lost<=9223372036854775807
 fD:0<=d.fD/\d.fD<=9223372036854775807
abbrev dkF(q:DkP)(d:iH):PW:=λM w=>Sl M w q.kp d.keep
theorem CL(l):(sF l).length=l.length*2:=by
 induction l with
 | nil=>rfl
 | cons x l ih =>
  show ((.int .i64 x.1 :: .int .i64 x.2 :: sF l)).length=_;rw [List.length_cons,List.length_cons,ih,List.length_cons];omega
theorem aBM{l i}(h:i<l.length):((sF l).drop (i*2)).take 2=[.int .i64 l[i].1,.int .i64 l[i].2]:=by
 induction l generalizing i with
 | nil=>cases h
 | cons x l ih =>
  cases i with
  | zero=>rfl
  | succ i =>
   have:=ih (i:=i) (by simpa using h);show ((.int .i64 x.1 :: .int .i64 x.2 :: sF l).drop ((i+1)*2)).take 2=_;rw [show (i+1)*2=i*2+2 by omega,List.drop_succ_cons,List.drop_succ_cons,this];rfl
theorem a62:∀ (n:Nat) (l:List Nat),l.Nodup->(∀ x∈l,x<n)->l.length<=n
 | 0,l,_,h=>by
  cases l with
  | nil=>exact Nat.le_refl _
  | cons x l=>have:=h x (by simp);omega
 | n+1,l,hd,h=>by
  have h1:=a62 n (l.filter (· != n)) (hd.filter _) λx hx=>by
   have h2:=List.mem_filter.1 hx;have h3:=h x h2.1;have h4:x≠n:=by simpa using h2.2
   omega
  have h2:l.length<=(l.filter (· != n)).length+1:=by
   clear h h1
   induction l with
   | nil=>simp
   | cons x l ih =>
    obtain ⟨hx,hl⟩:=List.nodup_cons.1 hd;by_cases e:x=n
    .have:l.filter (· != n)=l:=List.filter_eq_self.2 λy hy=>by
      have:y≠n:=λe2=>hx (by rw [e,<-e2];exact hy);simpa using this
     rw [List.filter_cons_of_neg (by simp [e]),this,List.length_cons];exact Nat.le_refl _
    .rw [List.filter_cons_of_pos (by simpa using e),List.length_cons,List.length_cons];have:=ih hl;omega
  omega
theorem aDu{l:List (Int × Int)}(hd:l.Nodup)(h:∀ p∈l,(0<=p.1/\p.1<16)/\0<=p.2/\p.2<262145):l.length<=4194320:=by
 have h1:=a62 4194320 (l.map λp=>p.1.toNat*262145+p.2.toNat) (by
  refine List.nodup_iff_pairwise_ne.2 (List.pairwise_map.2 ?_);refine (List.nodup_iff_pairwise_ne.1 hd).imp_of_mem fun {a b} ha hb hab e=>hab ?_;have h1:=h a ha;have h2:=h b hb;exact Prod.ext (by omega) (by omega)) (λx hx=>by
  obtain ⟨p,hp,rfl⟩:=List.mem_map.1 hx;have:=h p hp;omega)
 rw [List.length_map] at h1;exact h1
theorem rW.aLu{q d}(h:rW q d):d.queue.length<=4194320:=aDu h.nodup h.range
section
variable {W w:World}{S G:List Own}{Φ:PW}
theorem oU{q d}(cx:Ctx W w (bQ q d++S) Φ){i v}(h:(CK q d)[i]? = some v):w.cell? ⟨q.db,i,none⟩=some v:=cx.get 0 rfl h
theorem a63{q d}(cx:Ctx W w (bQ q d++S) Φ):w.heap[q.fm]? = some (cK (Value.int .i64) iY q.A9 q.dI):=cx.own (.obj q.fm (cK (Value.int .i64) iY q.A9 q.dI)) (by simp [bQ])
theorem aVY{q d}(cx:Ctx W w (bQ q d++S) Φ):w.heap[q.sm]? = some (cK kS Value.bool q.LM q.mA):=cx.own (.obj q.sm (cK kS Value.bool q.LM q.mA)) (by simp [bQ])
theorem aHC[aB Φ](cx:Ctx W w S Φ){K}(hk:∀ q w',rW q nN->Ctx W w' (bQ q nN++S) (λM w=>Φ M w/\dkF q nN M w)->K (.returned (.pointer (some ⟨q.db,0,none⟩))) w'):aG F.XP #[] w K:=by
 refine iO (a1b (J:=K∘.returned) cx λk0 k1 k2 w G cx=>?_);refine hk ⟨k2,k0,[],0,k1,[],0,none,0,none,0⟩ w ⟨⟨.nil,.nil,by simp⟩,⟨.nil,.nil,by simp⟩,λk=>rfl,λp=>rfl,List.nodup_nil,λp hp=>(by cases hp),λk=>⟨Nat.zero_le _,Nat.zero_le _⟩,⟨Int.le_refl 0,by decide⟩,⟨Int.le_refl 0,by decide⟩⟩ ?_;have c1:Ctx W w (.buf none 0 0 [] 325 2 :: (.blk k2 (CK ⟨k2,k0,[],0,k1,[],0,none,0,none,0⟩ nN) 256 :: .obj k1 (.map #[] 0) :: .obj k0 (.map #[] 0) :: S)) (λM w=>Φ M w/\Sl M w none ([]:List Int)):=(Ctx.left (S:=.blk k2 (CK ⟨k2,k0,[],0,k1,[],0,none,0,none,0⟩ nN) 256 :: .obj k1 (.map #[] 0) :: .obj k0 (.map #[] 0) :: S) cx).weak (λM w h=>⟨h,Sl.nil⟩) |>.Q3 325 2
 refine c1.perm ?_;show (Own.buf none 0 0 [] 325 2 :: .blk k2 _ 256 :: .obj k1 (.map #[] 0) :: .obj k0 (.map #[] 0) :: S).Perm (.blk k2 _ 256 :: .obj k0 (.map #[] 0) :: .obj k1 (.map #[] 0) :: .buf none 0 0 [] 325 2 :: S);refine (List.Perm.swap _ _ _).trans (List.Perm.cons _ ?_);refine (List.Perm.swap _ _ _).trans ?_;refine (List.Perm.cons _ (List.Perm.swap _ _ _)).trans ?_;exact (List.Perm.swap _ _ _)
theorem a4k[aB Φ]{q d f}(cx:Ctx W w (bQ q d++S) Φ){K}(hk:∀ w',Ctx W w' (bQ q d++S) Φ->K (.returned (.int .i64 (sD d f))) w'):aG F.pI #[.pointer (some ⟨q.db,0,none⟩),.int .i64 f] w K:=by
 refine iO (MS q.db 0 f (J:=K∘.returned) cx λw G cx=>⟨d.down,oU cx.left rfl,Br.intro (λh=>λw G cx=>?_) (λh=>λw G cx=>Br.intro (λh2=>λw G cx=>?_) (λh2=>λw G cx=>?_))⟩)
 .have e:sD d f=9:=by unfold sD;rw [if_pos h]
  rw [<-e];exact hk w cx.left
 .have e:sD d f=1:=by unfold sD;rw [if_neg (by rw [h];simp),if_pos (by simpa using h2)]
  rw [<-e];exact hk w cx.left
 .have e:sD d f=0:=by unfold sD;rw [if_neg (by rw [h];simp),if_neg (by simpa using h2)]
  rw [<-e];exact hk w cx.left
theorem a65[aB Φ]{q d}(hq:rW q d)(cx:Ctx W w (bQ q d++S) Φ){K}(hk:∀ w',rW q (fZ d)->Ctx W w' (bQ q (fZ d)++S) Φ->K (.returned (.bool (CF d))) w'):aG F.rI #[.pointer (some ⟨q.db,0,none⟩)] w K:=by
 have ha:=hq.fD;refine iO (KD q.db 0 (J:=K∘.returned) cx λw G cx=>⟨d.down,oU cx.left rfl,d.fD,λ_=>oU cx.left rfl,Br.intro (λh=>λw G cx=>?_) (λh=>λw G cx=>⟨d.fD,oU cx.left rfl,by unfold bE;omega,λw G cx=>⟨cx.can 0 rfl (by show 0+5+1<=7;omega),λw' hw'=>?_⟩⟩)⟩)
 .have h:d.down=true\/d.fD=0:=by simpa using h
  have e:fZ d=d:=by unfold fZ;rw [if_pos h]
  have e2:CF d=false:=by
   unfold CF;rcases h with h|h
   .rw [h];rfl
   .rw [h];simp
  rw [e] at hk;rw [<-e2];exact hk w hq cx.left
 .have h:¬ (d.down=true\/d.fD=0):=by simpa using h
  have e:fZ d={ d with fD:=d.fD - 1 }:=by unfold fZ;rw [if_neg h]
  have hdn:d.down=false:=by
   cases hd:d.down with
   | true=>exact absurd (.inl hd) h
   | false=>rfl
  rw [e] at hk;have jE:=cx.put 0 hw' rfl;refine ⟨bQ q { d with fD:=d.fD - 1 }++S,Φ,aR,jE,λw G cx=>⟨d.fD - 1,oU cx.left rfl,λw G cx=>?_⟩⟩;have e2:decide (d.fD - 1=0)=CF d:=by
   unfold CF;rw [hdn];exact decide_eq_decide.2 ⟨λh=>by omega,λh=>by omega⟩
  rw [e2];exact hk w ⟨hq.fok,hq.sok,hq.a4j,hq.aDt,hq.nodup,hq.range,hq.size,hq.lost,⟨by show 0<=d.fD - 1;omega,by show d.fD - 1<=_;omega⟩⟩ cx.left
theorem E4(l:Bs)(a b):(bs l).extract a b=bs ((l.drop a).take (b - a)):=by
 apply ByteArray.ext;apply Array.toList_inj.1;rw [Go.Lib.extract_data];rfl
theorem TB[aB Φ]{q d}(hq:rW q d){f a n}(cx:Ctx W w (bQ q d++S) Φ){K}(hk:∀ w',Ctx W w' (bQ q d++S) Φ->K (.returned (.tuple #[.string (bs (cZ d f a n).1),.int .i64 (cZ d f a n).2])) w'):aG F.nE #[.pointer (some ⟨q.db,0,none⟩),.int .i64 f,.int .i64 a,.int .i64 n] w K:=by
 refine iO (KC q.db 0 f a n (J:=K∘.returned) cx λw G cx=>a4k (S:=S++G) (cx.re (bM _ _ _)) λw cx=>⟨_,rfl,bQ q d++S,Φ,aR,cx.re (bM _ _ _).symm,Br.intro (λh=>λw G cx=>?_) (λh=>λw G cx=>Br.intro (λh2=>λw G cx=>?_) (λh2=>λw G cx=>?_))⟩)
 .have e:cZ d f a n=([],sD d f):=by unfold cZ;rw [if_pos (fV h)]
  rw [e] at hk;exact hk w cx.left
 .have e:cZ d f a n=([],1):=by unfold cZ;rw [if_neg (eV h),if_pos (by simpa using h2)]
  rw [e] at hk;exact hk w cx.left
 .have h2:¬ (a<0\/n<0):=by simpa using h2
  have e:cZ d f a n=(((d.files f).now.drop a.toNat).take n.toNat,0):=by unfold cZ;rw [if_neg (eV h),if_neg h2]
  rw [e] at hk;have hfg:=hq.a4j f;refine ⟨some q.fm,oU cx.left rfl,λw G cx=>⟨bs (d.files f).now,bs (d.files f).last,λw2 EP=>?_,?_,?_,λw G cx=>?_⟩⟩
  .have hr:=uU (P:=prog) QT (w:=w2) (by rw [EP];exact a63 cx.left) f;rw [hfg] at hr;exact hr
  .rw [bK];omega
  .rw [E4,bK];omega
  .have key:(((bs (d.files f).now).extract (min a ((bs (d.files f).now).size:Int)).toNat (bs (d.files f).now).size).extract 0 (min n (((bs (d.files f).now).extract (min a ((bs (d.files f).now).size:Int)).toNat (bs (d.files f).now).size).size:Int)).toNat)=bs (((d.files f).now.drop a.toNat).take n.toNat):=by
    rw [E4,E4,bK,bK,List.drop_zero,Nat.sub_zero]
    congr 1
    have e1:(((d.files f).now.drop (min a ((d.files f).now.length:Int)).toNat).take ((d.files f).now.length - (min a ((d.files f).now.length:Int)).toNat))=(d.files f).now.drop a.toNat:=by
     by_cases ha:a<=((d.files f).now.length:Int)
     .rw [show (min a ((d.files f).now.length:Int)).toNat=a.toNat by omega,List.take_of_length_le (by rw [List.length_drop];exact Nat.le_refl _)]
     .rw [show (min a ((d.files f).now.length:Int)).toNat=(d.files f).now.length by omega,List.drop_length,List.take_nil,List.drop_eq_nil_of_le (by omega)]
    rw [e1];by_cases hn:n<=(((d.files f).now.drop a.toNat).length:Int)
    .rw [show (min n (((d.files f).now.drop a.toNat).length:Int)).toNat=n.toNat by omega]
    .rw [show (min n (((d.files f).now.drop a.toNat).length:Int)).toNat=((d.files f).now.drop a.toNat).length by omega,List.take_length,List.take_of_length_le (by omega)]
   rw [key];exact hk w cx.left
end
end Go.Proofs.YtnlkemjhgdbfkaaGreatDoor
end

