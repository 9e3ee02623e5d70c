/-
 A journal in memory: Cut,Len,Get,All: walked.
-/
import Derived.Test.YtnlkemjhgdbfkaaGreatDoorCu9
import Derived.Test.YtnlkemjhgdbfkaaGreatDoorCu6
import Derived.Test.YtnlkemjhgdbfkaaGreatDoorCu8
import Derived.ArgAppend
import Derived.Laws.Entries
import Derived.Test.YtnlkemjhgdbfkaaGreatDoorCu7
open Go.Proofs.Tryz
set_option linter.unusedVariables false
set_option linter.unusedSimpArgs false
section
namespace Go.Proofs.YtnlkemjhgdbfkaaGreatDoor
open Go.Vc
section
variable {W w:World}{S G:List Own}{Φ:PW}
theorem aLB[aB Φ]{q d}(hq:rW q d)(hkp:LN Φ q d)(hoff:∀ M w,Φ M w->uW M w)(hT:∀ M w,Φ M w->yB M w){x j}(hsb:SB x.p x.cap j.list x.o){n}(hf:(aM j.list).length<=1000000000)(cx:Ctx W w (fG x q j++(bQ q d++S)) Φ){K}(hk:∀ u p c o w',SB p c (j4 d j n).2.1.list o->rW (q.mv u) (j4 d j n).1->Ctx W w' (fG (x.mv p c o) q (j4 d j n).2.1++(bQ (q.mv u) (j4 d j n).1++S)) Φ->K (.returned (.int .i64 (j4 d j n).2.2)) w'):
  aG F.oM #[.pointer (some ⟨x.jb,0,none⟩),.int .i64 n] w K:=by
 have hsame:∀ {e:Int} {w':World} {G:List Own},j4 d j n=(d,j,e)->Ctx W w' ((fG x q j++(bQ q d++S))++G) Φ->K (.returned (.int .i64 e)) w':=by
  intro e w' G he cx;rw [he] at hk;exact hk q.un x.p x.cap x.o w' hsb hq (Ctx.left cx)
 have hl:=CG (l:=j.list) λx hx=>Nat.le_trans (nP hx) (by omega);refine iO (AY x.jb 0 n (J:=K∘.returned) cx λw G cx=>⟨_,cx.get 1 rfl rfl,Br.intro (λh=>λw G cx=>?_) (λh=>λw G cx=>⟨_,_,_,λ_=>cx.get 1 rfl rfl,Br.intro (λh2=>λw G cx=>?_) (λh2=>λw G cx=>⟨_,_,_,cx.get 1 rfl rfl,Br.intro (λh3=>λw G cx=>?_) (λh3=>λw G cx=>⟨_,_,_,cx.get 1 rfl rfl,?_⟩)⟩)⟩)⟩)
 .exact hsame (by unfold j4;rw [if_pos h]) cx
 all_goals have h:¬ j.broken=true:=by rw [h];simp
 .have h2:n<0\/(j.list.length:Int)<n:=by simpa using h2
  exact hsame (by unfold j4;rw [if_neg h,if_pos h2]) cx
 all_goals have h2:¬ (n<0\/(j.list.length:Int)<n):=by simpa using h2
 .exact hsame (by unfold j4;rw [if_neg h,if_neg h2,if_pos (fV h3)]) cx
 have h3:=eV h3;obtain ⟨k,rfl⟩:∃ k:Nat,n=k:=⟨n.toNat,by omega⟩;have hk2:k<j.list.length:=by omega
 have hcut:j4 d j (k:Int)=IC j (j.list.take k) (aM (j.list.take k)).length (sM d j (aM (j.list.take k)).length k):=by
  unfold j4;rw [if_neg h,if_neg h2,if_neg h3,Int.toNat_natCast]
 rw [hcut] at hk;clear hcut hsame;obtain ⟨g,o2,hp,hcap,_,_⟩:=hsb.cutAt (k:=k) (S:=.blk x.jb (joB x q j) 335 :: fN x.cb q j.cell :: ((bQ q d++S)++G)) cx hk2;have hle:(aM (j.list.take k)).length<=(aM j.list).length:=by
  have e:aM j.list=aM (j.list.take k)++aM (j.list.drop k):=by rw [<-mD,List.take_append_drop]
  rw [e,List.length_append];omega
 have hsz:∀ y∈j.list,y.size<=maxLen:=λy hy=>Nat.le_trans (nP hy) (by unfold maxLen;omega);have hkl:(j.list.take k).length=k:=by rw [List.length_take];omega
 refine ⟨⟨by omega,by omega⟩,λw G cx=>?_⟩;have c2:Ctx W w ([x.o]++(.blk x.jb (joB x q j) 335 :: fN x.cb q j.cell :: ((bQ q d++S)++G))) Φ:=cx;have hform:=a4m (Φ:=Go.Vc.iT W [x.o] Φ) (p:=x.p) (cap:=x.cap) (l:=j.list.take k) (λM w h=>hT M w h.less) (λM w h=>aLz (hsb.sl hsz h) k) (by omega);rw [hkl] at hform;rw [show cT x.p 1 0 x.cap=x.p by rw [hp];exact II _ _ _,Int.toNat_natCast];refine hform.use c2.aside λw c3=>⟨_,rfl,fG x q j++(bQ q d++S),Φ,aR,c3.zU,λw G cx=>?_⟩
 have hnk:=JV d j (aM (j.list.take k)).length k;rw [bK];refine a7k (S:=S++G) hq hkp hoff hT (by omega) (by omega) (by rw [<-bM (bQ _ _),<-bM];exact cx) λu w qZ cx=>?_;have hnl:(sM d j (aM (j.list.take k)).length k).2.1.list=j.list:=rfl;generalize sM d j (aM (j.list.take k)).length k=r at hk qZ cx hnk hnl;obtain ⟨d2,j2,e2⟩:=r;simp only at hk qZ cx hnk hnl;refine ⟨e2,rfl,fG x q j2++(bQ (q.mv u) d2++S),Φ,aR,by rw [<-bM (bQ _ _),<-bM] at cx;exact cx,Br.intro (λh5=>λw G cx=>?_) (λh5=>λw G cx=>⟨x.p,j2.list.length,x.cap,cx.get 1 rfl rfl,⟨by omega,by omega,by omega⟩,λw G cx=>⟨cx.can 1 rfl (by show 3+1<=6;omega),λw' hw'=>?_⟩⟩)⟩
 .have e:IC j (j.list.take k) (aM (j.list.take k)).length (d2,j2,e2)=(d2,j2,e2):=by unfold IC;rw [if_pos (fV h5)]
  rw [e] at hk;exact hk u x.p x.cap x.o w (by rw [hnl];exact hsb) qZ (Ctx.left cx)
 have e:IC j (j.list.take k) (aM (j.list.take k)).length (d2,j2,e2)=(d2,{ j2 with list:=j.list.take k,bytes:=(aM (j.list.take k)).length },0):=by unfold IC;rw [if_neg (eV h5)]
 rw [e] at hk;rw [show cT x.p 1 0 k=x.p by rw [hp];exact II _ _ _] at hw';refine ⟨[x.o,.blk x.jb ((joB x q j2).set 3 (.slice x.p k k)) 335,fN x.cb q j2.cell]++(bQ (q.mv u) d2++S),Φ,aR,cx.put 1 hw' rfl,λw G cx=>⟨cx.can 1 rfl (by show 4+1<=6;omega),λw' hw'=>?_⟩⟩;refine ⟨[x.o,.blk x.jb (((joB x q j2).set 3 (.slice x.p k k)).set 4 (.int .i64 ((aM (j.list.take k)).length:Int))) 335,fN x.cb q j2.cell]++(bQ (q.mv u) d2++S),Φ,aR,cx.put 1 hw' rfl,λw G cx=>?_⟩
 have cx:=Ctx.left cx;obtain ⟨g3,o3,hp3,_,b1n,c4⟩:=hsb.cutAt (k:=k) (S:=.blk x.jb (((joB x q j2).set 3 (.slice x.p k k)).set 4 (.int .i64 ((aM (j.list.take k)).length:Int))) 335 :: fN x.cb q j2.cell :: (bQ (q.mv u) d2++S)) cx hk2;refine hk u x.p k o3 w b1n qZ ?_;have e3:joB (x.mv x.p k o3) q { j2 with list:=j.list.take k,bytes:=(aM (j.list.take k)).length }=((joB x q j2).set 3 (.slice x.p k k)).set 4 (.int .i64 ((aM (j.list.take k)).length:Int)):=by
  show [_,_,_,Value.slice x.p (j.list.take k).length k,_,_]=_;rw [hkl];rfl
 show Ctx W w (o3 :: .blk x.jb (joB (x.mv x.p k o3) q { j2 with list:=j.list.take k,bytes:=(aM (j.list.take k)).length }) 335 :: _) Φ;rw [e3];exact c4
theorem aLD[aB Φ]{q x j}(cx:Ctx W w (fG x q j++S) Φ){K}(hk:∀ w',Ctx W w' (fG x q j++S) Φ->K (.returned (.int .i64 (j.list.length:Int))) w'):
  aG F.oO #[.pointer (some ⟨x.jb,0,none⟩)] w K:=by
 refine iO (AZ x.jb 0 (J:=K∘.returned) cx λw G cx=>⟨_,_,_,cx.get 1 rfl rfl,λw G cx=>hk w (Ctx.left cx)⟩)
end
theorem aDF{P}(w dT sT ty elem){i}(hu:P.underlying dT=some (.slice elem))(hi:P.info? elem=some i)(b q c):
  (Builtin.copy_ #[dT,sT] ty #[.slice (some ⟨b,0,none⟩) 0 0,.slice q 0 c]).run P w=.ok (Go.goInt 0) w:=by
 simp [Builtin.copy_,run_underlying hu,Builtin.lenOf,Builtin.firstCells,sizeOf,typeInfo,hi];cases q<;>simp [loadCells,loadCellsFrom,storeCells,Result.andThen]
section
variable {W w:World}{S G:List Own}{Φ:PW}
theorem aDG[aB Φ]{p cap l o b}(hsb:SB p cap l o)(cx:Ctx W w (.blk b (List.replicate l.length (Value.string (ByteArray.mk #[]))) 9 :: o :: S) Φ):
  ∃ w',Sem.run prog (builtin Builtin.copy #[40,40] 3 #[false,false] #[.slice (some ⟨b,0,none⟩) l.length l.length,.slice p l.length cap]) w=.ok (.value (.int .i64 l.length)) w'/\Ctx W w' (.blk b (cW l) 9 :: o :: S) Φ:=by
 obtain ⟨i,z,e1,e2,e3,e4,e5,e6⟩:=y5 (P:=prog) (ts:=40) (t:=9) (size:=1) (bytes:=16) (by kernel_rfl);by_cases h:l=[]
 .subst h;exact ⟨w,a4g (aDF w _ _ _ _ e1 e2 b p cap),cx⟩
 .have hpos:=List.length_pos_iff.2 h;have x9:=cx.swap;obtain ⟨g,hg,_⟩:=hsb.get x9 hpos;subst hg;have hsrc:∀ j v,(cW l)[j]? = some v->w.cell? ((⟨g,0,none⟩:Addr).add j)=some v:=λj v hj=>by
   have hjl:j<l.length:=by have:=(List.getElem?_eq_some_iff.1 hj).1;rw [fM] at this;exact this
   obtain ⟨g2,hg2,hc⟩:=hsb.get x9 hjl;cases hg2;rw [List.getElem?_map,List.getElem?_eq_getElem hjl] at hj;rw [addr_add,Nat.zero_add,hc];exact hj
  have hcan:aH w b 0 l.length:=cx.can 0 rfl (by rw [List.length_replicate];omega);have hr:=aDr (P:=prog) w 40 40 3 9 b 0 l.length l.length ⟨g,0,none⟩ l.length cap (cW l) e1 e2 (by rw [e4,fM,Nat.mul_one];exact (Nat.min_self _).symm) hsrc (λj hj=>(hcan j (by rw [fM] at hj;exact hj)).1) (λj hj=>(hcan j (by rw [fM] at hj;exact hj)).2) (λv hv=>by
   obtain ⟨y,_,rfl⟩:=List.mem_map.1 hv;rfl)
  rw [show Nat.min l.length l.length=l.length from Nat.min_self _] at hr;refine ⟨_,a4g hr,?_⟩;have c3:=cx.FR 0 rfl (b:=b) (i:=0) (vs:=cW l) rfl;rw [JU _ _ _ (by rw [fM,List.length_replicate];omega),List.take_zero,List.nil_append,fM,Nat.zero_add,List.drop_eq_nil_of_le (by rw [List.length_replicate];omega),List.append_nil] at c3;exact c3
theorem aLE[aB Φ]{q x j}(hsb:SB x.p x.cap j.list x.o)(hl:j.list.length<=1000000000)(cx:Ctx W w (fG x q j++S) Φ){K}(hk:∀ b w',Ctx W w' (.blk b (cW j.list) 9 :: (fG x q j++S)) Φ->K (.returned (.slice (some ⟨b,0,none⟩) j.list.length j.list.length)) w'):
  aG F.oL #[.pointer (some ⟨x.jb,0,none⟩)] w K:=by
 refine iO (AX x.jb 0 (J:=K∘.returned) cx λw G cx=>⟨_,_,_,cx.get 1 rfl rfl,⟨by omega,by omega,by omega,by omega⟩,λb w G cx=>⟨_,_,_,cx.get 2 rfl rfl,λw G cx=>?_⟩⟩);rw [Int.toNat_natCast] at cx ⊢;obtain ⟨w',hr,c2⟩:=aDG (S:=.blk x.jb (joB x q j) 335 :: fN x.cb q j.cell :: (S++G)) hsb cx;exact ⟨_,w',hr,.blk b (cW j.list) 9 :: (fG x q j++S),Φ,aR,c2,λw G cx=>hk b w (Ctx.left cx)⟩
def aBR(base:Int):Nat->iH->iH × Option sE × Int
 | 0,d=>(d,ID d base)
 | k+1,d=>if (bR d (if k=0 then base+1 else base)).2≠0 then ((bR d (if k=0 then base+1 else base)).1,none,(bR d (if k=0 then base+1 else base)).2) else aBR base k (bR d (if k=0 then base+1 else base)).1
theorem a9W{d base}(h:¬ (base<0\/14<base)):rP d base=aBR base 2 d:=by
 unfold rP;rw [if_neg h];rfl
theorem NN{d f e}(h:uS d f=(none,e)):e≠0:=by
 unfold uS at h
 repeat' split at h
 all_goals first
  | (cases h;assumption)
  | (cases h;decide)
  | cases h
theorem a7l{d q}(hq:rW q d){f e c}(h:uS d f=(some c,e)):c.value.length<=16777216/\e=0:=by
 unfold uS at h
 repeat' split at h
 all_goals first
  | (cases h;exact ⟨Nat.zero_le _,rfl⟩)
  | (cases h;exact ⟨ZR hq _ _ _,rfl⟩)
  | cases h
theorem aDH[aB Φ]{q d}(hq:rW q d)(hkp:LN Φ q d)(hoff:∀ M w,Φ M w->uW M w)(hN:∀ M w,Φ M w->wU M w){base}(cx:Ctx W w (bQ q d++S) Φ){K}(hn:∀ u d' e w',rP d base=(d',none,e)->rW (q.mv u) d'->d'.keep=d.keep->Ctx W w' (bQ (q.mv u) d'++S) Φ->K (.returned (.tuple #[.pointer none,.int .i64 e])) w')(hs:∀ u x d' j w',rP d base=(d',some j,0)->SB x.p x.cap j.list x.o->rW (q.mv u) d'->d'.keep=d.keep->Ctx W w' (fG x q j++(bQ (q.mv u) d'++S)) Φ->K (.returned (.tuple #[.pointer (some ⟨x.jb,0,none⟩),.int .i64 0])) w'):
  aG F.DE #[.pointer (some ⟨q.db,0,none⟩),.int .i64 base] w K:=by
 refine iO (PI q.db 0 base (J:=K∘.returned) cx λw G cx=>Br.intro (λh=>λw G cx=>?_) (λh=>?_))
 .have h:base<0\/14<base:=by simpa using h
  exact hn q.un d 1 w (by unfold rP;rw [if_pos h]) hq rfl (Ctx.left cx)
 have h:¬ (base<0\/14<base):=by simpa using h
 have eF:=a9W (d:=d) h;refine ⟨by unfold bE;omega,λkb=>dS (λn R' aX k=>∃ u d1,n=((2 - k:Nat):Int)/\k<=2/\R'=.blk kb [.int .i64 base,.int .i64 (base+1)] 3 :: (bQ (q.mv u) d1++S)/\aX=Φ/\rW (q.mv u) d1/\d1.keep=d.keep/\rP d base=aBR base k d1) ⟨⟨_,Φ,2,aR,λw G cx=>cx,q.un,d,rfl,Nat.le_refl _,rfl,rfl,hq,rfl,eF⟩,?_⟩⟩;clear cx;rintro n R1 Φ k st ⟨u,d1,rfl,hk2,rfl,rfl,hq1,hkeep,eF⟩;refine Br.intro (λhlt=>⟨⟨by omega,fV hlt⟩,λw G cx=>?_⟩) (λhge=>⟨by unfold bE;omega,λw G cx=>?_⟩)
 .have hlt:=fV hlt;obtain ⟨k,rfl⟩:∃ m,k=m+1:=⟨k - 1,by omega⟩;have IF:w.cell? ⟨kb,0+((2 - (k+1):Nat):Int).toNat,none⟩=some (.int .i64 (if k=0 then base+1 else base)):=by
   rw [Int.toNat_natCast,Nat.zero_add];have hk:k=0\/k=1:=by omega
   rcases hk with rfl|rfl
   .exact cx.get 0 rfl rfl
   .exact cx.get 0 rfl rfl
  refine ⟨_,IF,λw G cx=>?_⟩;have eF:rP d base=if (bR d1 (if k=0 then base+1 else base)).2≠0 then ((bR d1 (if k=0 then base+1 else base)).1,none,(bR d1 (if k=0 then base+1 else base)).2) else aBR base k (bR d1 (if k=0 then base+1 else base)).1:=eF
  have hsk:=o8 d1 (if k=0 then base+1 else base);refine CN (q:=q.mv u) (S:=.blk kb [.int .i64 base,.int .i64 (base+1)] 3 :: (S++G)) hq1 (hkp.of hkeep u) (NL cx) λu w qZ cx=>?_;generalize bR d1 (if k=0 then base+1 else base)=r at eF qZ cx hsk;obtain ⟨d2,e2⟩:=r;simp only at eF qZ cx hsk;refine ⟨e2,rfl,.blk kb [.int .i64 base,.int .i64 (base+1)] 3 :: (bQ (q.mv u) d2++S),Φ,aR,E6 cx,Br.intro (λh4=>λw G cx=>?_) (λh4=>?_)⟩
  .rw [if_pos (fV h4)] at eF;exact hn u d2 e2 w eF qZ (hsk.trans hkeep) (Ctx.left (Ctx.drop1 cx))
  .rw [if_neg (eV h4)] at eF;exact ⟨by unfold bE;omega,_,Φ,k,aR,λw G cx=>cx,⟨u,d2,by omega,by omega,rfl,rfl,qZ,hsk.trans hkeep,eF⟩,Nat.lt_succ_self _⟩
 .have hge:=eV hge;have hk0:k=0:=by omega
  subst hk0;have eF:rP d base=(d1,ID d1 base):=eF;have cx:Ctx W w (bQ (q.mv u) d1++(S++G)) Φ:=by
   have this:Ctx W w ((bQ (q.mv u) d1++S)++G) Φ:=cx.drop1;rw [bM] at this;exact this
  unfold ID at eF;refine a2D (q:=q.mv u) hq1 hoff cx (λe w ho cx=>?_) (λc cb w ho cx=>?_)
  .rw [ho] at eF;refine ⟨none,e,rfl,bQ (q.mv u) d1++S,Φ,aR,by rw [bM];exact cx,Br.intro (λh4=>λw G cx=>?_) (λh4=>absurd (Decidable.not_not.1 (eV h4)) (NN ho))⟩;exact hn u d1 e w eF hq1 hkeep (Ctx.left cx)
  .rw [ho] at eF;have hcv:=(a7l hq1 ho).1;simp only at eF;unfold a4e at eF;refine ⟨some ⟨cb,0,none⟩,0,rfl,fN cb q c :: (bQ (q.mv u) d1++S),Φ,aR,re4 cx,Br.intro (λh4=>absurd rfl (fV h4)) (λh4=>λw G cx=>?_)⟩;refine a7j (S:=(bQ (q.mv u) d1++S)++G) hN (by omega) cx λw cx=>?_;generalize qM c=r at eF;obtain ⟨b,m,ok⟩:=r;simp only at eF;refine ⟨b,m,ok,rfl,fN cb q c :: (bQ (q.mv u) d1++S),Φ,aR,cx,Br.intro (λh5=>λw G cx=>?_) (λh5=>λw G cx=>?_)⟩
   .rw [if_pos (by simpa using h5)] at eF;exact hn u d1 2 w eF hq1 hkeep (Ctx.left (Ctx.drop1 cx))
   rw [if_neg (by simpa using h5)] at eF;have hrl:=ZR hq1 base 0 b;refine TB (q:=q.mv u) (S:=fN cb q c :: (S++G)) hq1 (NL cx) λw cx=>?_;generalize cZ d1 base 0 b=r at eF hrl;obtain ⟨s,e⟩:=r;simp only at eF hrl;refine ⟨bs s,e,rfl,fN cb q c :: (bQ (q.mv u) d1++S),Φ,aR,E6 cx,Br.intro (λh6=>λw G cx=>?_) (λh6=>λw G cx=>?_)⟩
   .rw [if_pos (fV h6)] at eF;exact hn u d1 e w eF hq1 hkeep (Ctx.left (Ctx.drop1 cx))
   rw [if_neg (eV h6)] at eF;refine aHV (S:=(fN cb q c :: (bQ (q.mv u) d1++S))++G) hN hrl cx (λp k cp w hr cx=>?_) (λp cap l o w hr hsb cx=>?_)
   .rw [hr] at eF;refine ⟨p,k,cp,false,rfl,fN cb q c :: (bQ (q.mv u) d1++S),Φ,aR,cx,λw G cx=>Br.intro (λ_=>λw G cx=>?_) (λh7=>by simp at h7)⟩;exact hn u d1 2 w eF hq1 hkeep (Ctx.left (Ctx.drop1 cx))
   .rw [hr] at eF;simp only at eF;refine ⟨p,_,cap,true,rfl,o :: fN cb q c :: (bQ (q.mv u) d1++S),Φ,aR,cx,λw G cx=>Br.intro (λh7=>λw G cx=>?_) (λh7=>λjb w G cx=>?_)⟩
    .have h7:(s.length:Int)≠b:=by rw [bK] at h7;simpa using h7
     rw [if_pos h7] at eF;exact hn u d1 2 w eF hq1 hkeep (Ctx.left (Ctx.drop1 (Ctx.drop1 cx)))
    .have h7:(s.length:Int)=b:=by rw [bK] at h7;simpa using h7
     rw [if_neg (λh=>h h7)] at eF;have hb:b=((b.toNat:Nat):Int):=by omega
     refine hs u ⟨jb,cb,p,cap,o⟩ d1 _ w eF hsb hq1 hkeep ?_;have cx:Ctx W w ([Own.blk jb [.pointer (some ⟨q.db,0,none⟩),.int .i64 base,.pointer (some ⟨cb,0,none⟩),.slice p l.length cap,.int .i64 b,.bool false] 335,o]++(fN cb q c :: (bQ (q.mv u) d1++S))) Φ:=Ctx.left cx;rw [hb] at cx;exact cx.perm (List.Perm.swap _ _ _)
end
section
variable {W w:World}{S G:List Own}{Φ:PW}
theorem a4n[aB Φ]{p q ac bc}{a b:List ByteArray}(ha:∀ M w,Φ M w->Sl M w p a)(hb:∀ M w,Φ M w->Sl M w q b)(hl:a.length<=1000000000):dF Φ prog F.eU #[.slice p a.length ac,.slice q b.length bc] (.bool (decide (a=b))):=by
 refine .there (λM w h=>(ha M w h).there) λhta=>.there (λM w h=>(hb M w h).there) λhtb=>?_;refine kE (xZ p a.length ac q b.length bc) λW R=>Br.intro (λh=>λw G cx=>⟨?_,cx.left⟩) (λh=>?_)
 .rw [decide_eq_false λe=>fV h (by rw [e])]
 have h:a.length=b.length:=by have:=eV h;omega
 refine dS (λn R' aX k=>∃ i:Nat,n=i/\i+k=a.length/\R'=R/\aX=Φ/\a.take i=b.take i) ⟨⟨_,Φ,a.length,aR,λw G cx=>cx,0,rfl,by omega,rfl,rfl,by simp⟩,?_⟩;rintro n R1 Φ k _ ⟨i,rfl,hik,rfl,rfl,htk⟩;refine Br.intro (λhlt=>λw G cx=>?_) (λhge=>λw G cx=>⟨?_,cx.left⟩)
 .have hlt:i<a.length:=by have:=fV hlt;omega
  obtain ⟨k,rfl⟩:∃ m,k=m+1:=⟨k - 1,by omega⟩;obtain ⟨g,o,rfl⟩:=hta (by omega);obtain ⟨g2,o2,rfl⟩:=htb (by omega);refine ⟨⟨by omega,by omega⟩,bF g o rfl ⟨a[i],by rw [Int.toNat_natCast];exact a9T (ha _ _ cx.yK) hlt,⟨by omega,by omega⟩,bF g2 o2 rfl ⟨b[i]'(by omega),by rw [Int.toNat_natCast];exact a9T (hb _ _ cx.yK) (by omega),Br.intro (λhne=>λw G cx=>⟨?_,cx.left⟩) (λhe=>?_)⟩⟩⟩
  .rw [decide_eq_false λe=>fV hne (by simp only [e])]
  .refine ⟨by unfold bE;omega,_,Φ,k,aR,λw G cx=>cx,⟨i+1,by omega,by omega,rfl,rfl,?_⟩,Nat.lt_succ_self _⟩;rw [List.take_succ_eq_append_getElem hlt,List.take_succ_eq_append_getElem (by omega:i<b.length),htk,Decidable.not_not.1 (eV he)]
 .have hge:i=a.length:=by have:=eV hge;omega
  subst hge;rw [List.take_length,h,List.take_length] at htk;rw [decide_eq_true htk]
structure JI(Φ:PW):Prop where
 num:∀ M w,Φ M w->wU M w
 off:∀ M w,Φ M w->uW M w
theorem JI.tab(h:JI Φ):∀ M w,Φ M w->yB M w:=λM w hp=>(h.num M w hp).1
theorem JI.weak(h:JI Φ){Ψ}(e:∀ M w,Ψ M w->Φ M w):JI Ψ:=⟨λM w hp=>h.num M w (e M w hp),λM w hp=>h.off M w (e M w hp)⟩
theorem append_nil(d){j}(h:j.broken=false):dX d j []=(d,j,0):=by
 unfold dX;rw [if_neg (by rw [h];simp),if_pos rfl]
theorem a7m(j l b r):(IC j l b r).1=r.1:=by
 unfold IC;split<;>rfl
theorem aDI(d j n):(j4 d j n).1.keep=d.keep:=by
 unfold j4;split
 .rfl
 .split
  .rfl
  .split
   .rfl
   .rw [a7m,JV]
theorem a4o(d j l):(dX d j l).1.keep=d.keep:=by
 unfold dX;split
 .rfl
 .split
  .rfl
  .split
   .rfl
   .split
    .exact ZS _ _ _
    .rw [a7m,JV,ZS]
theorem a9X{f g s v}(h:Ev f g)(h1:fK f.now s v)(h2:fK f.last s v):fK g.now s v/\fK g.last s v:=by
 induction h with
 | refl=>exact ⟨h1,h2⟩
 | step _ hs ih=>exact ⟨QL ih.1 ih.2 hs,QL ih.1 ih.2 hs⟩
theorem aLF{d d' j}(h:Live d j)(h1:Ev (d.files j.base) (d'.files j.base))(h2:Ev (d.files (j.base+1)) (d'.files (j.base+1))):Live d' j:=by
 have hc:=a9X h2 h.now h.last;exact ⟨h.base,h.file,h.bytes,h.most,hc.1,hc.2,h.enc,h1.pre h.log⟩
end
end Go.Proofs.YtnlkemjhgdbfkaaGreatDoor
end

section
namespace Go.Vc
section
variable {P:Program}{W w:World}{S:List Own}{Φ:PW}
theorem aDJ(w t e ty z)(ht:P.underlying t=some (.slice e))(hv:∀ w,(zeroValue e).run P w=.ok z w)(h1:∀ v∈z.cells,v.oneCell'=true)(hp:0<z.cells.size)(b o n c)(hn:0<n)(hc:∀ j,j<n*z.cells.size->(w.cell? ⟨b,o+j,none⟩).isSome=true)(hf:∀ j,j<n*z.cells.size->w.frozen? ⟨b,o+j,none⟩=false):
  (Builtin.clear_ #[t] ty #[.slice (some ⟨b,o,none⟩) n c]).run P w=.ok (.tuple #[]) (w.setCells b o (Builtin.zeroCells z.cells n).toList):=by
 have hl:(Builtin.zeroCells z.cells n).toList.length=n*z.cells.size:=by simp [Builtin.zeroCells]
 have hst:=run_storeCells_cells (P:=P) b o (Builtin.zeroCells z.cells n).toList 0 w (by rw [hl];simpa using hc) (by rw [hl];simpa using hf) (λv RW=>by
  simp only [Builtin.zeroCells,Array.toList_map,List.mem_map] at RW;obtain ⟨i,_,rfl⟩:=RW;have hlt:i % z.cells.size<z.cells.size:=Nat.mod_lt _ hp;rw [getElem!_pos z.cells _ hlt];exact h1 _ (Array.getElem_mem hlt))
 simp only [Nat.add_zero] at hst;obtain ⟨m,rfl⟩:∃ m,n=m+1:=⟨n - 1,by omega⟩;simp [Builtin.clear_,run_underlying ht,hv,hst]
theorem aDK(cs vs n):(mS cs n vs).take n=cs.take n:=by
 apply List.ext_getElem?;intro i;by_cases hi:i<n
 .rw [List.getElem?_take_of_lt hi,List.getElem?_take_of_lt hi,rK _ _ _ _ (.inl hi)]
 .rw [List.getElem?_eq_none (by rw [List.length_take];omega),List.getElem?_eq_none (by rw [List.length_take];omega)]
end
end Go.Vc
namespace Go.Proofs.YtnlkemjhgdbfkaaGreatDoor
open Go.Vc
abbrev FG(p:NI):List Value:=[.int .i64 p.src,.int .i64 p.to,.string p.body]
abbrev aHW(p:NI):Value:=.agg #[.int .i64 p.src,.int .i64 p.to,.string p.body]
def iV(l:List NI):List Value:=l.flatMap FG
structure aHX where
 nb:Nat
 fp:Option Addr
 fc:Nat
abbrev aHY(N:aHX)(n:KQ):List Value:=[.slice N.fp n.aZ.length N.fc,.int .i64 n.split]
def iG(N:aHX)(n:KQ):List Own:=[.blk N.nb (aHY N n) 251,.buf N.fp n.aZ.length N.fc (iV n.aZ) 267 3]
theorem JW(p l):iV (p :: l)=.int .i64 p.src :: .int .i64 p.to :: .string p.body :: iV l:=rfl
theorem a7n(a b):iV (a++b)=iV a++iV b:=by simp [iV]
theorem IM:∀ l:List NI,(iV l).length=l.length*3
 | []=>rfl
 | p :: l=>by rw [JW];simp only [List.length_cons];rw [IM l];omega
theorem TF:∀ (l:List NI) (k:Nat),(iV l).drop (k*3)=iV (l.drop k)
 | l,0=>by simp
 | [],k+1=>by simp [iV]
 | p :: l,k+1=>by
  rw [JW,show (k+1)*3=k*3+1+1+1 by omega];simp only [List.drop_succ_cons];exact TF l k
theorem a2H:∀ (l:List NI) (k:Nat),(iV l).take (k*3)=iV (l.take k)
 | l,0=>by simp [iV]
 | [],k+1=>by simp [iV]
 | p :: l,k+1=>by
  rw [JW,show (k+1)*3=k*3+1+1+1 by omega];simp only [List.take_succ_cons];rw [a2H l k];rfl
theorem aHZ{l k p}(h:l[k]? = some p)(j)(hj:j<3):(iV l)[k*3+j]? = (FG p)[j]? := by
 have hk:k<l.length:=(List.getElem?_eq_some_iff.1 h).1;have e:(iV l)[k*3+j]? = ((iV l).drop (k*3))[j]? := by rw [List.getElem?_drop]
 rw [e,TF];have e2:l.drop k=p :: l.drop (k+1):=by
  rw [List.drop_eq_getElem_cons hk]
  congr 1
  rw [List.getElem?_eq_getElem hk] at h;exact Option.some.inj h
 rw [e2,JW]
 match j,hj with
 | 0,_=>rfl
 | 1,_=>rfl
 | 2,_=>rfl
theorem aLG(l):∀ u∈iV l,oY u=true:=λu hu=>by
 unfold iV at hu;obtain ⟨p,_,hp⟩:=List.mem_flatMap.1 hu;simp only [FG,List.mem_cons,List.not_mem_nil,or_false] at hp;rcases hp with rfl|rfl|rfl<;>rfl
theorem aBS(a):Quiet prog F.DJ #[.int .i64 a] (.bool (uT a)) :=
 ⟨λw=>(a3T a w (λv w'=>v=.bool (uT a)/\w'=w) ⟨rfl,rfl⟩).mono λe w' ⟨v,he,hv,hw⟩=>⟨by rw [he,hv],hw⟩⟩
theorem aBT{P t n a}(h:0<=a)(h2:a<=64)(w):Sem.run P (binOp .shr t (.int .i64 n) (.int .i64 a)) w=.ok (.int .i64 (n / 2 ^ a.toNat)) w:=by
 rw [binOp_shr,shift_shr_i64 .i64 n a h h2];rfl
theorem aH0(n):bits .and .i64 n 65535=n % 65536:=by
 have h15:(BitVec.ofInt 64 65535).toNat=2 ^ 16 - 1:=by decide
 have key:(BitVec.ofInt 64 n &&& BitVec.ofInt 64 65535).toNat=(n % ((2 ^ 64:Nat):Int)).toNat % 2 ^ 16:=by
  rw [BitVec.toNat_and,BitVec.toNat_ofInt,h15,Nat.and_two_pow_sub_one_eq_mod]
 show IntKind.i64.wrap ((BitVec.ofInt 64 n &&& BitVec.ofInt 64 65535).toNat:Nat)=n % 65536;rw [key,IntKind.wrap_i64];omega
theorem aH1{P t}(n w):Sem.run P (binOp .and t (.int .i64 n) (.int .i64 65535)) w=.ok (.int .i64 (n % 65536)) w:=by
 rw [binOp_and,intBits_and,aH0];rfl
section
variable {W w:World}{S:List Own}{Φ:PW}{N:aHX}{n:KQ}
theorem aH2[aB Φ](cx:Ctx W w S Φ){K}(hk:∀ N w',Ctx W w' (iG N ⟨[],0⟩++S) Φ->K (.returned (.pointer (some ⟨N.nb,0,none⟩))) w'):aG F.a3x #[] w K:=by
 refine iO (a3Q (J:=K∘.returned) cx λb w G cx=>?_);have c1:=cx.left.aCp 267 3;exact hk ⟨b,none,0⟩ w (c1.perm (.swap _ _ _))
theorem a2I[aB Φ]{a b}(cx:Ctx W w (iG N n++S) Φ){K}(hk:∀ w',Ctx W w' (iG N n++S) Φ->K (.returned (.bool (kY n.split a b))) w'):
  aG F.wH #[.pointer (some ⟨N.nb,0,none⟩),.int .i64 a,.int .i64 b] w K:=by
 refine iO (Q2 N.nb 0 a b (J:=K∘.returned) cx λw G cx=>⟨uT a,λw3 h=>(aBS a).atN h,uT b,λ_ w3 h=>(aBS b).atN h,n.split,λ_=>cx.get 0 rfl rfl,n.split / 2 ^ a.toNat,λh w=>?_,a9E n.split a,λ_ w=>ZM _ w,n.split,λ_=>cx.get 0 rfl rfl,n.split / 2 ^ b.toNat,λh w=>?_,a9E n.split b,λ_ w=>ZM _ w,λw G cx=>?_⟩)
 .simp only [uT,Bool.and_eq_true,decide_eq_true_eq] at h;exact aBT (by omega) (by omega) w
 .simp only [uT,Bool.and_eq_true,decide_eq_true_eq] at h;exact aBT (by omega) (by omega) w
 .have e:(uT a&&uT b&&decide (a9E n.split a=a9E n.split b))=kY n.split a b:=by unfold kY;rw [Bool.and_assoc]
  rw [e];exact hk w cx.left
theorem aDL[aB Φ](hl:n.aZ.length<=500){a b s}(cx:Ctx W w (iG N n++S) Φ){K}(hk:∀ fp fc w',Ctx W w' (iG ⟨N.nb,fp,fc⟩ (vU n a b s).1++S) Φ->K (.returned (.int .i64 (vU n a b s).2)) w'):
  aG F.DG #[.pointer (some ⟨N.nb,0,none⟩),.int .i64 a,.int .i64 b,.string s] w K:=by
 unfold vU at hk;refine iO (PY N.nb 0 a b s (J:=K∘.returned) cx λw G cx=>⟨uT a,λw3 h=>(aBS a).at h,uT b,λ_ w3 h=>(aBS b).at h,Br.intro (λh=>λw G cx=>?_) (λh=>λw G cx=>?_)⟩)
 .rw [if_pos (by
   simp only [Bool.or_eq_true,Bool.not_eq_true',decide_eq_true_eq] at h;rcases h with (h|h)|h
   .rw [h];rfl
   .rw [h];simp
   .simp [h])] at hk
  exact hk N.fp N.fc w cx.left
 .rw [if_neg (by
   simp only [Bool.or_eq_false_iff,Bool.not_eq_false',decide_eq_false_iff_not] at h;rw [h.1.1,h.1.2];simp [h.2])] at hk
  refine a2I (N:=N) (n:=n) (S:=S++G) (by rw [<-bM];exact cx) λw cx=>⟨_,rfl,iG N n++S,Φ,aR,by rw [bM];exact cx,Br.intro (λh=>λw G cx=>?_) (λh=>λw G cx=>⟨_,_,_,cx.get 0 rfl rfl,Br.intro (λh2=>λw G cx=>?_) (λh2=>λw G cx=>⟨_,_,_,cx.get 0 rfl rfl,λk w G cx=>?_⟩)⟩)⟩
  .rw [if_pos (by simpa using h)] at hk;exact hk N.fp N.fc w cx.left
  .rw [if_neg (by simpa using h),if_pos (by have:=fV h2;omega)] at hk;exact hk N.fp N.fc w cx.left
  .rw [if_neg (by simpa using h),if_neg (by have:=eV h2;omega)] at hk;obtain ⟨p',c',w',hr,_,x9⟩:=((cx.perm (show (Own.blk k [Value.int .i64 a,.int .i64 b,.string s] 267 :: (iG N n++S)++G).Perm (Own.blk k [Value.int .i64 a,.int .i64 b,.string s] 267 :: Own.buf N.fp n.aZ.length N.fc (iV n.aZ) 267 3 :: (.blk N.nb (aHY N n) 251 :: S++G)) from List.Perm.cons _ (List.Perm.swap _ _ _)))).YQ (ts:=109) (ty:=109) (kb:=#[false,false]) (bytes:=32) (P:=prog) (by kernel_rfl) (by omega) rfl rfl (by omega) (by omega)
   refine ⟨_,_,_,_,hr,Own.buf p' (n.aZ.length+1) c' (iV n.aZ++FG ⟨a,b,s⟩) 267 3 :: (.blk N.nb (aHY N n) 251 :: S),Φ,aR,x9,λw G cx=>⟨cx.can 1 rfl (by show 0+1<=2;omega),λw' hw'=>⟨Own.buf p' (n.aZ.length+1) c' (iV n.aZ++FG ⟨a,b,s⟩) 267 3 :: (.blk N.nb [.slice p' (n.aZ.length+1) c',.int .i64 n.split] 251 :: S),Φ,aR,cx.put 1 hw' rfl,λw G cx=>?_⟩⟩⟩;have e1:iV n.aZ++FG ⟨a,b,s⟩=iV (n.aZ++[⟨a,b,s⟩]):=by rw [a7n];rfl
   have e2:n.aZ.length+1=(n.aZ++[(⟨a,b,s⟩:NI)]).length:=by simp
   rw [e1,e2] at cx;exact hk p' c' w (cx.left.perm (.swap _ _ _))
theorem aWb:∀ w:World,(zeroValue 267).run prog w=.ok (.agg #[.int .i64 0,.int .i64 0,.string (ByteArray.mk #[])]) w:=λw=>by kernel_rfl
theorem erase_eq(l:List NI)(i):l.eraseIdx i=l.take i++l.drop (i+1):=List.eraseIdx_eq_take_drop_succ l i
theorem aH3[aB Φ]{g cap l i}(hi:i<l.length)(hlen:l.length<=500)(cx:Ctx W w (.buf (some ⟨g,0,none⟩) l.length cap (iV l) 267 3 :: S) Φ){K}(hk:∀ w',Ctx W w' (.buf (some ⟨g,0,none⟩) (l.eraseIdx i).length cap (iV (l.eraseIdx i)) 267 3 :: S) Φ->K (.returned (.slice (some ⟨g,0,none⟩) (l.eraseIdx i).length cap)) w'):
  aG F.eX #[.slice (some ⟨g,0,none⟩) l.length cap,.int .i64 (i:Int),.int .i64 ((i:Int)+1)] w K:=by
 obtain ⟨_,hnc,hcm⟩:=cx.sU 0 rfl;have hel:(l.eraseIdx i).length=l.length - 1:=List.length_eraseIdx_of_lt hi;have hpl:=IM l;refine iO (mH (some ⟨g,0,none⟩) l.length cap (i:Int) ((i:Int)+1) (J:=K∘.returned) cx ⟨by omega,Br.intro (λh=>by have:=fV h;omega) (λ_=>⟨[],tru,aR,λw G cx=>(Ctx.right cx).weak λ_ _ _=>trivial,by omega,by omega,λw G cx=>?_⟩)⟩);obtain ⟨inf,z,e1,e2,e3,e4,e5,e6⟩:=y5 (P:=prog) (ts:=109) (t:=267) (size:=3) (bytes:=32) (by kernel_rfl)
 have hj:((i:Int)+1).toNat=i+1:=by omega
 have hi0:((i:Int)).toNat=i:=Int.toNat_natCast i;rw [hj,hi0];have s0:cT (some (⟨g,0,none⟩:Addr)) 3 0 cap=some ⟨g,0,none⟩:=by unfold cT;split<;>simp [Addr.add]
 rw [s0];obtain ⟨a,ha,hsrc⟩:∃ a:Addr,cT (some (⟨g,0,none⟩:Addr)) 3 (i+1) cap=some a/\∀ j u,(iV (l.drop (i+1)))[j]? = some u->w.cell? (a.add j)=some u:=by
  unfold cT;by_cases hc:cap=i+1
  .rw [if_pos hc];refine ⟨_,rfl,λj u hu=>?_⟩;rw [List.drop_eq_nil_of_le (by omega)] at hu;simp [iV] at hu
  .rw [if_neg hc,Option.map_some,Addr.add_lit,Nat.zero_add];refine ⟨_,rfl,λj u hu=>?_⟩;rw [<-TF,List.getElem?_drop] at hu;rw [Addr.add_lit];exact cx.aGY 0 rfl rfl hu
 rw [ha];have S5:(iV (l.drop (i+1))).length=(l.length - (i+1))*3:=by rw [IM,List.length_drop]
 have can:aH w g (i*3) ((l.length - (i+1))*3):=cx.a9n 0 rfl rfl (by rw [hpl];omega);have hr:=run_append_room_cells (P:=prog) (w:=w) 109 109 267 inf e1 e2 g 0 i cap a (l.length - (i+1)) (cap - (i+1)) (iV (l.drop (i+1))) (by rw [S5,e4]) hsrc
  (λu hu=>by have:=aLG _ u hu;cases u<;>simp_all [oY,Value.oneCell']) (by omega) (λj hj=>by rw [S5] at hj;rw [e4,Nat.zero_add];exact (can j hj).1) (λj hj=>by rw [S5] at hj;rw [e4,Nat.zero_add];exact (can j hj).2)
 rw [e4,Nat.zero_add] at hr;have c1:=cx.W5 0 rfl rfl (by rw [hpl];omega) (by rw [S5,hpl];omega) (w':=w.setCells g (i*3) (iV (l.drop (i+1)))) rfl;refine ⟨_,_,_,_,wQ hr,.buf (some ⟨g,0,none⟩) l.length cap (mS (iV l) (i*3) (iV (l.drop (i+1)))) 267 3 :: S,Φ,aR,c1,by omega,λw G cx=>?_⟩;have hk9:((i+(l.length - (i+1)):Nat):Int).toNat=l.length - 1:=by omega
 rw [hk9];have hne:¬ cap=l.length - 1:=by omega
 have s1:cT (some (⟨g,0,none⟩:Addr)) 3 (l.length - 1) cap=some ⟨g,(l.length - 1)*3,none⟩:=by unfold cT;rw [if_neg hne,Option.map_some,Addr.add_lit,Nat.zero_add]
 have hn1:((l.length:Nat):Int).toNat - (l.length - 1)=1:=by omega
 rw [s1,hn1];have qU:(mS (iV l) (i*3) (iV (l.drop (i+1)))).length=l.length*3:=by rw [HH,hpl]
 have aWc:aH w g ((l.length - 1)*3) (1*3):=cx.a9n 0 rfl rfl (by rw [qU];omega);have uK:=aDJ (P:=prog) w 109 267 0 _ e1 aWb (by decide) (by decide) g ((l.length - 1)*3) 1 (cap - (l.length - 1)) (by omega) (λj hj=>(aWc j hj).1) (λj hj=>(aWc j hj).2);have hzl:(Builtin.zeroCells (Value.agg #[.int .i64 0,.int .i64 0,.string (ByteArray.mk #[])]).cells 1).toList.length=3:=by
  simp only [Builtin.zeroCells,Array.toList_map,List.length_map];rw [Array.length_toList,Array.size_range];rfl
 have c2:=cx.W5 0 rfl rfl (by rw [qU];omega) (by rw [qU,hzl];omega) (w':=w.setCells g ((l.length - 1)*3) (Builtin.zeroCells (Value.agg #[.int .i64 0,.int .i64 0,.string (ByteArray.mk #[])]).cells 1).toList) rfl;have c3:=Ctx.a4h (k:=l.length - 1) c2 (by omega);rw [aDK,JU _ _ _ (by rw [S5,hpl];omega)] at c3;have e7:((iV l).take (i*3)++iV (l.drop (i+1))++(iV l).drop (i*3+(iV (l.drop (i+1))).length)).take ((l.length - 1)*3)=iV (l.eraseIdx i):=by
  rw [erase_eq,a7n,a2H];exact List.take_left' (by rw [List.length_append,S5,IM,List.length_take,Nat.min_eq_left (by omega)];omega)
 rw [e7] at c3;refine ⟨_,Q8 uK,.buf (some ⟨g,0,none⟩) (l.eraseIdx i).length cap (iV (l.eraseIdx i)) 267 3 :: S,Φ,aR,by rw [hel];exact c3,λw G cx=>?_⟩;have e8:i+(l.length - (i+1))=(l.eraseIdx i).length:=by omega
 rw [e8];exact hk w cx.left
theorem aLH{l p cap}(cx:Ctx W w (.buf p l.length cap (iV l) 267 3 :: S) Φ)(h:0<l.length):∃ g,p=some ⟨g,0,none⟩:=by
 obtain ⟨b,hb,_⟩:=cx.nU 0 rfl (by rw [IM];omega);exact ⟨b,hb⟩
theorem aLI{l g cap}(cx:Ctx W w (.buf (some ⟨g,0,none⟩) l.length cap (iV l) 267 3 :: S) Φ){i p}(h:l[i]? = some p):bT w g (0+i*3) (FG p):=by
 rw [Nat.zero_add];refine cx.a9m 0 rfl rfl λj hj=>?_;rw [aHZ h j hj,List.getElem?_eq_getElem hj]
def uX(n:KQ)(i:Int):Option NI:=if i<0 then none else n.aZ[i.toNat]?
abbrev aH4:NI:=⟨0,0,ByteArray.mk #[]⟩
theorem aDM{i p}(h:uX n i=some p):0<=i/\i<n.aZ.length/\n.aZ[i.toNat]? = some p:=by
 unfold uX at h;split at h
 .cases h
 .have:=(List.getElem?_eq_some_iff.1 h).1;exact ⟨by omega,by omega,h⟩
theorem aDN[aB Φ](hl:n.aZ.length<=500){i}(cx:Ctx W w (iG N n++S) Φ){K}(h0:∀ w',uX n i=none->Ctx W w' (iG N n++S) Φ->K (.returned (.tuple #[aHW aH4,.bool false])) w')(h1:∀ p w',uX n i=some p->Ctx W w' (iG N (takeN n i.toNat)++S) Φ->K (.returned (.tuple #[aHW p,.bool true])) w'):
  aG F.DI #[.pointer (some ⟨N.nb,0,none⟩),.int .i64 i] w K:=by
 refine iO (PZ N.nb 0 i (J:=K∘.returned) cx λ_ w G cx=>⟨_,_,_,λ_=>cx.get 0 rfl rfl,Br.intro (λh=>λw G cx=>?_) (λh=>λw G cx=>⟨_,_,_,cx.get 0 rfl rfl,?_⟩)⟩)
 .refine h0 w ?_ cx.left;simp only [Bool.or_eq_true,decide_eq_true_eq] at h;unfold uX;split
  .rfl
  .exact List.getElem?_eq_none (by omega)
 .simp only [Bool.or_eq_false_iff,decide_eq_false_iff_not] at h;obtain ⟨k,rfl⟩:∃ k:Nat,i=k:=⟨i.toNat,by omega⟩;have hk:k<n.aZ.length:=by omega
  obtain ⟨pk,hp⟩:∃ p,n.aZ[k]? = some p:=⟨_,List.getElem?_eq_getElem hk⟩;have sw:∀ {w:World} {G:List Own},Ctx W w ((iG N n++S)++G) Φ->Ctx W w (.buf N.fp n.aZ.length N.fc (iV n.aZ) 267 3 :: (.blk N.nb (aHY N n) 251 :: S++G)) Φ:=λcx=>cx.perm (.swap _ _ _);obtain ⟨g,hg⟩:=aLH (sw cx) (by omega);have ht:uX n (k:Int)=some pk:=by unfold uX;rw [if_neg (by omega),Int.toNat_natCast];exact hp
  refine ⟨by omega,bF g 0 hg λw G cx=>⟨pk.src,pk.to,pk.body,by
   have c1:=sw cx;rw [hg] at c1;rw [Int.toNat_natCast];exact aLI c1 hp,λ_ w G cx=>⟨_,_,_,cx.get 0 rfl rfl,by unfold bE;omega,λw G cx=>?_⟩⟩⟩
  have c1:=sw cx;rw [hg] at c1 ⊢;refine aH3 hk hl c1 λw cx=>⟨_,_,_,rfl,.buf (some ⟨g,0,none⟩) (n.aZ.eraseIdx k).length N.fc (iV (n.aZ.eraseIdx k)) 267 3 :: (.blk N.nb (aHY N n) 251 :: S),Φ,aR,cx,λw G cx=>⟨cx.can 1 rfl (by show 0+1<=2;omega),λw' hw'=>⟨.buf (some ⟨g,0,none⟩) (n.aZ.eraseIdx k).length N.fc (iV (n.aZ.eraseIdx k)) 267 3 :: (.blk N.nb [.slice (some ⟨g,0,none⟩) (n.aZ.eraseIdx k).length N.fc,.int .i64 n.split] 251 :: S),Φ,aR,cx.put 1 hw' rfl,λw G cx=>?_⟩⟩⟩
  refine h1 pk w ht ?_;rw [Int.toNat_natCast];have c2:=cx.left.perm (.swap _ _ _);show Ctx W w (.blk N.nb [.slice N.fp _ N.fc,_] 251 :: .buf N.fp _ N.fc _ 267 3 :: S) Φ;rw [hg];exact c2
theorem a4p[aB Φ](hl:n.aZ.length<=500){i}(cx:Ctx W w (iG N n++S) Φ){K}(h0:∀ w',uX n i=none->Ctx W w' (iG N n++S) Φ->K (.returned (.tuple #[aHW aH4,.int .i64 4])) w')(h1:∀ p w',uX n i=some p->kY n.split p.src p.to=false->Ctx W w' (iG N (takeN n i.toNat)++S) Φ->K (.returned (.tuple #[aHW aH4,.int .i64 10])) w')(h2:∀ p w',uX n i=some p->kY n.split p.src p.to=true->Ctx W w' (iG N (takeN n i.toNat)++S) Φ->K (.returned (.tuple #[aHW p,.int .i64 0])) w'):
  aG F.vD #[.pointer (some ⟨N.nb,0,none⟩),.int .i64 i] w K:=by
 refine iO (HF N.nb 0 i (J:=K∘.returned) cx λ_ w G cx=>?_);refine aDN (N:=N) (n:=n) (S:=S++G) hl (by rw [<-bM];exact cx) (λw ht cx=>⟨_,_,_,_,rfl,iG N n++S,Φ,aR,by rw [bM];exact cx,λ_=>Br.intro (λh=>λw G cx=>h0 w ht cx.left) (λh=>by cases h)⟩) (λp w ht cx=>⟨_,_,_,_,rfl,iG N (takeN n i.toNat)++S,Φ,aR,by rw [bM];exact cx,λ_=>Br.intro (λh=>by cases h) (λh=>λw G cx=>?_)⟩);refine a2I (N:=N) (n:=takeN n i.toNat) (S:=S++G) (by rw [<-bM];exact cx) λw cx=>⟨_,rfl,iG N (takeN n i.toNat)++S,Φ,aR,by rw [bM];exact cx,Br.intro (λh=>λw G cx=>h1 p w ht (by have h:(!kY n.split p.src p.to)=true:=h;simpa using h) cx.left) (λh=>λw G cx=>h2 p w ht (by have h:(!kY n.split p.src p.to)=false:=h;simpa using h) cx.left)⟩
theorem a9Y[aB Φ]{m}(cx:Ctx W w (iG N n++S) Φ){K}(hk:∀ w',Ctx W w' (iG N { n with split:=m % 65536 }++S) Φ->K (.returned (.tuple #[])) w'):
  aG F.AM #[.pointer (some ⟨N.nb,0,none⟩),.int .i64 m] w K:=by
 refine iO (MX N.nb 0 m (J:=K∘.returned) cx ⟨m % 65536,λw=>aH1 m w,λw G cx=>⟨cx.can 0 rfl (by show 1+1<=2;omega),λw' hw'=>⟨iG N { n with split:=m % 65536 }++S,Φ,aR,cx.put 0 hw' rfl,λw G cx=>hk w cx.left⟩⟩⟩)
theorem aDO[aB Φ](cx:Ctx W w (iG N n++S) Φ){K}(hk:∀ w',Ctx W w' (iG N { n with split:=0 }++S) Φ->K (.returned (.tuple #[])) w'):
  aG F.DD #[.pointer (some ⟨N.nb,0,none⟩)] w K:=by
 refine iO (PU N.nb 0 (J:=K∘.returned) cx λw G cx=>⟨cx.can 0 rfl (by show 1+1<=2;omega),λw' hw'=>⟨iG N { n with split:=0 }++S,Φ,aR,cx.put 0 hw' rfl,λw G cx=>hk w cx.left⟩⟩)
theorem a9Z[aB Φ](cx:Ctx W w (iG N n++S) Φ){K}(hk:∀ w',Ctx W w' (iG N n++S) Φ->K (.returned (.int .i64 (n.aZ.length:Int))) w'):
  aG F.AO #[.pointer (some ⟨N.nb,0,none⟩)] w K:=by
 refine iO (MZ N.nb 0 (J:=K∘.returned) cx λw G cx=>⟨_,_,_,cx.get 0 rfl rfl,λw G cx=>hk w cx.left⟩)
end
end Go.Proofs.YtnlkemjhgdbfkaaGreatDoor
end

section
namespace Go.Proofs.YtnlkemjhgdbfkaaGreatDoor
open Go.Vc
def ZT(W:World)(J:Int->List Own->PW->Prop):List (FuncId × Array Value)->List Own->PW->Prop
 | [],R,Φ=>J 0 R Φ
 | f :: fs,R,Φ=>sI prog f.1=true/\∀ w G,Ctx W w (R++G) Φ->Calls prog f.1 f.2 w λe w'=>∃ n:Int,e=.returned (.int .i64 n)/\∃ R' aX,aB aX/\Ctx W w' (R'++G) aX/\(n≠0->J n R' aX)/\(n=0->ZT W J fs R' aX)
abbrev a90(fs:List (FuncId × Array Value)):List Value:=fs.map λf=>Value.func (.func f.1) #[] f.2
theorem a2J{W w S}{Φ:PW}[aB Φ]{J fs k}(hl:fs.length<=1000)(cx:Ctx W w (.blk k (a90 fs) 258 :: S) Φ)(h:ZT W J fs S Φ){K}(hk:∀ n S' aX w',aB aX->J n S' aX->Ctx W w' S' aX->K (.returned (.int .i64 n)) w'):aG F.zN #[.slice (some ⟨k,0,none⟩) fs.length fs.length] w K:=by
 refine iO (SX (some ⟨k,0,none⟩) fs.length fs.length (J:=K∘.returned) cx ?_);refine dS (λnI R' aX κ=>∃ (i:Nat) (S':List Own),nI=i/\i<=fs.length/\κ=fs.length - i/\R'=.blk k (a90 fs) 258 :: S'/\ZT W J (fs.drop i) S' aX) ⟨⟨_,Φ,_,aR,λw G cx=>cx,0,S,rfl,Nat.zero_le _,rfl,rfl,h⟩,?_⟩;rintro nI R' aX κ hst ⟨i,S',rfl,hi,rfl,rfl,hF⟩;refine Br.intro (λhlt=>?_) (λhge=>λw G cx=>?_)
 .have hlt:i<fs.length:=by have:=fV hlt;omega
  have ed:fs.drop i=fs[i] :: fs.drop (i+1):=List.drop_eq_getElem_cons hlt;rw [ed] at hF;obtain ⟨hok,hF⟩:=hF;refine ⟨by omega,bF k 0 rfl λw G cx=>⟨fs[i].1,#[],fs[i].2,?_,λw G cx=>⟨hok,?_⟩⟩⟩
  .refine cx.get 0 rfl ?_;rw [Nat.zero_add,Int.toNat_natCast,List.getElem?_map,List.getElem?_eq_getElem hlt];rfl
  .refine (hF w (.blk k (a90 fs) 258 :: G) (cx.perm List.perm_middle.symm)).mono λe w' ⟨n,he,R1,cL,h1,c1,h2,h3⟩=>?_
   haveI:=h1
   refine ⟨n,he,.blk k (a90 fs) 258 :: R1,cL,h1,c1.perm List.perm_middle,Br.intro (λhn=>λw G cx=>?_) (λhn=>⟨by unfold bE;omega,_,cL,_,h1,λw G cx=>cx,⟨i+1,R1,by omega,by omega,rfl,rfl,h3 (by simpa using hn)⟩,by omega⟩)⟩;exact hk n R1 cL w h1 (h2 (fV hn)) (Ctx.drop1 cx.left)
 .have he:i=fs.length:=by have:=eV hge;omega
  subst he;rw [List.drop_length] at hF;exact hk 0 S' aX w hst hF (Ctx.drop1 cx.left)
section
variable {W w:World}{S:List Own}{Φ:PW}
theorem aH5[aB Φ](hN:∀ M w,Φ M w->wU M w){cb q c}(hl:c.value.length<=1000000000)(cx:Ctx W w (fN cb q c :: S) Φ){K}(hk:∀ w',Ctx W w' (fN cb q c :: S) Φ->K (.returned (.agg #[.int .i64 (kP c).1,.int .i64 (kP c).2])) w'):aG F.MK #[.pointer (some ⟨cb,0,none⟩)] w K:=by
 unfold kP at hk;refine iO (VQ cb 0 (J:=K∘.returned) cx λ_ w G cx=>a7g (S:=S++G) cx λw cx=>⟨_,_,rfl,fN cb q c :: S,Φ,aR,cx,Br.intro (λh=>λw G cx=>?_) (λh=>λw G cx=>?_)⟩)
 .have h:c.slot=0:=by
   have:¬ 0<c.slot:=by simpa using h
   omega
  rw [if_pos h] at hk;exact hk w cx.left
 .have h:¬ c.slot=0:=by
   have:0<c.slot:=by simpa using h
   omega
  rw [if_neg h] at hk;have hlen:(eJ (c.value,false)).2.1.length<=c.value.length:=qK 59 _ (c.value,false);refine HX c.value cx λb w cx=>⟨_,rfl,rd b (c.value,false) :: fN cb q c :: S,Φ,aR,cx,λw G cx=>QF (S:=fN cb q c :: S) hN (by show c.value.length<=_;omega) cx (λw G cx=>QF (S:=fN cb q c :: S) hN (by omega) cx (λw G cx=>hk w (Ctx.left (Ctx.drop1 cx))))⟩
theorem a4q[aB Φ](hN:∀ M w,Φ M w->wU M w){q x j}(hsb:SB x.p x.cap j.list x.o)(hl:j.list.length<=1000000)(hsz:∀ s∈j.list,s.size<=100000000)(hok:∀ s∈j.list,(oT s).Ok)(cx:Ctx W w (fG x q j++S) Φ){K}(hk:∀ p c w',Ctx W w' (fG x q j++S) (λM w=>Φ M w/\Sl M w p (j.list.map oT))->K (.returned (.slice p (j.list.map oT).length c)) w'):
  aG F.AN #[.pointer (some ⟨x.jb,0,none⟩)] w K:=by
 refine iO (MY x.jb 0 (J:=K∘.returned) cx λw G cx=>aLE (S:=S++G) hsb (by omega) cx λb w cx=>⟨_,_,_,rfl,.blk b (cW j.list) 9 :: (fG x q j++S),Φ,aR,cx,?_⟩);refine dS (λp k c nI R' aX κ=>∃ i:Nat,nI=i/\i<=j.list.length/\κ=j.list.length - i/\k=((j.list.take i).map oT).length/\R'=.buf p k c (bD ((j.list.take i).map oT)) 216 2 :: .blk b (cW j.list) 9 :: (fG x q j++S)/\aX=Φ) ⟨⟨_,Φ,_,aR,λw G cx=>cx.aCp 216 2,0,rfl,Nat.zero_le _,rfl,rfl,rfl,rfl⟩,?_⟩
 rintro p k c nI R' aX κ hst ⟨i,rfl,hi,rfl,rfl,rfl,rfl⟩;refine Br.intro (λhlt=>?_) (λhge=>λw G cx=>?_)
 .have hlt:i<j.list.length:=by have:=fV hlt;omega
  have hmem:j.list[i]∈j.list:=List.getElem_mem hlt;refine ⟨by omega,bF b 0 rfl λw G cx=>⟨j.list[i],?_,λw G cx=>?_⟩⟩
  .refine cx.get 1 rfl ?_;rw [Nat.zero_add,Int.toNat_natCast,List.getElem?_map,List.getElem?_eq_getElem hlt];rfl
  .have hr:=a9S (Φ:=aX) hN j.list[i].data.toList (by rw [fT];have:=hsz _ hmem;omega);have ex:∃ y:Bool,aV7 (UM j.list[i].data.toList)=.tuple #[(oT j.list[i]).v,.bool y]:=by
    unfold oT;cases UM j.list[i].data.toList with
    | none=>exact ⟨false,rfl⟩
    | some y=>exact ⟨true,rfl⟩
   obtain ⟨y,hy⟩:=ex;rw [hy] at hr;obtain ⟨z,hz⟩:∃ z,oT j.list[i]=z:=⟨_,rfl⟩;rw [hz] at hr;refine hr.use cx λw cx=>⟨z.term,z.data,y,rfl,_,aX,aR,cx,λ_ b2 w G cx=>?_⟩;obtain ⟨p',c',w',hrun,c2⟩:=aBQ (x:=z) (by rw [List.length_map,List.length_take];omega) cx;have et:(j.list.take i).map oT++[z]=(j.list.take (i+1)).map oT:=by
    rw [List.take_add_one,List.getElem?_eq_getElem hlt,List.map_append,<-hz];rfl
   rw [et] at hrun c2;exact ⟨_,_,_,w',hrun,_,aX,aR,c2,by unfold bE;omega,_,aX,_,aR,λw G cx=>cx,⟨i+1,by omega,by omega,rfl,rfl,rfl,rfl⟩,by omega⟩
 .have he:i=j.list.length:=by have:=eV hge;omega
  subst he;rw [List.take_length] at cx ⊢;have c1:Ctx W w (.buf p (j.list.map oT).length c (bD (j.list.map oT)) 216 2 :: .blk b (cW j.list) 9 :: ((fG x q j++S)++G)) aX:=cx;obtain ⟨c2,hs,_⟩:=Ctx.freeze (α:=bH) c1 (tO λy hy=>by
   obtain ⟨s,hs,rfl⟩:=List.mem_map.1 hy;exact hok s hs)
  have hs':Sl (dom (.blk b (cW j.list) 9 :: ((fG x q j++S)++G))) w p (j.list.map oT):=hs;exact hk p c w ((c2.add (Ψ:=λM w=>Sl M w p (j.list.map oT)) hs').drop1.left)
abbrev dG:Value:=.pointer none
def IP(cs:List Value)(mO:Nat):List Value:=((cs.set (mO+1) dG).set (mO+2) dG).set (mO+3) dG
theorem a7o[aB Φ]{gb mO cs}(hm:mO+4<=cs.length)(cx:Ctx W w (.blk gb cs 135 :: S) Φ){K}(hk:∀ w',Ctx W w' (.blk gb (IP cs mO) 135 :: S) Φ->K (.returned (.tuple #[])) w'):
  aG F.mN #[.pointer (some ⟨gb,mO,none⟩)] w K:=by
 refine iO (DV gb mO (J:=K∘.returned) cx λw G cx=>⟨cx.can 0 rfl (by omega),λw' hw'=>⟨.blk gb (cs.set (mO+1) dG) 135 :: S,Φ,aR,cx.put 0 hw' rfl,λw G cx=>⟨cx.can 0 rfl (by rw [List.length_set];omega),λw' hw'=>⟨.blk gb ((cs.set (mO+1) dG).set (mO+2) dG) 135 :: S,Φ,aR,cx.put 0 hw' rfl,λw G cx=>⟨cx.can 0 rfl (by rw [List.length_set,List.length_set];omega),λw' hw'=>⟨.blk gb (IP cs mO) 135 :: S,Φ,aR,cx.put 0 hw' rfl,λw G cx=>hk w cx.left⟩⟩⟩⟩⟩⟩)
abbrev pA(b:Nat):Value:=.pointer (some ⟨b,0,none⟩)
abbrev kM(k0 gb mO:Nat):Own:=.blk k0 [.pointer (some ⟨gb,mO,none⟩)] 139
abbrev kJ(k1:Nat)(v:Value):Own:=.blk k1 [v] 128
abbrev kC(k2:Nat)(v:Value):Own:=.blk k2 [v] 129
abbrev kG(gb:Nat)(cs:List Value):Own:=.blk gb cs 135
theorem a92[aB Φ]{k0 gb mO cs q d}(hcs:cs[mO]? = some (.pointer (some ⟨q.db,0,none⟩)))(hq:rW q d)(hkp:LN Φ q d)(cx:Ctx W w (kM k0 gb mO :: kG gb cs :: (bQ q d++S)) Φ){K}(hk:∀ u w',rW (q.mv u) (bR d 2).1->Ctx W w' (kM k0 gb mO :: kG gb cs :: (bQ (q.mv u) (bR d 2).1++S)) Φ->K (.returned (.int .i64 (bR d 2).2)) w'):
  aG F.gZ #[.pointer (some ⟨k0,0,none⟩)] w K:=by
 refine iO (B3 k0 0 (J:=K∘.returned) cx λw G cx=>⟨_,cx.get 0 rfl rfl,bF gb mO rfl λw G cx=>⟨some ⟨q.db,0,none⟩,cx.get 1 rfl hcs,λw G cx=>?_⟩⟩);refine CN (S:=[kM k0 gb mO,kG gb cs]++(S++G)) hq hkp (IL (A:=[kM k0 gb mO,kG gb cs]) cx) λu w hq1 cx=>⟨_,rfl,[kM k0 gb mO,kG gb cs]++(bQ (q.mv u) (bR d 2).1++S),Φ,aR,tY cx,λw G cx=>hk u w hq1 cx.left⟩
theorem a94[aB Φ](hoff:∀ M w,Φ M w->uW M w)(hN:∀ M w,Φ M w->wU M w){k1 k0 gb mO jp cs q d}(hcs:cs[mO]? = some (.pointer (some ⟨q.db,0,none⟩)))(hq:rW q d)(hkp:LN Φ q d)(cx:Ctx W w (kJ k1 jp :: kM k0 gb mO :: kG gb cs :: (bQ q d++S)) Φ){K}(hn:∀ u d' e w',rP d 0=(d',none,e)->rW (q.mv u) d'->d'.keep=d.keep->Ctx W w' (kJ k1 dG :: kM k0 gb mO :: kG gb cs :: (bQ (q.mv u) d'++S)) Φ->K (.returned (.int .i64 e)) w')(hs:∀ u x d' j w',rP d 0=(d',some j,0)->SB x.p x.cap j.list x.o->rW (q.mv u) d'->d'.keep=d.keep->Ctx W w' (kJ k1 (pA x.jb) :: kM k0 gb mO :: kG gb cs :: (fG x q j++(bQ (q.mv u) d'++S))) Φ->K (.returned (.int .i64 0)) w'):
  aG F.hY #[.pointer (some ⟨k0,0,none⟩),.pointer (some ⟨k1,0,none⟩)] w K:=by
 refine iO (B4 k0 0 k1 0 (J:=K∘.returned) cx λw G cx=>⟨_,cx.get 1 rfl rfl,bF gb mO rfl λw G cx=>⟨some ⟨q.db,0,none⟩,cx.get 2 rfl hcs,λw G cx=>?_⟩⟩);refine aDH (S:=[kJ k1 jp,kM k0 gb mO,kG gb cs]++(S++G)) hq hkp hoff hN (IL (A:=[kJ k1 jp,kM k0 gb mO,kG gb cs]) cx) (λu d' e w ho hq1 hke cx=>?_) (λu x d' j w ho hsb hq1 hke cx=>?_)
 .exact ⟨_,_,rfl,[kJ k1 jp,kM k0 gb mO,kG gb cs]++(bQ (q.mv u) d'++S),Φ,aR,tY cx,λw G cx=>⟨cx.can 0 rfl (by show 0+1<=1;omega),λw' hw'=>⟨kJ k1 dG :: kM k0 gb mO :: kG gb cs :: (bQ (q.mv u) d'++S),Φ,aR,cx.put 0 hw' rfl,λw G cx=>hn u d' e w ho hq1 hke cx.left⟩⟩⟩
 .have c1:Ctx W w ((fG x q j++bQ (q.mv u) d')++([kJ k1 jp,kM k0 gb mO,kG gb cs]++(S++G))) Φ:=by rw [bM];exact cx
  have c2:=tY (A:=[kJ k1 jp,kM k0 gb mO,kG gb cs]) c1;rw [bM (fG x q j)] at c2;exact ⟨_,_,rfl,[kJ k1 jp,kM k0 gb mO,kG gb cs]++(fG x q j++(bQ (q.mv u) d'++S)),Φ,aR,c2,λw G cx=>⟨cx.can 0 rfl (by show 0+1<=1;omega),λw' hw'=>⟨kJ k1 (pA x.jb) :: kM k0 gb mO :: kG gb cs :: (fG x q j++(bQ (q.mv u) d'++S)),Φ,aR,cx.put 0 hw' rfl,λw G cx=>hs u x d' j w ho hsb hq1 hke cx.left⟩⟩⟩
theorem a95[aB Φ](hoff:∀ M w,Φ M w->uW M w){k2 k0 gb mO cp cs q d}(hcs:cs[mO]? = some (.pointer (some ⟨q.db,0,none⟩)))(hq:rW q d)(cx:Ctx W w (kC k2 cp :: kM k0 gb mO :: kG gb cs :: (bQ q d++S)) Φ){K}(hn:∀ e w',uS d 2=(none,e)->Ctx W w' (kC k2 dG :: kM k0 gb mO :: kG gb cs :: (bQ q d++S)) Φ->K (.returned (.int .i64 e)) w')(hs:∀ c cb w',uS d 2=(some c,0)->Ctx W w' (kC k2 (pA cb) :: kM k0 gb mO :: kG gb cs :: (fN cb q c :: (bQ q d++S))) Φ->K (.returned (.int .i64 0)) w'):
  aG F.iA #[.pointer (some ⟨k0,0,none⟩),.pointer (some ⟨k2,0,none⟩)] w K:=by
 refine iO (B5 k0 0 k2 0 (J:=K∘.returned) cx λw G cx=>⟨_,cx.get 1 rfl rfl,bF gb mO rfl λw G cx=>⟨some ⟨q.db,0,none⟩,cx.get 2 rfl hcs,λw G cx=>?_⟩⟩);refine a2D (S:=[kC k2 cp,kM k0 gb mO,kG gb cs]++(S++G)) hq hoff (IL (A:=[kC k2 cp,kM k0 gb mO,kG gb cs]) cx) (λe w ho cx=>?_) (λc cb w ho cx=>?_)
 .exact ⟨_,_,rfl,[kC k2 cp,kM k0 gb mO,kG gb cs]++(bQ q d++S),Φ,aR,tY cx,λw G cx=>⟨cx.can 0 rfl (by show 0+1<=1;omega),λw' hw'=>⟨kC k2 dG :: kM k0 gb mO :: kG gb cs :: (bQ q d++S),Φ,aR,cx.put 0 hw' rfl,λw G cx=>hn e w ho cx.left⟩⟩⟩
 .have c2:=tY (A:=[kC k2 cp,kM k0 gb mO,kG gb cs]) (X:=fN cb q c :: bQ q d) (S:=S) (G:=G) cx;exact ⟨_,_,rfl,[kC k2 cp,kM k0 gb mO,kG gb cs]++(fN cb q c :: (bQ q d++S)),Φ,aR,c2,λw G cx=>⟨cx.can 0 rfl (by show 0+1<=1;omega),λw' hw'=>⟨kC k2 (pA cb) :: kM k0 gb mO :: kG gb cs :: (fN cb q c :: (bQ q d++S)),Φ,aR,cx.put 0 hw' rfl,λw G cx=>hs c cb w ho cx.left⟩⟩⟩
def up3(cs:List Value)(mO j c r:Nat):List Value:=((cs.set (mO+1) (pA j)).set (mO+2) (pA c)).set (mO+3) (pA r)
structure aLJ(id:Nat)(up:VV):Prop where
 new:N6 id up.r.term up.r.aK up.r.log=true
 len:up.j.list.length<=1000000
 size:∀ s∈up.j.list,s.size<=100000000
 ok:∀ s∈up.j.list,(oT s).Ok
 val:up.c.value.length<=1000000000
def b1p(id:Nat)(d:iH)(q:DkP)(k0 k1 k2 gb mO:Nat)(cs:List Value)(S:List Own)(Φ:PW)(n:Int)(R:List Own)(aX:PW):Prop :=
 aX=Φ/\((n≠0/\∃ (Bx:List Own) (u:DkU),(eZ id d).2.1=none/\(eZ id d).2.2=n/\rW (q.mv u) (eZ id d).1/\(eZ id d).1.keep=d.keep/\R=Bx++(kG gb cs :: (bQ (q.mv u) (eZ id d).1++S))) \/ (n=0/\∃ (u:DkU) (x:JoP) (cb:Nat) (c:HZ) (d':iH) (j:sE),eZ id d=(d',some ⟨j,c,dP id (kP c).1 (kP c).2 (j.list.map oT)⟩,0)/\SB x.p x.cap j.list x.o/\rW (q.mv u) d'/\d'.keep=d.keep /\ R=kC k2 (pA cb) :: kJ k1 (pA x.jb) :: kM k0 gb mO :: kG gb cs :: (fG x q j++(fN cb q c :: (bQ (q.mv u) d'++S)))))
theorem a96{d d' b e}(h:rP d b=(d',none,e)):e≠0:=by
 unfold rP at h;split at h
 .injection h with _ h;injection h with _ h;omega
 split at h
 .injection h with _ h;injection h with _ h;omega
 split at h
 .injection h with _ h;injection h with _ h;omega
 injection h with h1 h2;unfold ID at h2;split at h2
 .rename_i e' ho;injection h2 with _ h2;rw [<-h2];exact NN ho
 .unfold a4e at h2;split at h2
  .injection h2 with _ h2;omega
  split at h2
  .injection h2 with _ h2;omega
  split at h2
  .injection h2 with _ h2;omega
  split at h2
  .injection h2 with _ h2;omega
  .injection h2 with h2 _;cases h2
theorem aWd[aB Φ](hoff:∀ M w,Φ M w->uW M w)(hN:∀ M w,Φ M w->wU M w){id gb mO k0 k1 k2 cs q d}(hcs:cs[mO]? = some (.pointer (some ⟨q.db,0,none⟩)))(hq:rW q d)(hkp:LN Φ q d):
  ZT W (b1p id d q k0 k1 k2 gb mO cs S Φ) [(F.gZ,#[pA k0]),(F.hY,#[pA k0,pA k1]),(F.iA,#[pA k0,pA k2])] (kC k2 dG :: kJ k1 dG :: kM k0 gb mO :: kG gb cs :: (bQ q d++S)) Φ:=by
 refine ⟨by kernel_rfl,λw G cx=>?_⟩;have c1:Ctx W w (kM k0 gb mO :: kG gb cs :: (bQ q d++(kC k2 dG :: kJ k1 dG :: (S++G)))) Φ:=by
  have c2:=IL (A:=[kC k2 dG,kJ k1 dG,kM k0 gb mO,kG gb cs]) (X:=bQ q d) (S:=S) (G:=G) cx;exact c2.perm ((List.perm_append_comm_assoc (bQ q d) [kC k2 dG,kJ k1 dG,kM k0 gb mO,kG gb cs] (S++G)).trans ((List.perm_append_comm_assoc [kC k2 dG,kJ k1 dG] [kM k0 gb mO,kG gb cs] (bQ q d++(S++G))).trans (.append_left _ (List.perm_append_comm_assoc [kC k2 dG,kJ k1 dG] (bQ q d) (S++G)))))
 refine a92 hcs hq hkp c1 λu w hq1 cx=>?_;have hk1:LN Φ (q.mv u) (bR d 2).1:=⟨by rw [o8];exact hkp.le,λM w h=>by rw [o8];exact hkp.sl M w h⟩;obtain ⟨⟨d1,e1⟩,hs1⟩:∃ x,bR d 2=x:=⟨_,rfl⟩;have ZU:d1.keep=d.keep:=by rw [<-o8 d 2,hs1]
 rw [hs1] at hq1 cx hk1;simp only at hq1 cx hk1;refine ⟨e1,by rw [hs1],kC k2 dG :: kJ k1 dG :: kM k0 gb mO :: kG gb cs :: (bQ (q.mv u) d1++S),Φ,aR,by
  refine tY (A:=[kC k2 dG,kJ k1 dG,kM k0 gb mO,kG gb cs]) (X:=bQ (q.mv u) d1) (S:=S) (G:=G) (cx.perm ?_);exact ((List.perm_append_comm_assoc (bQ (q.mv u) d1) [kC k2 dG,kJ k1 dG,kM k0 gb mO,kG gb cs] (S++G)).trans ((List.perm_append_comm_assoc [kC k2 dG,kJ k1 dG] [kM k0 gb mO,kG gb cs] (bQ (q.mv u) d1++(S++G))).trans (.append_left _ (List.perm_append_comm_assoc [kC k2 dG,kJ k1 dG] (bQ (q.mv u) d1) (S++G))))).symm,λhne=>?_,λhe=>?_⟩
 .have e:eZ id d=(d1,none,e1):=by unfold eZ;rw [hs1,if_pos hne]
  refine ⟨rfl,.inl ⟨hne,[kC k2 dG,kJ k1 dG,kM k0 gb mO],u,by rw [e],by rw [e],by rw [e];exact hq1,by rw [e];exact ZU,?_⟩⟩;rw [e];rfl
 have eO:eZ id d=ZF id d1:=by unfold eZ;rw [hs1,if_neg (by simp [he])]
 refine ⟨by kernel_rfl,λw G cx=>?_⟩;have c1:Ctx W w (kJ k1 dG :: kM k0 gb mO :: kG gb cs :: (bQ (q.mv u) d1++(kC k2 dG :: (S++G)))) Φ:=by
  have c2:=IL (A:=[kC k2 dG,kJ k1 dG,kM k0 gb mO,kG gb cs]) (X:=bQ (q.mv u) d1) (S:=S) (G:=G) cx;exact c2.perm ((List.perm_append_comm_assoc (bQ (q.mv u) d1) [kC k2 dG,kJ k1 dG,kM k0 gb mO,kG gb cs] (S++G)).trans ((List.perm_append_comm_assoc [kC k2 dG] [kJ k1 dG,kM k0 gb mO,kG gb cs] (bQ (q.mv u) d1++(S++G))).trans (.append_left _ (List.perm_append_comm_assoc [kC k2 dG] (bQ (q.mv u) d1) (S++G)))))
 refine a94 (q:=q.mv u) hoff hN hcs hq1 hk1 c1 (λu2 d2 e w ho qZ hke cx=>?_) (λu2 x d2 j w ho hsb qZ hke cx=>?_)
 .have hee:e≠0:=a96 ho;have eo:eZ id d=(d2,none,e):=by rw [eO];unfold ZF;rw [ho]
  refine ⟨e,rfl,kC k2 dG :: kJ k1 dG :: kM k0 gb mO :: kG gb cs :: (bQ (q.mv u2) d2++S),Φ,aR,?_,λ_=>⟨rfl,.inl ⟨hee,[kC k2 dG,kJ k1 dG,kM k0 gb mO],u2,by rw [eo],by rw [eo],by rw [eo];exact qZ,by rw [eo];exact hke.trans ZU,by rw [eo];rfl⟩⟩,λh0=>absurd h0 hee⟩;refine tY (A:=[kC k2 dG,kJ k1 dG,kM k0 gb mO,kG gb cs]) (X:=bQ (q.mv u2) d2) (S:=S) (G:=G) (Ctx.perm cx ?_);exact ((List.perm_append_comm_assoc (bQ (q.mv u2) d2) [kC k2 dG,kJ k1 dG,kM k0 gb mO,kG gb cs] (S++G)).trans ((List.perm_append_comm_assoc [kC k2 dG] [kJ k1 dG,kM k0 gb mO,kG gb cs] (bQ (q.mv u2) d2++(S++G))).trans (.append_left _ (List.perm_append_comm_assoc [kC k2 dG] (bQ (q.mv u2) d2) (S++G))))).symm
 .have eo:eZ id d=ZE id d2 j:=by rw [eO];unfold ZF;rw [ho]
  have cM:Ctx W w ([kC k2 dG,kJ k1 (pA x.jb),kM k0 gb mO,kG gb cs]++((fG x q j++bQ (q.mv u2) d2)++(S++G))) Φ:=by
   have c3:Ctx W w ([kJ k1 (pA x.jb),kM k0 gb mO,kG gb cs]++((fG x q j++bQ (q.mv u2) d2)++([kC k2 dG]++(S++G)))) Φ:=by rw [bM (fG x q j)];exact cx
   exact c3.perm (((List.perm_append_comm_assoc (fG x q j++bQ (q.mv u2) d2) [kC k2 dG] (S++G)).append_left [kJ k1 (pA x.jb),kM k0 gb mO,kG gb cs]).trans (List.perm_append_comm_assoc [kJ k1 (pA x.jb),kM k0 gb mO,kG gb cs] [kC k2 dG] _))
  refine ⟨0,rfl,kC k2 dG :: kJ k1 (pA x.jb) :: kM k0 gb mO :: kG gb cs :: (fG x q j++(bQ (q.mv u2) d2++S)),Φ,aR,by
   show Ctx W w (([kC k2 dG,kJ k1 (pA x.jb),kM k0 gb mO,kG gb cs]++(fG x q j++(bQ (q.mv u2) d2++S)))++G) Φ;simp only [bM] at cM ⊢;exact cM,λh=>absurd rfl h,λ_=>?_⟩
  refine ⟨by kernel_rfl,λw G cx=>?_⟩;have c4:Ctx W w (kC k2 dG :: kM k0 gb mO :: kG gb cs :: (bQ (q.mv u2) d2++(kJ k1 (pA x.jb) :: (fG x q j++(S++G))))) Φ:=by
   have c5:Ctx W w ([kC k2 dG,kJ k1 (pA x.jb),kM k0 gb mO,kG gb cs]++(fG x q j++(bQ (q.mv u2) d2++(S++G)))) Φ:=by
    have c6:Ctx W w (([kC k2 dG,kJ k1 (pA x.jb),kM k0 gb mO,kG gb cs]++(fG x q j++(bQ (q.mv u2) d2++S)))++G) Φ:=cx;simp only [bM] at c6 ⊢;exact c6
   refine c5.perm ?_;show (kC k2 dG :: kJ k1 (pA x.jb) :: ([kM k0 gb mO,kG gb cs]++(fG x q j++(bQ (q.mv u2) d2++(S++G))))).Perm _;refine .cons _ (((List.perm_append_comm_assoc (fG x q j) (bQ (q.mv u2) d2) (S++G)).append_left (kJ k1 (pA x.jb) :: [kM k0 gb mO,kG gb cs])).trans ?_);exact (List.perm_append_comm_assoc [kJ k1 (pA x.jb)] [kM k0 gb mO,kG gb cs] _).trans (.append_left [kM k0 gb mO,kG gb cs] (List.perm_append_comm_assoc [kJ k1 (pA x.jb)] (bQ (q.mv u2) d2) (fG x q j++(S++G))))
  have back:∀ {w:World} {v:Value} {Y:List Own},Ctx W w (kC k2 v :: kM k0 gb mO :: kG gb cs :: (Y++(bQ (q.mv u2) d2++(kJ k1 (pA x.jb) :: (fG x q j++(S++G)))))) Φ->Ctx W w ((kC k2 v :: kJ k1 (pA x.jb) :: kM k0 gb mO :: kG gb cs :: (fG x q j++(Y++(bQ (q.mv u2) d2++S))))++G) Φ:=fun {w v Y} c=>by
   have p1:(kC k2 v :: kM k0 gb mO :: kG gb cs :: (Y++(bQ (q.mv u2) d2++(kJ k1 (pA x.jb) :: (fG x q j++(S++G)))))).Perm (kC k2 v :: kJ k1 (pA x.jb) :: kM k0 gb mO :: kG gb cs :: (fG x q j++(Y++(bQ (q.mv u2) d2++(S++G))))):=by
    refine .cons _ ?_;have p2:(Y++(bQ (q.mv u2) d2++(kJ k1 (pA x.jb) :: (fG x q j++(S++G))))).Perm (kJ k1 (pA x.jb) :: (fG x q j++(Y++(bQ (q.mv u2) d2++(S++G))))):=by
     refine (((List.perm_append_comm_assoc (bQ (q.mv u2) d2) (kJ k1 (pA x.jb) :: fG x q j) (S++G)).append_left Y).trans ?_);exact List.perm_append_comm_assoc Y (kJ k1 (pA x.jb) :: fG x q j) _
    refine ((p2.append_left [kM k0 gb mO,kG gb cs]).trans ?_);exact List.perm_append_comm_assoc [kM k0 gb mO,kG gb cs] [kJ k1 (pA x.jb)] _
   have c7:=c.perm p1;show Ctx W w (([kC k2 v,kJ k1 (pA x.jb),kM k0 gb mO,kG gb cs]++(fG x q j++(Y++(bQ (q.mv u2) d2++S))))++G) Φ;simp only [bM];exact c7
  refine a95 (q:=q.mv u2) hoff hcs qZ c4 (λe w hc cx=>?_) (λc cb w hc cx=>?_)
  .have hee:e≠0:=NN hc;have e2:eZ id d=(d2,none,e):=by rw [eo];unfold ZE;rw [hc]
   have c8:Ctx W w (([kC k2 dG,kJ k1 (pA x.jb),kM k0 gb mO,kG gb cs]++(fG x q j++(bQ (q.mv u2) d2++S)))++G) Φ:=back (Y:=[]) cx;refine ⟨e,rfl,kC k2 dG :: kJ k1 (pA x.jb) :: kM k0 gb mO :: kG gb cs :: (bQ (q.mv u2) d2++S),Φ,aR,c8.sub (aVZ (.append_left (List.sublist_append_right _ _) [kC k2 dG,kJ k1 (pA x.jb),kM k0 gb mO,kG gb cs])),λ_=>⟨rfl,.inl ⟨hee,[kC k2 dG,kJ k1 (pA x.jb),kM k0 gb mO],u2,by rw [e2],by rw [e2],by rw [e2];exact qZ,by rw [e2];exact hke.trans ZU,by rw [e2];rfl⟩⟩,λh0=>absurd h0 hee⟩
  .have e2:eZ id d=(d2,some ⟨j,c,dP id (kP c).1 (kP c).2 (j.list.map oT)⟩,0):=by rw [eo];unfold ZE;rw [hc]
   refine ⟨0,rfl,_,Φ,aR,back (Y:=[fN cb q c]) cx,λh=>absurd rfl h,λ_=>⟨rfl,.inr ⟨rfl,u2,x,cb,c,d2,j,e2,hsb,qZ,hke.trans ZU,rfl⟩⟩⟩
theorem aDP[aB Φ](hoff:∀ M w,Φ M w->uW M w)(hN:∀ M w,Φ M w->wU M w){id gb mO cs q d}(hcs:cs[mO]? = some (.pointer (some ⟨q.db,0,none⟩)))(hm:mO+4<=cs.length)(hq:rW q d)(hkp:LN Φ q d)(aWe:∀ up,(eZ id d).2.1=some up->aLJ id up)(cx:Ctx W w (kG gb cs :: (bQ q d++S)) Φ){K}(hn:∀ u w',(eZ id d).2.1=none->(eZ id d).2.2≠0->rW (q.mv u) (eZ id d).1->(eZ id d).1.keep=d.keep->Ctx W w' (kG gb cs :: (bQ (q.mv u) (eZ id d).1++S)) Φ->K (.returned (.int .i64 (eZ id d).2.2)) w')(hs:∀ u x cb rb rp rc up w',(eZ id d).2.1=some up->(eZ id d).2.2=0->SB x.p x.cap up.j.list x.o->rW (q.mv u) (eZ id d).1->(eZ id d).1.keep=d.keep->Ctx W w' (kG gb (up3 cs mO x.jb cb rb) :: (aV rb up.r rp rc++(fG x q up.j++(fN cb q up.c :: (bQ (q.mv u) (eZ id d).1++S))))) Φ->K (.returned (.int .i64 0)) w'):
  aG F.rF #[.pointer (some ⟨gb,mO,none⟩),.int .i64 (id:Int)] w K:=by
 refine iO (DU gb mO (id:Int) (J:=K∘.returned) cx λk0 k1 k2 k3 w R5 cx=>?_);have c0:Ctx W w (.blk k3 (a90 [(F.gZ,#[pA k0]),(F.hY,#[pA k0,pA k1]),(F.iA,#[pA k0,pA k2])]) 258 :: (kC k2 dG :: kJ k1 dG :: kM k0 gb mO :: kG gb cs :: (bQ q d++(S++R5)))) Φ:=by
  rw [<-bM];exact cx
 refine a2J (fs:=[(F.gZ,#[pA k0]),(F.hY,#[pA k0,pA k1]),(F.iA,#[pA k0,pA k2])]) (by show 3<=1000;omega) c0 (aWd (id:=id) hoff hN hcs hq hkp) λn S' aX w hst hJ cx=>?_;obtain ⟨rfl,h|h⟩:=hJ
 .obtain ⟨hne,Bx,u,o1,o2,hq1,hke,rfl⟩:=h;refine ⟨n,rfl,kG gb cs :: (bQ (q.mv u) (eZ id d).1++S),aX,aR,by
   have c1:=cx.sub (List.sublist_append_right Bx _);rw [<-bM] at c1;exact c1,Br.intro (λh0=>absurd (fV h0) hne) (λ_=>λw G cx=>?_)⟩
  rw [<-o2];exact hn u w o1 (by rw [o2];exact hne) hq1 hke cx.left
 .obtain ⟨rfl,u,x,cb,c,d',j,eo,hsb,hq1,hke,rfl⟩:=h;have hg:=aWe _ (by rw [eo]);have h1:(eZ id d).1=d':=by rw [eo]
  have h2:(eZ id d).2.1=some ⟨j,c,dP id (kP c).1 (kP c).2 (j.list.map oT)⟩:=by rw [eo]
  have h3:(eZ id d).2.2=0:=by rw [eo]
  obtain ⟨A,hA⟩:∃ A,A=kC k2 (pA cb) :: kJ k1 (pA x.jb) :: kM k0 gb mO :: kG gb cs :: (fG x q j++(fN cb q c :: (bQ (q.mv u) d'++S))):=⟨_,rfl⟩;have sA:List.Sublist [kC k2 (pA cb),kJ k1 (pA x.jb),kM k0 gb mO] A:=by
   rw [hA];exact List.sublist_append_left [kC k2 (pA cb),kJ k1 (pA x.jb),kM k0 gb mO] _
  have e4:(dP id (kP c).1 (kP c).2 (j.list.map oT)).log=j.list.map oT:=rfl;refine ⟨0,rfl,A,aX,aR,by
   rw [hA];show Ctx W w (([kC k2 (pA cb),kJ k1 (pA x.jb),kM k0 gb mO,kG gb cs]++(fG x q j++([fN cb q c]++(bQ (q.mv u) d'++S))))++R5) aX;simp only [bM];exact cx,Br.intro (λ_=>?_) (λh0=>absurd rfl (eV h0))⟩
  refine ⟨[kC k2 (pA cb),kJ k1 (pA x.jb),kM k0 gb mO],tru,aR,λw G cx=>dM cx sA,some ⟨gb,mO,none⟩,λw G cx=>⟨_,cx.get 2 rfl rfl,rfl⟩,some ⟨gb,mO,none⟩,λw G cx=>⟨_,cx.get 2 rfl rfl,rfl⟩,some ⟨gb,mO,none⟩,λw G cx=>⟨_,cx.get 2 rfl rfl,rfl⟩,some ⟨x.jb,0,none⟩,λw G cx=>⟨_,cx.get 1 rfl rfl,rfl⟩,some ⟨cb,0,none⟩,λw G cx=>⟨_,cx.get 0 rfl rfl,rfl⟩,some ⟨cb,0,none⟩,λw G cx=>⟨_,cx.get 0 rfl rfl,rfl⟩,some ⟨x.jb,0,none⟩,λw G cx=>⟨_,cx.get 1 rfl rfl,rfl⟩,λw G cx=>?_⟩
  have pc:(A++G).Perm (fN cb q c :: ([kC k2 (pA cb),kJ k1 (pA x.jb),kM k0 gb mO,kG gb cs]++(fG x q j++(bQ (q.mv u) d'++S))++G)):=by
   rw [hA];show ((([kC k2 (pA cb),kJ k1 (pA x.jb),kM k0 gb mO,kG gb cs]++fG x q j)++(fN cb q c :: (bQ (q.mv u) d'++S)))++G).Perm (fN cb q c :: ((([kC k2 (pA cb),kJ k1 (pA x.jb),kM k0 gb mO,kG gb cs]++fG x q j)++(bQ (q.mv u) d'++S))++G));exact (List.perm_middle).append_right G
  refine aH5 hN hg.val (cx.perm pc) λw cx=>⟨_,_,rfl,A,aX,aR,cx.perm pc.symm,λw G cx=>dM cx sA,λw G cx=>?_⟩;have pj:∀ G,(A++G).Perm (fG x q j++([kC k2 (pA cb),kJ k1 (pA x.jb),kM k0 gb mO,kG gb cs]++((fN cb q c :: (bQ (q.mv u) d'++S))++G))):=λG=>by
   rw [hA];show (([kC k2 (pA cb),kJ k1 (pA x.jb),kM k0 gb mO,kG gb cs]++(fG x q j++(fN cb q c :: (bQ (q.mv u) d'++S))))++G).Perm _;rw [bM,bM (fG x q j)];exact List.perm_append_comm_assoc _ _ _
  refine a4q hN hsb hg.len hg.size hg.ok (cx.perm (pj G)) λp c2 w cx=>⟨_,_,_,rfl,A,_,aR,cx.perm (pj G).symm,λw G cx=>dM cx sA,λw G cx=>?_⟩;refine aK6 cx (id:Int) (kP c).1 (kP c).2 (j.list.map oT) p c2 (λM w h=>h.2) (by have:j.list.length<=1000000:=hg.len;rw [List.length_map];omega) (λh0=>by
   have:=hg.new;rw [show N6 id (dP id (kP c).1 (kP c).2 (j.list.map oT)).term (dP id (kP c).1 (kP c).2 (j.list.map oT)).aK (dP id (kP c).1 (kP c).2 (j.list.map oT)).log=N6 id (kP c).1 (kP c).2 (j.list.map oT) from rfl,h0] at this;cases this) (λ_ rb rp rc w cx=>?_)
  rw [Int.toNat_natCast] at cx;obtain ⟨r,hr⟩:∃ r,dP id (kP c).1 (kP c).2 (j.list.map oT)=r:=⟨_,rfl⟩;rw [hr] at cx h2;obtain ⟨JG,aP2⟩:∃ JG:PW,JG=λM w=>aX M w/\Sl M w p (j.list.map oT):=⟨_,rfl⟩
  haveI:aB JG:=by rw [aP2];infer_instance
  have EP:∀ M w,JG M w->aX M w:=by rw [aP2];exact λM w h=>h.1
  rw [<-aP2] at cx
  let Z:List Value->List Own:=λcs=>kC k2 (pA cb) :: kJ k1 (pA x.jb) :: kM k0 gb mO :: kG gb cs :: (fG x q j++(fN cb q c :: (bQ (q.mv u) d'++S)))
  have sZ:∀ cs,List.Sublist [kC k2 (pA cb),kJ k1 (pA x.jb),kM k0 gb mO] (aV rb r rp rc++Z cs):=λcs=>(List.sublist_append_left [kC k2 (pA cb),kJ k1 (pA x.jb),kM k0 gb mO] _).trans (List.sublist_append_right _ _);refine ⟨_,rfl,aV rb r rp rc++Z cs,JG,aR,by rw [hA] at cx;exact cx,λw G cx=>dM cx (sZ _),bF gb mO rfl λw G cx=>⟨cx.can 5 rfl (by omega),λw' hw'=>⟨aV rb r rp rc++Z (cs.set (mO+1) (pA x.jb)),JG,aR,cx.put 5 hw' rfl,λw G cx=>dM cx (sZ _),bF gb mO rfl λw G cx=>⟨cx.can 5 rfl (by rw [List.length_set];omega),λw' hw'=>⟨aV rb r rp rc++Z ((cs.set (mO+1) (pA x.jb)).set (mO+2) (pA cb)),JG,aR,cx.put 5 hw' rfl,λw G cx=>dM cx (sZ _),bF gb mO rfl λw G cx=>⟨cx.can 5 rfl (by rw [List.length_set,List.length_set];omega),λw' hw'=>⟨aV rb r rp rc++Z (up3 cs mO x.jb cb rb),JG,aR,cx.put 5 hw' rfl,λw G cx=>?_⟩⟩⟩⟩⟩⟩⟩
  refine hs u x cb rb rp rc ⟨j,c,r⟩ w h2 h3 hsb (by rw [h1];exact hq1) (by rw [h1];exact hke) ?_;rw [h1];have c9:Ctx W w (aV rb r rp rc++(kG gb (up3 cs mO x.jb cb rb) :: (fG x q j++(fN cb q c :: (bQ (q.mv u) d'++S))))) JG:=by
   refine (Ctx.left cx).sub ?_;show List.Sublist (aV rb r rp rc++(kG gb (up3 cs mO x.jb cb rb) :: _)) (aV rb r rp rc++(kC k2 (pA cb) :: kJ k1 (pA x.jb) :: kM k0 gb mO :: kG gb (up3 cs mO x.jb cb rb) :: _));exact List.Sublist.append_left (((List.Sublist.refl _).cons _).cons _ |>.cons _) _
  exact (c9.weak EP).perm (List.perm_middle)
end
structure Node where
 rep:dH
 AB:Int
 LO:Int
 QW:List bH
 stop:Int
structure Cl where
 nd:Nat->Node
 sent:List bA
def a97(i:Nat)(n:Node):Node:={ n with stop:=0,rep:=dP i n.AB n.LO n.QW }
def a7p(n:Node)(o:kR):Node:=if o.save=true then { n with AB:=o.term,LO:=o.aK } else n
def qG(n:Node)(o:kR):Node:=if 0<o.src then { n with QW:=n.QW.take (min (o.src - 1) (n.QW.length:Int)).toNat++o.aE } else n
def mJ(C:Cl)(i:Nat):Cl:={ C with nd:=put C.nd i (a97 i (C.nd i)) }
def a98(C:Cl)(i:Nat)(r:dH):Cl:={ C with nd:=put C.nd i { C.nd i with rep:=r } }
def aNt(C:Cl)(i:Nat)(o:kR):Cl :=
 if (C.nd i).stop=1 then mJ C i
 else
  let C1:Cl:={ C with nd:=put C.nd i (qG (a7p (C.nd i) o) o) }
  if (C.nd i).stop=2 then mJ C1 i
  else { C1 with sent:=C.sent++o.send.take (300 - C.sent.length) }
def vV(n m:Int):Int:=if m<1 then 0 else n.emod m
theorem aH6{n m}(h:0<m):0<=vV n m/\vV n m<m:=by
 unfold vV;rw [if_neg (by omega)];exact ⟨Int.emod_nonneg _ (by omega),Int.emod_lt_of_pos _ h⟩
structure OpR where
 op:Int
 who:Int
 n:Int
 data:ByteArray
instance:Gv OpR:=Gv.via (β:=Int × Int × Int × ByteArray) (λx=>(x.op,x.who,x.n,x.data)) (λy=>⟨y.1,y.2.1,y.2.2.1,y.2.2.2⟩) (λ_=>rfl)
theorem aS{α}(f:Nat->α)(i x):put f i x i=x:=if_pos rfl
theorem bG{α}(f:Nat->α){i j}(x)(h:j≠i):put f i x j=f j:=if_neg h
theorem aH7{α}(f:Nat->α)(i):put f i (f i)=f:=by
 funext j;unfold put;split
 .rename_i h;rw [h]
 .rfl
structure dH.Wf(r:dH):Prop where
 ok:r.Ok
 one:r.role≠0->1<=r.term
structure Fits(r r':dH)(o:kR):Prop where
 id:r'.id=r.id
 save:o.save=true->o.term=r'.term/\o.aK=r'.aK
 keep:o.save=false->r'.term=r.term/\r'.aK=r.aK
 log:0<o.src->r'.log=r.log.take (min (o.src - 1) (r.log.length:Int)).toNat++o.aE
 same:¬ 0<o.src->r'.log=r.log
 term:r.term<=r'.term
theorem Fits.refl(r):Fits r r jS:=⟨rfl,λh=>(by cases h),λ_=>⟨rfl,rfl⟩,λh=>(by cases h),λ_=>rfl,Int.le_refl _⟩
theorem IQ{l t}(h:kH l t)(k):kH (l.take k) t :=
 ⟨λx hx=>h.lo x (List.mem_of_mem_take hx),λx hx=>h.hi x (List.mem_of_mem_take hx),λx hx=>h.data x (List.mem_of_mem_take hx),λi j hij hj hi=>by
  rw [List.getElem_take,List.getElem_take];exact h.N1 i j hij (by simp at hj;omega) (by simp at hi;omega)⟩
theorem a99{a b t}(ha:kH a t)(hb:kH b t)(h:∀ x∈a,∀ y∈b,x.term<=y.term):kH (a++b) t:=by
 refine ⟨λx hx=>?_,λx hx=>?_,λx hx=>?_,λi j hij hj hi=>?_⟩
 .rcases List.mem_append.1 hx with hx|hx
  .exact ha.lo x hx
  .exact hb.lo x hx
 .rcases List.mem_append.1 hx with hx|hx
  .exact ha.hi x hx
  .exact hb.hi x hx
 .rcases List.mem_append.1 hx with hx|hx
  .exact ha.data x hx
  .exact hb.data x hx
 .rw [List.length_append] at hj hi;by_cases hja:j<a.length
  .rw [List.getElem_append_left hja,List.getElem_append_left (by omega)];exact ha.N1 i j hij hja (by omega)
  .rw [List.getElem_append_right (show a.length<=j by omega)];by_cases hia:i<a.length
   .rw [List.getElem_append_left hia];exact h _ (List.getElem_mem hia) _ (List.getElem_mem _)
   .rw [List.getElem_append_right (show a.length<=i by omega)];exact hb.N1 (i - a.length) (j - a.length) (by omega) (by omega) (by omega)
theorem TG{l t u}(h:kH l t)(hu:t<=u):kH l u:=⟨h.lo,λx hx=>Int.le_trans (h.hi x hx) hu,h.data,h.N1⟩
theorem UT{l t}(h:kH l t)(k):kH (l.drop k) t :=
 ⟨λx hx=>h.lo x (List.mem_of_mem_drop hx),λx hx=>h.hi x (List.mem_of_mem_drop hx),λx hx=>h.data x (List.mem_of_mem_drop hx),λi j hij hj hi=>by
  rw [List.getElem_drop,List.getElem_drop];exact h.N1 (k+i) (k+j) (by omega) (by simp at hj;omega) (by simp at hi;omega)⟩
theorem a4r{id}{m:bA}(h:m.fY id):kH m.aE m.term/\∀ x∈m.aE,m.prev<=x.term:=by
 obtain ⟨h1,h2⟩:=Z3 _ _ _ h.sound;exact ⟨⟨λx hx=>by have:=(h1 x hx).1;omega,λx hx=>(h1 x hx).2.1,λx hx=>(h1 x hx).2.2,h2⟩,λx hx=>by have:=(h1 x hx).1;omega⟩
theorem aLK{l t}(h:kH l t){k}(hk:k<=l.length):∀ x∈l.take k,x.term<=aU l k:=by
 intro x hx;obtain ⟨i,hi,rfl⟩:=List.getElem_of_mem hx;rw [List.length_take] at hi;rw [List.getElem_take];obtain ⟨j,rfl⟩:∃ j,k=j+1:=⟨k - 1,by omega⟩;rw [gR (by omega)];exact h.N1 i j (by omega) (by omega) (by omega)
theorem uY:∀ (a b:List bH) (i:Nat),i<agree a b->∃ (ha:i<a.length) (hb:i<b.length),a[i].term=b[i].term
 | [],b,i,h=>by cases b<;>simp [agree] at h
 | x :: a,[],i,h=>by simp [agree] at h
 | x :: a,y :: b,i,h=>by
  unfold agree at h;split at h
  .rename_i hxy;cases i with
   | zero=>exact ⟨by simp,by simp,by simpa using hxy⟩
   | succ i =>
    obtain ⟨h1,h2,h3⟩:=uY a b i (by omega);exact ⟨by simp;omega,by simp;omega,by simpa using h3⟩
  .omega
theorem aAa{r}(hr:r.Ok){m:bA}(hm:m.fY r.id)(ht:¬ m.term<r.term)(hle:m.index.toNat<=r.log.length)(hp:aU r.log m.index.toNat=m.prev):kH (r.log.take (m.index.toNat+eM r m)++m.aE.drop (eM r m)) m.term:=by
 obtain ⟨h1,h2⟩:=a4r hm;have hk:=HR (r.log.drop m.index.toNat) m.aE;rw [List.length_drop] at hk;refine a99 (TG (IQ hr.log _) (by omega)) (UT h1 _) λx hx y hy=>?_;have aHb:m.index.toNat+eM r m<=r.log.length:=by unfold eM;omega
 have hx:=aLK hr.log aHb x hx;refine Int.le_trans hx ?_;obtain ⟨j,hj,rfl⟩:=List.getElem_of_mem hy;rw [List.getElem_drop];have hj2:eM r m+j<m.aE.length:=by rw [List.length_drop] at hj;omega
 by_cases hz:eM r m=0
 .have e:aU r.log (m.index.toNat+eM r m)=m.prev:=by rw [hz,Nat.add_zero,hp]
  rw [e];exact h2 _ (List.getElem_mem _)
 .obtain ⟨i,hi⟩:∃ i,eM r m=i+1:=⟨eM r m - 1,by omega⟩;obtain ⟨a1,a2,a3⟩:=uY (r.log.drop m.index.toNat) m.aE i (by unfold eM at hi;omega);rw [List.getElem_drop] at a3;have e:aU r.log (m.index.toNat+eM r m)=m.aE[i].term:=by
   rw [hi,show m.index.toNat+(i+1)=m.index.toNat+i+1 by omega,gR (by omega),a3]
  rw [e];exact h1.N1 i (eM r m+j) (by omega) hj2 a2
theorem OO{r}{m:bA}(hle:m.index.toNat<=r.log.length):(r.log.take (m.index.toNat+eM r m)++m.aE.drop (eM r m)).length=m.index.toNat+m.aE.length:=by
 have hk:=HR (r.log.drop m.index.toNat) m.aE;have hk2:=HQ (r.log.drop m.index.toNat) m.aE;rw [List.length_drop] at hk;rw [List.length_append,List.length_take,List.length_drop];unfold eM;omega
theorem aLL{r}(h:r.Wf){m}(h1:0<=m.src/\m.src<=2):(cX r m).1.Wf/\(cX r m).1.id=r.id/\(cX r m).1.term=r.term/\(cX r m).1.log=r.log/\(cX r m).2.src=0:=by
 unfold cX;split
 .exact ⟨⟨⟨h.ok.id,h.ok.kK,h.ok.iD,by show -1<=m.src;omega,h1.2,h.ok.log,h.ok.len,h.ok.role,h.ok.aD,h.ok.next,h.ok.bound⟩,h.one⟩,rfl,rfl,rfl,rfl⟩
 .exact ⟨h,rfl,rfl,rfl,rfl⟩
theorem aH8{r}(h:r.Wf){m}:(cU r m).1.Wf/\(cU r m).1.id=r.id/\(cU r m).1.term=r.term/\(cU r m).1.aK=r.aK/\(cU r m).1.log=r.log/\(cU r m).2.src=0:=by
 by_cases hc:(decide (r.role≠1)||decide (m.term≠r.term) || !m.yes)=true
 .rw [y9 hc];exact ⟨h,rfl,rfl,rfl,rfl,rfl⟩
 have hc:(decide (r.role≠1)||decide (m.term≠r.term) || !m.yes)=false:=by simpa using hc
 have cP:r.role=1:=by simp only [Bool.or_eq_false_iff,decide_eq_false_iff_not] at hc;exact Decidable.not_not.1 hc.1.1
 by_cases h2:kF (fX r m).bX<2
 .rw [tQ hc h2];exact ⟨⟨⟨h.ok.id,h.ok.kK,h.ok.iD,h.ok.y6,h.ok.y7,h.ok.log,h.ok.len,h.ok.role,h.ok.aD,h.ok.next,h.ok.bound⟩,h.one⟩,rfl,rfl,rfl,rfl,rfl⟩
 .rw [nG hc h2];exact ⟨⟨a34 h.ok m,λ_=>h.one (by rw [cP];decide)⟩,rfl,rfl,rfl,rfl,rfl⟩
theorem AD{r}(h:r.Wf){m}(hi:0<=m.index):(aW r m).1.Wf/\(aW r m).1.id=r.id/\(aW r m).1.term=r.term/\(aW r m).1.aK=r.aK/\(aW r m).1.log=r.log/\(aW r m).2.src=0:=by
 by_cases hc:(decide (r.role≠2)||decide (m.term≠r.term)||m.yes&&decide ((r.log.length:Int)<m.index))=true
 .rw [nH hc];exact ⟨h,rfl,rfl,rfl,rfl,rfl⟩
 have hc:(decide (r.role≠2)||decide (m.term≠r.term)||m.yes&&decide ((r.log.length:Int)<m.index))=false:=by simpa using hc
 have cP:r.role=2:=by simp only [Bool.or_eq_false_iff,decide_eq_false_iff_not] at hc;exact Decidable.not_not.1 hc.1.1
 cases hy:m.yes with
 | false =>
  rw [jN hc hy];exact ⟨⟨aBA h.ok cP m,h.one⟩,rfl,rfl,rfl,rfl,rfl⟩
 | true =>
  rw [jF hc hy];have hix:m.index.toNat<=r.log.length:=by
   simp only [Bool.or_eq_false_iff,decide_eq_false_iff_not,hy,Bool.true_and] at hc;have:=hc.2;omega
  have ha:=aHa (aG9 h.ok cP m hix) cP;obtain ⟨e1,e2,e3,e4,e5,e6,e7⟩:=vN (dQ r m);have hw:(aQ (dQ r m)).Wf:=⟨ha,λ_=>by rw [e6];exact h.one (by rw [cP];decide)⟩;split
  .exact ⟨hw,e5,e6,e7,e2,rfl⟩
  .exact ⟨hw,e5,e6,e7,e2,rfl⟩
theorem aH9{r}(h:r.Wf):(vO r).Wf:=⟨⟨h.ok.id,h.ok.kK,h.ok.iD,h.ok.y6,h.ok.y7,h.ok.log,h.ok.len,.inl rfl,h.ok.aD,λhr=>(by cases (show (0:Int)=2 from hr)),h.ok.bound⟩,λhr=>absurd rfl hr⟩
theorem aDQ{r}(h:r.Wf){m}(hm:m.fY r.id)(heq:m.term<=r.term):(b9 r m).1.Wf/\(b9 r m).1.id=r.id/\(b9 r m).1.term=r.term/\(b9 r m).1.aK=r.aK /\
  (0<(b9 r m).2.src->(b9 r m).1.log=r.log.take (min ((b9 r m).2.src - 1) (r.log.length:Int)).toNat++(b9 r m).2.aE)/\(¬ 0<(b9 r m).2.src->(b9 r m).1.log=r.log)/\(b9 r m).2.save=false:=by
 by_cases h1:m.term<r.term
 .rw [pY h1];exact ⟨h,rfl,rfl,rfl,λh=>(by cases h),λ_=>rfl,rfl⟩
 by_cases h2:r.role=2
 .rw [nJ h1 h2];exact ⟨h,rfl,rfl,rfl,λh=>(by cases h),λ_=>rfl,rfl⟩
 by_cases h3:(decide ((r.log.length:Int)<m.index)||decide (aU r.log m.index.toNat≠m.prev))=true
 .rw [pZ h1 h2 h3];exact ⟨aH9 h,rfl,rfl,rfl,λh=>(by cases h),λ_=>rfl,rfl⟩
 have h3:(decide ((r.log.length:Int)<m.index)||decide (aU r.log m.index.toNat≠m.prev))=false:=by simpa using h3
 have hm1:=hm.index;have hm2:=hm.aD;obtain ⟨hle,hp⟩:m.index.toNat<=r.log.length/\aU r.log m.index.toNat=m.prev:=by
  simp only [Bool.or_eq_false_iff,decide_eq_false_iff_not] at h3;exact ⟨by omega,Decidable.not_not.1 h3.2⟩
 have hk:=HR (r.log.drop m.index.toNat) m.aE;have hk2:=HQ (r.log.drop m.index.toNat) m.aE;rw [List.length_drop] at hk;by_cases h4:eM r m<m.aE.length
 .by_cases h5:m.index.toNat+eM r m+1<=r.aD
  .rw [nK h1 h2 h3 h4 h5];exact ⟨aH9 h,rfl,rfl,rfl,λh=>(by cases h),λ_=>rfl,rfl⟩
  .rw [nL h1 h2 h3 h4 h5];have hs:=aAa h.ok hm h1 hle hp;have hl:=OO (r:=r) (m:=m) hle;have hft:=hm.fits;refine ⟨⟨⟨h.ok.id,h.ok.kK,h.ok.iD,h.ok.y6,h.ok.y7,TG hs heq,?_,.inl rfl,?_,λhr=>(by cases (show (0:Int)=2 from hr)),h.ok.bound⟩,λhr=>absurd rfl hr⟩,rfl,rfl,rfl,λ_=>?_,λhn=>?_,rfl⟩
   .show (r.log.take (m.index.toNat+eM r m)++m.aE.drop (eM r m)).length<=4000;omega
   .show a1m r m<=(r.log.take (m.index.toNat+eM r m)++m.aE.drop (eM r m)).length;rw [hl];unfold a1m;omega
   .show r.log.take (m.index.toNat+eM r m)++m.aE.drop (eM r m)=r.log.take (min (((m.index.toNat+eM r m+1:Nat):Int) - 1) (r.log.length:Int)).toNat++m.aE.drop (eM r m)
    congr 2
    unfold eM;omega
   .exfalso;apply hn;show (0:Int)<((m.index.toNat+eM r m+1:Nat):Int);omega
 .rw [kV h1 h2 h3 h4];have hcm:=h.ok.aD;refine ⟨⟨⟨h.ok.id,h.ok.kK,h.ok.iD,h.ok.y6,h.ok.y7,h.ok.log,h.ok.len,.inl rfl,?_,λhr=>(by cases (show (0:Int)=2 from hr)),h.ok.bound⟩,λhr=>absurd rfl hr⟩,rfl,rfl,rfl,λh=>(by cases h),λ_=>rfl,rfl⟩;show a1m r m<=r.log.length;unfold a1m;unfold eM at h4;omega
theorem aBU{r}(h:r.Wf){m}(hm:m.fY r.id)(ht:r.term<m.term):(QD r m).Wf:=⟨aNk h.ok m hm ht,λhr=>absurd rfl hr⟩
theorem QX{r x}(h1:x.1.id=r.id)(h2:r.term<=x.1.term)(hs:x.2.save=false)(hl:0<x.2.src->x.1.log=r.log.take (min (x.2.src - 1) (r.log.length:Int)).toNat++x.2.aE)(hn:¬ 0<x.2.src->x.1.log=r.log):Fits r (yA r x).1 (yA r x).2:=by
 unfold yA;split
 .rename_i he;simp only [Bool.and_eq_true,decide_eq_true_eq] at he;exact ⟨h1,λh=>(by rw [hs] at h;cases h),λ_=>he,hl,hn,h2⟩
 .exact ⟨h1,λ_=>⟨rfl,rfl⟩,λh=>(by cases h),hl,hn,h2⟩
theorem AE{r x}:(yA r x).1=x.1:=by unfold yA;split<;>rfl
theorem ZV{r x}:(yA r x).2.send=x.2.send:=by unfold yA;split<;>rfl
theorem aDR(r m):(cX r m).2.save=false:=by unfold cX;split<;>rfl
theorem aAb(r m):(cU r m).2.save=false:=by
 unfold cU;split
 .rfl
 .simp only;split<;>rfl
theorem a1t(r m):(aW r m).2.save=false:=by
 unfold aW;split
 .rfl
 .simp only;split
  .rfl
  .split<;>rfl
theorem lQ{r}(h:r.Wf){m}:(aT r m).1.Wf/\Fits r (aT r m).1 (aT r m).2:=by
 cases hy:gQ r.id m with
 | false=>rw [pS hy];exact ⟨h,Fits.refl r⟩
 | true =>
  rw [nM hy];have hm:=gU.1 hy;obtain ⟨r1,HP,hw1,ht1,aDS,aBV,b1q⟩:∃ r1,(if r.term<m.term then QD r m else r)=r1/\r1.Wf/\r.term<=r1.term/\r1.id=r.id/\r1.log=r.log/\m.term<=r1.term:=by
   split
   .rename_i ht;exact ⟨_,rfl,aBU h hm ht,by show r.term<=m.term;omega,rfl,rfl,Int.le_refl _⟩
   .rename_i ht;exact ⟨_,rfl,h,Int.le_refl _,rfl,rfl,by omega⟩
  rw [HP];have hm1:m.fY r1.id:=by rw [aDS];exact hm
  unfold dJ;split
  .obtain ⟨a1,a2,a3,a4,a5⟩:=aLL hw1 (m:=m) hm.src.2;exact ⟨by rw [AE];exact a1,QX (by rw [a2,aDS]) (by rw [a3];exact ht1) (aDR _ _) (λhh=>by rw [a5] at hh;cases hh) (λ_=>by rw [a4,aBV])⟩
  .split
   .obtain ⟨a1,a2,a3,a4,a5,a6⟩:=aH8 hw1 (m:=m);exact ⟨by rw [AE];exact a1,QX (by rw [a2,aDS]) (by rw [a3];exact ht1) (aAb _ _) (λhh=>by rw [a6] at hh;cases hh) (λ_=>by rw [a5,aBV])⟩
   .split
    .obtain ⟨a1,a2,a3,a4,a5,a6,a7⟩:=aDQ hw1 hm1 b1q;rw [aBV] at a5 a6;exact ⟨by rw [AE];exact a1,QX (by rw [a2,aDS]) (by rw [a3];exact ht1) a7 a5 a6⟩
    .obtain ⟨a1,a2,a3,a4,a5,a6⟩:=AD hw1 (m:=m) hm.index.1;exact ⟨by rw [AE];exact a1,QX (by rw [a2,aDS]) (by rw [a3];exact ht1) (a1t _ _) (λhh=>by rw [a6] at hh;cases hh) (λ_=>by rw [a5,aBV])⟩
theorem WA{r}(h:r.Wf):(cV r).1.Wf/\Fits r (cV r).1 (cV r).2:=by
 by_cases h1:r.role=2
 .rw [j6 h1];exact ⟨h,Fits.refl r |>.id,λh=>(by cases h),λ_=>⟨rfl,rfl⟩,λh=>(by cases h),λ_=>rfl,Int.le_refl _⟩
 by_cases h2:r.term=1099511627776
 .rw [HN h1 h2];exact ⟨h,Fits.refl r⟩
 rw [CD h1 h2];have:=h.ok.kK;exact ⟨⟨a30 h.ok h1 h2,λ_=>by show 1<=r.term+1;omega⟩,rfl,λ_=>⟨rfl,rfl⟩,λh=>(by cases h),λh=>(by cases h),λ_=>rfl,by show r.term<=r.term+1;omega⟩
theorem qA{r}(h:r.Wf)(data):(aF r data).1.Wf/\Fits r (aF r data).1 (aF r data).2.2.2:=by
 by_cases h1:r.role≠2
 .rw [wT h1];exact ⟨h,Fits.refl r⟩
 by_cases h2:2000<(data.size:Int)
 .rw [uR h1 h2];exact ⟨h,Fits.refl r⟩
 by_cases h3:r.log.length=4000
 .rw [qI h1 h2 h3];exact ⟨h,Fits.refl r⟩
 rw [rL h1 h2 h3];have hr:r.role=2:=Decidable.not_not.1 h1;refine ⟨⟨a6F h.ok hr (h.one (by rw [hr];decide)) h2 h3,h.one⟩,rfl,λh=>(by cases h),λ_=>⟨rfl,rfl⟩,λ_=>?_,λhn=>?_,Int.le_refl _⟩
 .show r.log++[⟨r.term,data⟩]=r.log.take (min (((r.log.length+1:Nat):Int) - 1) (r.log.length:Int)).toNat++[⟨r.term,data⟩];rw [show (min (((r.log.length+1:Nat):Int) - 1) (r.log.length:Int)).toNat=r.log.length by omega,List.take_length]
 .exfalso;apply hn;show (0:Int)<((r.log.length+1:Nat):Int);omega
theorem aAc{i t v l}(hi:i<=2)(h0:0<=t)(hM:t<=1099511627776)(hv0 : -1<=v)(hvM:v<=2)(hl:kH l t)(hlen:l.length<=4000):(dP i t v l).Wf :=
 ⟨⟨hi,h0,hM,hv0,hvM,hl,hlen,.inl rfl,Nat.zero_le _,λhr=>(by cases (show (0:Int)=2 from hr)),λi=>⟨by show 0<=4001;omega,by show 0<=4000;omega⟩⟩,λhr=>absurd rfl hr⟩
theorem TH:∀ (l:List bH) (least most:Int),(∀ x∈l,least<=x.term)->(∀ x∈l,x.term<=most)->(∀ x∈l,x.data.size<=2000)->(∀ i j,i<=j->(hj:j<l.length)->(hi:i<l.length)->l[i].term<=l[j].term)->oR l least most=true
 | [],_,_,_,_,_,_=>rfl
 | x :: l,least,most,h1,h2,h3,h4=>by
  unfold oR;rw [if_neg]
  .refine TH l x.term most (λy hy=>?_) (λy hy=>h2 y (List.mem_cons_of_mem _ hy)) (λy hy=>h3 y (List.mem_cons_of_mem _ hy)) (λi j hij hj hi=>?_)
   .obtain ⟨j,hj,rfl⟩:=List.getElem_of_mem hy;exact h4 0 (j+1) (by omega) (by simp;omega) (by simp)
   .exact h4 (i+1) (j+1) (by omega) (by simp;omega) (by simp;omega)
  .have a:=h1 x (by simp);have b:=h2 x (by simp);have c:=h3 x (by simp);simp only [Bool.or_eq_true,decide_eq_true_eq,not_or];omega
theorem aLM{i:Nat}{r:dH}(hi:i<=2)(h:r.Ok):N6 i r.term r.aK r.log=true:=by
 have h1:=h.kK;have h2:=h.iD;have h3:=h.y6;have h4:=h.y7;have h5:=h.len;unfold N6;rw [TH r.log 1 r.term h.log.lo h.log.hi h.log.data h.log.N1,Bool.and_true];simp only [Bool.and_eq_true,decide_eq_true_eq];omega
theorem a4s{α}(f:Nat->α)(i x y):put (put f i x) i y=put f i y:=by
 funext j;unfold put;split<;>rfl
structure Small(o:kR):Prop where
 aE:o.aE.length<=4000
 src:o.src<=4001
 send:o.send.length<=2
theorem IU:Small jS:=⟨by simp,by simp,by simp⟩
theorem E7{l}(h:l.length<=2):Small (mI l):=⟨by simp,by simp,h⟩
theorem WB(r):(bL r).length<=2:=by unfold bL;rw [List.length_map,pX];exact Nat.le_refl _
theorem aAd(r):Small (cV r).2:=by
 unfold cV;split
 .exact E7 (WB r)
 split
 .exact IU
 .exact ⟨by simp,by simp,by simp [pX]⟩
theorem aAe(r m):Small (cX r m).2:=by
 unfold cX;split
 .exact E7 (by simp)
 .exact E7 (by simp)
theorem a7q(r m):Small (cU r m).2:=by
 unfold cU;split
 .exact IU
 .simp only;split
  .exact IU
  .exact E7 (WB _)
theorem a4t(r){m:bA}(h1:m.aE.length<=8)(h2:m.index+m.aE.length<=4000)(h3:0<=m.index):Small (b9 r m).2:=by
 unfold b9;split
 .exact E7 (by simp)
 split
 .exact IU
 simp only;split
 .exact E7 (by simp)
 split
 .rename_i hk;split
  .exact IU
  .exact ⟨by simp;omega,by simp only;omega,by simp⟩
 .exact E7 (by simp)
theorem ZW(r m):Small (aW r m).2:=by
 unfold aW;split
 .exact IU
 simp only;split
 .exact E7 (by simp)
 split
 .exact E7 (by simp)
 .exact IU
theorem aDT{r x}(h:Small x.2):Small (yA r x).2:=by
 unfold yA;split
 .exact h
 .exact ⟨h.aE,h.src,h.send⟩
theorem ZX(r m):Small (aT r m).2:=by
 cases hy:gQ r.id m with
 | false=>rw [pS hy];exact IU
 | true =>
  have hm:=gU.1 hy;rw [nM hy];refine aDT ?_;unfold dJ;split
  .exact aAe _ m
  split
  .exact a7q _ m
  split
  .exact a4t _ hm.len hm.fits hm.index.1
  .exact ZW _ m
structure Cl.Wf(C:Cl):Prop where
 rep:∀ i,i<3->(C.nd i).rep.Wf/\(C.nd i).rep.id=i
 NO:∀ i,i<3->(C.nd i).AB=(C.nd i).rep.term/\(C.nd i).LO=(C.nd i).rep.aK/\(C.nd i).QW=(C.nd i).rep.log
 stop:∀ i,i<3->(C.nd i).stop=0\/(C.nd i).stop=1\/(C.nd i).stop=2
 sent:0<=C.sent.length
def UU(n:Node)(r:dH):Node:=⟨r,r.term,r.aK,r.log,n.stop⟩
def CO(C:Cl)(i:Nat)(r:dH):Cl:={ C with nd:=put C.nd i (UU (C.nd i) r) }
def LP(C:Cl)(i:Nat)(x:dH × kR):Cl:=aNt (a98 C i x.1) i x.2
theorem aDU{n r o}(h1:n.AB=n.rep.term)(h2:n.LO=n.rep.aK)(h3:n.QW=n.rep.log)(hf:Fits n.rep r o):qG (a7p { n with rep:=r } o) o=UU n r:=by
 have hs:a7p { n with rep:=r } o=⟨r,r.term,r.aK,n.QW,n.stop⟩:=by
  unfold a7p;cases hsv:o.save with
  | true=>obtain ⟨a,b⟩:=hf.save hsv;rw [if_pos rfl,a,b]
  | false=>obtain ⟨a,b⟩:=hf.keep hsv;rw [if_neg (by simp),h1,h2,<-a,<-b]
 rw [hs];unfold qG UU;by_cases hp:0<o.src
 .rw [if_pos hp,hf.log hp,<-h3]
 .rw [if_neg hp,hf.same hp,<-h3]
theorem aDV(C i r):mJ (a98 C i r) i=mJ C i:=by
 unfold mJ a98;simp only [a4s,aS];rfl
theorem E8{C}(h:C.Wf){i}(hi:i<3){x}(hf:Fits (C.nd i).rep x.1 x.2):
  LP C i x=if (C.nd i).stop=1 then mJ C i else if (C.nd i).stop=2 then mJ (CO C i x.1) i else { CO C i x.1 with sent:=C.sent++x.2.send.take (300 - C.sent.length) }:=by
 obtain ⟨h1,h2,h3⟩:=h.NO i hi;have hn:(a98 C i x.1).nd i={ C.nd i with rep:=x.1 }:=aS _ _ _;have hk:put (a98 C i x.1).nd i (qG (a7p ((a98 C i x.1).nd i) x.2) x.2)=(CO C i x.1).nd:=by
  rw [hn,aDU h1 h2 h3 hf];unfold a98 CO;simp only [a4s]
 unfold LP aNt;simp only [hk];rw [aDV,hn];rfl
theorem ZY{C}(h:C.Wf){i}(hi:i<3):(mJ C i).Wf:=by
 obtain ⟨h1,h2,h3⟩:=h.NO i hi;obtain ⟨hw,hid⟩:=h.rep i hi;have a7r:(mJ C i).nd i=a97 i (C.nd i):=aS _ _ _;have hne:∀ j,j≠i->(mJ C i).nd j=C.nd j:=λj hj=>bG _ _ hj;refine ⟨λj hj=>?_,λj hj=>?_,λj hj=>?_,h.sent⟩;all_goals
  by_cases hji:j=i
  .subst hji;rw [a7r];unfold a97;first
    | exact ⟨aAc (by omega) (by rw [h1];exact hw.ok.kK) (by rw [h1];exact hw.ok.iD) (by rw [h2];exact hw.ok.y6) (by rw [h2];exact hw.ok.y7) (by rw [h1,h3];exact hw.ok.log) (by rw [h3];exact hw.ok.len),rfl⟩
    | exact ⟨rfl,rfl,rfl⟩
    | exact .inl rfl
  .rw [hne j hji];first
    | exact h.rep j hj
    | exact h.NO j hj
    | exact h.stop j hj
theorem WC{C}(h:C.Wf){i}(hi:i<3){r}(hr:r.Wf)(hid:r.id=i):(CO C i r).Wf:=by
 have a7r:(CO C i r).nd i=UU (C.nd i) r:=aS _ _ _;have hne:∀ j,j≠i->(CO C i r).nd j=C.nd j:=λj hj=>bG _ _ hj;refine ⟨λj hj=>?_,λj hj=>?_,λj hj=>?_,h.sent⟩;all_goals
  by_cases hji:j=i
  .subst hji;rw [a7r];unfold UU;first
    | exact ⟨hr,hid⟩
    | exact ⟨rfl,rfl,rfl⟩
    | exact h.stop j hj
  .rw [hne j hji];first
    | exact h.rep j hj
    | exact h.NO j hj
    | exact h.stop j hj
theorem aLN{C}(h:C.Wf){i}(hi:i<3){x}(hx:x.1.Wf)(hf:Fits (C.nd i).rep x.1 x.2):(LP C i x).Wf:=by
 rw [E8 h hi hf];have hh:(CO C i x.1).Wf:=WC h hi hx (by rw [hf.id];exact (h.rep i hi).2);split
 .exact ZY h hi
 split
 .exact ZY hh hi
 .refine ⟨hh.rep,hh.NO,hh.stop,?_⟩;have:=h.sent;simp only [List.length_append,List.length_take];omega
def aWg{α:Type}(l:List α)(n:Nat):List α:=l.take n++l.drop (n+1)
def IV(C:Cl)(n:Nat):Cl:={ C with sent:=aWg C.sent n }
def lR(C:Cl)(m:bA):Cl:=LP C (vV m.to 3).toNat (aT (C.nd (vV m.to 3).toNat).rep m)
def wZ(C:Cl)(n:Int)(keep:Bool):Cl :=
 match C.sent[(vV n C.sent.length).toNat]? with
 | none=>C
 | some m=>lR (if keep then C else IV C (vV n C.sent.length).toNat) m
theorem a4u{C}(h:C.Wf){n}(hn:n<C.sent.length):(IV C n).Wf :=
 ⟨h.rep,h.NO,h.stop,Nat.zero_le _⟩
theorem a7s{C n keep}{j:Nat}{m}(hj:vV n C.sent.length=j)(hm:C.sent[j]? = some m):wZ C n keep=lR (if keep then C else IV C j) m:=by
 unfold wZ;rw [hj,Int.toNat_natCast,hm]
def aWh(C:Cl)(i:Nat):Cl:=LP C i (cV (C.nd i).rep)
theorem aAf(n):(vV n 3).toNat<3:=by
 have hp:=aH6 (n:=n) (show (0:Int)<3 by decide);omega
theorem aDW{r}(h:r.Wf)(data):Fits r (aF r data).1 (aF r data).2.2.2:=(qA h data).2
def nd0(i:Nat):Node:=⟨dP i 0 (-1) [],0,-1,[],0⟩
def cl0:Cl:=⟨nd0,[]⟩
theorem aP4:cl0.Wf :=
 ⟨λi hi=>⟨aAc (by omega) (by decide) (by decide) (by decide) (by decide) ⟨by simp,by simp,by simp,by simp⟩ (by simp),rfl⟩,λi hi=>⟨rfl,rfl,rfl⟩,λi hi=>.inl rfl,Nat.zero_le _⟩
end Go.Proofs.YtnlkemjhgdbfkaaGreatDoor
end

section
namespace Go.Proofs.YtnlkemjhgdbfkaaGreatDoor
open Go.Vc
theorem a1O{x}(h:bE x.term)(h2:x.data.size<=1000000):oT (iE x)=x:=by
 unfold oT iE;rw [pT,aDo h h2];rfl
structure IW(l:List bH):Prop where
 aDX:∀ x∈l,bE x.term/\x.data.size<=1000000
 size:(aM (l.map iE)).length<=1048576
theorem IW.read{l}(h:IW l):(l.map iE).map oT=l:=by
 rw [List.map_map]
 conv=>rhs;rw [<-List.map_id l]
 exact List.map_congr_left λx hx=>a1O (h.aDX x hx).1 (h.aDX x hx).2
theorem ZZ(l n):(aM (l.take n)).length<=(aM l).length:=by
 conv=>rhs;rw [<-List.take_append_drop n l,mD,List.length_append]
 omega
theorem IW.take{l}(h:IW l)(n):IW (l.take n) :=
 ⟨λx hx=>h.aDX x (List.mem_of_mem_take hx),Nat.le_trans (by rw [List.map_take];exact ZZ _ n) h.size⟩
theorem IW.nil:IW []:=⟨by simp,by simp [aM]⟩
def aLO(s:Nat)(v:Bs)(t vt:Int):Prop:=(s=0/\t=0/\vt = -1)\/(s≠0/\v=CH t vt)
theorem aDY{s v t vt f b}(h:aLO s v t vt)(ht:bE t)(hv:bE vt):kP ⟨f,s,v,b⟩=(t,vt):=by
 unfold kP;rcases h with ⟨rfl,rfl,rfl⟩|⟨hs,rfl⟩
 .rfl
 .have e1:eJ (CH t vt,false)=(t,((oS vt).data.toList,false)):=QG ht;have e2:eJ ((oS vt).data.toList,false)=(vt,([],false)):=by
   have:=QG (n:=vt) (r:=[]) (bad:=false) hv
   rwa [List.append_nil] at this
  show (if s=0 then _ else _)=_;rw [if_neg hs];show ((eJ (CH t vt,false)).1,(eJ (eJ (CH t vt,false)).2).1)=_;rw [e1];simp only;rw [e2]
theorem aDZ{t v}(ht:bE t)(hv:bE v):(CH t v).length<=42:=by
 unfold CH;rw [List.length_append,fT,fT];have:=(fU ht).2;have:=(fU hv).2;omega
structure RT(d:iH)(u:VV):Prop where
 w:FJ d
 live:Live d u.j
 base:u.j.base=0
 ok:u.j.broken=false
 file:u.c.file=2
 now:fK (d.files 2).now u.c.slot u.c.value
 last:fK (d.files 2).last u.c.slot u.c.value
 enc:aLO u.c.slot u.c.value u.r.term u.r.aK
 log:u.j.list=u.r.log.map iE
 NO:bE u.r.term/\bE u.r.aK
 lw:IW u.r.log
def aD0(d:iH)(H:Int->Int->Prop):Prop:=Fut (d.files 2) λs v=>∃ t vt,aLO s v t vt/\(bE t/\bE vt)/\H t vt
def aAg(d:iH)(P:List bH->Prop):Prop:=IE d 0 λl=>∃ lg,l=lg.map iE/\IW lg/\P lg
def DnI(d:iH)(Q:Int->Int->List bH->Prop):Prop:=FJ d/\∃ (H:Int->Int->Prop) (P:List bH->Prop),(∀ t v l,H t v->P l->Q t v l)/\aD0 d H/\aAg d P
theorem DnI.mono{d Q Q'}(h:DnI d Q)(hq:∀ t v l,Q t v l->Q' t v l):DnI d Q':=by
 obtain ⟨hw,H,P,h1,h2,h3⟩:=h;exact ⟨hw,H,P,λt v l a b=>hq t v l (h1 t v l a b),h2,h3⟩
theorem RT.aWi{d u}(h:RT d u){P}(hP:P u.r.log):aAg d P:=by
 have:=h.live.fut (P:=λl=>∃ lg,l=lg.map iE/\IW lg/\P lg) ⟨u.r.log,h.log,h.lw,hP⟩;rw [h.base] at this;exact this
theorem RT.aWj{d u}(h:RT d u){H}(hH:H u.r.term u.r.aK):aD0 d H:=lZ h.now h.last ⟨_,_,h.enc,h.NO,hH⟩
theorem RT.dn{d u}(h:RT d u){Q}(hQ:Q u.r.term u.r.aK u.r.log):DnI d Q :=
 ⟨h.w,λt v=>t=u.r.term/\v=u.r.aK,λl=>l=u.r.log,λt v l a b=>by rw [a.1,a.2,b];exact hQ,h.aWj ⟨rfl,rfl⟩,h.aWi rfl⟩
theorem aAh{d f c e}(h:uS d f=(some c,e)):d.down=false:=by
 cases hd:d.down with
 | false=>rfl
 | true =>
  unfold uS at h;have hr:(cZ d f 0 5).2≠0:=by
   unfold cZ sD;rw [if_pos hd,if_pos (by decide:(9:Int)≠0)];show (9:Int)≠0;decide
  rw [if_pos hr] at h;injection h with h1;cases h1
theorem aIa{d d1 b e j}(h:rP d b=(d1,some j,e)):d1.down=false:=by
 unfold rP at h;split at h
 .injection h with _ h;injection h with h;cases h
 split at h
 .injection h with _ h;injection h with h;cases h
 split at h
 .injection h with _ h;injection h with h;cases h
 injection h with h1 h2;rw [<-h1];unfold ID at h2;split at h2
 .cases h2
 .rename_i c e' ho;exact aAh ho
structure aP5(id:Nat)(d:iH)(Q:Int->Int->List bH->Prop)(r:iH × Option VV × Int):Prop where
 w:FJ r.1
 vR:NV d->NV r.1/\r.2.2=0
 or:(∃ u,r.2.1=some u/\r.2.2=0/\RT r.1 u/\u.r=dP id u.r.term u.r.aK u.r.log/\Q u.r.term u.r.aK u.r.log)\/(r.2.1=none/\(r.2.2=9\/r.2.2=10)/\DnI r.1 Q)
theorem a2K{id d Q}(h:DnI d Q):aP5 id d Q (eZ id d):=by
 obtain ⟨hw,H,P,hQ,hC,hL⟩:=h;unfold eZ;obtain ⟨a1,a2,a3,a4⟩:=yC (d:=d) (F:=2) (by decide) hw;obtain ⟨⟨d1,e1⟩,h1⟩:∃ x,bR d 2=x:=⟨_,rfl⟩;rw [h1] at a1 a2 a3 a4 ⊢;simp only at a1 a2 a3 a4 ⊢;have B8:aAg d1 P:=hL.ev (a2 _ (by decide)) (a2 _ (by decide));by_cases CX:e1≠0
 .rw [if_pos CX];rcases a4 with ⟨h',_⟩|⟨h',h2⟩
  .exact absurd h' CX
  .exact ⟨a1,λh=>absurd (a3 h).2 CX,.inr ⟨rfl,h',a1,H,P,hQ,h2.fut hC,B8⟩⟩
 rw [if_neg CX];have CX:e1=0:=Decidable.not_not.1 CX;obtain ⟨hdn,f1⟩:d1.down=false/\d1.files 2=⟨(d.files 2).now,(d.files 2).now⟩:=by
  rcases a4 with ⟨_,h1,h2⟩|⟨h,_⟩
  .exact ⟨h1,h2⟩
  .rw [CX] at h;omega
 obtain ⟨⟨s,v,k1,t,vt,k2,k3,k4⟩,_⟩:=hC;have k5:fK (d1.files 2).now s v:=by rw [f1];exact k1
 have k6:fK (d1.files 2).last s v:=by rw [f1];exact k1
 have hO:=a2u (d:=d1) (b:=0) (by decide) a1 B8;unfold ZF;obtain ⟨⟨d2,jo,e2⟩,h2⟩:∃ x,rP d1 0=x:=⟨_,rfl⟩;rw [h2] at hO ⊢;have oth:Ev (d1.files 2) (d2.files 2):=by
  rcases hO.other 2 with h|h
  .exact h
  .omega
 obtain ⟨k7,k8⟩:=a9X oth k5 k6;rcases hO.or with ⟨j,g1,g2,g3,⟨lg,g4,g5,g6⟩,g7,g8⟩|⟨g1,g2,g3⟩
 .have g1:jo=some j:=g1;have g2:e2=0:=g2;subst g1;have hd2:=aIa h2;have KR:=a6T (d:=d2) (F:=2) hd2 (by decide) k7;simp only;unfold ZE;rw [KR];simp only;have hh:=aDY (f:=2) (b:=false) k2 k3.1 k3.2;rw [hh,g4,g5.read];refine ⟨hO.w,λh=>⟨(hO.vR (a3 h).1).1,rfl⟩,.inl ⟨_,rfl,rfl,⟨hO.w,g3,g7,g8,rfl,k7,k8,k2,g4,k3,g5⟩,rfl,hQ _ _ _ k4 g6⟩⟩
 .have g1:jo=none:=g1;subst g1;simp only;refine ⟨hO.w,λh=>⟨(hO.vR (a3 h).1).1,(hO.vR (a3 h).1).2⟩,.inr ⟨rfl,g2,hO.w,λa b=>a=t/\b=vt,P,λa b l x y=>by rw [x.1,x.2];exact hQ _ _ _ k4 y,lZ k7 k8 ⟨t,vt,k2,k3,rfl,rfl⟩,g3⟩⟩
def aNu(r r':dH)(o:kR)(t v:Int)(l:List bH):Prop :=
 ((t=r.term/\v=r.aK)/\l=r.log)\/((t=r'.term/\v=r'.aK)/\(l=r.log\/(0<o.src/\l=r.log.take (min (o.src - 1) (r.log.length:Int)).toNat)\/l=r'.log))
structure aP6(d:iH)(r r':dH)(o:kR)(x:iH × VV × Int):Prop where
 w:FJ x.1
 vR:NV d->NV x.1/\x.2.2=0
 or:(x.2.2=0/\RT x.1 x.2.1/\x.2.1.r=r')\/((x.2.2=9\/x.2.2=10)/\DnI x.1 (aNu r r' o))
theorem aD1{d u r r' o}(h:RT d { u with r:=r })(hf:Fits r r' o)(hh:bE r'.term/\bE r'.aK):
  FJ (qN d u o).1/\(NV d->NV (qN d u o).1/\(qN d u o).2.2=0)/\(∀ G,G≠2->Ev (d.files G) ((qN d u o).1.files G)) /\
   (((qN d u o).2.2=0/\RT (qN d u o).1 { u with r:={ r' with log:=r.log },c:=(qN d u o).2.1 })\/(((qN d u o).2.2=9\/(qN d u o).2.2=10)/\aD0 (qN d u o).1 λt v=>(t=r.term/\v=r.aK)\/(t=r'.term/\v=r'.aK))):=by
 unfold qN;cases hs:o.save with
 | false =>
  obtain ⟨e1,e2⟩:=hf.keep hs;rw [if_neg (by simp)];refine ⟨h.w,λh=>⟨h,rfl⟩,λG _=>.refl _,.inl ⟨rfl,h.w,h.live,h.base,h.ok,h.file,h.now,h.last,?_,h.log,hh,h.lw⟩⟩;show aLO u.c.slot u.c.value r'.term r'.aK;rw [e1,e2];exact h.enc
 | true =>
  obtain ⟨e1,e2⟩:=hf.save hs;rw [if_pos rfl,e1,e2];have IF:u.c.file=2:=h.file;have hS:=a6U (d:=d) (c:=u.c) (s:=CH r'.term r'.aK) (by rw [IF];decide) h.w (by have:=aDZ hh.1 hh.2;omega) (by rw [IF];exact h.now) (by rw [IF];exact h.last);obtain ⟨⟨d1,c1,x1⟩,hx⟩:∃ x,wW d u.c (CH r'.term r'.aK)=x:=⟨_,rfl⟩;rw [hx] at hS ⊢;have oth:∀ G,G≠2->Ev (d.files G) (d1.files G):=λG hG=>hS.other G (by rw [IF];exact hG)
  have QO:((if u.c.slot=1 then 2 else 1):Nat)≠0:=by split<;>decide
  refine ⟨hS.w,hS.vR,oth,?_⟩;by_cases he:x1=0
  .left
   obtain ⟨h1,h2,X,h3,h4⟩:=hS.ok he;have h1:c1.slot=if u.c.slot=1 then 2 else 1:=h1
   have h2:c1.value=CH r'.term r'.aK:=h2;have h3:d1.files u.c.file=⟨X,X⟩:=h3;rw [IF] at h3;rw [<-h1,<-h2] at h4;have hfc:c1.file=2:=by have:=hS.file;rw [IF] at this;exact this
   have hbase:u.j.base=0:=h.base;refine ⟨he,hS.w,aLF h.live ?_ ?_,h.base,h.ok,hfc,?_,?_,.inr ⟨by show c1.slot≠0;rw [h1];exact QO,h2⟩,h.log,hh,h.lw⟩
   .exact oth _ (by show u.j.base≠2;rw [hbase];decide)
   .exact oth _ (by show u.j.base+1≠2;rw [hbase];decide)
   .show fK (d1.files 2).now c1.slot c1.value;rw [h3];exact h4
   .show fK (d1.files 2).last c1.slot c1.value;rw [h3];exact h4
  .right
   obtain ⟨h1,h2⟩:=hS.bad he;refine ⟨h1,?_⟩;have h2:Fut (d1.files u.c.file) _:=h2;rw [IF] at h2;refine Fut.mono h2 λs v hv=>?_;rcases hv with ⟨rfl,rfl⟩|⟨rfl,rfl⟩
   .exact ⟨_,_,h.enc,h.NO,.inl ⟨rfl,rfl⟩⟩
   .exact ⟨_,_,.inr ⟨QO,rfl⟩,hh,.inr ⟨rfl,rfl⟩⟩
theorem RT.jou{d d1 u j1 lg}(h:RT d u)(hw:FJ d1)(oth:∀ G,Ev (d.files G) (d1.files G)\/(G=u.j.base\/G=u.j.base+1))(hl:Live d1 j1)(hb:j1.base=u.j.base)(hk:j1.broken=false)(hg:j1.list=lg.map iE)(hlw:IW lg):
  RT d1 { u with j:=j1,r:={ u.r with log:=lg } }:=by
 have hbase:=h.base;have h2:Ev (d.files 2) (d1.files 2):=by
  rcases oth 2 with e|e
  .exact e
  .rw [hbase] at e;omega
 obtain ⟨c1,c2⟩:=a9X h2 h.now h.last;exact ⟨hw,hl,by show j1.base=0;rw [hb,hbase],hk,h.file,c1,c2,h.enc,hg,h.NO,hlw⟩
theorem RT.aBW{d d1 u}(h:RT d u)(oth:∀ G,Ev (d.files G) (d1.files G)\/(G=u.j.base\/G=u.j.base+1)){H}(hH:H u.r.term u.r.aK):aD0 d1 H:=by
 have hbase:=h.base;have h2:Ev (d.files 2) (d1.files 2):=by
  rcases oth 2 with e|e
  .exact e
  .rw [hbase] at e;omega
 exact h2.fut (h.aWj hH)
theorem aD2{d u r r' o}(h:RT d { u with r:={ r' with log:=r.log } })(hf:Fits r r' o)(hlw:IW r'.log):
  FJ (sO d u o).1/\(NV d->NV (sO d u o).1/\(sO d u o).2.2=0) /\
   (((sO d u o).2.2=0/\RT (sO d u o).1 { u with r:=r',j:=(sO d u o).2.1 })\/(((sO d u o).2.2=9\/(sO d u o).2.2=10)/\aD0 (sO d u o).1 (λt v=>t=r'.term/\v=r'.aK) /\
    aAg (sO d u o).1 λl=>l=r.log\/(0<o.src/\l=r.log.take (min (o.src - 1) (r.log.length:Int)).toNat)\/l=r'.log)):=by
 have hbase:u.j.base=0:=h.base;have aBX:u.j.list=r.log.map iE:=h.log;have hlen:u.j.list.length=r.log.length:=by rw [aBX,List.length_map]
 have hlr:IW r.log:=h.lw;unfold sO;by_cases hp:0<o.src
 rotate_left 1
 .rw [if_neg hp];refine ⟨h.w,λh=>⟨h,rfl⟩,.inl ⟨rfl,?_⟩⟩;have:=hf.same hp;have e:({ r' with log:=r.log }:dH)=r':=by rw [<-this]
  rw [e] at h;exact h
 rw [if_pos hp];have nQ:=hf.log hp;simp only;obtain ⟨n,hn,hnl⟩:∃ n:Nat,min (o.src - 1) (u.j.list.length:Int)=(n:Int)/\n<=u.j.list.length:=⟨(min (o.src - 1) (u.j.list.length:Int)).toNat,by omega,by omega⟩;have hn2:(min (o.src - 1) (r.log.length:Int)).toNat=n:=by rw [<-hlen,hn];exact Int.toNat_natCast n
 rw [hn2] at nQ;rw [hn2,hn];have hcut:FJ (j4 d u.j n).1/\(NV d->NV (j4 d u.j n).1/\(j4 d u.j n).2.2=0)/\(((j4 d u.j n).2.2=0/\RT (j4 d u.j n).1 { u with r:={ r' with log:=r.log.take n },j:=(j4 d u.j n).2.1 }) \/
   (((j4 d u.j n).2.2=9\/(j4 d u.j n).2.2=10)/\aD0 (j4 d u.j n).1 (λt v=>t=r'.term/\v=r'.aK)/\aAg (j4 d u.j n).1 λl=>l=r.log\/l=r.log.take n)):=by
  by_cases he:n=u.j.list.length
  .have e:j4 d u.j n=(d,u.j,0):=by
    unfold j4;rw [if_neg (by rw [h.ok];simp),if_neg (by omega),if_pos (by rw [he])]
   rw [e];refine ⟨h.w,λh=>⟨h,rfl⟩,.inl ⟨rfl,?_⟩⟩;have e2:r.log.take n=r.log:=List.take_of_length_le (by omega);rw [e2];exact h
  .have ho:=aLq h.live h.ok h.w (n:=n) (by show n<u.j.list.length;omega);refine ⟨ho.w,ho.vR,?_⟩;rcases ho.or with ⟨e,g1,g2,g3⟩|⟨e,g1,g2,g3⟩
   .refine .inl ⟨e,?_⟩;have:=h.jou ho.w ho.other g3 ho.base g1 (lg:=r.log.take n) (by rw [g2];show u.j.list.take n=_;rw [aBX,List.map_take]) (hlr.take n);exact this
   .refine .inr ⟨e,h.aBW ho.other ⟨rfl,rfl⟩,?_⟩;have g3:IE _ u.j.base _:=g3;rw [hbase] at g3;refine IE.mono g3 λl hl=>?_;rcases hl with rfl|rfl
    .exact ⟨r.log,aBX,hlr,.inl rfl⟩
    .exact ⟨r.log.take n,by show u.j.list.take n=_;rw [aBX,List.map_take],hlr.take n,.inr rfl⟩
 obtain ⟨⟨d1,j1,e1⟩,hc⟩:∃ x,j4 d u.j n=x:=⟨_,rfl⟩;rw [hc] at hcut ⊢;simp only at hcut ⊢;obtain ⟨c1,c2,c3⟩:=hcut;by_cases CX:e1≠0
 .rw [if_pos CX];refine ⟨c1,λh=>absurd (c2 h).2 CX,.inr ?_⟩;rcases c3 with ⟨e,_⟩|⟨e,g1,g2⟩
  .exact absurd e CX
  .exact ⟨e,g1,g2.mono λl ⟨lg,a,b,c⟩=>⟨lg,a,b,c.elim .inl λc=>.inr (.inl ⟨hp,c⟩)⟩⟩
 rw [if_neg CX];have CX:e1=0:=Decidable.not_not.1 CX;have hU:RT d1 { u with r:={ r' with log:=r.log.take n },j:=j1 }:=by
  rcases c3 with ⟨_,g⟩|⟨e,_⟩
  .exact g
  .omega
 have hmap:(r.log.take n).map iE++o.aE.map iE=r'.log.map iE:=by rw [nQ,List.map_append]
 by_cases hre:o.aE=[]
 .have e:dX d1 j1 (o.aE.map iE)=(d1,j1,0):=by
   unfold dX;rw [if_neg (by rw [hU.ok];simp),if_pos (by rw [hre];rfl)]
  rw [e];refine ⟨c1,λh=>⟨(c2 h).1,rfl⟩,.inl ⟨rfl,?_⟩⟩;have e2:({ r' with log:=r.log.take n }:dH)=r':=by
   rw [hre,List.append_nil] at nQ;rw [<-nQ]
  rw [e2] at hU;exact hU
 have hj1:j1.list=(r.log.take n).map iE:=hU.log;have hb1:j1.bytes=(aM j1.list).length:=hU.live.bytes;have b1t:j1.base=0:=hU.base;have ho:=a9D (l:=o.aE.map iE) hU.live hU.ok hU.w (by simpa using hre) (by
  show j1.bytes+_<=_;rw [hb1,hj1,<-List.length_append,<-mD,hmap];exact hlw.size)
 have ho:ZD d1 j1 (j1.list++o.aE.map iE) (dX d1 j1 (o.aE.map iE)):=ho;refine ⟨ho.w,λh=>ho.vR (c2 h).1,?_⟩;rcases ho.or with ⟨e,g1,g2,g3⟩|⟨e,g1,g2,g3⟩
 .refine .inl ⟨e,?_⟩;have:=hU.jou ho.w ho.other g3 ho.base g1 (lg:=r'.log) (by rw [g2,hj1,hmap]) hlw;exact this
 .refine .inr ⟨e,hU.aBW ho.other ⟨rfl,rfl⟩,?_⟩;rw [b1t] at g3;refine IE.mono g3 λl hl=>?_;rcases hl with rfl|rfl
  .exact ⟨r.log.take n,hj1,hlr.take n,.inr (.inl ⟨hp,rfl⟩)⟩
  .exact ⟨r'.log,by rw [hj1,hmap],hlw,.inr (.inr rfl)⟩
theorem a0a{d}{u:VV}{r r' o}(h:RT d { u with r:=r })(hf:Fits r r' o)(hh:bE r'.term/\bE r'.aK)(hlw:IW r'.log):aP6 d r r' o (cY d { u with r:=r' } o):=by
 have hs:=aD1 h hf hh;have hlr:IW r.log:=h.lw;unfold cY;simp only;have e0:qN d { u with r:=r' } o=qN d u o:=rfl;rw [e0];obtain ⟨⟨d1,c1,e1⟩,hx⟩:∃ x,qN d u o=x:=⟨_,rfl⟩;rw [hx] at hs ⊢;simp only at hs ⊢;obtain ⟨a1,a2,a3,a4⟩:=hs;by_cases he:e1≠0
 .rw [if_pos he];refine ⟨a1,λh=>absurd (a2 h).2 he,.inr ?_⟩;rcases a4 with ⟨e,_⟩|⟨e,g⟩
  .exact absurd e he
  .refine ⟨e,a1,_,λl=>l=r.log,λt v l x y=>?_,g,?_⟩
   .rcases x with x|x
    .exact .inl ⟨x,y⟩
    .exact .inr ⟨x,.inl y⟩
   .have hl:aAg d λl=>l=r.log:=h.aWi (P:=λl=>l=r.log) rfl;exact hl.ev (a3 _ (by decide)) (a3 _ (by decide))
 rw [if_neg he];have he:e1=0:=Decidable.not_not.1 he;have hU:RT d1 { u with r:={ r' with log:=r.log },c:=c1 }:=by
  rcases a4 with ⟨_,g⟩|⟨e,_⟩
  .exact g
  .omega
 have hk:=aD2 (u:={ u with c:=c1 }) (r:=r) (r':=r') (o:=o) hU hf hlw;have e1:sO d1 { u with r:=r' } o=sO d1 { u with c:=c1 } o:=rfl;rw [e1];obtain ⟨⟨d2,j2,e2⟩,hy⟩:∃ x,sO d1 { u with c:=c1 } o=x:=⟨_,rfl⟩;rw [hy] at hk ⊢;simp only at hk ⊢;obtain ⟨b1,b2,b3⟩:=hk;refine ⟨b1,λh=>b2 (a2 h).1,?_⟩;rcases b3 with ⟨e,g⟩|⟨e,g1,g2⟩
 .exact .inl ⟨e,g,rfl⟩
 .exact .inr ⟨e,b1,_,_,λt v l x y=>.inr ⟨x,y⟩,g1,g2⟩
theorem aLP{d}(hw:FJ d):FJ (a2v d)/\(∀ G,Ev (d.files G) ((a2v d).files G))/\NV (a2v d):=by
 have hw':FJ (aHl (a6P d 0) 0 []):=hw;refine ⟨a4c hw' [],λG=>QN hw' [] G,rfl,?_,?_⟩
 .show (eP (aHl (a6P d 0) 0 []) []).fD=0;unfold eP;split
  .rfl
  .rfl
 .show (eP (aHl (a6P d 0) 0 []) []).lost=0;unfold eP;split
  .rfl
  .rfl
theorem aAi{d Q}(h:DnI d Q):∃ t v,Q t v (W9 d):=by
 obtain ⟨hw,H,P,hQ,hC,hL⟩:=h;obtain ⟨c1,c2,c3⟩:=aLP hw;obtain ⟨⟨s,v,k1,t,vt,k2,k3,k4⟩,_⟩:=hC;have B8:aAg (a2v d) P:=hL.ev (c2 _) (c2 _);have hO:=a2u (d:=a2v d) (b:=0) (by decide) c1 B8;refine ⟨t,vt,?_⟩;unfold W9;rcases hO.or with ⟨j,g1,g2,g3,⟨lg,g4,g5,g6⟩,g7,g8⟩|⟨g1,g2,g3⟩
 .rw [g1];show Q t vt (j.list.map oT);rw [g4,g5.read];exact hQ _ _ _ k4 g6
 .have:=(hO.vR c3).2;omega
theorem aAj{d u}(h:RT d u):W9 d=u.r.log:=by
 obtain ⟨t,v,hq⟩:=aAi (h.dn (Q:=λt v l=>l=u.r.log) rfl);exact hq
theorem aIb:DnI nN λt v l=>t=0/\v = -1/\l=[] :=
 ⟨aLk,λt v=>t=0/\v = -1,λl=>l=[],λt v l a b=>⟨a.1,a.2,b⟩,
  lZ (s:=0) (v:=[]) (.inl ⟨rfl,rfl,rfl⟩) (.inl ⟨rfl,rfl,rfl⟩) ⟨0,-1,.inl ⟨rfl,rfl,rfl⟩,⟨by unfold bE;decide,by unfold bE;decide⟩,rfl,rfl⟩,
  (aLo 0).mono λl hl=>⟨[],by rw [hl];rfl,.nil,rfl⟩⟩
abbrev b1u(o:kR)(p1:Option Addr)(c1:Nat)(p2:Option Addr)(c2:Nat):List Value:=[.bool o.save,.int .i64 o.term,.int .i64 o.aK,.int .i64 o.src,.slice p1 o.aE.length c1,.slice p2 o.send.length c2]
abbrev kO(k1:Nat)(oc:List Value):Own:=.blk k1 oc 146
abbrev kL(k:Nat)(p:Option Addr)(n c:Nat):Own:=.blk k [.slice p n c] 40
section
variable {W w:World}{S:List Own}{Φ:PW}
theorem aIc[aB Φ](hoff:∀ M w,Φ M w->uW M w)(hT:∀ M w,Φ M w->yB M w){k0 k1 gb mO cs oc q d x j n}(hcs:cs[mO+1]? = some (pA x.jb))(KR:oc[3]? = some (.int .i64 n))(hn:bE (n - 1))(hq:rW q d)(hkp:LN Φ q d)(hsb:SB x.p x.cap j.list x.o)(hf:(aM j.list).length<=1000000000)(cx:Ctx W w (kM k0 gb mO :: kO k1 oc :: kG gb cs :: (fG x q j++(bQ q d++S))) Φ){K}(hk:∀ u p c o w',SB p c (j4 d j (min (n - 1) (j.list.length:Int))).2.1.list o->rW (q.mv u) (j4 d j (min (n - 1) (j.list.length:Int))).1->Ctx W w' (kM k0 gb mO :: kO k1 oc :: kG gb cs :: (fG (x.mv p c o) q (j4 d j (min (n - 1) (j.list.length:Int))).2.1++(bQ (q.mv u) (j4 d j (min (n - 1) (j.list.length:Int))).1++S))) Φ->K (.returned (.int .i64 (j4 d j (min (n - 1) (j.list.length:Int))).2.2)) w'):
  aG F.fI #[pA k0,pA k1] w K:=by
 have sA:∀ Y:List Own,List.Sublist [kM k0 gb mO,kO k1 oc,kG gb cs] ([kM k0 gb mO,kO k1 oc,kG gb cs]++Y):=λY=>List.sublist_append_left _ _;refine iO (yX k0 0 k1 0 (J:=K∘.returned) cx ⟨[kM k0 gb mO,kO k1 oc,kG gb cs],tru,aR,λw G cx=>dM cx (sA _),some ⟨gb,mO,none⟩,λw G cx=>⟨_,cx.get 0 rfl rfl,rfl⟩,some ⟨gb,mO,none⟩,λw G cx=>⟨_,cx.get 0 rfl rfl,rfl⟩,bF gb mO rfl ⟨n,λw G cx=>⟨_,cx.get 1 rfl KR,rfl⟩,bF gb mO rfl ⟨hn,some ⟨x.jb,0,none⟩,λw G cx=>⟨_,cx.get 2 rfl hcs,rfl⟩,some ⟨x.jb,0,none⟩,λw G cx=>⟨_,cx.get 2 rfl hcs,rfl⟩,λw G cx=>?_⟩⟩⟩)
 have c1:Ctx W w (fG x q j++([kM k0 gb mO,kO k1 oc,kG gb cs]++((bQ q d++S)++G))) Φ:=IL (A:=[kM k0 gb mO,kO k1 oc,kG gb cs]) cx;refine aLD c1 λw cx=>⟨_,rfl,[kM k0 gb mO,kO k1 oc,kG gb cs]++(fG x q j++(bQ q d++S)),Φ,aR,tY cx,λw G cx=>dM cx (sA _),λw G cx=>?_⟩;have c2:Ctx W w (fG x q j++(bQ q d++([kM k0 gb mO,kO k1 oc,kG gb cs]++(S++G)))) Φ:=by
  have c3:Ctx W w (([kM k0 gb mO,kO k1 oc,kG gb cs]++((fG x q j++bQ q d)++S))++G) Φ:=by rw [bM (fG x q j)];exact cx
  rw [<-bM (fG x q j)];exact IL c3
 refine aLB hq hkp hoff hT hsb hf c2 λu p c o w a7t hq1 cx=>⟨_,rfl,[kM k0 gb mO,kO k1 oc,kG gb cs]++(fG (x.mv p c o) q (j4 d j (min (n - 1) (j.list.length:Int))).2.1++(bQ (q.mv u) (j4 d j (min (n - 1) (j.list.length:Int))).1++S)),Φ,aR,by
  rw [<-bM (fG _ q _)] at cx ⊢;exact tY cx,λw G cx=>hk u p c o w a7t hq1 cx.left⟩
theorem aId[aB Φ](hoff:∀ M w,Φ M w->uW M w)(hT:∀ M w,Φ M w->yB M w){k0 k gb mO cs q d x j lp lc l}(hcs:cs[mO+1]? = some (pA x.jb))(hq:rW q d)(hkp:LN Φ q d)(hsb:SB x.p x.cap j.list x.o)(qU:∀ M w,Φ M w->Sl M w lp l)(hf:(aM l).length<=1000000000)(hb:j.bytes<=1000000000)(hn:j.list.length+l.length<100000000)(cx:Ctx W w (kM k0 gb mO :: kL k lp l.length lc :: kG gb cs :: (fG x q j++(bQ q d++S))) Φ){K}(hk:∀ u p c o w',SB p c (dX d j l).2.1.list o->rW (q.mv u) (dX d j l).1->Ctx W w' (kM k0 gb mO :: kL k lp l.length lc :: kG gb cs :: (fG (x.mv p c o) q (dX d j l).2.1++(bQ (q.mv u) (dX d j l).1++S))) Φ->K (.returned (.int .i64 (dX d j l).2.2)) w'):
  aG F.fJ #[pA k0,pA k] w K:=by
 have sA:∀ Y:List Own,List.Sublist [kM k0 gb mO,kL k lp l.length lc,kG gb cs] ([kM k0 gb mO,kL k lp l.length lc,kG gb cs]++Y):=λY=>List.sublist_append_left _ _;refine iO (yY k0 0 k 0 (J:=K∘.returned) cx ⟨[kM k0 gb mO,kL k lp l.length lc,kG gb cs],tru,aR,λw G cx=>dM cx (sA _),some ⟨gb,mO,none⟩,λw G cx=>⟨_,cx.get 0 rfl rfl,rfl⟩,lp,l.length,lc,λw G cx=>⟨_,_,_,cx.get 1 rfl rfl,rfl⟩,bF gb mO rfl ⟨some ⟨x.jb,0,none⟩,λw G cx=>⟨_,cx.get 2 rfl hcs,rfl⟩,λw G cx=>?_⟩⟩)
 have c2:Ctx W w (fG x q j++(bQ q d++([kM k0 gb mO,kL k lp l.length lc,kG gb cs]++(S++G)))) Φ:=by
  have c3:Ctx W w (([kM k0 gb mO,kL k lp l.length lc,kG gb cs]++((fG x q j++bQ q d)++S))++G) Φ:=by rw [bM (fG x q j)];exact cx
  rw [<-bM (fG x q j)];exact IL c3
 refine a9V hq hkp hoff hT hsb qU hf hb hn c2 λu p c o w a7t hq1 cx=>⟨_,rfl,[kM k0 gb mO,kL k lp l.length lc,kG gb cs]++(fG (x.mv p c o) q (dX d j l).2.1++(bQ (q.mv u) (dX d j l).1++S)),Φ,aR,by
  rw [<-bM (fG _ q _)] at cx ⊢;exact tY cx,λw G cx=>hk u p c o w a7t hq1 cx.left⟩
theorem aAk(d j n):((j4 d j n).2.1.bytes=j.bytes\/(j4 d j n).2.1.bytes<=(aM j.list).length)/\(j4 d j n).2.1.list.length<=j.list.length:=by
 unfold j4;split
 .exact ⟨.inl rfl,Nat.le_refl _⟩
 split
 .exact ⟨.inl rfl,Nat.le_refl _⟩
 split
 .exact ⟨.inl rfl,Nat.le_refl _⟩
 unfold IC;split
 .exact ⟨.inl rfl,Nat.le_refl _⟩
 .refine ⟨.inr (ZZ _ _),?_⟩;show (j.list.take n.toNat).length<=_;rw [List.length_take];omega
structure aLQ(u:VV)(o:kR):Prop where
 ints:(bE o.term/\bE o.aK)/\bE (o.src - 1)
 aE:∀ x∈o.aE,bE x.term/\x.data.size<=1000000
 aWk:o.aE.length<=100000
 aWl:(aM (o.aE.map iE)).length<=1000000000
 aWm:(aM u.j.list).length<=1000000000
 aP7:u.j.bytes<=1000000000
 b1v:u.j.list.length<=1000000
theorem aNv(A J D S G)(C:Own):((A++(J++(D++(C :: S))))++G).Perm (C :: (D++((A++J)++(S++G)))):=by
 have e:(A++(J++(D++(C :: S))))++G=((A++J)++D)++(C :: (S++G)):=by simp only [bM,List.cons_append]
 rw [e];refine List.perm_middle.trans (.cons _ ?_);rw [bM (A++J)];exact List.perm_append_comm_assoc _ _ _
theorem aIe(a)(J D T:List Own):(a :: (J++(D++T))).Perm (J++(D++(a :: T))):=by
 have e:∀ X:List Own,J++(D++X)=(J++D)++X:=λX=>(bM _ _ _).symm;rw [e,e];exact List.perm_middle.symm
def uZ(d:iH)(j:sE)(n:Int)(l:List ByteArray):iH × sE × Int :=
 if (j4 d j (min (n - 1) (j.list.length:Int))).2.2≠0 then j4 d j (min (n - 1) (j.list.length:Int)) else dX (j4 d j (min (n - 1) (j.list.length:Int))).1 (j4 d j (min (n - 1) (j.list.length:Int))).2.1 l
def b1w(d:iH)(q:DkP)(x:JoP)(j:sE)(n:Int)(l:List ByteArray)(k0 gb mO:Nat)(cs:List Value)(S:List Own)(Φ:PW)(r:Int)(R:List Own)(aX:PW):Prop :=
 aX=Φ/\r=(uZ d j n l).2.2/\∃ (Bx:List Own) (v:DkU) (p:Option Addr) (c:Nat) (o:Own),SB p c (uZ d j n l).2.1.list o/\rW (q.mv v) (uZ d j n l).1/\(uZ d j n l).1.keep=d.keep /\
  R=Bx++(kM k0 gb mO :: kG gb cs :: (fG (x.mv p c o) q (uZ d j n l).2.1++(bQ (q.mv v) (uZ d j n l).1++S)))
theorem aP8[aB Φ](hoff:∀ M w,Φ M w->uW M w)(hT:∀ M w,Φ M w->yB M w){k0 k1 k gb mO cs oc q d x j n lp lc l}(hcs:cs[mO+1]? = some (pA x.jb))(KR:oc[3]? = some (.int .i64 n))(hn:bE (n - 1))(hq:rW q d)(hkp:LN Φ q d)(hsb:SB x.p x.cap j.list x.o)(hf:(aM j.list).length<=1000000000)(hb:j.bytes<=1000000000)(hjl:j.list.length<=1000000)(qU:∀ M w,Φ M w->Sl M w lp l)(hlf:(aM l).length<=1000000000)(hll:l.length<=1000000):
  ZT W (b1w d q x j n l k0 gb mO cs S Φ) [(F.fI,#[pA k0,pA k1]),(F.fJ,#[pA k0,pA k])] (kL k lp l.length lc :: kO k1 oc :: kM k0 gb mO :: kG gb cs :: (fG x q j++(bQ q d++S))) Φ:=by
 obtain ⟨hb1,hl1⟩:=aAk d j (min (n - 1) (j.list.length:Int));refine ⟨by kernel_rfl,λw G cx=>?_⟩;have p1:∀ (J D:List Own),((kL k lp l.length lc :: kO k1 oc :: kM k0 gb mO :: kG gb cs :: (J++(D++S)))++G).Perm (kM k0 gb mO :: kO k1 oc :: kG gb cs :: (J++(D++(kL k lp l.length lc :: (S++G))))):=λJ D=>by
  have e:(kL k lp l.length lc :: kO k1 oc :: kM k0 gb mO :: kG gb cs :: (J++(D++S)))++G=kL k lp l.length lc :: kO k1 oc :: kM k0 gb mO :: kG gb cs :: (J++(D++(S++G))):=by simp only [bM,List.cons_append]
  rw [e];refine ((List.perm_append_comm_assoc [kL k lp l.length lc] [kO k1 oc,kM k0 gb mO,kG gb cs] _).trans ?_);refine ((aIe (kL k lp l.length lc) J D (S++G)).append_left [kO k1 oc,kM k0 gb mO,kG gb cs]).trans ?_;exact .swap _ _ _
 refine aIc hoff hT hcs KR hn hq hkp hsb hf (cx.perm (p1 _ _)) λv p c o w a7t hq1 cx=>?_;have ZU:=aDI d j (min (n - 1) (j.list.length:Int));obtain ⟨⟨d1,j1,e1⟩,hx⟩:∃ y,j4 d j (min (n - 1) (j.list.length:Int))=y:=⟨_,rfl⟩;rw [hx] at a7t hq1 cx ZU hb1 hl1;simp only at a7t hq1 cx ZU hb1 hl1;refine ⟨e1,by rw [hx],kL k lp l.length lc :: kO k1 oc :: kM k0 gb mO :: kG gb cs :: (fG (x.mv p c o) q j1++(bQ (q.mv v) d1++S)),Φ,aR,cx.perm (p1 _ _).symm,λhne=>?_,λhe=>?_⟩
 .have eb:uZ d j n l=(d1,j1,e1):=by unfold uZ;rw [hx,if_pos hne]
  refine ⟨rfl,by rw [eb],[kL k lp l.length lc,kO k1 oc],v,p,c,o,by rw [eb];exact a7t,by rw [eb];exact hq1,by rw [eb];exact ZU,by rw [eb];rfl⟩
 have eb:uZ d j n l=dX d1 j1 l:=by unfold uZ;rw [hx,if_neg (by simp [he])]
 refine ⟨by kernel_rfl,λw G cx=>?_⟩;have p2:∀ (J D:List Own),((kL k lp l.length lc :: kO k1 oc :: kM k0 gb mO :: kG gb cs :: (J++(D++S)))++G).Perm (kM k0 gb mO :: kL k lp l.length lc :: kG gb cs :: (J++(D++(kO k1 oc :: (S++G))))):=λJ D=>by
  have e:(kL k lp l.length lc :: kO k1 oc :: kM k0 gb mO :: kG gb cs :: (J++(D++S)))++G=kL k lp l.length lc :: kO k1 oc :: kM k0 gb mO :: kG gb cs :: (J++(D++(S++G))):=by simp only [bM,List.cons_append]
  rw [e];refine (List.Perm.swap _ _ _).trans ((List.perm_append_comm_assoc [kO k1 oc] [kL k lp l.length lc,kM k0 gb mO,kG gb cs] _).trans ?_);refine ((aIe (kO k1 oc) J D (S++G)).append_left [kL k lp l.length lc,kM k0 gb mO,kG gb cs]).trans ?_;exact .swap _ _ _
 refine aId (x:=x.mv p c o) hoff hT hcs hq1 (hkp.of ZU v) a7t qU hlf (by omega) (by omega) (cx.perm (p2 _ _)) λv2 p3 c3 o3 w aP9 qZ cx=>?_;have aQa:=a4o d1 j1 l;rw [<-eb] at aP9 qZ cx aQa ⊢;exact ⟨_,rfl,kL k lp l.length lc :: kO k1 oc :: kM k0 gb mO :: kG gb cs :: (fG (x.mv p3 c3 o3) q (uZ d j n l).2.1++(bQ (q.mv v2) (uZ d j n l).1++S)),Φ,aR,Ctx.perm cx (p2 _ _).symm,λ_=>⟨rfl,rfl,[kL k lp l.length lc,kO k1 oc],v2,p3,c3,o3,aP9,qZ,aQa.trans ZU,rfl⟩,λh0=>⟨rfl,h0.symm,[kL k lp l.length lc,kO k1 oc],v2,p3,c3,o3,aP9,qZ,aQa.trans ZU,rfl⟩⟩
theorem aAl(d u o):(qN d u o).1.keep=d.keep:=by
 unfold qN;split
 .exact a2G _ _ _
 .rfl
theorem aIf(d u o)(h:0<o.src):sO d u o=uZ d u.j o.src (o.aE.map iE):=by unfold sO;rw [if_pos h];rfl
theorem aQb{x}:bs (vP x)=iE x:=rfl
abbrev aQc(gb:Nat)(cs:List Value)(q:DkP)(v:DkU)(x:JoP)(cb:Nat)(d:iH)(j:sE)(c:HZ)(S:List Own):List Own:=kG gb cs :: (fG x q j++(bQ (q.mv v) d++(fN cb q c :: S)))
theorem aD3[aB Φ](hoff:∀ M w,Φ M w->uW M w)(hT:∀ M w,Φ M w->yB M w){gb mO cb cs q d x u o p1 p2 c1 c2}(hm:mO+4<=cs.length)(hs1:cs[mO+1]? = some (pA x.jb))(hs2:cs[mO+2]? = some (pA cb))(hq:rW q d)(hkp:LN Φ q d)(hsb:SB x.p x.cap u.j.list x.o)(hb:aLQ u o)(qU:∀ M w,Φ M w->Sl M w p1 o.aE)(cx:Ctx W w (kG gb cs :: (fG x q u.j++(bQ q d++(fN cb q u.c :: S)))) Φ){K}(hk:∀ v p c oo w',SB p c (cY d u o).2.1.j.list oo->rW (q.mv v) (cY d u o).1->(cY d u o).1.keep=d.keep->Ctx W w' (aQc gb (if (cY d u o).2.2=0 then cs else IP cs mO) q v (x.mv p c oo) cb (cY d u o).1 (cY d u o).2.1.j (cY d u o).2.1.c S) Φ->K (.returned (.int .i64 (cY d u o).2.2)) w'):
  aG F.lF #[.pointer (some ⟨gb,mO,none⟩),VT o p1 c1 p2 c2] w K:=by
 have hth:a2a p1 o.aE.length:=(qU _ _ cx.yK).there;have b6f:=fU hb.ints.1.1;have b6g:=fU hb.ints.1.2;have hkeep:=aAl d u o;refine iO (BX gb mO o.save o.term o.aK o.src p1 o.aE.length c1 p2 o.send.length c2 (J:=K∘.returned) cx λk0 k1=>?_);obtain ⟨oc,KR⟩:∃ oc,b1u o p1 c1 p2 c2=oc:=⟨_,rfl⟩;have xM:oc[3]? = some (.int .i64 o.src):=by rw [<-KR];rfl
 have ho4:oc[4]? = some (.slice p1 o.aE.length c1):=by rw [<-KR];rfl
 have ho0:oc[0]? = some (.bool o.save):=by rw [<-KR];rfl
 have qT:oc[1]? = some (.int .i64 o.term):=by rw [<-KR];rfl
 have D5:oc[2]? = some (.int .i64 o.aK):=by rw [<-KR];rfl
 have eK:∀ R:List Own,Own.blk k1 [.bool o.save,.int .i64 o.term,.int .i64 o.aK,.int .i64 o.src,.slice p1 o.aE.length c1,.slice p2 o.send.length c2] 146 :: Own.blk k0 [.pointer (some ⟨gb,mO,none⟩)] 139 :: R=kO k1 oc :: kM k0 gb mO :: R:=λR=>by rw [<-KR]
 rw [eK];have sA:∀ Y:List Own,List.Sublist [kO k1 oc,kM k0 gb mO,kG gb cs] ([kO k1 oc,kM k0 gb mO,kG gb cs]++Y):=λY=>List.sublist_append_left _ _;obtain ⟨⟨d1,cc,e1⟩,ha⟩:∃ a,qN d u o=a:=⟨_,rfl⟩;rw [ha] at hkeep;simp only at hkeep;refine dS (λn R' aX=>n=e1/\aX=Φ/\∃ v:DkU,rW (q.mv v) d1/\R'=kO k1 oc :: kM k0 gb mO :: kG gb cs :: (fG x q u.j++(bQ (q.mv v) d1++(fN cb q cc :: S)))) ⟨λw G cx=>⟨o.save,cx.get 0 rfl ho0,Br.intro (λhsv=>?_) (λhsv=>?_)⟩,?_⟩
 ·-- the hard state is stored
  refine ⟨[kO k1 oc,kM k0 gb mO,kG gb cs],tru,aR,λw G cx=>dM cx (sA _),some ⟨gb,mO,none⟩,λw G cx=>⟨_,cx.get 1 rfl rfl,rfl⟩,bF gb mO rfl ⟨o.term,λw G cx=>⟨_,cx.get 0 rfl qT,rfl⟩,o.aK,λw G cx=>⟨_,cx.get 0 rfl D5,rfl⟩,some ⟨cb,0,none⟩,λw G cx=>⟨_,cx.get 2 rfl hs2,rfl⟩,λw G cx=>?_⟩⟩;refine (NA (Φ:=Φ) (.inl ⟨hT,hb.ints.1.1⟩)).use cx λw cx=>⟨_,rfl,_,Φ,aR,cx,λw G cx=>dM cx (sA _),λw G cx=>(NA (Φ:=Φ) (.inl ⟨hT,hb.ints.1.2⟩)).use cx λw cx=>⟨_,rfl,_,Φ,aR,cx,λw G cx=>dM cx (sA _),by show (oS o.term).size+(oS o.aK).size<=_;omega,λw G cx=>?_⟩⟩
  have eh:oS o.term++oS o.aK=bs (CH o.term o.aK):=by
   apply ByteArray.ext;apply Array.toList_inj.1;simp [CH,bs]
  rw [eh];have es:wW d u.c (CH o.term o.aK)=(d1,cc,e1):=by rw [<-ha];unfold qN;rw [if_pos hsv]
  refine a7h (S:=([kO k1 oc,kM k0 gb mO,kG gb cs]++fG x q u.j)++(S++G)) hq hkp hoff (cx.perm (aNv [kO k1 oc,kM k0 gb mO,kG gb cs] (fG x q u.j) (bQ q d) S G (fN cb q u.c))) λv w hq1 cx=>?_;rw [es] at hq1 cx ⊢;simp only at hq1 cx ⊢;refine ⟨e1,rfl,kO k1 oc :: kM k0 gb mO :: kG gb cs :: (fG x q u.j++(bQ (q.mv v) d1++(fN cb q cc :: S))),Φ,aR,cx.perm (aNv [kO k1 oc,kM k0 gb mO,kG gb cs] (fG x q u.j) (bQ (q.mv v) d1) S G (fN cb q cc)).symm,_,Φ,aR,λw G cx=>cx,rfl,rfl,v,hq1,rfl⟩
 .have es:(d,u.c,(0:Int))=(d1,cc,e1):=by rw [<-ha];unfold qN;rw [if_neg (by rw [hsv];simp)]
  injection es with fP QV;injection QV with QV es3;subst fP QV es3;exact ⟨_,Φ,aR,λw G cx=>cx,rfl,rfl,q.un,hq,rfl⟩
 .rintro n R' aX hst ⟨rfl,rfl,v,hq1,rfl⟩ w G cx;have aPY:LN aX (q.mv v) d1:=hkp.of hkeep v;have z7:∀ r:iH × VV × Int,cY d u o=r->r.2.1.c=cc/\True:=λr hr=>by
   refine ⟨?_,trivial⟩;rw [<-hr];unfold cY;rw [ha];simp only;split<;>rfl
  refine ⟨o.src,λ_=>cx.get 0 rfl xM,Br.intro (λhsr=>λk w G cx=>⟨_,_,_,cx.get 1 rfl ho4,?_⟩) (λhsr=>?_)⟩
  rotate_left 1
  ·-- nothing for the journal,or a failure
   refine Br.intro (λhne=>λw G cx=>⟨_,cx.get 1 rfl rfl,λw G cx=>?_⟩) (λhe=>λw G cx=>?_)
   .have hne:n≠0:=fV hne;have er:cY d u o=(d1,{ u with c:=cc },n):=by unfold cY;rw [ha];simp only;rw [if_pos hne]
    rw [er] at hk;refine a7o hm (S:=kO k1 oc :: kM k0 gb mO :: (fG x q u.j++(bQ (q.mv v) d1++(fN cb q cc :: S)))++G) (cx.perm (List.perm_append_comm_assoc [kO k1 oc,kM k0 gb mO] [kG gb cs] _)) λw cx=>⟨rfl,aQc gb (IP cs mO) q v x cb d1 u.j cc S,aX,aR,cx.sub (by
     show List.Sublist (kG gb (IP cs mO) :: ((fG x q u.j++(bQ (q.mv v) d1++(fN cb q cc :: S)))++G)) (kG gb (IP cs mO) :: kO k1 oc :: kM k0 gb mO :: ((fG x q u.j++(bQ (q.mv v) d1++(fN cb q cc :: S)))++G));exact .cons_cons _ (((List.Sublist.refl _).cons _).cons _)),λw G cx=>?_⟩
    have:=hk v x.p x.cap x.o w hsb hq1 hkeep;rw [if_neg hne] at this;exact this cx.left
   .have he:n=0:=by simpa using eV he
    subst he;have hsr:¬ 0<o.src:=by simpa using hsr
    have er:cY d u o=(d1,{ u with c:=cc },0):=by
     unfold cY;rw [ha];simp only;rw [if_neg (by simp)];unfold sO;rw [if_neg hsr]
    rw [er] at hk;have:=hk v x.p x.cap x.o w hsb hq1 hkeep;rw [if_pos rfl] at this;exact this (cx.left.sub (((List.Sublist.refl _).cons _).cons _))
  .have hs0:n=0/\0<o.src:=by simpa using hsr
   clear hsr;obtain ⟨rfl,hs0⟩:=hs0;have er:cY d u o=((uZ d1 u.j o.src (o.aE.map iE)).1,{ u with c:=cc,j:=(uZ d1 u.j o.src (o.aE.map iE)).2.1 },(uZ d1 u.j o.src (o.aE.map iE)).2.2):=by
    unfold cY;rw [ha];simp only;rw [if_neg (by simp),aIf _ _ _ hs0]
   rw [er] at hk;simp only at hk;obtain ⟨B,hB⟩:∃ B,B=kO k1 oc :: kM k0 gb mO :: kG gb cs :: (fG x q u.j++(bQ (q.mv v) d1++(fN cb q cc :: S))):=⟨_,rfl⟩;rw [<-hB];refine dS (λnI R' Ψ κ=>∃ (i:Nat) (p:Option Addr) (c:Nat),nI=i/\i<=o.aE.length/\κ=o.aE.length - i/\Ψ=aX/\R'=kL k p i c :: .buf p i c (cW ((o.aE.take i).map iE)) 9 1 :: B) ⟨⟨_,_,_,hst,λw G cx=>((cx.aCp 9 1).perm (.swap _ _ _)),0,none,0,rfl,Nat.zero_le _,rfl,rfl,rfl⟩,?_⟩
   rintro nI R1 Ψ κ _ ⟨i,p,c,rfl,hi,rfl,rfl,rfl⟩;refine Br.intro (λhlt=>?_) (λhge=>λk3 w G cx=>?_)
   .have hlt:i<o.aE.length:=by have:=fV hlt;omega
    obtain ⟨g,og,rfl⟩:=hth (by omega);have hx:=hb.aE _ (List.getElem_mem hlt);refine ⟨⟨by omega,by omega⟩,bF g og rfl λw G cx=>⟨o.aE[i].term,o.aE[i].data,by rw [Int.toNat_natCast];exact N4 (qU _ _ cx.yK) hlt,λ_=>⟨[kL k p i c],tru,aR,λw G cx=>dM cx (by simp),p,i,c,λw G cx=>⟨_,_,_,cx.get 0 rfl rfl,rfl⟩,λw G cx=>?_⟩⟩⟩;have sk:∀ (a:Own) (Y:List Own),List.Sublist [a] (a :: Y):=λa Y=>.cons_cons _ (List.nil_sublist _)
    refine (US (Φ:=Ψ) hT hx.1 (by omega)).use cx λw cx=>⟨_,rfl,_,Ψ,aR,cx,λw G cx=>dM cx (sk _ _),λk4=>⟨λw G cx=>dM cx (.cons _ (sk _ _)),λw G cx=>?_⟩⟩;have hlen:(cW ((o.aE.take i).map iE)).length=i*1:=by rw [List.length_map,List.length_map,List.length_take];omega
    have hrl:=hb.aWk;obtain ⟨p',c',w',hr,_,x9⟩:=(cx.perm (show (Own.blk k4 [Value.string (bs (vP o.aE[i]))] 9 :: (kL k p i c :: .buf p i c (cW ((o.aE.take i).map iE)) 9 1 :: B)++G).Perm (Own.blk k4 [Value.string (bs (vP o.aE[i]))] 9 :: .buf p i c (cW ((o.aE.take i).map iE)) 9 1 :: (kL k p i c :: B++G)) from .cons _ (.swap _ _ _))).YQ (ts:=40) (ty:=40) (kb:=#[false,false]) (bytes:=16) (P:=prog) (by kernel_rfl) (by omega) rfl rfl (by omega) (by omega)
    have et:cW ((o.aE.take i).map iE)++[Value.string (bs (vP o.aE[i]))]=cW ((o.aE.take (i+1)).map iE):=by
     rw [List.take_succ_eq_append_getElem hlt,List.map_append];simp only [cW,List.map_append,List.map_cons,List.map_nil];rfl
    rw [et] at x9;refine ⟨_,_,_,w',hr,.buf p' (i+1) c' (cW ((o.aE.take (i+1)).map iE)) 9 1 :: kL k p i c :: B,Ψ,aR,x9,λw G cx=>⟨cx.can 1 rfl (by show 0+1<=1;omega),λw' hw'=>⟨.buf p' (i+1) c' (cW ((o.aE.take (i+1)).map iE)) 9 1 :: kL k p' (i+1) c' :: B,Ψ,aR,cx.put 1 hw' rfl,by unfold bE;omega,kL k p' (i+1) c' :: .buf p' (i+1) c' (cW ((o.aE.take (i+1)).map iE)) 9 1 :: B,Ψ,_,aR,λw G cx=>cx.perm (.swap _ _ _),⟨i+1,p',c',by omega,by omega,rfl,rfl,rfl⟩,by omega⟩⟩⟩
   .have he:i=o.aE.length:=by have:=eV hge;omega
    subst he;rw [List.take_length] at cx;have hml:o.aE.length=(o.aE.map iE).length:=by rw [List.length_map]
    have c5:Ctx W w (.buf p o.aE.length c (cW (o.aE.map iE)) 9 1 :: (.blk k3 (a90 [(F.fI,#[pA k0,pA k1]),(F.fJ,#[pA k0,pA k])]) 258 :: kL k p o.aE.length c :: B++G)) Ψ:=cx.perm ((List.perm_append_comm_assoc [_,kL k p o.aE.length c] [.buf p o.aE.length c (cW (o.aE.map iE)) 9 1] (B++G)));obtain ⟨c6,hs,_⟩:=Ctx.freeze (α:=ByteArray) c5 (tX λy hy=>by
     obtain ⟨z,hz,rfl⟩:=List.mem_map.1 hy;have:=hb.aE z hz;have h9:=ZQ this.1 (by omega);rw [<-aQb,bK];unfold maxLen;omega)
    obtain ⟨Ξ,hΞ⟩:∃ Ξ:PW,Ξ=λM w=>Ψ M w/\Sl M w p (o.aE.map iE):=⟨_,rfl⟩
    haveI:aB Ξ:=by rw [hΞ];infer_instance
    have hw1:∀ M w,Ξ M w->Ψ M w:=by rw [hΞ];exact λM w h=>h.1
    have EP:∀ M w,Ξ M w->Sl M w p (o.aE.map iE):=by rw [hΞ];exact λM w h=>h.2
    have c7:Ctx W w (.blk k3 (a90 [(F.fI,#[pA k0,pA k1]),(F.fJ,#[pA k0,pA k])]) 258 :: (kL k p (o.aE.map iE).length c :: kO k1 oc :: kM k0 gb mO :: kG gb cs :: (fG x q u.j++(bQ (q.mv v) d1++((fN cb q cc :: S)++G))))) Ξ:=by
     have c8:=c6.add (Ψ:=λM w=>Sl M w p (o.aE.map iE)) hs;rw [<-hΞ,hB] at c8;rw [<-hml];have e9:(kO k1 oc :: kM k0 gb mO :: kG gb cs :: (fG x q u.j++(bQ (q.mv v) d1++(fN cb q cc :: S))))++G=kO k1 oc :: kM k0 gb mO :: kG gb cs :: (fG x q u.j++(bQ (q.mv v) d1++((fN cb q cc :: S)++G))):=by simp only [bM,List.cons_append]
     rw [<-e9];exact c8
    refine a2J (fs:=[(F.fI,#[pA k0,pA k1]),(F.fJ,#[pA k0,pA k])]) (by show 2<=1000;omega) c7 (aP8 (λM w h=>hoff M w (hw1 M w h)) (λM w h=>hT M w (hw1 M w h)) hs1 xM hb.ints.2 hq1 (aPY.weak hw1) hsb hb.aWm hb.aP7 hb.b1v EP hb.aWl (by rw [List.length_map];have:=hb.aWk;omega)) λn S' JG w aJ3 hJ cx=>?_;obtain ⟨rfl,rfl,Bx,v2,p3,c3,o3,g1,g2,g3,rfl⟩:=hJ;obtain ⟨⟨d2,j2,e2⟩,hy⟩:∃ y,uZ d1 u.j o.src (o.aE.map iE)=y:=⟨_,rfl⟩
    rw [hy] at hk g1 g2 g3 cx ⊢;simp only at hk g1 g2 g3 cx ⊢;have c9:Ctx W w ((kM k0 gb mO :: kG gb cs :: (fG (x.mv p3 c3 o3) q j2++(bQ (q.mv v2) d2++(fN cb q cc :: S))))++G) Ψ:=by
     have c10:=(cx.sub (List.sublist_append_right Bx _)).weak hw1;have e9:(kM k0 gb mO :: kG gb cs :: (fG (x.mv p3 c3 o3) q j2++(bQ (q.mv v2) d2++(fN cb q cc :: S))))++G=kM k0 gb mO :: kG gb cs :: (fG (x.mv p3 c3 o3) q j2++(bQ (q.mv v2) d2++((fN cb q cc :: S)++G))):=by simp only [bM,List.cons_append]
     rw [e9];exact c10
    refine ⟨e2,rfl,_,Ψ,aR,c9,Br.intro (λhne=>λw G cx=>⟨_,cx.get 0 rfl rfl,λw G cx=>?_⟩) (λhe=>λw G cx=>?_)⟩
    .have hne:e2≠0:=fV hne;refine a7o hm (S:=(kM k0 gb mO :: (fG (x.mv p3 c3 o3) q j2++(bQ (q.mv v2) d2++(fN cb q cc :: S))))++G) (cx.perm (.swap _ _ _)) λw cx=>⟨rfl,aQc gb (IP cs mO) q v2 (x.mv p3 c3 o3) cb d2 j2 cc S,Ψ,aR,cx.sub (by
      show List.Sublist (kG gb (IP cs mO) :: ((fG (x.mv p3 c3 o3) q j2++(bQ (q.mv v2) d2++(fN cb q cc :: S)))++G)) (kG gb (IP cs mO) :: kM k0 gb mO :: ((fG (x.mv p3 c3 o3) q j2++(bQ (q.mv v2) d2++(fN cb q cc :: S)))++G));exact .cons_cons _ ((List.Sublist.refl _).cons _)),λw G cx=>?_⟩
     have:=hk v2 p3 c3 o3 w g1 g2 (g3.trans hkeep);rw [if_neg hne] at this;exact this cx.left
    .have he:e2=0:=by simpa using eV he
     have:=hk v2 p3 c3 o3 w g1 g2 (g3.trans hkeep);rw [if_pos he] at this;exact this (cx.left.sub ((List.Sublist.refl _).cons _))
end
theorem aLR{M w b o cs}{l:List bA}(h:Pin b o cs l M w){j}(hj:j<l.length):∃ p c,cs.getD j []=l[j].cells p c/\l[j].aE.length<=c/\c<=maxLen/\l[j].Ok:=by
 obtain ⟨_,h1,h2⟩:=h j hj;obtain ⟨p,c,e,g1,g2,g3,_⟩:=a2d h2;exact ⟨p,c,e,g1,g2,g3⟩
theorem aD4{M w b o cs}{l:List bA}(h:Pin b o cs l M w){j}(hj:j<l.length){p c}(e:cs.getD j []=l[j].cells p c):Sl M w p l[j].aE:=by
 have:=(h j hj).2.2;rw [e] at this;exact aPD this
theorem aD5{M w b o cs}{l:List bA}(h:Pin b o cs l M w){j}(hj:j<l.length){p c}(e:cs.getD j []=l[j].cells p c):bT w b (o+j*9) (l[j].cells p c):=by
 have:=(h j hj).2.1;rw [e] at this;exact this
theorem aBZ{W w S}{Φ:PW}[aB Φ]{b r p c}(cx:Ctx W w (aV b r p c++S) Φ)(hok:∀ x∈r.log,x.Ok)(hlen:r.log.length<=4000){K}(hK:∀ q cap w',r.log.length<=cap->cap<=maxLen->Ctx W w' (aV b r p c++S) (λM w=>Φ M w/\Sl M w q r.log)->K (.returned (.slice q r.log.length cap)) w'):
  aG F.jV #[.pointer (some ⟨b,0,none⟩)] w K:=by
 refine iO (AQ b 0 (J:=K∘.returned) cx ?_);refine λw G cx=>⟨p,r.log.length,c,cx.get 0 rfl rfl,λw G cx=>?_⟩;have jE:Ctx W w (S++G) (Go.Vc.iT W (aV b r p c) Φ):=Ctx.aside (cx.re (bM _ _ _));refine y8 jE (λM w h=>a9u h (n:=r.log.length) (c:=c) (by simp) hok) (by omega) λq cap w cx=>?_;obtain ⟨_,a2e,hcap2⟩:=cx.sU 0 rfl;have x9:Ctx W w (.buf q r.log.length cap (bD r.log) 216 2 :: (aV b r p c++(S++G))) Φ:=cx.zU.perm List.perm_middle
 obtain ⟨QA,hs,_⟩:=Ctx.freeze (α:=bH) x9 (tO hok);have hst:aB (λM w=>Φ M w/\Sl M w q r.log):=dD Φ (λM w=>Sl M w q r.log);exact ⟨q,_,cap,rfl,aV b r p c++S,λM w=>Φ M w/\Sl M w q r.log,hst,gr (QA.add hs),λw G cx=>hK q cap w a2e hcap2 cx.left⟩
theorem aQd{w b r p c}(h:YW w b r p c):aG F.gN #[.pointer (some ⟨b,0,none⟩)] w λe w'=>e=.returned (.int .i64 r.role)/\w'=w :=
 (yZ b 0 w (λu w'=>u=.int .i64 r.role/\w'=w) ⟨r.role,h.at 4 rfl,rfl,rfl⟩).mono λe w' ⟨v,h1,h2,h3⟩=>⟨by rw [h1,h2],h3⟩
theorem a7u{w b r p c}(h:YW w b r p c):aG F.dU #[.pointer (some ⟨b,0,none⟩)] w λe w'=>e=.returned (.int .i64 r.aD)/\w'=w :=
 (wR b 0 w (λu w'=>u=.int .i64 r.aD/\w'=w) ⟨r.aD,h.at 5 rfl,rfl,rfl⟩).mono λe w' ⟨v,h1,h2,h3⟩=>⟨by rw [h1,h2],h3⟩
theorem aAm{W w S}{Φ:PW}[aB Φ]{b r p c}(cx:Ctx W w (aV b r p c++S) Φ){K}(hK:∀ w',Ctx W w' (aV b r p c++S) Φ->K (.returned (.int .i64 r.aD)) w'):
  aG F.dU #[.pointer (some ⟨b,0,none⟩)] w K :=
 (a7u (DX cx)).mono λe w' ⟨h1,h2⟩=>by subst h2;rw [h1];exact hK _ cx
theorem aIg{W w S}{Φ:PW}[aB Φ]{b r p c}(cx:Ctx W w (aV b r p c++S) Φ){K}(hK:∀ w',Ctx W w' (aV b r p c++S) Φ->K (.returned (.agg #[.int .i64 r.term,.int .i64 r.aK])) w'):
  aG F.nA #[.pointer (some ⟨b,0,none⟩)] w K:=by
 refine iO (yL b 0 (J:=K∘.returned) cx ?_);exact λ_ w G cx=>⟨r.term,r.aK,cx.row 0 rfl (zT (vs:=[.int .i64 r.term,.int .i64 r.aK]) rfl),λw G cx=>hK w cx.left⟩
structure a1u where
 q:DkP
 x:JoP
 cb:Nat
 rb:Nat
 rp:Option Addr
 rc:Nat
def oA(u:Bool)(b:Nat):Option Addr:=if u=true then some ⟨b,0,none⟩ else none
abbrev E9(P:a1u)(u:Bool):List Value:=[.pointer (some ⟨P.q.db,0,none⟩),.pointer (oA u P.x.jb),.pointer (oA u P.cb),.pointer (oA u P.rb)]
def upO(P:a1u)(d:iH)(u:VV):List Own:=aV P.rb u.r P.rp P.rc++(fG P.x P.q u.j++(bQ P.q d++[fN P.cb P.q u.c]))
def qB(P:a1u)(m:a6Y):List Own:=match m.up with
 | none=>bQ P.q m.d
 | some u=>upO P m.d u
structure a1v(Φ:PW)(P:a1u)(m:a6Y):Prop where
 dq:rW P.q m.d
 dk:LN Φ P.q m.d
 sb:∀ u,m.up=some u->SB P.x.p P.x.cap u.j.list P.x.o
structure KS where
 gb:Nat
 N:aHX
 cp:Option Addr
 cc:Nat
 P:Nat->a1u
abbrev grT(L:KS)(eS:List ByteArray):List Value:=[.pointer (some ⟨L.N.nb,0,none⟩),.slice L.cp eS.length L.cc]
def B9(L:KS)(G:gV):List Value:=E9 (L.P 0) (G.mem 0).up.isSome++(E9 (L.P 1) (G.mem 1).up.isSome++(E9 (L.P 2) (G.mem 2).up.isSome++grT L G.eS))
abbrev TI(L:KS)(eS:List ByteArray):Own:=.buf L.cp eS.length L.cc (cW eS) 9 1
def IX(L:KS)(G:gV):List Own:=qB (L.P 0) (G.mem 0)++(qB (L.P 1) (G.mem 1)++qB (L.P 2) (G.mem 2))
def eG(L:KS)(G:gV):List Own:=kG L.gb (B9 L G) :: (iG L.N G.gF++(TI L G.eS :: IX L G))
def aAn(L:KS)(G:gV)(i:Nat):List Own:=if i=0 then qB (L.P 1) (G.mem 1)++qB (L.P 2) (G.mem 2) else if i=1 then qB (L.P 0) (G.mem 0)++qB (L.P 2) (G.mem 2) else qB (L.P 0) (G.mem 0)++qB (L.P 1) (G.mem 1)
def KT(L:KS)(G:gV)(i:Nat):List Own:=iG L.N G.gF++(TI L G.eS :: aAn L G i)
structure x4(Φ:PW)(L:KS)(G:gV):Prop where
 mem:∀ i,i<3->a1v Φ (L.P i) (G.mem i)
 WD:G.gF.aZ.length<=500
section
variable {L:KS}{G:gV}{i:Nat}
theorem a2L(L G)(hi:i<3):(IX L G).Perm (qB (L.P i) (G.mem i)++aAn L G i):=by
 unfold IX aAn
 match i,hi with
 | 0,_=>exact .refl _
 | 1,_=>exact List.perm_append_comm_assoc _ _ _
 | 2,_ =>
  rw [if_neg (by decide),if_neg (by decide),<-bM];exact List.perm_append_comm
theorem a4v(L G)(hi:i<3)(F):(eG L G++F).Perm (kG L.gb (B9 L G) :: (qB (L.P i) (G.mem i)++(KT L G i++F))):=by
 unfold eG KT;rw [List.cons_append];refine .cons _ ?_;rw [<-bM (qB _ _)];refine List.Perm.append_right F ?_;refine (((a2L L G hi).cons _).append_left _).trans ?_;refine ((List.perm_middle (a:=TI L G.eS) (l₁:=qB (L.P i) (G.mem i)) (l₂:=aAn L G i)).symm.append_left _).trans ?_;exact List.perm_append_comm_assoc _ _ _
theorem aQe(L G):(B9 L G).length=14:=rfl
theorem UW(L G)(hi:i<3){k}(hk:k<4):(B9 L G)[i*4+k]? = (E9 (L.P i) (G.mem i).up.isSome)[k]? := by
 match i,hi,k,hk with
 | 0,_,0,_=>rfl
 | 0,_,1,_=>rfl
 | 0,_,2,_=>rfl
 | 0,_,3,_=>rfl
 | 1,_,0,_=>rfl
 | 1,_,1,_=>rfl
 | 1,_,2,_=>rfl
 | 1,_,3,_=>rfl
 | 2,_,0,_=>rfl
 | 2,_,1,_=>rfl
 | 2,_,2,_=>rfl
 | 2,_,3,_=>rfl
def mC(L:KS)(i:Nat)(P:a1u):KS:={ L with P:=put L.P i P }
theorem aLS(P m)(hi:i<3):KT (mC L i P) (fL G i m) i=KT L G i:=by
 unfold KT aAn
 match i,hi with
 | 0,_=>rfl
 | 1,_=>rfl
 | 2,_=>rfl
theorem aIh{P d}(hP:P.q.db=(L.P i).q.db)(hi:i<3):IP (B9 L G) (i*4)=B9 (mC L i P) (fL G i ⟨d,none⟩):=by
 have e:B9 (mC L i P) (fL G i ⟨d,none⟩)=B9 (mC L i { P with q:={ P.q with db:=(L.P i).q.db } }) (fL G i ⟨d,none⟩):=by rw [<-hP]
 rw [e]
 match i,hi with
 | 0,_=>rfl
 | 1,_=>rfl
 | 2,_=>rfl
theorem a7v{P m}(hP:P.q.db=(L.P i).q.db)(hj:P.x.jb=(L.P i).x.jb)(hc:P.cb=(L.P i).cb)(hr:P.rb=(L.P i).rb)(hu:m.up.isSome=(G.mem i).up.isSome)(hi:i<3):B9 L G=B9 (mC L i P) (fL G i m):=by
 have key:E9 P m.up.isSome=E9 (L.P i) (G.mem i).up.isSome:=by rw [hu];simp only [E9];rw [hP,hj,hc,hr]
 have e:∀ j,E9 ((mC L i P).P j) ((fL G i m).mem j).up.isSome=E9 (L.P j) (G.mem j).up.isSome:=λj=>by
  by_cases hij:j=i
  .subst hij;show E9 (put L.P j P j) ((put G.mem j m j)).up.isSome=_;rw [aS,aS];exact key
  .show E9 (put L.P i P j) ((put G.mem i m j)).up.isSome=_;rw [bG _ _ hij,bG _ _ hij]
 unfold B9;rw [e,e,e];rfl
theorem a4w(P m)(hi:i<3)(F):(kG L.gb (B9 (mC L i P) (fL G i m)) :: (qB P m++(KT L G i++F))).Perm (eG (mC L i P) (fL G i m)++F):=by
 have h:=a4v (mC L i P) (fL G i m) hi F;rw [aLS P m hi] at h;have e1:(mC L i P).P i=P:=aS _ _ _;have e2:(fL G i m).mem i=m:=aS _ _ _;rw [e1,e2] at h;exact h.symm
theorem x4.put{Φ}(h:x4 Φ L G){P m}(hm:a1v Φ P m):x4 Φ (mC L i P) (fL G i m):=⟨λj hj=>by
 by_cases e:j=i
 .subst e;have e1:(mC L j P).P j=P:=aS _ _ _;have e2:(fL G j m).mem j=m:=aS _ _ _;rw [e1,e2];exact hm
 .have e1:(mC L i P).P j=L.P j:=bG _ _ e;have e2:(fL G i m).mem j=G.mem j:=bG _ _ e;rw [e1,e2];exact h.mem j hj,h.WD⟩
theorem a1v.weak{Φ Ψ P m}(h:a1v Φ P m)(e:∀ M w,Ψ M w->Φ M w):a1v Ψ P m:=⟨h.dq,h.dk.weak e,h.sb⟩
theorem x4.weak{Φ Ψ}(h:x4 Φ L G)(e:∀ M w,Ψ M w->Φ M w):x4 Ψ L G:=⟨λi hi=>(h.mem i hi).weak e,h.WD⟩
end
end Go.Proofs.YtnlkemjhgdbfkaaGreatDoor
end

