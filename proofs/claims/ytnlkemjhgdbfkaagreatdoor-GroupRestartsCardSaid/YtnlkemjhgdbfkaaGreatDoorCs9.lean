/-
 The disk in memory;put;what only looks or sets a cell: walked.
-/
import Derived.Test.YtnlkemjhgdbfkaaGreatDoorCs8
import Derived.Test.YtnlkemjhgdbfkaaGreatDoorCs5
import Derived.Lib.LazyBuf
import Derived.Lib.SlBytesRow
import Derived.Laws.Cells
import Derived.Laws.IdiomRangeMap
import Derived.Laws.Bits128
open Go.Proofs.Tryz
set_option linter.unusedVariables false
set_option linter.unusedSimpArgs false
section
namespace Go.Proofs.YtnlkemjhgdbfkaaGreatDoor
open Go.Vc
abbrev fQ(f:wX):Value:=.agg #[.string (bs f.now),.string (bs f.last)]
abbrev iZ(p:Int × Int):Value:=.agg #[.int .i64 p.1,.int .i64 p.2]
abbrev a5p:wX:=⟨[],[]⟩
theorem SF:GTy prog 252 3 322 (Value.int .i64) fQ a5p:=.ofInt (by kernel_rfl) (by kernel_rfl) (λb x w=>by kernel_rfl) (λw=>by kernel_rfl)
theorem aCU:GTy prog 253 325 4 iZ Value.bool false:=by
 refine .aII (by kernel_rfl) ⟨_,underlying325⟩ (λb x w=>by kernel_rfl) (λx w=>?_) (λx y w=>?_) (λw=>by kernel_rfl)
 .have:Instr.sameBits 10000 (iZ x) (iZ x)=true:=by
   unfold Instr.sameBits;simp [Instr.sameBits]
  unfold Instr.keyThatStays;rw [if_pos this];rfl
 .have hs:prog.stoodInHeld 325=false:=by kernel_rfl
  obtain ⟨fs,ht⟩:∃ fs,prog.underlying 325=some (.struct fs):=⟨_,underlying325⟩;have hf:prog.fieldsOf 325=fs:=by simp [Program.fieldsOf,ht]
  have hr:DQ prog #[.int .i64 x.1,.int .i64 x.2] #[.int .i64 y.1,.int .i64 y.2] (prog.fieldsOf 325).toList=some (decide (x.1=y.1)&&(decide (x.2=y.2)&&true)):=by kernel_rfl
  have key:(Op.equalIn 10000 325 (iZ x) (iZ y)).run prog w=.ok (decide (x.1=y.1)&&(decide (x.2=y.2)&&true)) w:=by
   rw [show (10000:Nat)=9999+1 from rfl,run_equalIn_struct w 9999 325 _ _ (by rw [hf];exact ht) hs];exact MZ hr
  have h2:Op.equal 325 (iZ x) (iZ y)=Op.equalIn 10000 325 (iZ x) (iZ y):=by delta Op.equal Op.maxDepth;exact Eq.refl _
  rw [h2,key];refine congrArg (λb=>Result.ok b w) ?_;rw [Bool.and_true,<-Bool.decide_and];exact decide_eq_decide.2 ⟨λh=>Prod.ext h.1 h.2,λh=>by rw [h];exact ⟨rfl,rfl⟩⟩
structure DkP where
 db:Nat
 fm:Nat
 tE:List (bU Int wX)
 cW:Nat
 sm:Nat
 ET:List (bU (Int × Int) Bool)
 jL:Nat
 qp:Option Addr
 qc:Nat
 kp:Option Addr
 kc:Nat
abbrev lQ(l:List (Int × Int)):List Value:=l.flatMap λp=>[.int .i64 p.1,.int .i64 p.2]
abbrev vG(q:DkP)(d:iM):List Value:=[.map (some q.fm),.slice q.qp d.queue.length q.qc,.map (some q.sm),.int .i64 d.lost,.bool d.down,.int .i64 d.eL,.slice q.kp d.keep.length q.kc]
def b8(q:DkP)(d:iM):List Own:=[.blk q.db (vG q d) 256,.obj q.fm (bR (Value.int .i64) fQ q.tE q.cW),.obj q.sm (bR iZ Value.bool q.ET q.jL),.buf q.qp d.queue.length q.qc (lQ d.queue) 325 2]
structure pL(q:DkP)(d:iM):Prop where
 fok:GOk q.tE q.cW
 sok:GOk q.ET q.jL
 UR:∀ k,iA a5p q.tE k=d.files k
 a2p:∀ p,iA false q.ET p=decide (p∈d.queue)
 nodup:d.queue.Nodup
 range:∀ p∈d.queue,(0<=p.1/\p.1<16)/\0<=p.2/\p.2<262145
 size:∀ k,(d.files k).now.length<=16777216/\(d.files k).last.length<=16777216
 lost:0<=d.lost/\d.lost<=9223372036854775807
 eL:0<=d.eL/\d.eL<=9223372036854775807
abbrev dkF(q:DkP)(d:iM):PW:=λM w=>Sl M w q.kp d.keep
theorem wA(l):(lQ l).length=l.length*2:=by
 induction l with
 | nil=>rfl
 | cons x l ih =>
  show ((.int .i64 x.1 :: .int .i64 x.2 :: lQ l)).length=_;rw [List.length_cons,List.length_cons,ih,List.length_cons];omega
theorem Y5{l i}(h:i<l.length):((lQ l).drop (i*2)).take 2=[.int .i64 l[i].1,.int .i64 l[i].2]:=by
 induction l generalizing i with
 | nil=>cases h
 | cons x l ih =>
  cases i with
  | zero=>rfl
  | succ i =>
   have:=ih (i:=i) (by simpa using h);show ((.int .i64 x.1 :: .int .i64 x.2 :: lQ l).drop ((i+1)*2)).take 2=_;rw [show (i+1)*2=i*2+2 by omega,List.drop_succ_cons,List.drop_succ_cons,this];rfl
theorem a73:∀ (n:Nat) (l:List Nat),l.Nodup->(∀ x∈l,x<n)->l.length<=n
 | 0,l,_,h=>by
  cases l with
  | nil=>exact Nat.le_refl _
  | cons x l=>have:=h x (by simp);omega
 | n+1,l,hd,h=>by
  have h1:=a73 n (l.filter (· != n)) (hd.filter _) λx hx=>by
   have h2:=List.mem_filter.1 hx;have h3:=h x h2.1;have h4:x≠n:=by simpa using h2.2
   omega
  have h2:l.length<=(l.filter (· != n)).length+1:=by
   clear h h1
   induction l with
   | nil=>simp
   | cons x l ih =>
    obtain ⟨hx,hl⟩:=List.nodup_cons.1 hd;by_cases e:x=n
    .have:l.filter (· != n)=l:=List.filter_eq_self.2 λy hy=>by
      have:y≠n:=λe2=>hx (by rw [e,<-e2];exact hy);simpa using this
     rw [List.filter_cons_of_neg (by simp [e]),this,List.length_cons];exact Nat.le_refl _
    .rw [List.filter_cons_of_pos (by simpa using e),List.length_cons,List.length_cons];have:=ih hl;omega
  omega
theorem aEK{l:List (Int × Int)}(hd:l.Nodup)(h:∀ p∈l,(0<=p.1/\p.1<16)/\0<=p.2/\p.2<262145):l.length<=4194320:=by
 have h1:=a73 4194320 (l.map λp=>p.1.toNat*262145+p.2.toNat) (by
  refine List.nodup_iff_pairwise_ne.2 (List.pairwise_map.2 ?_);refine (List.nodup_iff_pairwise_ne.1 hd).imp_of_mem fun {a b} ha hb hab e=>hab ?_;have h1:=h a ha;have h2:=h b hb;exact Prod.ext (by omega) (by omega)) (λx hx=>by
  obtain ⟨p,hp,rfl⟩:=List.mem_map.1 hx;have:=h p hp;omega)
 rw [List.length_map] at h1;exact h1
theorem pL.aIK{q d}(h:pL q d):d.queue.length<=4194320:=aEK h.nodup h.range
section
variable {W w:World}{S G:List Own}{Φ:PW}
theorem pJ{q d}(cx:Ctx W w (b8 q d++S) Φ){i v}(h:(vG q d)[i]? = some v):w.cell? ⟨q.db,i,none⟩=some v:=cx.get 0 rfl h
theorem a74{q d}(cx:Ctx W w (b8 q d++S) Φ):w.heap[q.fm]? = some (bR (Value.int .i64) fQ q.tE q.cW):=cx.own (.obj q.fm (bR (Value.int .i64) fQ q.tE q.cW)) (by simp [b8])
theorem aWC{q d}(cx:Ctx W w (b8 q d++S) Φ):w.heap[q.sm]? = some (bR iZ Value.bool q.ET q.jL):=cx.own (.obj q.sm (bR iZ Value.bool q.ET q.jL)) (by simp [b8])
theorem aIL[aB Φ](cx:Ctx W w S Φ){K}(hk:∀ q w',pL q o9->Ctx W w' (b8 q o9++S) (λM w=>Φ M w/\dkF q o9 M w)->K (.returned (.pointer (some ⟨q.db,0,none⟩))) w'):aD F.ZC #[] w K:=by
 refine gC (a15 (J:=K∘.returned) cx λk0 k1 k2 w G cx=>?_);refine hk ⟨k2,k0,[],0,k1,[],0,none,0,none,0⟩ w ⟨⟨.nil,.nil,by simp⟩,⟨.nil,.nil,by simp⟩,λk=>rfl,λp=>rfl,List.nodup_nil,λp hp=>(by cases hp),λk=>⟨Nat.zero_le _,Nat.zero_le _⟩,⟨Int.le_refl 0,by decide⟩,⟨Int.le_refl 0,by decide⟩⟩ ?_;have c1:Ctx W w (.buf none 0 0 [] 325 2 :: (.blk k2 (vG ⟨k2,k0,[],0,k1,[],0,none,0,none,0⟩ o9) 256 :: .obj k1 (.map #[] 0) :: .obj k0 (.map #[] 0) :: S)) (λM w=>Φ M w/\Sl M w none ([]:List Int)):=(Ctx.left (S:=.blk k2 (vG ⟨k2,k0,[],0,k1,[],0,none,0,none,0⟩ o9) 256 :: .obj k1 (.map #[] 0) :: .obj k0 (.map #[] 0) :: S) cx).weak (λM w h=>⟨h,Sl.nil⟩) |>.MN 325 2
 refine c1.perm ?_;show (Own.buf none 0 0 [] 325 2 :: .blk k2 _ 256 :: .obj k1 (.map #[] 0) :: .obj k0 (.map #[] 0) :: S).Perm (.blk k2 _ 256 :: .obj k0 (.map #[] 0) :: .obj k1 (.map #[] 0) :: .buf none 0 0 [] 325 2 :: S);refine (List.Perm.swap _ _ _).trans (List.Perm.cons _ ?_);refine (List.Perm.swap _ _ _).trans ?_;refine (List.Perm.cons _ (List.Perm.swap _ _ _)).trans ?_;exact (List.Perm.swap _ _ _)
theorem a5q[aB Φ]{q d f}(cx:Ctx W w (b8 q d++S) Φ){K}(hk:∀ w',Ctx W w' (b8 q d++S) Φ->K (.returned (.int .i64 (qR d f))) w'):aD F.pS #[.pointer (some ⟨q.db,0,none⟩),.int .i64 f] w K:=by
 refine gC (NW q.db 0 f (J:=K∘.returned) cx λw G cx=>⟨d.down,pJ cx.left rfl,Br.intro (λh=>λw G cx=>?_) (λh=>λw G cx=>Br.intro (λh2=>λw G cx=>?_) (λh2=>λw G cx=>?_))⟩)
 .have e:qR d f=9:=by unfold qR;rw [if_pos h]
  rw [<-e];exact hk w cx.left
 .have e:qR d f=1:=by unfold qR;rw [if_neg (by rw [h];simp),if_pos (by simpa using h2)]
  rw [<-e];exact hk w cx.left
 .have e:qR d f=0:=by unfold qR;rw [if_neg (by rw [h];simp),if_neg (by simpa using h2)]
  rw [<-e];exact hk w cx.left
theorem a77[aB Φ]{q d}(hq:pL q d)(cx:Ctx W w (b8 q d++S) Φ){K}(hk:∀ w',pL q (gK d)->Ctx W w' (b8 q (gK d)++S) Φ->K (.returned (.bool (DC d))) w'):aD F.sJ #[.pointer (some ⟨q.db,0,none⟩)] w K:=by
 have ha:=hq.eL;refine gC (LN q.db 0 (J:=K∘.returned) cx λw G cx=>⟨d.down,pJ cx.left rfl,d.eL,λ_=>pJ cx.left rfl,Br.intro (λh=>λw G cx=>?_) (λh=>λw G cx=>⟨d.eL,pJ cx.left rfl,by unfold aY;omega,λw G cx=>⟨cx.can 0 rfl (by show 0+5+1<=7;omega),λw' hw'=>?_⟩⟩)⟩)
 .have h:d.down=true\/d.eL=0:=by simpa using h
  have e:gK d=d:=by unfold gK;rw [if_pos h]
  have e2:DC d=false:=by
   unfold DC;rcases h with h|h
   .rw [h];rfl
   .rw [h];simp
  rw [e] at hk;rw [<-e2];exact hk w hq cx.left
 .have h:¬ (d.down=true\/d.eL=0):=by simpa using h
  have e:gK d={ d with eL:=d.eL - 1 }:=by unfold gK;rw [if_neg h]
  have hdn:d.down=false:=by
   cases hd:d.down with
   | true=>exact absurd (.inl hd) h
   | false=>rfl
  rw [e] at hk;have jZ:=cx.put 0 hw' rfl;refine ⟨b8 q { d with eL:=d.eL - 1 }++S,Φ,aM,jZ,λw G cx=>⟨d.eL - 1,pJ cx.left rfl,λw G cx=>?_⟩⟩;have e2:decide (d.eL - 1=0)=DC d:=by
   unfold DC;rw [hdn];exact decide_eq_decide.2 ⟨λh=>by omega,λh=>by omega⟩
  rw [e2];exact hk w ⟨hq.fok,hq.sok,hq.UR,hq.a2p,hq.nodup,hq.range,hq.size,hq.lost,⟨by show 0<=d.eL - 1;omega,by show d.eL - 1<=_;omega⟩⟩ cx.left
theorem a78[aB Φ]{q d}(hq:pL q d){n}(hn:aY n)(cx:Ctx W w (b8 q d++S) Φ){K}(hk:∀ w',pL q (j9 d n)->Ctx W w' (b8 q (j9 d n)++S) Φ->K (.returned (.tuple #[])) w'):aD F.sE #[.pointer (some ⟨q.db,0,none⟩),.int .i64 n] w K:=by
 unfold aY at hn;refine gC (LH q.db 0 n (J:=K∘.returned) cx λw G cx=>⟨cx.can 0 rfl (by show 0+3+1<=7;omega),λw' hw'=>?_⟩);have jZ:=cx.put 0 hw' rfl;exact ⟨b8 q (j9 d n)++S,Φ,aM,jZ,λw G cx=>hk w ⟨hq.fok,hq.sok,hq.UR,hq.a2p,hq.nodup,hq.range,hq.size,⟨by show 0<=max n 0;omega,by show max n 0<=_;omega⟩,hq.eL⟩ cx.left⟩
theorem a3G[aB Φ]{q d}(hq:pL q d)(cx:Ctx W w (b8 q d++S) Φ){K}(hk:∀ w',pL q (bY d)->Ctx W w' (b8 q (bY d)++S) Φ->K (.returned (.tuple #[])) w'):aD F.qG #[.pointer (some ⟨q.db,0,none⟩)] w K:=by
 refine gC (HY q.db 0 (J:=K∘.returned) cx λw G cx=>⟨cx.can 0 rfl (by show 0+4+1<=7;omega),λw' hw'=>?_⟩);have jZ:=cx.put 0 hw' rfl;exact ⟨b8 q (bY d)++S,Φ,aM,jZ,λw G cx=>hk w ⟨hq.fok,hq.sok,hq.UR,hq.a2p,hq.nodup,hq.range,hq.size,hq.lost,hq.eL⟩ cx.left⟩
theorem EU(l:Bs)(a b):(bs l).extract a b=bs ((l.drop a).take (b - a)):=by
 apply ByteArray.ext;apply Array.toList_inj.1;rw [Go.Lib.extract_data];rfl
theorem US[aB Φ]{q d}(hq:pL q d){f a n}(cx:Ctx W w (b8 q d++S) Φ){K}(hk:∀ w',Ctx W w' (b8 q d++S) Φ->K (.returned (.tuple #[.string (bs (dH d f a n).1),.int .i64 (dH d f a n).2])) w'):aD F.nZ #[.pointer (some ⟨q.db,0,none⟩),.int .i64 f,.int .i64 a,.int .i64 n] w K:=by
 refine gC (LM q.db 0 f a n (J:=K∘.returned) cx λw G cx=>a5q (S:=S++G) (cx.re (aX _ _ _)) λw cx=>⟨_,rfl,b8 q d++S,Φ,aM,cx.re (aX _ _ _).symm,Br.intro (λh=>λw G cx=>?_) (λh=>λw G cx=>Br.intro (λh2=>λw G cx=>?_) (λh2=>λw G cx=>?_))⟩)
 .have e:dH d f a n=([],qR d f):=by unfold dH;rw [if_pos (eR h)]
  rw [e] at hk;exact hk w cx.left
 .have e:dH d f a n=([],1):=by unfold dH;rw [if_neg (dD h),if_pos (by simpa using h2)]
  rw [e] at hk;exact hk w cx.left
 .have h2:¬ (a<0\/n<0):=by simpa using h2
  have e:dH d f a n=(((d.files f).now.drop a.toNat).take n.toNat,0):=by unfold dH;rw [if_neg (dD h),if_neg h2]
  rw [e] at hk;have hfg:=hq.UR f;refine ⟨some q.fm,pJ cx.left rfl,λw G cx=>⟨bs (d.files f).now,bs (d.files f).last,λw2 zI=>?_,?_,?_,λw G cx=>?_⟩⟩
  .have hr:=vZ (P:=prog) SF (w:=w2) (by rw [zI];exact a74 cx.left) f;rw [hfg] at hr;exact hr
  .rw [bL];omega
  .rw [EU,bL];omega
  .have key:(((bs (d.files f).now).extract (min a ((bs (d.files f).now).size:Int)).toNat (bs (d.files f).now).size).extract 0 (min n (((bs (d.files f).now).extract (min a ((bs (d.files f).now).size:Int)).toNat (bs (d.files f).now).size).size:Int)).toNat)=bs (((d.files f).now.drop a.toNat).take n.toNat):=by
    rw [EU,EU,bL,bL,List.drop_zero,Nat.sub_zero]
    congr 1
    have e1:(((d.files f).now.drop (min a ((d.files f).now.length:Int)).toNat).take ((d.files f).now.length - (min a ((d.files f).now.length:Int)).toNat))=(d.files f).now.drop a.toNat:=by
     by_cases ha:a<=((d.files f).now.length:Int)
     .rw [show (min a ((d.files f).now.length:Int)).toNat=a.toNat by omega,List.take_of_length_le (by rw [List.length_drop];exact Nat.le_refl _)]
     .rw [show (min a ((d.files f).now.length:Int)).toNat=(d.files f).now.length by omega,List.drop_length,List.take_nil,List.drop_eq_nil_of_le (by omega)]
    rw [e1];by_cases hn:n<=(((d.files f).now.drop a.toNat).length:Int)
    .rw [show (min n (((d.files f).now.drop a.toNat).length:Int)).toNat=n.toNat by omega]
    .rw [show (min n (((d.files f).now.drop a.toNat).length:Int)).toNat=((d.files f).now.drop a.toNat).length by omega,List.take_length,List.take_of_length_le (by omega)]
   rw [key];exact hk w cx.left
end
theorem SG{l:Bs}:(bs l=ByteArray.mk #[]) ↔ l=[]:=(a5g (b:=[]))
abbrev bB(l:Bs):List Value:=l.map λx=>Value.int .u8 (x.toNat:Int)
theorem JP(l):(bB l).length=l.length:=by simp [bB]
theorem aEL{s t:Bs}{a}(h:t≠[]):nN (nN (List.replicate (max s.length (a+t.length)) (Value.int .u8 0)) 0 (bB s)) a (bB t)=bB (iW s a t):=by
 have e1:nN (List.replicate (max s.length (a+t.length)) (Value.int .u8 0)) 0 (bB s)=bB (s++List.replicate (max s.length (a+t.length) - s.length) 0):=by
  rw [KP _ _ _ (by rw [JP,List.length_replicate];omega),JP,List.take_zero,List.nil_append,Nat.zero_add,List.drop_replicate];unfold bB;rw [List.map_append,List.map_replicate];rfl
 rw [e1,KP _ _ _ (by rw [JP,JP,List.length_append,List.length_replicate];omega),JP];unfold bB;rw [<-List.map_take,<-List.map_drop,<-List.map_append,<-List.map_append,S6 h]
 congr 1
 rw [List.take_append,List.drop_append,List.take_replicate,List.drop_replicate,show min (a - s.length) (max s.length (a+t.length) - s.length)=a - s.length by omega,show max s.length (a+t.length) - s.length - (a+t.length - s.length)=0 by omega,List.replicate_zero,List.append_nil]
section
variable {W w:World}{S G:List Own}{Φ:PW}
theorem a79{w S}[aB Φ]{b o n c cs}{t:Bs}(cx:Ctx W w (.blk b cs 5 :: S) Φ)(h:t.length<=n)(hc:o+t.length<=cs.length):
  Sem.run prog (builtin Builtin.copy #[205,9] 3 #[false,false] #[.slice (some ⟨b,o,none⟩) n c,.string (bs t)]) w=.ok (.value (.int .i64 t.length)) (w.setCells b o (bB t))/\Ctx W (w.setCells b o (bB t)) (.blk b (nN cs o (bB t)) 5 :: S) Φ:=by
 have hcan:aG w b o t.length:=cx.can 0 rfl hc;refine ⟨?_,cx.FL 0 rfl rfl⟩;refine a5o ?_;have:=run_copy_string (P:=prog) w 205 9 3 5 b o n c (bs t) underlying205 (λw=>by kernel_rfl) (by rw [bL];exact h) (λj hj=>(hcan j (by rw [bL] at hj;exact hj)).1) (λj hj=>(hcan j (by rw [bL] at hj;exact hj)).2);rw [bL] at this;exact this
theorem aCV[aB Φ](cx:Ctx W w S Φ){s t:Bs}{a}(ha:a+t.length<=16777216)(hs:s.length<=16777216){K}(hk:∀ w',Ctx W w' S Φ->K (.returned (.string (bs (iW s a t)))) w'):aD F.Q7 #[.string (bs s),.int .i64 (a:Int),.string (bs t)] w K:=by
 refine gC (a17 (bs s) (a:Int) (bs t) (J:=K∘.returned) cx ?_);refine Br.intro (λh=>λw G cx=>?_) (λh=>?_)
 .rw [SG.1 (eR h),S5] at hk;exact hk w cx.left
 have hne:t≠[]:=λe=>by rw [e] at h;exact absurd h (by decide)
 have hlen:0<t.length:=List.length_pos_iff.2 hne;rw [bL,bL,show max (s.length:Int) ((a:Int)+(t.length:Int))=((max s.length (a+t.length):Nat):Int) by omega];generalize hN:max s.length (a+t.length)=N;have hN2:a+t.length<=N/\s.length<=N/\N<=16777216:=by omega
 rw [Int.toNat_natCast];refine ⟨by unfold aY;omega,by omega,λk2 w G cx=>?_⟩;have cx:Ctx W w (.blk k2 (List.replicate N (Value.int .u8 0)) 5 :: (S++G)) Φ:=cx;obtain ⟨h1,c1⟩:=a79 (t:=s) (o:=0) (n:=N) (c:=N) cx hN2.2.1 (by rw [List.length_replicate];omega);refine ⟨_,_,h1,.blk k2 (nN (List.replicate N (Value.int .u8 0)) 0 (bB s)) 5 :: S,Φ,aM,c1,⟨by omega,by omega,by omega⟩,λw G cx=>?_⟩;have cx:Ctx W w (.blk k2 (nN (List.replicate N (Value.int .u8 0)) 0 (bB s)) 5 :: (S++G)) Φ:=cx
 rw [Int.toNat_natCast,a3F _ _ _ _ (by omega),Nat.mul_one];obtain ⟨h2,c2⟩:=a79 (t:=t) (o:=a) (n:=N - a) (c:=N - a) cx (by omega) (by rw [KP _ _ _ (by rw [JP,List.length_replicate];omega)];simp only [List.length_append,List.length_take,List.length_drop,List.length_replicate,JP];omega);rw [<-hN,aEL hne] at c2;refine ⟨_,_,h2,.blk k2 (bB (iW s a t)) 5 :: S,Φ,aM,c2,λw G cx=>?_⟩;have cx:Ctx W w (.blk k2 (bB (iW s a t)) 5 :: (S++G)) Φ:=cx
 have hb:Lib.Bytes w k2 0 (bs (iW s a t)):=λi hi=>by
  have:=cx.get 0 rfl (b:=k2) (i:=i) (v:=.int .u8 ((iW s a t)[i]'(by rw [bL] at hi;exact hi)).toNat) (by rw [List.getElem?_map,List.getElem?_eq_getElem (by rw [bL] at hi;exact hi)];rfl);rw [Nat.zero_add];exact this
 have hc:=Lib.run_convert_whole (P:=prog) w 205 5 9 underlying205 underlying5 underlying9 k2 0 _ hb N;rw [bL,JD hne,hN] at hc;exact ⟨_,_,hc,.blk k2 (bB (iW s a t)) 5 :: S,Φ,aM,cx,λw G cx=>hk w (Ctx.left (Ctx.drop1 (S:=S++G) cx))⟩
end
abbrev aIM(f n:Int):List Value:=[.int .i64 f,.int .i64 n]
structure DkU where
 fm:Nat
 tE:List (bU Int wX)
 cW:Nat
 sm:Nat
 ET:List (bU (Int × Int) Bool)
 jL:Nat
 qp:Option Addr
 qc:Nat
def DkP.mv(q:DkP)(u:DkU):DkP:=⟨q.db,u.fm,u.tE,u.cW,u.sm,u.ET,u.jL,u.qp,u.qc,q.kp,q.kc⟩
def DkP.un(q:DkP):DkU:=⟨q.fm,q.tE,q.cW,q.sm,q.ET,q.jL,q.qp,q.qc⟩
theorem aIN(a n):MP a n=(List.range' 0 ((a+n - 1) / 64+1 - a / 64)).map λi=>((a / 64+i:Nat):Int):=by
 unfold MP;rw [List.range_eq_range']
theorem aIO(l p):lQ (l++[p])=lQ l++[.int .i64 p.1,.int .i64 p.2]:=by
 show List.flatMap _ (l++[p])=_;rw [List.flatMap_append];rfl
section
variable {W w:World}{S G:List Own}{Φ:PW}
theorem aWD{X Y}{F:List Own}(h:X.Sublist Y):(X++F).Sublist (Y++F):=h.append (List.Sublist.refl _)
abbrev XN:PW:=λ_ _=>True
theorem cQ[aB Φ]{X Y F}(c:Ctx W w (Y++F) Φ)(h:X.Sublist Y):Ctx W w (X++F) XN:=(c.sub (aWD h)).weak λ_ _ _=>trivial
theorem aAO[aB Φ]{q d}(hq:pL q d){f a s}(hs:s.length<=9223372036854775807)(cx:Ctx W w (b8 q d++S) Φ){K}(hk:∀ u w',pL (q.mv u) (eC d f a s).1->Ctx W w' (b8 (q.mv u) (eC d f a s).1++S) Φ->K (.returned (.int .i64 (eC d f a s).2)) w'):aD F.wL #[.pointer (some ⟨q.db,0,none⟩),.int .i64 f,.int .i64 a,.string (bs s)] w K:=by
 have hsame:∀ {e:Int} {w':World} {G:List Own},eC d f a s=(d,e)->Ctx W w' ((b8 q d++S)++G) Φ->K (.returned (.int .i64 e)) w':=by
  intro e w' G he cx;rw [he] at hk;exact hk q.un w' hq cx.left
 refine gC (ID q.db 0 f a (bs s) (J:=K∘.returned) cx λw G cx=>a5q (S:=S++G) (cx.re (aX _ _ _)) λw cx=>⟨_,rfl,b8 q d++S,Φ,aM,cx.re (aX _ _ _).symm,Br.intro (λh=>λw G cx=>?_) (λh=>Br.intro (λh2=>λw G cx=>?_) (λh2=>λw G cx=>?_))⟩)
 .exact hsame (by unfold eC;rw [if_pos (eR h)]) cx
 .exact hsame (by unfold eC;rw [if_neg (dD h),if_pos (eR h2)]) cx
 have h:=dD h;have h2:=dD h2;obtain ⟨a,rfl⟩:∃ n:Nat,a=n:=⟨a.toNat,by omega⟩;rw [bL];refine ⟨λh3=>(λ(h3:¬ (16777216:Int)<(a:Int))=>by unfold aY;omega) (by simpa using h3),Br.intro (λh3=>λw G cx=>?_) (λh3=>Br.intro (λh4=>λw G cx=>?_) (λh4=>λw G cx=>?_))⟩
 .have h3:(16777216:Int)<(a:Int)\/16777216 - (a:Int)<(s.length:Int):=by simpa using h3
  exact hsame (by unfold eC;rw [if_neg h,if_neg h2,if_pos h3]) cx
 all_goals have h3:¬ ((16777216:Int)<(a:Int)\/16777216 - (a:Int)<(s.length:Int)):=by simpa using h3
 .exact hsame (by unfold eC;rw [if_neg h,if_neg h2,if_neg h3,if_pos (SG.1 (eR h4))]) cx
 have h4:s≠[]:=λe=>dD h4 (by rw [e];rfl);have hpos:0<s.length:=List.length_pos_iff.2 h4;have hlen:a+s.length<=16777216:=by omega
 have hfl:0<=f/\f<16:=by
  have h':qR d f=0:=by omega
  unfold qR at h';split at h'
  .cases h'
  .split at h'
   .cases h'
   .omega
 have hd1:eC d f a s=({ d.set f ⟨iW (d.files f).now a s,(d.files f).last⟩ with queue:=XL f (MP a s.length) d.queue },0):=by
  unfold eC;rw [if_neg h,if_neg h2,if_neg h3,if_neg h4];rfl
 rw [hd1] at hk;generalize hD:d.set f ⟨iW (d.files f).now a s,(d.files f).last⟩=d1 at hk;refine ⟨some q.fm,pJ cx.left rfl,λw G cx=>⟨bs (d.files f).now,bs (d.files f).last,λw2 zI=>?_,λb w G cx=>?_⟩⟩
 .have hr:=vZ (P:=prog) SF (w:=w2) (by rw [zI];exact a74 cx.left) f;rw [hq.UR f] at hr;exact hr
 refine aCV (S:=(b8 q d++S)++G) cx hlen (hq.size f).1 λw cx=>⟨_,rfl,b8 q d++S,Φ,aM,cx,λw G cx=>⟨some q.fm,pJ cx.left rfl,λw G cx=>?_⟩⟩;obtain ⟨fV,oO,hr,UT,hg1⟩:=JN (P:=prog) SF hq.fok (a74 cx.left) f ⟨iW (d.files f).now a s,(d.files f).last⟩;have cx:Ctx W w (.blk q.db (vG q d) 256 :: .obj q.fm (bR (Value.int .i64) fQ q.tE q.cW) :: .obj q.sm (bR iZ Value.bool q.ET q.jL) :: .buf q.qp d.queue.length q.qc (lQ d.queue) 325 2 :: (S++G)) Φ:=cx
 have c1:=cx.putObj 1 (bR (Value.int .i64) fQ fV oO) rfl;have hq1:pL (q.mv ⟨q.fm,fV,oO,q.sm,q.ET,q.jL,q.qp,q.qc⟩) d1:=by
  subst hD;refine ⟨UT,hq.sok,λk=>?_,hq.a2p,hq.nodup,hq.range,λk=>?_,hq.lost,hq.eL⟩
  .have:=hg1 k;rw [hq.UR k] at this;exact this
  .show (if k=f then _ else d.files k).now.length<=_/\(if k=f then _ else d.files k).last.length<=_;have h1:=hq.size f;by_cases e:k=f
   .rw [if_pos e,JD h4];exact ⟨by omega,h1.2⟩
   .rw [if_neg e];exact hq.size k
 have hqu:d.queue=d1.queue:=by rw [<-hD];rfl
 have hkp:d.keep.length=d1.keep.length:=by rw [<-hD];rfl
 have e3:vG q d=vG (q.mv ⟨q.fm,fV,oO,q.sm,q.ET,q.jL,q.qp,q.qc⟩) d1:=by rw [<-hD];rfl
 rw [e3,hqu] at c1;refine ⟨_,hr,b8 (q.mv ⟨q.fm,fV,oO,q.sm,q.ET,q.jL,q.qp,q.qc⟩) d1++S,Φ,aM,c1,by decide,?_,?_⟩
 .unfold aY;rw [Int.tdiv_eq_ediv_of_nonneg (by omega)];omega
 rw [hqu] at hk;clear cx c1 e3 hr hg1 UT;generalize hm:(a+s.length - 1) / 64+1 - a / 64=m;have hm2:a / 64+m=(a+s.length - 1) / 64+1/\(a+s.length - 1) / 64<262144:=by omega
 refine ⟨λn R' aU k=>∃ (i:Nat) (u:DkU) (qu:List (Int × Int)),n=((a / 64+i:Nat):Int)/\i+k=m/\R'=b8 (q.mv u) { d1 with queue:=qu }++S/\aU=Φ/\pL (q.mv u) { d1 with queue:=qu }/\XL f ((List.range' i k).map λi=>((a / 64+i:Nat):Int)) qu=XL f (MP a s.length) d1.queue,⟨_,Φ,m,aM,λw G cx=>cx,0,_,d1.queue,by rw [Int.tdiv_eq_ediv_of_nonneg (by omega)];omega,by omega,rfl,rfl,hq1,by rw [aIN,hm]⟩,?_⟩;rintro n R' Φ k st ⟨i,u,qu,rfl,hik,rfl,rfl,rN,aQL⟩
 have hbd:((a:Int)+(s.length:Int) - 1).tdiv 64=(((a+s.length - 1) / 64:Nat):Int):=by rw [Int.tdiv_eq_ediv_of_nonneg (by omega)];omega
 rw [hbd];refine ⟨by unfold aY;omega,by unfold aY;omega,by decide,by unfold aY;omega,Br.intro (λhlt=>?_) (λhge=>λw G cx=>?_)⟩
 .have hlt:=eR hlt;obtain ⟨k,rfl⟩:∃ k',k=k'+1:=⟨k - 1,by omega⟩;intro b w G cx;have c1:∀ w',w'=w.setCells b 0 [.int .i64 f,.int .i64 ((a / 64+i:Nat):Int)]->Ctx W w' (.blk b [.int .i64 f,.int .i64 ((a / 64+i:Nat):Int)] 325 :: (b8 (q.mv u) { d1 with queue:=qu }++S)++G) Φ:=λw' hw'=>cx.FL 0 hw' rfl;refine ⟨cx.can 0 rfl (by decide),λw' hw'=>⟨_,Φ,aM,c1 w' hw',λw G cx=>⟨some u.sm,pJ (q:=q.mv u) (d:={ d1 with queue:=qu }) cx.drop1.left rfl,f,((a / 64+i:Nat):Int),cx.DV 0 rfl,decide ((f,((a / 64+i:Nat):Int))∈qu),λw2 zI=>?_,Br.intro (λhin=>?_) (λhin=>?_)⟩⟩⟩
  .have hr:=vZ (P:=prog) aCU (w:=w2) (by rw [zI];exact aWC (q:=q.mv u) (d:={ d1 with queue:=qu }) cx.drop1.left) (f,((a / 64+i:Nat):Int));rw [rN.a2p] at hr;exact hr
  .have hin:(f,((a / 64+i:Nat):Int)) ∉ qu:=by simpa using hin
   have aWE:XL f ((List.range' (i+1) k).map λi=>((a / 64+i:Nat):Int)) (qu++[(f,((a / 64+i:Nat):Int))])=XL f (MP a s.length) d1.queue:=by
    rw [<-aQL,List.range'_succ,List.map_cons];show _=XL f _ (if _ then _ else _);rw [if_neg hin]
   generalize hn:((a / 64+i:Nat):Int)=n at *;refine ⟨[.blk b [.int .i64 f,.int .i64 n] 325],XN,aM,λw G cx=>cQ cx (.cons_cons _ (List.nil_sublist _)),[.blk b [.int .i64 f,.int .i64 n] 325,.blk q.db (vG (q.mv u) { d1 with queue:=qu }) 256],XN,aM,λw G cx=>cQ cx (.cons_cons _ (.cons_cons _ (List.nil_sublist _))),
    f,n,λw G cx=>⟨f,n,cx.DV 0 rfl,rfl⟩,f,n,λw G cx=>⟨f,n,cx.DV 0 rfl,rfl⟩,some u.sm,λw G cx=>⟨some u.sm,cx.get 1 rfl rfl,rfl⟩,u.qp,qu.length,u.qc,λw G cx=>⟨_,_,_,cx.get 1 rfl rfl,rfl⟩,λg=>⟨λw G cx=>cQ cx (.cons _ (.cons_cons _ (List.nil_sublist _))),λw G cx=>cQ cx (.cons _ (.cons_cons _ (.cons_cons _ (List.nil_sublist _)))),λw G cx=>?_⟩⟩
   have cx:Ctx W w ([.blk g [.int .i64 f,.int .i64 n] 325,.blk b [.int .i64 f,.int .i64 n] 325,.blk q.db (vG (q.mv u) { d1 with queue:=qu }) 256,.obj u.fm (bR (Value.int .i64) fQ u.tE u.cW),.obj u.sm (bR iZ Value.bool u.ET u.jL)]++.buf u.qp qu.length u.qc (lQ qu) 325 2 :: (S++G)) Φ:=cx;have cx:=cx.perm (List.Perm.cons _ (List.perm_middle (l₁:=[Own.blk b [.int .i64 f,.int .i64 n] 325,.blk q.db (vG (q.mv u) { d1 with queue:=qu }) 256,.obj u.fm (bR (Value.int .i64) fQ u.tE u.cW),.obj u.sm (bR iZ Value.bool u.ET u.jL)])))
   obtain ⟨p',cap',w',hr,_,c2⟩:=cx.a2i (ts:=254) (ty:=254) (kb:=#[false,false]) (bytes:=16) (by kernel_rfl) (by decide) rfl rfl (by have:=rN.aIK;show qu.length<_;exact Nat.lt_of_le_of_lt this (by decide)) (by decide);refine ⟨p',qu.length+1,cap',w',hr,.buf p' (qu.length+1) cap' (lQ qu++aIM f n) 325 2 :: .blk b [.int .i64 f,.int .i64 n] 325 :: .blk q.db (vG (q.mv u) { d1 with queue:=qu }) 256 :: .obj u.fm (bR (Value.int .i64) fQ u.tE u.cW) :: .obj u.sm (bR iZ Value.bool u.ET u.jL) :: S,Φ,aM,c2,λw G cx=>cQ cx (.cons _ (.cons_cons _ (List.nil_sublist _))),λw G cx=>cQ cx (.cons _ (.cons_cons _ (.cons_cons _ (List.nil_sublist _)))),λw G cx=>⟨cx.can 2 rfl (by show 0+1+1<=7;omega),λw' hw'=>?_⟩⟩
   have c3:=cx.put 2 hw' rfl;refine ⟨.buf p' (qu.length+1) cap' (lQ qu++aIM f n) 325 2 :: .blk b [.int .i64 f,.int .i64 n] 325 :: .blk q.db ((vG (q.mv u) { d1 with queue:=qu }).set 1 (.slice p' (qu.length+1) cap')) 256 :: .obj u.fm (bR (Value.int .i64) fQ u.tE u.cW) :: .obj u.sm (bR iZ Value.bool u.ET u.jL) :: S,Φ,aM,c3,λw G cx=>cQ cx (.cons _ (.cons_cons _ (List.nil_sublist _))),trivial,λw G cx=>?_⟩
   obtain ⟨fV,oO,sn,J2,UT,hg1,hx1⟩:=aAL (P:=prog) aCU rN.sok (cx.own (.obj u.sm (bR iZ Value.bool u.ET u.jL)) (by simp)) (f,n);have c4:=cx.putObj 4 (bR iZ Value.bool fV oO) rfl;refine ⟨_,_,_,J2,.buf p' (qu.length+1) cap' (lQ qu++aIM f n) 325 2 :: .blk b [.int .i64 f,.int .i64 n] 325 :: .blk q.db ((vG (q.mv u) { d1 with queue:=qu }).set 1 (.slice p' (qu.length+1) cap')) 256 :: .obj u.fm (bR (Value.int .i64) fQ u.tE u.cW) :: .obj u.sm (bR iZ Value.bool fV oO) :: S,Φ,aM,c4,λw G cx=>cQ cx (.cons _ (.cons_cons _ (List.nil_sublist _))),trivial,λw G cx=>?_⟩
   obtain ⟨SH,hr2,ok2,hg2⟩:=aAM (P:=prog) (z:=false) 253 UT hx1 (cx.own (.obj u.sm (bR iZ Value.bool fV oO)) (by simp)) true;have c5:=cx.putObj 4 (bR iZ Value.bool SH oO) rfl;refine ⟨_,hr2,.buf p' (qu.length+1) cap' (lQ qu++aIM f n) 325 2 :: .blk b [.int .i64 f,.int .i64 n] 325 :: .blk q.db ((vG (q.mv u) { d1 with queue:=qu }).set 1 (.slice p' (qu.length+1) cap')) 256 :: .obj u.fm (bR (Value.int .i64) fQ u.tE u.cW) :: .obj u.sm (bR iZ Value.bool SH oO) :: S,Φ,aM,c5,λw G cx=>cQ cx (.cons _ (.cons_cons _ (List.nil_sublist _))),trivial,by unfold aY;omega,b8 (q.mv { u with qp:=p',qc:=cap',ET:=SH,jL:=oO }) { d1 with queue:=qu++[(f,n)] }++S,Φ,k,aM,λw G cx=>?_,⟨i+1,_,_,by omega,by omega,rfl,rfl,⟨rN.fok,ok2,rN.UR,λp=>?_,?_,λp hp=>?_,rN.size,rN.lost,rN.eL⟩,aWE⟩,Nat.lt_succ_self _⟩
   .have c6:Ctx W w (.buf p' (qu.length+1) cap' (lQ qu++aIM f n) 325 2 :: ([.blk q.db ((vG (q.mv u) { d1 with queue:=qu }).set 1 (.slice p' (qu.length+1) cap')) 256,.obj u.fm (bR (Value.int .i64) fQ u.tE u.cW),.obj u.sm (bR iZ Value.bool SH oO)]++(S++G))) Φ:=cx.sub (.cons_cons _ (.cons _ (List.Sublist.refl _)));have c7:=c6.perm List.perm_middle.symm;show Ctx W w (.blk q.db _ 256 :: .obj u.fm _ :: .obj u.sm _ :: .buf p' (qu++[(f,n)]).length cap' (lQ (qu++[(f,n)])) 325 2 :: (S++G)) Φ
    rw [aIO,List.length_append];have e4:vG (q.mv { u with qp:=p',qc:=cap',ET:=SH,jL:=oO }) { d1 with queue:=qu++[(f,n)] }=(vG (q.mv u) { d1 with queue:=qu }).set 1 (.slice p' (qu.length+1) cap'):=by
     show [_,Value.slice p' (qu++[(f,n)]).length cap',_,_,_,_,_]=_;rw [List.length_append];rfl
    rw [e4];exact c7
   .show iA false SH p=decide (p∈qu++[(f,n)]);rw [hg2 p,hg1 p];have:=rN.a2p p;by_cases e:p=(f,n)
    .rw [if_pos e,e];simp
    .rw [if_neg e];refine this.trans (decide_eq_decide.2 ?_);simp [e]
   .show (qu++[(f,n)]).Nodup;refine List.nodup_append.2 ⟨rN.nodup,by simp,λx hx y hy e=>?_⟩;rw [List.mem_singleton.1 hy] at e;exact hin (by rw [<-e];exact hx)
   .rcases List.mem_append.1 hp with hp|hp
    .exact rN.range p hp
    .rw [List.mem_singleton.1 hp];exact ⟨hfl,by show 0<=n;omega,by show n<262145;omega⟩
  .have hin:(f,((a / 64+i:Nat):Int))∈qu:=by simpa using hin
   refine ⟨by unfold aY;omega,b8 (q.mv u) { d1 with queue:=qu }++S,Φ,k,aM,λw G cx=>cx.drop1,⟨i+1,u,qu,by omega,by omega,rfl,rfl,rN,?_⟩,Nat.lt_succ_self _⟩;rw [<-aQL,List.range'_succ,List.map_cons];show _=XL f _ (if _ then _ else _);rw [if_pos hin]
 .have hge:=dD hge;have hk0:k=0:=by omega
  subst hk0;have:XL f (MP a s.length) d1.queue=qu:=aQL.symm;rw [this] at hk;exact hk u w rN cx.left
end
abbrev oB(p:Option Addr)(cap:Nat)(l:List (Int × Int)):Own:=.buf p l.length cap (lQ l) 325 2
theorem a3H:∀ (l:List (Int × Int)) (k:Nat),(lQ l).take (k*2)=lQ (l.take k)
 | l,0=>by simp
 | [],k+1=>by simp
 | x :: l,k+1=>by
  rw [show (k+1)*2=k*2+1+1 by omega,List.take_succ_cons];show (Value.int .i64 x.1 :: .int .i64 x.2 :: lQ l).take (k*2+1+1)=.int .i64 x.1 :: .int .i64 x.2 :: lQ (l.take k);rw [List.take_succ_cons,List.take_succ_cons,a3H l k]
theorem aIP{l i}(h:i<l.length)(x):nN (lQ l) (i*2) [.int .i64 x.1,.int .i64 x.2]=lQ (l.set i x):=by
 induction l generalizing i with
 | nil=>simp at h
 | cons y l ih =>
  cases i with
  | zero=>rfl
  | succ i =>
   have:=ih (i:=i) (by simpa using h);rw [List.set_cons_succ];show nN (Value.int .i64 y.1 :: .int .i64 y.2 :: lQ l) ((i+1)*2) [.int .i64 x.1,.int .i64 x.2]=Value.int .i64 y.1 :: .int .i64 y.2 :: lQ (l.set i x);rw [<-this];apply List.ext_getElem?;intro k;have hlen:(lQ l).length=l.length*2:=wA l;have hi:i<l.length:=by simpa using h
   generalize lQ l=cs at hlen this;by_cases hk:k<2
   .rw [sM _ _ _ _ (by omega)]
    match k,hk with
    | 0,_=>rfl
    | 1,_=>rfl
   .obtain ⟨m,rfl⟩:∃ m,k=m+2:=⟨k - 2,by omega⟩;simp only [List.getElem?_cons_succ];by_cases h1:m<i*2\/i*2+2<=m
    .rw [sM _ _ _ _ (by simp;omega),sM _ _ _ _ (by simp;omega)];simp only [List.getElem?_cons_succ]
    .obtain ⟨q,rfl⟩:∃ q,m=i*2+q:=⟨m - i*2,by omega⟩;rw [RP _ _ _ _ (by simp;omega) (by simp;omega),show i*2+q+2=(i+1)*2+q by omega,RP _ _ _ _ (by simp;omega) (by simp;omega)]
theorem aIQ{W w S}{Φ:PW}{p cap l}(cx:Ctx W w (oB p cap l :: S) Φ)(h:0<l.length):∃ g,p=some ⟨g,0,none⟩:=by
 obtain ⟨g,hg,_⟩:=cx.oG 0 rfl (by rw [wA];omega);exact ⟨g,hg⟩
theorem aIR{W w S}{Φ:PW}{g cap l}(cx:Ctx W w (oB (some ⟨g,0,none⟩) cap l :: S) Φ){i X}(hX:l[i]? = some X):bM w g (i*2) [.int .i64 X.1,.int .i64 X.2]:=by
 obtain ⟨hi,rfl⟩:=List.getElem?_eq_some_iff.1 hX;exact cx.aAs 0 rfl rfl (AW (Y5 hi))
theorem aQN{W w S}{Φ:PW}{g cap l}(cx:Ctx W w (oB (some ⟨g,0,none⟩) cap l :: S) Φ){i}(hi:i<l.length):aG w g (i*2) 2 :=
 cx.aAt 0 rfl rfl (by rw [wA];omega)
theorem aQO{W w w' S}{Φ:PW}[aB Φ]{g cap l}(cx:Ctx W w (oB (some ⟨g,0,none⟩) cap l :: S) Φ){i}(hi:i<l.length)(x)(e:w'=w.setCells g (i*2) [.int .i64 x.1,.int .i64 x.2]):
  Ctx W w' (oB (some ⟨g,0,none⟩) cap (l.set i x) :: S) Φ:=by
 have h:=cx.XZ 0 rfl rfl (by rw [wA];omega) (by rw [wA];simp only [List.length_cons,List.length_nil];omega) e;rw [aIP hi] at h;have hl:(l.set i x).length=l.length:=by simp
 show Ctx W w' (.buf (some ⟨g,0,none⟩) (l.set i x).length cap (lQ (l.set i x)) 325 2 :: S) Φ;rw [hl];exact h
def a5r(f:Int × Int->Bool)(l:List (Int × Int)):Int:=if l.findIdx f<l.length then (l.findIdx f:Int) else -1
structure aIS(Z:List Own)(Φ:PW)(df:FuncId)(dc:Array Value)(f:Int × Int->Bool):Prop where
 ok:qZ prog df=true
 go:∀ (x:Int × Int) {W w:World} {S:List Own},Ctx W w (Z++S) Φ->∀ {K:EkV},(∀ w',Ctx W w' (Z++S) Φ->K (.returned (.bool (f x))) w')->Calls prog df (Array.mk (iZ x :: dc.toList)) w K
theorem re3{W w}{Φ:PW}{o Z S G}(cx:Ctx W w ((o :: (Z++S))++G) Φ):Ctx W w (o :: (Z++(S++G))) Φ:=by
 rw [<-aX];exact cx
theorem re4{W w}{Φ:PW}{o Z S G}(cx:Ctx W w (o :: (Z++(S++G))) Φ):Ctx W w ((o :: (Z++S))++G) Φ:=by
 rw [<-aX] at cx;exact cx
theorem aIS.use{Z}{Φ:PW}[aB Φ]{df dc f}(h:aIS Z Φ df dc f)(x){W w S G o}(cx:Ctx W w ((o :: (Z++S))++G) Φ){K}(hk:∀ w',Ctx W w' ((o :: (Z++S))++G) Φ->K (.returned (.bool (f x))) w'):Calls prog df (Array.mk (iZ x :: dc.toList)) w K :=
 h.go x (S:=o :: (S++G)) ((re3 cx).perm (List.perm_middle (l₁:=Z) (l₂:=S++G)).symm) λw' cx=>hk w' (re4 (cx.perm List.perm_middle))
theorem a2q{W w S}{Φ:PW}[aB Φ]{df dc f Z}(hf:aIS Z Φ df dc f){p cap}(es)(hl:es.length<=100000000)(cx:Ctx W w (oB p cap es :: (Z++S)) Φ){K}(hK:∀ w',Ctx W w' (oB p cap es :: (Z++S)) Φ->K (.returned (.int .i64 (a5r f es))) w'):
  aD F.eB #[.slice p es.length cap,.func (.func df) #[] dc] w K:=by
 refine gC (kQ p es.length cap df dc (J:=K∘.returned) cx ?_);have hp:0<es.length->∃ g,p=some ⟨g,0,none⟩:=λh=>aIQ cx h;refine dN (λiI R' aU n=>∃ i:Nat,iI=i/\i<=es.length/\(∀ q (h:q<es.length),q<i->f es[q]=false)/\R'=oB p cap es :: (Z++S)/\aU=Φ/\n=es.length - i) ⟨⟨_,Φ,_,aM,λw G cx=>cx,0,rfl,Nat.zero_le _,λq h h2=>by omega,rfl,rfl,rfl⟩,?_⟩;clear cx;rintro iI R1 cF n _ ⟨i,rfl,hi,h1,rfl,rfl,rfl⟩;refine Br.intro (λhlt=>?_) (λhge=>λw G cx=>?_)
 .have hlt:i<es.length:=by have:=eR hlt;omega
  obtain ⟨g,hg⟩:=hp (by omega);subst hg;refine ⟨⟨by omega,by omega⟩,aW g 0 rfl λw G cx=>⟨es[i].1,es[i].2,by rw [Nat.zero_add,Int.toNat_natCast];exact aIR cx (List.getElem?_eq_getElem hlt),λw G cx=>⟨hf.ok,hf.use es[i] cx λw cx=>⟨_,rfl,oB (some ⟨g,0,none⟩) cap es :: (Z++S),cF,aM,cx,Br.intro (λhc=>λw G cx=>?_) (λhc=>?_)⟩⟩⟩⟩
  .have e:es.findIdx f=i:=List.findIdx_eq hlt |>.2 ⟨hc,λq hq=>by rw [h1 q (by omega) hq]⟩;have:=hK w cx.left;unfold a5r at this;rw [e,if_pos hlt] at this;exact this
  .exact ⟨by unfold aY;omega,_,cF,es.length - (i+1),aM,λw G cx=>cx,⟨i+1,by omega,by omega,λq h hq=>by
    by_cases e:q=i
    .subst e;exact hc
    .exact h1 q h (by omega),rfl,rfl,rfl⟩,by omega⟩
 .have hge:es.length<=i:=by have:=dD hge;omega
  have e:¬ es.findIdx f<es.length:=λh=>by
   have h2:=List.findIdx_getElem (w:=h);rw [h1 _ h (by omega)] at h2;cases h2
  have:=hK w cx.left;unfold a5r at this;rw [if_neg e] at this;exact this
set_option maxHeartbeats 2000000 in
theorem aAP{W w S}{Φ:PW}[aB Φ]{df dc f Z}(hdf:aIS Z Φ df dc f){p cap}(es)(hl:es.length<=100000000)(cx:Ctx W w (oB p cap es :: (Z++S)) Φ){K}(hK:∀ w',Ctx W w' (oB p cap (es.filter λx => !f x) :: (Z++S)) Φ->K (.returned (.slice p (es.filter λx => !f x).length cap)) w'):
  aD F.dX #[.slice p es.length cap,.func (.func df) #[] dc] w K:=by
 refine gC (kI p es.length cap df dc (J:=K∘.returned) cx ?_);have hp:0<es.length->∃ g,p=some ⟨g,0,none⟩:=λh=>aIQ cx h;obtain ⟨_,hnc,hcm⟩:=cx.tT 0 rfl;clear cx;refine λw G cx=>a2q hdf es hl (S:=S++G) (re3 cx) λw cx=>⟨_,rfl,oB p cap es :: (Z++S),Φ,aM,re4 cx,?_⟩;clear cx;unfold a5r;by_cases hf:es.findIdx f<es.length
 case neg =>
  rw [if_neg hf];refine Br.intro (λ_=>λw G cx=>?_) (λh=>absurd rfl (dD h));have e:es.filter (λx => !f x)=es:=List.filter_eq_self.2 λx hx=>by
   cases h:f x with
   | false=>rfl
   | true=>exact absurd (List.findIdx_lt_length.2 ⟨x,hx,h⟩) hf
  rw [e] at hK;exact hK w cx.left
 rw [if_pos hf];obtain ⟨g,hg⟩:=hp (by omega);subst hg;obtain ⟨i0,hi0⟩:∃ i0,es.findIdx f=i0:=⟨_,rfl⟩;have hg0:f (es[i0]'(by omega))=true:=by
  have:=List.findIdx_getElem (w:=hf);simp only [hi0] at this;exact this
 have hb0:∀ q (h:q<es.length),q<i0->f es[q]=false:=λq h hq=>by
  have:=List.not_of_lt_findIdx (p:=f) (xs:=es) (i:=q) (by omega);simpa using this
 rw [hi0] at hf ⊢;have hstart:es.take i0=(es.take (i0+1)).filter λx => !f x:=by
  rw [List.take_succ_eq_append_getElem hf,List.filter_append,List.filter_cons_of_neg (by rw [hg0];simp),List.filter_nil,List.append_nil];refine (List.filter_eq_self.2 λx hx=>?_).symm;obtain ⟨q,hq,rfl⟩:=List.getElem_of_mem hx;rw [List.length_take] at hq;rw [List.getElem_take,hb0 q (by omega) (by omega)];rfl
 refine Br.intro (λh=>absurd (eR h) (by omega)) (λ_=>⟨by unfold aY;omega,?_⟩);refine dN (λaI bI R' aU n=>∃ (i j:Nat) (cur:List (Int × Int)),aI=i/\bI=j/\i<j/\j<=es.length/\cur.length=es.length/\cur.take i=(es.take j).filter (λx => !f x)/\cur.drop j=es.drop j/\R'=oB (some ⟨g,0,none⟩) cap cur :: (Z++S)/\aU=Φ/\n=es.length - j)
  ⟨⟨_,Φ,_,aM,λw G cx=>cx,i0,i0+1,es,rfl,by omega,by omega,hf,rfl,hstart,rfl,rfl,rfl,rfl⟩,?_⟩
 rintro aI bI R1 cF n _ ⟨i,j,cur,rfl,rfl,hij,hj,tC,htk,hdr,rfl,rfl,rfl⟩;refine Br.intro (λhlt=>?_) (λhge=>?_)
 .have hlt:j<es.length:=by have:=eR hlt;omega
  have hcj:cur[j]'(by omega)=es[j]:=by
   have h:=congrArg (λl=>l[0]?) hdr;simp only [List.getElem?_drop,Nat.add_zero] at h;rw [List.getElem?_eq_getElem (by omega),List.getElem?_eq_getElem hlt] at h;exact Option.some.inj h
  have htj:es.take (j+1)=es.take j++[es[j]]:=List.take_succ_eq_append_getElem hlt;have hdj:cur.drop (j+1)=es.drop (j+1):=by rw [<-List.drop_drop,<-List.drop_drop,hdr]
  refine ⟨⟨by omega,by omega⟩,aW g 0 rfl λw G cx=>⟨(cur[j]'(by omega)).1,(cur[j]'(by omega)).2,by rw [Nat.zero_add,Int.toNat_natCast];exact aIR cx (List.getElem?_eq_getElem (by omega)),λb w G cx=>⟨hdf.ok,hdf.use (cur[j]'(by omega)) cx λw cx=>⟨_,rfl,oB (some ⟨g,0,none⟩) cap cur :: (Z++S),cF,aM,cx,Br.intro (λhc=>?_) (λhc=>?_)⟩⟩⟩⟩
  .have hk:f es[j]=false:=by rw [hcj] at hc;simpa using hc
   refine ⟨⟨by omega,by omega⟩,aW g 0 rfl λw G cx=>⟨by rw [Nat.zero_add,Int.toNat_natCast];exact aQN cx (i:=i) (by omega),λw' hw'=>?_⟩⟩;rw [Nat.zero_add,Int.toNat_natCast] at hw';have CD:=aQO cx (i:=i) (by omega) (cur[j]'(by omega)) hw';refine ⟨oB (some ⟨g,0,none⟩) cap (cur.set i (cur[j]'(by omega))) :: (Z++S),cF,aM,CD,by unfold aY;omega,by unfold aY;omega,_,cF,es.length - (j+1),aM,λw G cx=>cx,⟨i+1,j+1,cur.set i (cur[j]'(by omega)),by omega,by omega,by omega,by omega,by rw [List.length_set];exact tC,?_,?_,rfl,rfl,rfl⟩,by omega⟩
   .rw [List.take_succ_eq_append_getElem (by rw [List.length_set];omega),List.take_set_of_le (Nat.le_refl _),List.getElem_set_self,htk,htj,List.filter_append,List.filter_cons_of_pos (by rw [hk];rfl),List.filter_nil,hcj]
   .rw [List.drop_set_of_lt (by omega)];exact hdj
  .have hk:f es[j]=true:=by rw [hcj] at hc;simpa using hc
   refine ⟨by unfold aY;omega,_,cF,es.length - (j+1),aM,λw G cx=>cx,⟨i,j+1,cur,rfl,by omega,by omega,by omega,tC,?_,hdj,rfl,rfl,rfl⟩,by omega⟩;rw [htj,List.filter_append,List.filter_cons_of_neg (by rw [hk];simp),List.filter_nil,List.append_nil,htk]
 .have hge:j=es.length:=by have:=dD hge;omega
  subst hge;rw [List.take_length] at htk;have hil:(es.filter λx => !f x).length=i:=by rw [<-htk,List.length_take];omega
  refine ⟨⟨by omega,by omega,hnc⟩,λw G cx=>?_⟩;have jZ:Ctx W w (oB (some ⟨g,0,none⟩) cap cur :: ((Z++S)++G)) cF:=cx;obtain ⟨w',hr,CD⟩:=jZ.aQK rfl (ts:=254) (ty:=0) (kb:=#[false]) (k:=i) (bytes:=16) (by kernel_rfl) (by kernel_rfl) (by omega) (by omega);rw [tC] at hr;rw [a3H,htk] at CD;refine ⟨w',by rw [Int.toNat_natCast];exact hr,oB (some ⟨g,0,none⟩) cap (es.filter λx => !f x) :: (Z++S),cF,aM,by show Ctx W w' (.buf _ (es.filter _).length cap (lQ _) 325 2 :: _) _;rw [hil];exact CD,⟨by omega,by omega⟩,λw G cx=>?_⟩
  have:=hK w cx.left;rw [hil] at this;rw [JO,Int.toNat_natCast];exact this
theorem aAQ{Φ:PW}[aB Φ]{kb f}:aIS [.blk kb [.int .i64 f] 3] Φ F.yD #[.pointer (some ⟨kb,0,none⟩)] (λp=>decide (p.1=f)):=⟨by kernel_rfl,λx W w S cx K hk=>by
 refine gC (CX x.1 x.2 kb 0 (J:=K∘.returned) cx ?_);exact λb w G cx=>⟨f,cx.get 0 rfl rfl,λw G cx=>hk w cx.left⟩⟩
structure aWF(Z:List Own)(Φ:PW)(df:FuncId)(dc:Array Value)(f:Int × Int->Bool):Prop where
 ok:qZ prog df=true
 go:∀ (x:Int × Int) (b:Bool) {W w:World} {S:List Own},Ctx W w (Z++S) Φ->∀ {K:EkV},(∀ w',Ctx W w' (Z++S) Φ->K (.returned (.bool (f x))) w')->Calls prog df (Array.mk (iZ x :: .bool b :: dc.toList)) w K
theorem aAR{Φ:PW}[aB Φ]{kb f}:aWF [.blk kb [.int .i64 f] 3] Φ F.yE #[.pointer (some ⟨kb,0,none⟩)] (λp=>decide (p.1=f)):=⟨by kernel_rfl,λx b W w S cx K hk=>by
 refine gC (CY x.1 x.2 b kb 0 (J:=K∘.returned) cx ?_);exact λb w G cx=>⟨f,cx.get 0 rfl rfl,λw G cx=>hk w cx.left⟩⟩
theorem a3I(A Z S G:List Own):(A++(Z++(S++G))).Perm (Z++(A++(S++G))):=by
 rw [<-aX A,<-aX Z];exact List.perm_append_comm.append_right _
abbrev xR(b:Nat)(es:List (bU (Int × Int) Bool))(tH:Nat):Own:=.obj b (bR iZ Value.bool es tH)
theorem aAS{W w Z S}{Φ:PW}[aB Φ]{df dc f}(hdf:aWF Z Φ df dc f){b es tH}(ok:GOk es tH)(cx:Ctx W w (xR b es tH :: (Z++S)) Φ){K}(hK:∀ fV w',GOk fV tH->(∀ y,iA false fV y=if f y=true then false else iA false es y)->Ctx W w' (xR b fV tH :: (Z++S)) Φ->K (.returned (.tuple #[])) w'):
  aD F.cV #[.map (some b),.func (.func df) #[] dc] w K:=by
 refine gC (gX (some b) df dc (J:=K∘.returned) cx ?_);intro w G cx;have hb:=cx.own (xR b es tH) (by simp);refine ⟨_,_,run_range_map (P:=prog) w 253 325 4 b _ tH aCU.map hb,.obj w.heap.size (.mapIter (some b) tH #[] tH) :: xR b es tH :: (Z++S),Φ,aM,cx.newObj rfl,?_⟩;clear hb cx;generalize w.heap.size=r;refine dN (λR' aU k=>∃ (seen:Array Nat) (fV:List (bU (Int × Int) Bool)),R'=.obj r (.mapIter (some b) tH seen tH) :: xR b fV tH :: (Z++S)/\aU=Φ/\k=SE seen.toList fV/\GOk fV tH/\(∀ e∈fV,e.born∈seen.toList->f e.key=false)/\(∀ y,f y=false->iA false fV y=iA false es y))
  ⟨⟨_,Φ,_,aM,λw G cx=>cx,#[],es,rfl,rfl,rfl,ok,λe he hs=>by simp at hs,λy _=>rfl⟩,?_⟩
 rintro R1 Φ n _ ⟨seen,fV,rfl,rfl,rfl,UT,aIT,OH⟩;intro w G cx;have hr:=cx.own (.obj r (.mapIter (some b) tH seen tH)) (by simp);have hb:=cx.own (xR b fV tH) (by simp);rcases aIJ (P:=prog) 0 hr hb UT.lt (Nat.le_refl _) with ⟨hall,hrun⟩|⟨a,ha,hns,w1,hw1,hrun⟩
 .refine .inl ⟨w,hrun,.obj r (.mapIter (some b) tH seen tH) :: xR b fV tH :: (Z++S),Φ,aM,cx,λw G cx=>?_⟩;refine hK fV w UT (λy=>?_) (Ctx.left (Ctx.drop1 cx));cases hy:f y with
  | false=>rw [if_neg (by simp)];exact OH y hy
  | true =>
   rw [if_pos rfl];exact rK λe he e2=>by
    have:=aIT e he (hall e he);rw [e2,hy] at this;cases this
 .have c1:Ctx W w1 ((.obj r (.mapIter (some b) tH seen tH) :: xR b fV tH :: (Z++S))++G) Φ:=by
   rcases hw1 with rfl|rfl
   .exact cx
   .exact cx.draw 1
  have c2:=c1.putObj 0 (.mapIter (some b) tH (seen.push a.born) tH) rfl;refine .inr ⟨_,_,_,hrun,.obj r (.mapIter (some b) tH (seen.push a.born) tH) :: xR b fV tH :: (Z++S),Φ,aM,c2,λw G cx=>?_⟩;refine ⟨a.key.1,a.key.2,a.val,w,aCT UT (cx.own (.obj r (.mapIter (some b) tH (seen.push a.born) tH)) (by simp)) (cx.own (xR b fV tH) (by simp)) ha,.obj r (.mapIter (some b) tH (seen.push a.born) tH) :: xR b fV tH :: (Z++S),Φ,aM,cx,λb0 w G cx=>⟨hdf.ok,?_⟩⟩
  have cx:Ctx W w ([Own.obj r (.mapIter (some b) tH (seen.push a.born) tH),xR b fV tH]++(Z++(S++G))) Φ:=by
   rw [<-aX Z];exact cx
  have cz:Ctx W w (Z++([Own.obj r (.mapIter (some b) tH (seen.push a.born) tH),xR b fV tH]++(S++G))) Φ:=cx.perm (a3I _ _ _ _);refine hdf.go a.key a.val cz λw cz=>⟨_,rfl,.obj r (.mapIter (some b) tH (seen.push a.born) tH) :: xR b fV tH :: (Z++S),Φ,aM,?_,Br.intro (λhc=>λw G cx=>?_) (λhc=>?_)⟩
  .have:=cz.perm (a3I _ _ _ _).symm;rw [<-aX Z] at this;exact this
  .obtain ⟨SH,aWG,ok2,hg2,hsub,hne⟩:=a7Z (P:=prog) aCU UT (cx.own (xR b fV tH) (by simp)) a.key 325 0 #[false,false];have c3:=cx.putObj 1 (bR iZ Value.bool SH tH) rfl;refine ⟨_,aWG,.obj r (.mapIter (some b) tH (seen.push a.born) tH) :: xR b SH tH :: (Z++S),Φ,aM,c3,_,Φ,SE (seen.push a.born).toList SH,aM,λw G cx=>cx,⟨_,SH,rfl,rfl,rfl,ok2,λe he hs=>?_,λy hy=>?_⟩,?_⟩
   .rw [Array.toList_push] at hs;rcases List.mem_append.1 hs with hs|hs
    .exact aIT e (hsub.subset he) hs
    .have hb2:=List.mem_singleton.1 hs;have:e=a:=qA UT.tO (hsub.subset he) ha hb2;exact absurd (by rw [this]) (hne e he)
   .rw [hg2 y,if_neg (λe=>by rw [e,hc] at hy;cases hy)];exact OH y hy
   .rw [Array.toList_push];exact OV (hsub.map _) ha hns (List.nodup_iff_pairwise_ne.2 (List.pairwise_map.2 UT.tO))
  .refine ⟨_,Φ,SE (seen.push a.born).toList fV,aM,λw G cx=>cx,⟨_,fV,rfl,rfl,rfl,UT,λe he hs=>?_,OH⟩,?_⟩
   .rw [Array.toList_push] at hs;rcases List.mem_append.1 hs with hs|hs
    .exact aIT e he hs
    .have:e=a:=qA UT.tO he ha (List.mem_singleton.1 hs);rw [this];exact hc
   .rw [Array.toList_push];exact OV (List.Sublist.refl _) ha hns (List.nodup_iff_pairwise_ne.2 (List.pairwise_map.2 UT.tO))
theorem aAT{W w S}{Φ:PW}[aB Φ]{q d}(hq:pL q d){f s}(hs:s.length<=16777216)(cx:Ctx W w (b8 q d++S) Φ){K}(hk:∀ u w',pL (q.mv u) (ES d f s)->Ctx W w' (b8 (q.mv u) (ES d f s)++S) Φ->K (.returned (.tuple #[])) w'):aD F.u6 #[.pointer (some ⟨q.db,0,none⟩),.int .i64 f,.string (bs s)] w K:=by
 refine gC (FZ q.db 0 f (bs s) (J:=K∘.returned) cx λkb w G cx=>⟨f,cx.get 0 rfl rfl,λw G cx=>⟨some q.fm,pJ (d:=d) cx.drop1.left rfl,λw G cx=>?_⟩⟩);obtain ⟨fV,oO,hr,UT,hg1⟩:=JN (P:=prog) SF hq.fok (a74 (d:=d) cx.drop1.left) f ⟨s,s⟩;have cx:Ctx W w (.blk kb [.int .i64 f] 3 :: .blk q.db (vG q d) 256 :: .obj q.fm (bR (Value.int .i64) fQ q.tE q.cW) :: .obj q.sm (bR iZ Value.bool q.ET q.jL) :: oB q.qp q.qc d.queue :: (S++G)) Φ:=cx
 have c1:=(cx.putObj 2 (bR (Value.int .i64) fQ fV oO) rfl).perm (List.perm_middle (l₁:=[Own.blk kb [.int .i64 f] 3,.blk q.db (vG q d) 256,.obj q.fm (bR (Value.int .i64) fQ fV oO),.obj q.sm (bR iZ Value.bool q.ET q.jL)]));refine ⟨_,hr,oB q.qp q.qc d.queue :: .blk kb [.int .i64 f] 3 :: .blk q.db (vG q d) 256 :: .obj q.fm (bR (Value.int .i64) fQ fV oO) :: .obj q.sm (bR iZ Value.bool q.ET q.jL) :: S,Φ,aM,c1,λw G cx=>⟨q.qp,_,q.qc,cx.get 2 rfl rfl,λw G cx=>?_⟩⟩
 have hle:=hq.aIK;refine aAP (Z:=[.blk kb [.int .i64 f] 3]) aAQ d.queue (by omega) (S:=.blk q.db (vG q d) 256 :: .obj q.fm (bR (Value.int .i64) fQ fV oO) :: .obj q.sm (bR iZ Value.bool q.ET q.jL) :: (S++G)) cx λw cx=>?_;have ef:(d.queue.filter λp => !(decide (p.1=f)))=d.queue.filter λp=>decide (p.1≠f):=by
  refine congrArg (λg=>d.queue.filter g) (funext λp=>?_);by_cases h:p.1=f<;>simp [h]
 rw [ef] at cx ⊢;generalize hqu:(d.queue.filter λp=>decide (p.1≠f))=qu at cx ⊢;refine ⟨_,_,_,rfl,oB q.qp q.qc qu :: .blk kb [.int .i64 f] 3 :: .blk q.db (vG q d) 256 :: .obj q.fm (bR (Value.int .i64) fQ fV oO) :: .obj q.sm (bR iZ Value.bool q.ET q.jL) :: S,Φ,aM,cx,λw G cx=>⟨cx.can 2 rfl (by show 0+1+1<=7;omega),λw' hw'=>?_⟩⟩;have c2:=(cx.put 2 hw' rfl);refine ⟨oB q.qp q.qc qu :: .blk kb [.int .i64 f] 3 :: .blk q.db ((vG q d).set 1 (.slice q.qp qu.length q.qc)) 256 :: .obj q.fm (bR (Value.int .i64) fQ fV oO) :: .obj q.sm (bR iZ Value.bool q.ET q.jL) :: S,Φ,aM,c2,λw G cx=>⟨some q.sm,cx.get 2 rfl rfl,λw G cx=>?_⟩⟩
 have cx:Ctx W w ([oB q.qp q.qc qu,.blk kb [.int .i64 f] 3,.blk q.db ((vG q d).set 1 (.slice q.qp qu.length q.qc)) 256,.obj q.fm (bR (Value.int .i64) fQ fV oO)]++xR q.sm q.ET q.jL :: (S++G)) Φ:=cx;have cx:=cx.perm List.perm_middle;have cx:Ctx W w (xR q.sm q.ET q.jL :: ([oB q.qp q.qc qu]++.blk kb [.int .i64 f] 3 :: (.blk q.db ((vG q d).set 1 (.slice q.qp qu.length q.qc)) 256 :: .obj q.fm (bR (Value.int .i64) fQ fV oO) :: (S++G)))) Φ:=cx
 have cx:=cx.perm (List.Perm.cons _ List.perm_middle);refine aAS (Z:=[.blk kb [.int .i64 f] 3]) aAR hq.sok cx λSH w ok2 hg2 cx=>?_;have cx:Ctx W w ([xR q.sm SH q.jL,.blk kb [.int .i64 f] 3,oB q.qp q.qc qu]++.blk q.db ((vG q d).set 1 (.slice q.qp qu.length q.qc)) 256 :: .obj q.fm (bR (Value.int .i64) fQ fV oO) :: (S++G)) Φ:=cx;refine ⟨rfl,[xR q.sm SH q.jL,.blk kb [.int .i64 f] 3,oB q.qp q.qc qu]++.blk q.db ((vG q d).set 1 (.slice q.qp qu.length q.qc)) 256 :: .obj q.fm (bR (Value.int .i64) fQ fV oO) :: S,Φ,aM,cx,λw G cx=>?_⟩
 have hd:ES d f s={ d.set f ⟨s,s⟩ with queue:=qu }:=by unfold ES;rw [hqu]
 refine hk ⟨q.fm,fV,oO,q.sm,SH,q.jL,q.qp,q.qc⟩ w ?_ ?_
 .rw [hd];have hsub:qu.Sublist d.queue:=by rw [<-hqu];exact List.filter_sublist
  refine ⟨UT,ok2,λk=>?_,λp=>?_,hq.nodup.sublist hsub,λp hp=>hq.range p (hsub.subset hp),λk=>?_,hq.lost,hq.eL⟩
  .have:=hg1 k;rw [hq.UR k] at this;exact this
  .show iA false SH p=decide (p∈qu);rw [hg2 p,hq.a2p p,<-hqu];by_cases e:p.1=f
   .rw [if_pos (by simpa using e)];symm;exact decide_eq_false λh=>by
     have:=(List.mem_filter.1 h).2;simp [e] at this
   .rw [if_neg (by simpa using e)];refine decide_eq_decide.2 ⟨λh=>List.mem_filter.2 ⟨h,by simpa using e⟩,λh=>(List.mem_filter.1 h).1⟩
  .show (if k=f then _ else d.files k).now.length<=_/\(if k=f then _ else d.files k).last.length<=_;by_cases e:k=f
   .rw [if_pos e];exact ⟨hs,hs⟩
   .rw [if_neg e];exact hq.size k
 .rw [hd];have c3:Ctx W w (xR q.sm SH q.jL :: oB q.qp q.qc qu :: .blk q.db ((vG q d).set 1 (.slice q.qp qu.length q.qc)) 256 :: .obj q.fm (bR (Value.int .i64) fQ fV oO) :: S) Φ:=(Ctx.left (S:=[xR q.sm SH q.jL,.blk kb [.int .i64 f] 3,oB q.qp q.qc qu]++.blk q.db ((vG q d).set 1 (.slice q.qp qu.length q.qc)) 256 :: .obj q.fm (bR (Value.int .i64) fQ fV oO) :: S) cx).sub (.cons_cons _ (.cons _ (List.Sublist.refl _)))
  have c4:=c3.perm (show ([xR q.sm SH q.jL,oB q.qp q.qc qu]++([Own.blk q.db ((vG q d).set 1 (.slice q.qp qu.length q.qc)) 256,.obj q.fm (bR (Value.int .i64) fQ fV oO)]++S)).Perm ([Own.blk q.db ((vG q d).set 1 (.slice q.qp qu.length q.qc)) 256,.obj q.fm (bR (Value.int .i64) fQ fV oO)]++([xR q.sm SH q.jL,oB q.qp q.qc qu]++S)) from a3I _ _ [] S);exact c4
theorem aIU(n):bits .and .i64 n 1=n % 2:=by
 have h15:(BitVec.ofInt 64 1).toNat=2 ^ 1 - 1:=by decide
 have key:(BitVec.ofInt 64 n &&& BitVec.ofInt 64 1).toNat=(n % ((2 ^ 64:Nat):Int)).toNat % 2 ^ 1:=by
  rw [BitVec.toNat_and,BitVec.toNat_ofInt,h15,Nat.and_two_pow_sub_one_eq_mod]
 show IntKind.i64.wrap ((BitVec.ofInt 64 n &&& BitVec.ofInt 64 1).toNat:Nat)=n % 2;rw [key,IntKind.wrap_i64];omega
theorem a0Q{P t}(n w):Sem.run P (binOp .and t (.int .i64 n) (.int .i64 1)) w=.ok (.int .i64 (n % 2)) w:=by
 rw [binOp_and,intBits_and,aIU];rfl
theorem aIV(M w cs)(x:Int)(h:Gv.rep M w cs x):(cs.all λu=>nM u)=true:=by
 obtain ⟨rfl,_⟩:=h;rfl
theorem aMA{M w b o l}(h:Sl M w (some ⟨b,o,none⟩) l){i}(hi:i<l.length):w.cell? ⟨b,o+i,none⟩=some (.int .i64 l[i]):=by
 obtain ⟨b',o',cs,e,_,h3,rfl,_⟩:=h i hi;cases e;have:=h3 0 (by simp);simpa [show (Gv.ty Int).size=1 from rfl] using this
theorem a8a{κ ν}[DecidableEq κ]{z}:∀ {es:List (bU κ ν)},es.Pairwise (λa b=>a.key≠b.key)->∀ a∈es,iA z es a.key=a.val
 | [],_,a,ha=>by cases ha
 | e :: es,hp,a,ha=>by
  obtain ⟨h1,h2⟩:=List.pairwise_cons.1 hp;show (if a.key=e.key then e.val else iA z es a.key)=a.val;rcases List.mem_cons.1 ha with rfl|ha
  .rw [if_pos rfl]
  .rw [if_neg (λh=>h1 a ha h.symm)];exact a8a h2 a ha
theorem aMB{κ ν}{es fV:List (bU κ ν)}(hk:fV.map bU.key=es.map bU.key)(hb:fV.map bU.born=es.map bU.born){e}(he:e∈fV):∃ e'∈es,e'.key=e.key/\e'.born=e.born:=by
 obtain ⟨i,hi,rfl⟩:=List.getElem_of_mem he;have hl:i<es.length:=by have:=congrArg List.length hk;simp at this;omega
 have h1:(fV.map bU.key)[i]? = (es.map bU.key)[i]? := by rw [hk]
 have h2:(fV.map bU.born)[i]? = (es.map bU.born)[i]? := by rw [hb]
 rw [List.getElem?_map,List.getElem?_map,List.getElem?_eq_getElem hi,List.getElem?_eq_getElem hl] at h1 h2;exact ⟨es[i],List.getElem_mem hl,(Option.some.inj h1).symm,(Option.some.inj h2).symm⟩
section
variable {W w:World}{S G:List Own}{Φ:PW}
theorem aAU[aB Φ]{p cap}{l:List Int}(hl:l.length<=1000000)(mF:∀ M w,Φ M w->Sl M w p l)(cx:Ctx W w S Φ){K}(hk:∀ p' c' w',Ctx W w' S (λM w=>Φ M w/\Sl M w p' l)->K (.returned (.slice p' l.length c')) w'):aD F.nV #[.slice p l.length cap] w K:=by
 refine gC (zV p l.length cap (J:=K∘.returned) cx (Br.intro (λhn=>λw G cx=>?_) (λhn=>λkb w G cx=>?_)))
 .have h:l=[]:=by
   cases l with
   | nil=>rfl
   | cons x l =>
    obtain ⟨b,o,cs,e,_⟩:=mF _ _ cx.uX 0 (by simp);rw [e] at hn;cases hn
  subst h;exact hk none 0 w (cx.left.add Sl.nil)
 .obtain ⟨p',cap',w',cs,hrun,c'⟩:=Ctx.a43 (P:=prog) (ts:=37) (ty:=37) (kb:=#[false,false]) (bytes:=8) (c2:=cap) cx (by kernel_rfl) aIV mF (by omega) (by omega);obtain ⟨c2,aQP,_⟩:=c'.freeze c'.uX.2;exact ⟨_,_,_,_,hrun,S,λM w=>Φ M w/\Sl M w p' l,aM,(c2.weak λ_ _ h=>h.1).add aQP,λw G cx=>hk p' cap' w cx.left⟩
theorem aCX[aB Φ]{q d}(hq:pL q d){n}(hn:aY n){p cap l}(hl:l.length<=1000000)(mF:∀ M w,Φ M w->Sl M w p l)(cx:Ctx W w (b8 q d++S) Φ){K}(hk:∀ p' c' w',pL { q with kp:=p',kc:=c' } (pI d n l)->Ctx W w' (b8 { q with kp:=p',kc:=c' } (pI d n l)++S) (λM w=>Φ M w/\dkF { q with kp:=p',kc:=c' } (pI d n l) M w)->K (.returned (.tuple #[])) w'):
  aD F.v7 #[.pointer (some ⟨q.db,0,none⟩),.int .i64 n,.slice p l.length cap] w K:=by
 unfold aY at hn;refine gC (NV q.db 0 n p l.length cap (J:=K∘.returned) cx λw G cx=>aAU hl mF cx λp' c' w cx=>⟨_,_,_,rfl,b8 q d++S,(λM w=>Φ M w/\Sl M w p' l),aM,cx,λw G cx=>⟨cx.can 0 rfl (by show 0+5+1<=7;omega),λw' hw'=>?_⟩⟩);have c1:=cx.put 0 hw' rfl;refine ⟨.blk q.db ((vG q d).set 5 (.int .i64 (max n 0))) 256 :: .obj q.fm (bR (Value.int .i64) fQ q.tE q.cW) :: .obj q.sm (bR iZ Value.bool q.ET q.jL) :: oB q.qp q.qc d.queue :: S,(λM w=>Φ M w/\Sl M w p' l),aM,c1,λw G cx=>⟨cx.can 0 rfl (by show 0+6+1<=7;omega),λw' hw'=>?_⟩⟩
 have c2:=cx.put 0 hw' rfl;exact ⟨b8 { q with kp:=p',kc:=c' } (pI d n l)++S,(λM w=>Φ M w/\Sl M w p' l),aM,c2,λw G cx=>hk p' c' w ⟨hq.fok,hq.sok,hq.UR,hq.a2p,hq.nodup,hq.range,hq.size,hq.lost,⟨by show 0<=max n 0;omega,by show max n 0<=_;omega⟩⟩ cx.left⟩
end
theorem aEN{keep i p fs}(h:keep=[]\/keep.getD (i % keep.length) 0 % 2=0\/((fs p.1).now.length:Int)<=p.2*64):M4 keep i p fs=fs:=by
 unfold M4;rw [if_pos h]
theorem aIW{keep i p fs}(h:¬ (keep=[]\/keep.getD (i % keep.length) 0 % 2=0\/((fs p.1).now.length:Int)<=p.2*64)):
  M4 keep i p fs=λk=>if k=p.1 then ⟨(fs p.1).now,iW (fs p.1).last (p.2*64).toNat (((fs p.1).now.drop (p.2*64).toNat).take 64)⟩ else fs k:=by
 unfold M4;rw [if_neg h]
section
variable {W w:World}{S G:List Own}{Φ:PW}
theorem aEO{keep:List Int}{p}(hkp:0<keep.length->∃ g o,p=some ⟨g,o,none⟩){K}(hk:∀ b o,(keep≠[]->p=some ⟨b,o,none⟩)->K b o):vJ (some !decide ((keep.length:Int)=0)) p K:=by
 by_cases h:keep=[]
 .subst h;exact aGn rfl λb o=>hk b o λh=>absurd rfl h
 .obtain ⟨g,o,e⟩:=hkp (List.length_pos_iff.2 h);exact aW g o e (hk g o λ_=>e)
structure CrI(q:DkP)(d:iM)(keep:List Int)(i:Nat)(tE:List (bU Int wX))(cW:Nat)(fs:Int->wX):Prop where
 ok:GOk tE cW
 get:∀ k,iA a5p tE k=fs k
 size:∀ k,(fs k).now.length<=16777216/\(fs k).last.length<=16777216
 rest:B1 keep i (d.queue.drop i) fs=B1 keep 0 d.queue d.files
abbrev dkC(q:DkP)(d:iM)(tE:List (bU Int wX))(cW:Nat):List Own:=[.blk q.db (vG q { d with down:=true,eL:=0 }) 256,.obj q.fm (bR (Value.int .i64) fQ tE cW),.obj q.sm (bR iZ Value.bool q.ET q.jL),oB q.qp q.qc d.queue]
theorem KQ[aB Φ]{q d}(hq:pL q d){p cap keep}(hl:keep.length<=1000000)(mF:∀ M w,Φ M w->Sl M w p keep)(cx:Ctx W w (b8 q d++S) Φ){K}(hk:∀ u w',pL (q.mv u) (bV d keep)->Ctx W w' (b8 (q.mv u) (bV d keep)++S) Φ->K (.returned (.tuple #[])) w'):aD F.jP #[.pointer (some ⟨q.db,0,none⟩),.slice p keep.length cap] w K:=by
 have hqp:0<d.queue.length->∃ g,q.qp=some ⟨g,0,none⟩:=λh=>by
  obtain ⟨g,hg,_⟩:=cx.oG 3 rfl (by rw [wA];omega);exact ⟨g,hg⟩
 have hkp:0<keep.length->∃ g o,p=some ⟨g,o,none⟩:=λh=>by
  obtain ⟨b,o,cs,e,_⟩:=mF _ _ cx.uX 0 h;exact ⟨b,o,e⟩
 refine gC (HZ q.db 0 p keep.length cap (J:=K∘.returned) cx λw G cx=>⟨d.down,pJ cx.left rfl,Br.intro (λh=>λw G cx=>?_) (λh=>λw G cx=>⟨cx.can 0 rfl (by show 0+4+1<=7;omega),λw' hw'=>?_⟩)⟩)
 .have e:bV d keep=d:=by unfold bV;rw [if_pos h]
  rw [e] at hk;exact hk q.un w hq cx.left
 have c1:=cx.put 0 hw' rfl;refine ⟨.blk q.db ((vG q d).set 4 (.bool true)) 256 :: .obj q.fm (bR (Value.int .i64) fQ q.tE q.cW) :: .obj q.sm (bR iZ Value.bool q.ET q.jL) :: oB q.qp q.qc d.queue :: S,Φ,aM,c1,λw G cx=>⟨cx.can 0 rfl (by show 0+5+1<=7;omega),λw' hw'=>?_⟩⟩;have c2:=cx.put 0 hw' rfl;refine ⟨dkC q d q.tE q.cW++S,Φ,aM,c2,λw G cx=>⟨q.qp,d.queue.length,q.qc,cx.get 0 rfl rfl,?_⟩⟩;refine dN (λiI R' aU n=>∃ (i:Nat) (tE:List (bU Int wX)) (cW:Nat) (fs:Int->wX),iI=i/\i+n=d.queue.length/\R'=dkC q d tE cW++S/\aU=Φ/\CrI q d keep i tE cW fs) ⟨⟨_,Φ,d.queue.length,aM,λw G cx=>cx,0,q.tE,q.cW,d.files,rfl,by omega,rfl,rfl,⟨hq.fok,hq.UR,hq.size,rfl⟩⟩,?_⟩
 rintro iI R1 Φ n st ⟨i,tE,cW,fs,rfl,hin,rfl,rfl,hI⟩;refine Br.intro (λhlt=>?_) (λhge=>λw G cx=>?_)
 .have hlt:i<d.queue.length:=by have:=eR hlt;omega
  obtain ⟨n,rfl⟩:∃ m,n=m+1:=⟨n - 1,by omega⟩;have aWH:d.queue.drop i=d.queue[i] :: d.queue.drop (i+1):=List.drop_eq_getElem_cons hlt;have hrg:=hq.range _ (List.getElem_mem hlt);have eE:=hI.rest;rw [aWH] at eE;have eE:B1 keep (i+1) (d.queue.drop (i+1)) (M4 keep i d.queue[i] fs)=B1 keep 0 d.queue d.files:=eE;generalize hp:d.queue[i]=P at eE hrg;obtain ⟨F,n0⟩:=P;obtain ⟨m,rfl⟩:∃ m:Nat,n0=m:=⟨n0.toNat,by have:=hrg.2.1;simp only at this;omega⟩
  have hm:m<262145:=by have:=hrg.2.2;simp only at this;omega
  have b15:aY ((m:Int)*64):=by unfold aY;omega
  obtain ⟨g,hg⟩:=hqp (by omega);refine ⟨⟨by omega,by omega⟩,aW g 0 hg λw G cx=>⟨F,m,?_,λb=>⟨dkC q d tE cW++S,Φ,aM,λw G cx=>cx,b15,some q.fm,λw G cx=>⟨some q.fm,cx.get 0 rfl rfl,rfl⟩,bs (fs F).now,bs (fs F).last,λw G cx=>⟨bs (fs F).now,bs (fs F).last,λw2 zI=>?_,rfl⟩,λkb=>⟨λw G cx=>cx.drop1,λw G cx=>⟨cx.can 0 rfl (by decide),λw' hw'=>?_⟩⟩⟩⟩⟩
  .rw [Nat.zero_add,Int.toNat_natCast];have:bM w g (i*2) [.int .i64 d.queue[i].1,.int .i64 d.queue[i].2]:=cx.aAs 3 rfl hg (AW (Y5 hlt));rw [hp] at this;exact this
  .have hr:=vZ (P:=prog) SF (w:=w2) (by rw [zI];exact cx.own (.obj q.fm (bR (Value.int .i64) fQ tE cW)) (by simp)) F;rw [hI.get] at hr;exact hr
  have c1:=cx.FL 0 hw' rfl;refine ⟨.blk kb [.string (bs (fs F).now),.string (bs (fs F).last)] 322 :: (dkC q d tE cW++S),Φ,aM,c1,λw G cx=>cx.drop1,λw G cx=>?_⟩;have JG:w.cell? ⟨kb,0,none⟩=some (.string (bs (fs F).now)):=cx.get 0 rfl rfl;refine ⟨λh=>by simpa using h,λh=>?_,?_⟩
  .have:(keep.length:Int)≠0:=by simpa using h
   rw [Int.tmod_eq_emod_of_nonneg (by omega)];exact ⟨Int.emod_nonneg _ (by omega),Int.emod_lt_of_pos _ (by omega)⟩
  refine aEO hkp λb2 o2 hpk=>⟨keep.getD (i % keep.length) 0,λh=>?_,keep.getD (i % keep.length) 0 % 2,λ_ w=>a0Q _ w,bs (fs F).now,λ_=>JG,Br.intro (λhc=>?_) (λhc=>?_)⟩
  .have hne:keep≠[]:=λe=>by rw [e] at h;simp at h
   have hpos:=List.length_pos_iff.2 hne;have hmod:i % keep.length<keep.length:=Nat.mod_lt _ hpos;have hs:=mF _ _ cx.uX;rw [hpk hne] at hs;have:=aMA hs hmod;rw [Int.tmod_eq_emod_of_nonneg (by omega),show ((i:Int) % (keep.length:Int)).toNat=i % keep.length by omega,this,List.getD_eq_getElem?_getD,List.getElem?_eq_getElem hmod];rfl
  .have hc:keep=[]\/keep.getD (i % keep.length) 0 % 2=0\/((fs F).now.length:Int)<=(m:Int)*64:=by
    rw [bL] at hc;simp only [Bool.or_eq_true,decide_eq_true_eq] at hc;rcases hc with (hc|hc)|hc
    .exact .inl (List.eq_nil_of_length_eq_zero (by omega))
    .exact .inr (.inl hc)
    .exact .inr (.inr hc)
   rw [aEN (p:=(F,(m:Int))) hc] at eE;exact ⟨by unfold aY;have:=hq.aIK;omega,dkC q d tE cW++S,Φ,n,aM,λw G cx=>cx.drop1,⟨i+1,tE,cW,fs,by omega,by omega,rfl,rfl,hI.ok,hI.get,hI.size,eE⟩,Nat.lt_succ_self _⟩
  .have hc:¬ (keep=[]\/keep.getD (i % keep.length) 0 % 2=0\/((fs F).now.length:Int)<=(m:Int)*64):=by
    rw [bL] at hc;simp only [Bool.or_eq_false_iff,decide_eq_false_iff_not] at hc;rintro (h|h|h)
    .exact hc.1.1 (by rw [h];rfl)
    .exact hc.1.2 h
    .exact hc.2 h
   rw [aIW (p:=(F,(m:Int))) hc] at eE;have aMg:m*64<(fs F).now.length:=by
    have:¬ ((fs F).now.length:Int)<=(m:Int)*64:=λh=>hc (.inr (.inr h));omega
   have hsz:=hI.size F;have hrow:∀ {w:World} {G:List Own},Ctx W w ([Own.blk kb [.string (bs (fs F).now),.string (bs (fs F).last)] 322]++G) XN->w.cell? ⟨kb,0,none⟩=some (.string (bs (fs F).now))/\w.cell? ⟨kb,1,none⟩=some (.string (bs (fs F).last)):=λcx=>⟨cx.get 0 rfl rfl,cx.get 0 rfl rfl⟩;rw [show (((m:Int)*64).toNat)=m*64 by omega] at eE;refine ⟨[.blk kb [.string (bs (fs F).now),.string (bs (fs F).last)] 322],XN,aM,λw G cx=>cQ cx (.cons_cons _ (List.nil_sublist _)),bs (fs F).last,λw G cx=>⟨_,(hrow cx).2,rfl⟩,bs (fs F).now,λw G cx=>⟨_,(hrow cx).1,rfl⟩,by unfold aY;omega,bs (fs F).now,λw G cx=>⟨_,(hrow cx).1,rfl⟩,⟨by omega,by rw [bL];omega,by rw [bL];omega⟩,λw G cx=>?_⟩
   have ech:(bs (fs F).now).extract ((m:Int)*64).toNat (min ((m:Int)*64+64) ((bs (fs F).now).size:Int)).toNat=bs (((fs F).now.drop (m*64)).take 64):=by
    rw [EU,bL,show ((m:Int)*64).toNat=m*64 by omega];refine congrArg bs ?_;by_cases h:m*64+64<=(fs F).now.length
    .rw [show (min ((m:Int)*64+64) ((fs F).now.length:Int)).toNat - m*64=64 by omega]
    .rw [List.take_of_length_le (by rw [List.length_drop];omega),List.take_of_length_le (by rw [List.length_drop];omega)]
   rw [ech,show (m:Int)*64=((m*64:Nat):Int) by omega];generalize hch:((fs F).now.drop (m*64)).take 64=ch at eE;have b16:m*64+ch.length<=(fs F).now.length/\ch≠[]:=by
    rw [<-hch];refine ⟨by rw [List.length_take,List.length_drop];omega,λe=>?_⟩;have:=congrArg List.length e;rw [List.length_take,List.length_drop] at this;simp at this;omega
   refine aCV (S:=(.blk kb [.string (bs (fs F).now),.string (bs (fs F).last)] 322 :: (dkC q d tE cW++S))++G) cx (by omega) hsz.2 λw cx=>⟨_,rfl,.blk kb [.string (bs (fs F).now),.string (bs (fs F).last)] 322 :: (dkC q d tE cW++S),Φ,aM,cx,λw G cx=>⟨cx.can 0 rfl (by show 1+1<=2;omega),λw' hw'=>?_⟩⟩;have c2:=cx.put 0 hw' rfl;refine ⟨.blk kb [.string (bs (fs F).now),.string (bs (iW (fs F).last (m*64) ch))] 322 :: (dkC q d tE cW++S),Φ,aM,c2,λw G cx=>⟨_,_,cx.DV 0 rfl,λw G cx=>⟨some q.fm,cx.get 1 rfl rfl,λw G cx=>?_⟩⟩⟩
   obtain ⟨fV,oO,hr,UT,hg1⟩:=JN (P:=prog) SF hI.ok (cx.own (.obj q.fm (bR (Value.int .i64) fQ tE cW)) (by simp)) F ⟨(fs F).now,iW (fs F).last (m*64) ch⟩;have c3:=cx.putObj 2 (bR (Value.int .i64) fQ fV oO) rfl;refine ⟨_,hr,.blk kb [.string (bs (fs F).now),.string (bs (iW (fs F).last (m*64) ch))] 322 :: (dkC q d fV oO++S),Φ,aM,c3,by unfold aY;have:=hq.aIK;omega,dkC q d fV oO++S,Φ,n,aM,λw G cx=>cx.drop1,⟨i+1,fV,oO,_,by omega,by omega,rfl,rfl,UT,λk=>?_,λk=>?_,eE⟩,Nat.lt_succ_self _⟩
   .rw [hg1 k,hI.get k]
   .show (if k=F then _ else fs k).now.length<=_/\(if k=F then _ else fs k).last.length<=_;by_cases e:k=F
    .rw [if_pos e];refine ⟨hsz.1,?_⟩;show (iW (fs F).last (m*64) ch).length<=_;rw [JD b16.2];omega
    .rw [if_neg e];exact hI.size k
 .have hge:=dD hge;have hfs:fs=B1 keep 0 d.queue d.files:=by
   have:=hI.rest;rw [List.drop_eq_nil_of_le (by omega)] at this;exact this
  refine ⟨some q.fm,cx.get 0 rfl rfl,λw G cx=>?_⟩;have hb:=cx.own (.obj q.fm (bR (Value.int .i64) fQ tE cW)) (by simp);refine ⟨_,_,run_range_map (P:=prog) w 252 3 322 q.fm _ cW SF.map hb,.obj w.heap.size (.mapIter (some q.fm) cW #[] cW) :: (dkC q d tE cW++S),Φ,aM,cx.newObj rfl,?_⟩;generalize w.heap.size=r;refine dN (λR' aU k=>∃ (seen:Array Nat) (fV:List (bU Int wX)),R'=.obj r (.mapIter (some q.fm) cW seen cW) :: (dkC q d fV cW++S)/\aU=Φ/\k=SE seen.toList fV/\GOk fV cW/\fV.map bU.key=tE.map bU.key/\(∀ e∈fV,iA a5p fV e.key=if e.born∈seen.toList then ⟨(fs e.key).last,(fs e.key).last⟩ else fs e.key))
   ⟨⟨_,Φ,_,aM,λw G cx=>cx,#[],tE,rfl,rfl,rfl,hI.ok,rfl,λe he=>by simp [hI.get]⟩,?_⟩
  rintro R1 Φ n _ ⟨seen,fV,rfl,rfl,rfl,UT,hkey,OH⟩;intro w G cx;have hr:=cx.own (.obj r (.mapIter (some q.fm) cW seen cW)) (by simp);have hb:=cx.own (.obj q.fm (bR (Value.int .i64) fQ fV cW)) (by simp);rcases aIJ (P:=prog) 0 hr hb UT.lt (Nat.le_refl _) with ⟨hall,hrun⟩|⟨a,ha,hns,w1,hw1,hrun⟩
  .refine .inl ⟨w,hrun,.obj r (.mapIter (some q.fm) cW seen cW) :: (dkC q d fV cW++S),Φ,aM,cx,λsm w G cx=>⟨cx.can 2 rfl (by show 0+1+1<=7;omega),λw' hw'=>?_⟩⟩;have c1:=cx.put 2 hw' rfl;refine ⟨.obj sm (Obj.map #[] 0) :: .obj r (.mapIter (some q.fm) cW seen cW) :: .blk q.db ((vG q { d with down:=true,eL:=0 }).set 1 (.slice none 0 0)) 256 :: .obj q.fm (bR (Value.int .i64) fQ fV cW) :: .obj q.sm (bR iZ Value.bool q.ET q.jL) :: oB q.qp q.qc d.queue :: S,Φ,aM,c1,λw G cx=>⟨cx.can 2 rfl (by show 0+2+1<=7;omega),λw' hw'=>?_⟩⟩
   have c2:=cx.put 2 hw' rfl;refine ⟨.obj sm (Obj.map #[] 0) :: .obj r (.mapIter (some q.fm) cW seen cW) :: .blk q.db (((vG q { d with down:=true,eL:=0 }).set 1 (.slice none 0 0)).set 2 (.map (some sm))) 256 :: .obj q.fm (bR (Value.int .i64) fQ fV cW) :: .obj q.sm (bR iZ Value.bool q.ET q.jL) :: oB q.qp q.qc d.queue :: S,Φ,aM,c2,λw G cx=>?_⟩;have hd:bV d keep={ d with down:=true,eL:=0,queue:=[],files:=λk=>⟨(fs k).last,(fs k).last⟩ }:=by
    unfold bV;rw [if_neg (by rw [h];simp),hfs]
   refine hk ⟨q.fm,fV,cW,sm,[],0,none,0⟩ w ?_ ?_
   .rw [hd];refine ⟨UT,⟨.nil,.nil,λe he=>(by cases he)⟩,λk=>?_,λp=>rfl,List.nodup_nil,λp hp=>(by cases hp),λk=>⟨(hI.size k).2,(hI.size k).2⟩,hq.lost,⟨Int.le_refl 0,by show (0:Int)<=_;omega⟩⟩;show iA a5p fV k=⟨(fs k).last,(fs k).last⟩;by_cases hex:∃ e∈fV,e.key=k
    .obtain ⟨e,he,rfl⟩:=hex;rw [OH e he,if_pos (hall e he)]
    .have h1:iA a5p fV k=a5p:=rK λe he h=>hex ⟨e,he,h⟩;have h2:iA a5p tE k=a5p:=rK λe he h=>hex (by
      have:k∈tE.map bU.key:=List.mem_map.2 ⟨e,he,h⟩;rw [<-hkey] at this;obtain ⟨e',he',h'⟩:=List.mem_map.1 this;exact ⟨e',he',h'⟩)
     rw [hI.get] at h2;rw [h1,h2]
   .rw [hd];have c3:Ctx W w (.obj sm (Obj.map #[] 0) :: .blk q.db (((vG q { d with down:=true,eL:=0 }).set 1 (.slice none 0 0)).set 2 (.map (some sm))) 256 :: .obj q.fm (bR (Value.int .i64) fQ fV cW) :: S) Φ:=(Ctx.left (S:=.obj sm (Obj.map #[] 0) :: .obj r (.mapIter (some q.fm) cW seen cW) :: .blk q.db (((vG q { d with down:=true,eL:=0 }).set 1 (.slice none 0 0)).set 2 (.map (some sm))) 256 :: .obj q.fm (bR (Value.int .i64) fQ fV cW) :: .obj q.sm (bR iZ Value.bool q.ET q.jL) :: oB q.qp q.qc d.queue :: S) cx).sub (.cons_cons _ (.cons _ (.cons_cons _ (.cons_cons _ (.cons _ (.cons _ (List.Sublist.refl _)))))))
    have c4:=c3.MN 325 2;have c5:=c4.perm (show ([Own.buf none 0 0 [] 325 2,.obj sm (Obj.map #[] 0)]++([Own.blk q.db (((vG q { d with down:=true,eL:=0 }).set 1 (.slice none 0 0)).set 2 (.map (some sm))) 256,.obj q.fm (bR (Value.int .i64) fQ fV cW)]++S)).Perm ([Own.blk q.db (((vG q { d with down:=true,eL:=0 }).set 1 (.slice none 0 0)).set 2 (.map (some sm))) 256,.obj q.fm (bR (Value.int .i64) fQ fV cW)]++([Own.buf none 0 0 [] 325 2,.obj sm (Obj.map #[] 0)]++S)) from a3I _ _ [] S)
    have c6:=c5.perm (show ([Own.blk q.db (((vG q { d with down:=true,eL:=0 }).set 1 (.slice none 0 0)).set 2 (.map (some sm))) 256,.obj q.fm (bR (Value.int .i64) fQ fV cW)]++(Own.buf none 0 0 [] 325 2 :: .obj sm (Obj.map #[] 0) :: S)).Perm ([Own.blk q.db (((vG q { d with down:=true,eL:=0 }).set 1 (.slice none 0 0)).set 2 (.map (some sm))) 256,.obj q.fm (bR (Value.int .i64) fQ fV cW)]++(.obj sm (Obj.map #[] 0) :: Own.buf none 0 0 [] 325 2 :: S)) from (List.Perm.swap _ _ _).append_left _)
    exact c6
  .have c1:Ctx W w1 ((.obj r (.mapIter (some q.fm) cW seen cW) :: (dkC q d fV cW++S))++G) Φ:=by
    rcases hw1 with rfl|rfl
    .exact cx
    .exact cx.draw 1
   have c2:=c1.putObj 0 (.mapIter (some q.fm) cW (seen.push a.born) cW) rfl;refine .inr ⟨_,_,_,hrun,.obj r (.mapIter (some q.fm) cW (seen.push a.born) cW) :: (dkC q d fV cW++S),Φ,aM,c2,λw G cx=>?_⟩;refine ⟨a.key,bs a.val.now,bs a.val.last,w,aCT UT (cx.own (.obj r (.mapIter (some q.fm) cW (seen.push a.born) cW)) (by simp)) (cx.own (.obj q.fm (bR (Value.int .i64) fQ fV cW)) (by simp)) ha,.obj r (.mapIter (some q.fm) cW (seen.push a.born) cW) :: (dkC q d fV cW++S),Φ,aM,cx,λb0 w G cx=>⟨some q.fm,cx.get 1 rfl rfl,λw G cx=>?_⟩⟩
   obtain ⟨SH,hr2,ok2,hg2,hk2,hb2⟩:=a71 (P:=prog) SF UT (cx.own (.obj q.fm (bR (Value.int .i64) fQ fV cW)) (by simp)) a.key ⟨a.val.last,a.val.last⟩ ⟨a,ha,rfl⟩;have c3:=cx.putObj 2 (bR (Value.int .i64) fQ SH cW) rfl;have hval:a.val=fs a.key:=by
    have h1:=OH a ha;rw [a8a UT.keys a ha,if_neg hns] at h1;exact h1
   refine ⟨_,hr2,.obj r (.mapIter (some q.fm) cW (seen.push a.born) cW) :: (dkC q d SH cW++S),Φ,aM,c3,_,Φ,SE (seen.push a.born).toList SH,aM,λw G cx=>cx,⟨_,SH,rfl,rfl,rfl,ok2,hk2.trans hkey,λe he=>?_⟩,?_⟩
   .obtain ⟨e',he',h1,h2⟩:=aMB hk2 hb2 he;rw [hg2 e.key,Array.toList_push,<-h1,<-h2];by_cases hea:e'.key=a.key
    .have:e'=a:=qA UT.keys he' ha hea;rw [if_pos hea,this,if_pos (by simp),hval]
    .rw [if_neg hea,OH e' he'];have hne:e'.born≠a.born:=λh=>hea (by rw [qA UT.tO he' ha h]);have:e'.born∈seen.toList++[a.born] ↔ e'.born∈seen.toList:=⟨λh=>by
      rcases List.mem_append.1 h with h|h
      .exact h
      .exact absurd (List.mem_singleton.1 h) hne,λh=>List.mem_append_left _ h⟩
     by_cases hs:e'.born∈seen.toList
     .rw [if_pos hs,if_pos (this.2 hs)]
     .rw [if_neg hs,if_neg λh=>hs (this.1 h)]
   .rw [Array.toList_push];exact OV (by rw [hb2];exact List.Sublist.refl _) ha hns (List.nodup_iff_pairwise_ne.2 (List.pairwise_map.2 UT.tO))
end
theorem xX(d):(gK d).keep=d.keep:=by
 unfold gK;split<;>rfl
theorem JQ(d f a s):(eC d f a s).1.keep=d.keep:=by
 unfold eC
 repeat' split
 all_goals rfl
theorem EV(d l):(bV d l).keep=d.keep:=by
 unfold bV;split<;>rfl
theorem aEP(d):(lZ d).keep=d.keep:=by
 unfold lZ;split
 .rw [EV,xX]
 .exact xX d
theorem uQ(d f a s):(bX d f a s).1.keep=d.keep:=by
 unfold bX;split
 .show (bV _ _).keep=_;rw [EV,JQ,xX]
 .rw [JQ,xX]
theorem oP(d f):(bH d f).1.keep=d.keep:=by
 unfold bH JB
 repeat' split
 all_goals exact aEP d
section
variable {W w:World}{S G:List Own}{Φ:PW}
structure JR(Φ:PW)(q:DkP)(d:iM):Prop where
 le:d.keep.length<=1000000
 sl:∀ M w,Φ M w->Sl M w q.kp d.keep
theorem JR.of{q d d'}(h:JR Φ q d)(e:d'.keep=d.keep)(u):JR Φ (q.mv u) d':=⟨by rw [e];exact h.le,λM w hp=>by rw [e];exact h.sl M w hp⟩
theorem JR.weak{q d}(h:JR Φ q d){Ψ}(e:∀ M w,Ψ M w->Φ M w):JR Ψ q d:=⟨h.le,λM w hp=>h.sl M w (e M w hp)⟩
theorem UU[aB Φ]{q d}(hq:pL q d)(hkp:JR Φ q d){f a s}(hs:s.length<=9223372036854775807)(cx:Ctx W w (b8 q d++S) Φ){K}(hk:∀ u w',pL (q.mv u) (bX d f a s).1->Ctx W w' (b8 (q.mv u) (bX d f a s).1++S) Φ->K (.returned (.int .i64 (bX d f a s).2)) w'):aD F.mP #[.pointer (some ⟨q.db,0,none⟩),.int .i64 f,.int .i64 a,.string (bs s)] w K:=by
 refine gC (IC q.db 0 f a (bs s) (J:=K∘.returned) cx λw G cx=>a77 (S:=S++G) hq (cx.re (aX _ _ _)) λw hq1 cx=>⟨_,rfl,b8 q (gK d)++S,Φ,aM,cx.re (aX _ _ _).symm,λw G cx=>aAO (S:=S++G) hq1 hs (cx.re (aX _ _ _)) λu w rN cx=>⟨_,rfl,b8 (q.mv u) (eC (gK d) f a s).1++S,Φ,aM,cx.re (aX _ _ _).symm,Br.intro (λhc=>λw G cx=>?_) (λhc=>λw G cx=>?_)⟩⟩)
 .have e:bX d f a s=(bV (eC (gK d) f a s).1 d.keep,9):=by unfold bX;rw [if_pos hc]
  have ek:(eC (gK d) f a s).1.keep=d.keep:=by rw [JQ,xX]
  rw [e] at hk;refine ⟨q.kp,(eC (gK d) f a s).1.keep.length,q.kc,pJ (q:=q.mv u) cx.left rfl,λw G cx=>?_⟩;rw [ek];exact KQ (S:=S++G) rN hkp.le hkp.sl (cx.re (aX _ _ _)) λu2 w hq3 cx=>⟨rfl,b8 (q.mv u2) (bV (eC (gK d) f a s).1 d.keep)++S,Φ,aM,cx.re (aX _ _ _).symm,λw G cx=>hk u2 w hq3 cx.left⟩
 .have e:bX d f a s=eC (gK d) f a s:=by unfold bX;rw [if_neg (by rw [hc];simp)]
  rw [e] at hk;exact hk u w rN cx.left
theorem DI[aB Φ]{q d}(hq:pL q d)(hkp:JR Φ q d){f}(cx:Ctx W w (b8 q d++S) Φ){K}(hk:∀ u w',pL (q.mv u) (bH d f).1->Ctx W w' (b8 (q.mv u) (bH d f).1++S) Φ->K (.returned (.int .i64 (bH d f).2)) w'):aD F.hY #[.pointer (some ⟨q.db,0,none⟩),.int .i64 f] w K:=by
 refine gC (LK q.db 0 f (J:=K∘.returned) cx (dN (λR' aU=>∃ u,R'=b8 (q.mv u) (lZ d)++S/\aU=Φ/\pL (q.mv u) (lZ d)) ⟨λw G cx=>a77 (S:=S++G) hq (cx.re (aX _ _ _)) λw hq1 cx=>⟨_,rfl,b8 q (gK d)++S,Φ,aM,cx.re (aX _ _ _).symm,Br.intro (λhc=>λw G cx=>?_) (λhc=>?_)⟩,?_⟩))
 .have e:lZ d=bV (gK d) d.keep:=by unfold lZ;rw [if_pos hc]
  refine ⟨q.kp,(gK d).keep.length,q.kc,pJ (q:=q) cx.left rfl,λw G cx=>?_⟩;rw [xX];refine KQ (S:=S++G) hq1 hkp.le hkp.sl (cx.re (aX _ _ _)) λu2 w hq3 cx=>⟨rfl,b8 (q.mv u2) (bV (gK d) d.keep)++S,Φ,aM,cx.re (aX _ _ _).symm,_,Φ,aM,λw G cx=>cx,u2,by rw [e],rfl,by rw [e];exact hq3⟩
 .have e:lZ d=gK d:=by unfold lZ;rw [if_neg (by rw [hc];simp)]
  exact ⟨_,Φ,aM,λw G cx=>cx,q.un,by rw [e];rfl,rfl,by rw [e];exact hq1⟩
 .rintro R1 Φ st ⟨u,rfl,rfl,hq1⟩;have es:bH d f=JB (lZ d) f:=rfl;rw [es] at hk;generalize lZ d=d1 at hk hq1;intro w G cx;refine a5q (S:=S++G) (q:=q.mv u) (cx.re (aX _ _ _)) λw cx=>⟨_,rfl,b8 (q.mv u) d1++S,Φ,aM,cx.re (aX _ _ _).symm,Br.intro (λh=>λw G cx=>?_) (λh=>λw G cx=>⟨d1.lost,pJ (q:=q.mv u) cx.left rfl,Br.intro (λh2=>λw G cx=>⟨d1.lost,pJ (q:=q.mv u) cx.left rfl,?_,λw G cx=>⟨cx.can 0 rfl (by show 0+3+1<=7;omega),λw' hw'=>?_⟩⟩) (λh2=>λw G cx=>?_)⟩)⟩
  .have e:JB d1 f=(d1,qR d1 f):=by unfold JB;rw [if_pos (eR h)]
   rw [e] at hk;exact hk u w hq1 cx.left
  .have:=hq1.lost;unfold aY;omega
  .have e:JB d1 f=({ d1 with lost:=d1.lost - 1 },10):=by unfold JB;rw [if_neg (dD h),if_pos (eR h2)]
   have hl:=hq1.lost;have h2:=eR h2;rw [e] at hk;have c1:=cx.put 0 hw' rfl;exact ⟨b8 (q.mv u) { d1 with lost:=d1.lost - 1 }++S,Φ,aM,c1,λw G cx=>hk u w ⟨hq1.fok,hq1.sok,hq1.UR,hq1.a2p,hq1.nodup,hq1.range,hq1.size,⟨by show 0<=d1.lost - 1;omega,by show d1.lost - 1<=_;omega⟩,hq1.eL⟩ cx.left⟩
  .have e:JB d1 f=(ES d1 f (d1.files f).now,0):=by unfold JB;rw [if_neg (dD h),if_neg (dD h2)]
   rw [e] at hk;refine ⟨some u.fm,pJ (q:=q.mv u) cx.left rfl,λw G cx=>⟨bs (d1.files f).now,bs (d1.files f).last,λw2 zI=>?_,λw G cx=>?_⟩⟩
   .have hr:=vZ (P:=prog) SF (w:=w2) (by rw [zI];exact a74 (q:=q.mv u) cx.left) f;rw [hq1.UR f] at hr;exact hr
   .exact aAT (S:=S++G) (q:=q.mv u) hq1 (hq1.size f).1 (cx.re (aX _ _ _)) λu2 w rN cx=>⟨rfl,b8 (q.mv u2) (ES d1 f (d1.files f).now)++S,Φ,aM,cx.re (aX _ _ _).symm,λw G cx=>hk u2 w rN cx.left⟩
end
theorem b17(n:Nat)(w):Sem.run prog (binOp BinOp.shr 3 (.int .i64 (n:Int)) (.int .u64 8)) w=.ok (.int .i64 ((n / 256:Nat):Int)) w:=by
 show Sem.run prog (Op.shift .shr .i64 (n:Int) .u64 8) w=_;unfold Op.shift;simp [Sem.run_pure];show (n:Int).fdiv 256=_;rw [Int.fdiv_eq_ediv_of_nonneg _ (by decide)]
theorem b18(n:Nat)(h:n<16777216)(w):Sem.run prog (binOp BinOp.shl 3 (.int .i64 (n:Int)) (.int .u64 8)) w=.ok (.int .i64 ((n*256:Nat):Int)) w:=by
 show Sem.run prog (Op.shift .shl .i64 (n:Int) .u64 8) w=_;unfold Op.shift;simp [Sem.run_pure];rw [show (2:Int) ^ min 8 IntKind.i64.bits=256 from rfl,IntKind.wrap_i64];omega
theorem or8(m b:Nat)(hm:m<16777216)(hb:b<256)(w):Sem.run prog (binOp BinOp.or 3 (.int .i64 ((m*256:Nat):Int)) (.int .i64 (b:Int))) w=.ok (.int .i64 ((m*256+b:Nat):Int)) w:=by
 rw [binOp_or];show Sem.run prog (Op.intBits .or .i64 _ _) w=_;have:bits .or .i64 ((m*256:Nat):Int) (b:Int)=((m*256+b:Nat):Int):=by
  show IntKind.i64.wrap ((BitVec.ofInt 64 ((m*256:Nat):Int) ||| BitVec.ofInt 64 (b:Int)).toNat:Nat)=_;have e1:(BitVec.ofInt 64 ((m*256:Nat):Int) ||| BitVec.ofInt 64 (b:Int)).toNat=m*256+b:=by
   rw [BitVec.toNat_or,BitVec.toNat_ofInt,BitVec.toNat_ofInt];have h1:(((m*256:Nat):Int) % ((2 ^ 64:Nat):Int)).toNat=2 ^ 8*m:=by omega
   have h2:((b:Int) % ((2 ^ 64:Nat):Int)).toNat=b:=by omega
   rw [h1,h2,<-Nat.two_pow_add_eq_or_of_lt (by omega:b<2 ^ 8)];omega
  rw [e1,IntKind.wrap_i64];omega
 rw [intBits_or,this];rfl
theorem a8c(k:Nat):IntKind.u8.wrap (k:Int)=((k.toUInt8.toNat:Nat):Int):=by
 have:k.toUInt8.toNat=k % 256:=by simp
 rw [this];simp [IntKind.wrap,IntKind.signed,IntKind.bits]
theorem a0R(u:UInt8):IntKind.i64.wrap (u.toNat:Int)=(u.toNat:Int):=by
 rw [IntKind.wrap_i64];have:=u.toNat_lt;omega
def WH(h:Bs):Nat->Nat
 | 0=>0
 | k+1=>WH h k*256+(h.getD (4 - k) 0).toNat
theorem a8d(h):∀ k,WH h k<256 ^ k
 | 0=>by show 0<1;omega
 | k+1=>by
  have h1:=a8d h k;have h2:=(h.getD (4 - k) 0).toNat_lt;show WH h k*256+_<256 ^ (k+1);rw [Nat.pow_succ];omega
theorem aAV(h):WH h 4=S4 h:=by
 unfold S4;simp only [WH,Nat.zero_mul,Nat.zero_add,Nat.sub_zero]
section
variable {W w:World}{S G:List Own}{Φ:PW}
theorem aEQ[aB Φ]{p cap g l x}(hl:l.length<100000000)(cx:Ctx W w (.blk g [.int .u8 (x.toNat:Int)] 5 :: .buf p l.length cap (bB l) 5 1 :: S) Φ):
  ∃ p' cap' w',Sem.run prog (builtin Builtin.append #[205,205] 205 #[false,false] #[.slice p l.length cap,.slice (some ⟨g,0,none⟩) 1 1]) w=.ok (.value (.slice p' (l.length+1) cap')) w'/\Ctx W w' (.buf p' (l.length+1) cap' (bB (l++[x])) 5 1 :: S) Φ:=by
 obtain ⟨p',cap',w',hr,_,c2⟩:=cx.a2i (ts:=205) (ty:=205) (kb:=#[false,false]) (bytes:=1) (by kernel_rfl) (by decide) rfl rfl hl (by decide);refine ⟨p',cap',w',hr,?_⟩;have:bB (l++[x])=bB l++[.int .u8 (x.toNat:Int)]:=by simp [bB]
 rw [this];exact c2
theorem aIX[aB Φ]{b n cap l}(cx:Ctx W w (.buf (some ⟨b,0,none⟩) n cap (bB l) 5 1 :: S) Φ):Lib.Bytes w b 0 (bs l):=λi hi=>by
 have hi':i<l.length:=by rw [bL] at hi;exact hi
 have:=cx.aIa 0 rfl (b:=b) (i:=i) (v:=.int .u8 (l[i].toNat:Int)) rfl (by rw [List.getElem?_map,List.getElem?_eq_getElem hi'];rfl);rw [Nat.zero_add];exact this
theorem aAW[aB Φ]{p cap l}(h:0<l.length)(cx:Ctx W w (.buf p l.length cap (bB l) 5 1 :: S) Φ):Sem.run prog (convert 205 9 (.slice p l.length cap)) w=.ok (.string (bs l)) w:=by
 obtain ⟨b,hb,_⟩:=cx.oG 0 rfl (by rw [JP];exact h);subst hb;have hc:=Lib.run_convert_whole (P:=prog) w 205 5 9 underlying205 underlying5 underlying9 b 0 _ (aIX cx) cap;rw [bL] at hc;exact hc
theorem aAX[aB Φ]{slot}{s:Bs}(hs:s.length<=65536)(cx:Ctx W w S Φ){K:EkV}(hk:∀ w',Ctx W w' S Φ->K (.returned (.string (bs (jJ slot s.length)))) w'):aD F.HG #[.int .i64 (slot:Int),.string (bs s)] w K:=by
 refine gC (U9 (slot:Int) (bs s) (J:=K∘.returned) cx λk0=>dN (λp n cap nI R' aU k=>∃ j:Nat,j+k=4/\n=((jJ slot s.length).take (j+1)).length/\nI=((s.length / 256 ^ j:Nat):Int)/\R'=.buf p n cap (bB ((jJ slot s.length).take (j+1))) 5 1 :: S/\aU=Φ)
  ⟨⟨_,Φ,4,aM,λw G cx=>?_,0,rfl,rfl,by rw [bL];simp,rfl,rfl⟩,?_⟩)
 .rw [a8c] at cx;exact cx.aNE 0 1 1 rfl rfl (by simp [maxLen])
 rintro p n cap nI R1 Φ k st ⟨j,hjk,rfl,rfl,rfl,rfl⟩;have hl5:(jJ slot s.length).length=5:=rfl;have hlen:((jJ slot s.length).take (j+1)).length=j+1:=by rw [List.length_take,hl5];omega
 refine Br.intro (λhlt=>?_) (λhge=>λw G cx=>?_)
 .have hlt:=eR hlt;rw [hlen] at hlt;obtain ⟨k,rfl⟩:∃ m,k=m+1:=⟨k - 1,by omega⟩;intro g w G cx;rw [a8c] at cx;obtain ⟨p',cap',w',hr,c2⟩:=aEQ (S:=S++G) (by rw [hlen];omega) cx;have e:(jJ slot s.length).take (j+1)++[(s.length / 256 ^ j).toUInt8]=(jJ slot s.length).take (j+1+1):=by
   have:(jJ slot s.length)[j+1]? = some (s.length / 256 ^ j).toUInt8:=by
    have hj:j=0\/j=1\/j=2\/j=3:=by omega
    rcases hj with rfl|rfl|rfl|rfl<;>simp [jJ]
   rw [List.take_add_one (i:=j+1),this];rfl
  have aWI:((jJ slot s.length).take (j+1+1)).length=((jJ slot s.length).take (j+1)).length+1:=by rw [<-e,List.length_append];rfl
  rw [e] at c2;refine ⟨p',_,cap',w',hr,.buf p' (((jJ slot s.length).take (j+1)).length+1) cap' (bB ((jJ slot s.length).take (j+1+1))) 5 1 :: S,Φ,aM,c2,_,λw=>b17 _ w,_,Φ,k,aM,λw G cx=>cx,⟨j+1,by omega,aWI.symm,?_,rfl,rfl⟩,Nat.lt_succ_self _⟩;rw [Nat.pow_succ,Nat.div_div_eq_div_mul]
 .have hge:=dD hge;rw [hlen] at hge;have hj:j=4:=by omega
  subst hj;have he:(jJ slot s.length).take (4+1)=jJ slot s.length:=rfl;rw [he] at cx ⊢;refine ⟨_,w,aAW (S:=S++G) (by rw [hl5];omega) cx,S,Φ,aM,cx.drop1,λw G cx=>hk w cx.left⟩
end
theorem aWJ:∀ (l:List UInt8) (i:Nat),l.get?Internal i=l[i]?
 | [],_=>rfl
 | _ :: _,0=>rfl
 | x :: l,i+1=>by
  show l.get?Internal i=(x :: l)[i+1]?;rw [aWJ l i];rfl
def EW(st:GM):Prop:=st.2=true->st.1=[]
theorem aWK(l):EW (l,false):=λh=>by cases h
theorem aCY:EW ([],true):=λ_=>rfl
theorem a8e(e least):J6 e least []=none:=by
 unfold J6;simp [Lib.indexByte]
theorem a0S{e least st}(h:EW st):EW (gQ e least st).2:=by
 unfold gQ;cases hn:J6 e least st.1 with
 | none=>exact aCY
 | some x =>
  obtain ⟨n,r⟩:=x;intro hb;have hb:st.2=true:=hb;rw [h hb,a8e] at hn;cases hn
theorem aIY{c st}(h:EW st):EW (J7 c st):=by
 obtain ⟨l,b⟩:=st;cases l with
 | nil=>exact aCY
 | cons x r =>
  unfold J7;simp only;split
  .intro hb;have:=h hb;cases this
  .exact aCY
theorem aIZ{st}(h:EW st):EW (eI st).2:=a0S h
theorem aI0{st}(h:EW st):EW (mU st).2:=a0S h
theorem a8f{st}(h:EW st):EW (stepT st).2:=by
 unfold stepT;simp only;split
 .exact aCY
 .refine aIY λhb=>?_;have:=a0S (e:=58) (least:=0) h hb;simp only;rw [this,List.drop_nil]
theorem wrap_i64(x):aY (IntKind.i64.wrap x):=by
 unfold aY;simp [IntKind.wrap,IntKind.signed,IntKind.bits];split<;>omega
section
variable {W w:World}{R G S:List Own}{Φ:PW}{b:Nat}{st:GM}
end
theorem aAY(a b):bs a++b=bs (a++b.data.toList):=by
 apply ByteArray.ext;apply Array.toList_inj.1;rw [ByteArray.data_append,Array.toList_append];rfl
theorem a0T{x}(h:aY x.term)(h2:x.data.size<=200000000000000):(wW x).length<=x.data.size+43:=by
 have h1:=gE h;have h3:=ER (s:=x.data) (by omega);unfold wW;rw [gD,sQ];omega
theorem a3J:∀ {l:List bT},(∀ x∈l,aY x.term/\x.data.size<=1000000)->(lY l).length<=l.length*1000043
 | [],_=>by simp [lY]
 | x :: l,h=>by
  have hx:=h x (by simp);have h1:=a0T hx.1 (by omega);have h2:=a3J (l:=l) λy hy=>h y (by simp [hy]);rw [OM,List.length_append,List.length_cons];omega
theorem UW:∀ {l:List Int},(∀ n∈l,aY n)->(oT l).length<=l.length*21
 | [],_=>by simp [oT]
 | n :: l,h=>by
  have h1:=gE (h n (by simp));have h2:=UW (l:=l) λy hy=>h y (by simp [hy]);rw [ON,List.length_append,List.length_cons,gD];omega
theorem aER{l:List bT}(h:∀ x∈l,aY x.term/\x.data.size<=1000000)(hl:l.length<=1000000)(i):(lY (l.take i)).length<=1000043000000:=by
 have h1:=a3J (l:=l.take i) λy hy=>h y (List.mem_of_mem_take hy);rw [List.length_take] at h1;omega
theorem aES{m}(h:UL m)(hl:m.aF.length<=1000000):(FG m).length<=1000:=by
 have h1:=UW h.ints;have h2:=UH (n:=m.aF.length) (by unfold aY;omega);have e8:(pY m).length=8:=rfl;unfold FG;rw [List.length_append,gD];omega
abbrev bT.v(x:bT):Value:=.agg #[.int .i64 x.term,.string x.data]
section
variable {Φ:PW}
theorem WI[aB Φ](hT:∀ M w,Φ M w->yT M w){x}(h:aY x.term)(h2:x.data.size<=200000000000000):cS Φ prog F.lF #[x.v] (.string (bs (wW x))):=by
 have h1:=gE h;have h3:=ER (s:=x.data) (by omega);refine j7 (FX x.term x.data) λW R=>λ_=>⟨[],λ_ _=>True,aM,λw G cx=>(Ctx.right cx).weak λ_ _ _=>trivial,λw G cx=>?_⟩;refine (OJ (.inl ⟨hT,h⟩)).toS cx ⟨λw G cx=>(Ctx.right cx).weak λ_ _ _=>trivial,λw G cx=>(aCN (.inl ⟨hT,by unfold aY;omega⟩) (by omega)).toS cx ⟨by show (pH x.term).size+(oS x.data).size<=_;omega,λw G cx=>⟨rfl,cx.left⟩⟩⟩
def aWL:Option bT->Value
 | some x=>.tuple #[x.v,.bool true]
 | none=>.tuple #[.agg #[.int .i64 0,.string (ByteArray.mk #[])],.bool false]
theorem aAZ[aB Φ](hN:∀ M w,Φ M w->uL M w)(l)(hl:l.length<=900000000000000):cS Φ prog F.wK #[.string (bs l)] (aWL (WC l)):=by
 have h1:(eI (l,false)).2.1.length<=l.length:=rF 59 (-9223372036854775808) (l,false);refine j7 (HX (bs l)) λW R=>λ_ w G cx=>J9 l cx λb w cx=>⟨_,rfl,rd b (l,false) :: R,Φ,aM,cx,λw G cx=>?_⟩;refine S0 hN (by show l.length<=_;omega) cx λw G cx=>a5k hN (by omega) cx λ_ w G cx=>?_;have e:(stepT (eI (l,false)).2).2=(OK (l,false)).2:=rfl;rw [e] at cx;refine Y3 cx (Br.intro (λhd=>λw G cx=>⟨?_,(Ctx.drop1 cx).left⟩) (λhd=>λw G cx=>⟨?_,(Ctx.drop1 cx).left⟩))
 .have hd:sR (OK (l,false)).2=false:=by rw [Bool.not_eq_true'] at hd;exact hd
  unfold WC;rw [if_neg (by rw [hd];simp)];rfl
 .have hd:sR (OK (l,false)).2=true:=by rw [Bool.not_eq_false'] at hd;exact hd
  unfold WC;rw [if_pos hd];rfl
set_option maxHeartbeats 1000000 in
theorem a8g[aB Φ](hT:∀ M w,Φ M w->yT M w){m p c}(nS:∀ M w,Φ M w->Sl M w p m.aF)(hm:UL m)(hl:m.aF.length<=1000000):cS Φ prog F.pR #[m.v p c] (.string (bs (qQ m))):=by
 have hhd:=aES hm hl;have hpre:=aER hm.aF hl;have hn1:=UH (n:=m.aF.length) (by unfold aY;omega);have e8:(pY m).length=8:=rfl;refine .there (λM w h=>(nS M w h).there) λhth=>?_;refine j7 (NT m.kind m.src m.to m.term m.index m.prev m.aE m.yes p m.aF.length c) λW R=>λ_=>Br.intro (λhy=>?_) (λhy=>?_);all_goals
  refine dN (λst nI R' aU k=>∃ i:Nat,nI=i/\i<=8/\st=bs (oT ((pY m).take i))/\R'=R/\aU=Φ/\k=8 - i) ⟨⟨R,Φ,_,aM,λw G cx=>cx,0,rfl,by omega,rfl,rfl,rfl,rfl⟩,?_⟩;rintro st nI R1 cF k _ ⟨i,rfl,hi,rfl,rfl,rfl,rfl⟩;have hpl:=UW (l:=(pY m).take i) λy hy=>hm.ints y (List.mem_of_mem_take hy);rw [List.length_take] at hpl;refine Br.intro (λhlt=>?_) (λhge=>λw G cx=>?_)
  .have hlt:i<8:=by have:=eR hlt;omega
   have hIn:aY ((pY m)[i]'(by omega)):=hm.ints _ (List.getElem_mem _);have hs1:=gE hIn;have hst:bs (oT ((pY m).take i))++pH ((pY m)[i]'(by omega))=bs (oT ((pY m).take (i+1))):=by
    rw [aAY,List.take_succ_eq_append_getElem (by omega),aEC,aED]
   refine ⟨(pY m)[i]'(by omega),⟨by omega,by omega,?_⟩,λw G cx=>(OJ (.inl ⟨hT,hIn⟩)).toS cx ⟨by show (bs (oT ((pY m).take i))).size+(pH ((pY m)[i]'(by omega))).size<=_;rw [bL];omega,by unfold aY;omega,R1,cF,8 - (i+1),aM,λw G cx=>cx,⟨i+1,by omega,by omega,hst,rfl,rfl,rfl⟩,by omega⟩⟩;have h8:i=0\/i=1\/i=2\/i=3\/i=4\/i=5\/i=6\/i=7:=by omega
   rcases h8 with rfl|rfl|rfl|rfl|rfl|rfl|rfl|rfl<;>first|rfl|(show _=some (Value.int .i64 (if m.yes=true then 1 else 0));rw [hy];rfl)
  .have hge:i=8:=by have:=dD hge;omega
   subst hge;have htk:(pY m).take 8=pY m:=List.take_of_length_le (by omega);rw [htk] at hpl ⊢;refine (aQE (.inl ⟨hT,by unfold aY;omega⟩)).toS cx ⟨by show (bs (oT (pY m))).size+(UG (m.aF.length:Int)).size<=_;rw [bL];omega,?_⟩;have eh:bs (oT (pY m))++UG (m.aF.length:Int)=bs (FG m++lY (m.aF.take 0)):=by
    rw [aAY,List.take_zero,show lY []=[] from rfl,List.append_nil];rfl
   rw [eh];clear cx;refine dN (λst nI R' aU k=>∃ j:Nat,nI=j/\j<=m.aF.length/\st=bs (FG m++lY (m.aF.take j))/\R'=R1/\aU=cF/\k=m.aF.length - j) ⟨⟨R1,cF,_,aM,λw G cx=>cx,0,rfl,Nat.zero_le _,rfl,rfl,rfl,rfl⟩,?_⟩;rintro st nI R2 BD k _ ⟨j,rfl,hj,rfl,rfl,rfl,rfl⟩;have hp1:=hpre j;have hbs:(bs (FG m++lY (m.aF.take j))).size=(FG m).length+(lY (m.aF.take j)).length:=by rw [bL,List.length_append]
   refine Br.intro (λhlt=>?_) (λhge=>λw G cx=>⟨?_,cx.left⟩)
   .have hlt:j<m.aF.length:=by have:=eR hlt;omega
    obtain ⟨g,o,rfl⟩:=hth (by omega);have hx:=hm.aF _ (List.getElem_mem hlt);have hrl:=a0T hx.1 (by omega);have hst:bs (FG m++lY (m.aF.take j))++bs (wW m.aF[j])=bs (FG m++lY (m.aF.take (j+1))):=by
     rw [aAY,qI,List.take_succ_eq_append_getElem hlt,aEA,aEB,aX]
    refine ⟨⟨by omega,by omega⟩,aW g o rfl λw G cx=>⟨m.aF[j].term,m.aF[j].data,by rw [Int.toNat_natCast];exact OC (nS _ _ cx.uX) hlt,λ_ w G cx=>?_⟩⟩;refine (WI hT hx.1 (by omega)).toS cx ⟨by show (bs (FG m++lY (m.aF.take j))).size+(bs (wW m.aF[j])).size<=_;rw [bL (wW m.aF[j])];omega,by unfold aY;omega,R2,BD,m.aF.length - (j+1),aM,λw G cx=>cx,⟨j+1,by omega,by omega,hst,rfl,rfl,rfl⟩,by omega⟩
   .have hge:j=m.aF.length:=by have:=dD hge;omega
    subst hge;rw [List.take_length];rfl
end
section
variable {W w:World}{S G:List Own}{Φ:PW}{b:Nat}{st:GM}
theorem B2[aB Φ](nS:∀ M w,Φ M w->uL M w){n s}(e:eI st=(n,s))(hl:st.1.length<=1000000)(c:Ctx W w (rd b st :: S++G) Φ){K:Int->List Own->PW->Prop}(hk:K n (rd b s :: S) Φ):
  aD F.cN #[.pointer (some ⟨b,0,none⟩)] w λe w'=>∃ n,e=.returned (.int .i64 n)/\∃ R' aU,aB aU/\Ctx W w' (R'++G) aU/\K n R' aU :=
 S0 nS (by omega) c (by rw [e];exact hk)
theorem aMC[aB Φ](nS:∀ M w,Φ M w->uL M w){n s}(e:mU st=(n,s))(hl:st.1.length<=1000000)(c:Ctx W w (rd b st :: S++G) Φ){K:Int->List Own->PW->Prop}(hk:K n (rd b s :: S) Φ):
  aD F.jN #[.pointer (some ⟨b,0,none⟩)] w λe w'=>∃ n,e=.returned (.int .i64 n)/\∃ R' aU,aB aU/\Ctx W w' (R'++G) aU/\K n R' aU :=
 a5h nS (by omega) c (by rw [e];exact hk)
end
theorem wB(st):∃ n s,eI st=(n,s)/\aY n/\s.1.length<=st.1.length/\(EW st->EW s):=by
 have h1:=a3v st;have h2:(eI st).2.1.length<=st.1.length:=rF 59 (-9223372036854775808) st;have h3:=λh=>aIZ (st:=st) h;exact ⟨(eI st).1,(eI st).2,rfl,h1,h2,h3⟩
theorem aI1(st):∃ n s,mU st=(n,s)/\s.1.length<=st.1.length/\(EW st->EW s):=by
 have h2:(mU st).2.1.length<=st.1.length:=rF 59 0 st;have h3:=λh=>aI0 (st:=st) h;exact ⟨(mU st).1,(mU st).2,rfl,h2,h3⟩
structure Head(l:List UInt8)(n0 n1 n2 n3 n4 n5 n6 n7 N:Int)(s0 s1 s2 s3 s4 s5 s6 s7 sN:GM):Prop where
 e0:eI (l,false)=(n0,s0)
 e1:eI s0=(n1,s1)
 e2:eI s1=(n2,s2)
 e3:eI s2=(n3,s3)
 e4:eI s3=(n4,s4)
 e5:eI s4=(n5,s5)
 e6:eI s5=(n6,s6)
 e7:eI s6=(n7,s7)
 eN:mU s7=(N,sN)
 i:(aY n0/\aY n1/\aY n2/\aY n3)/\aY n4/\aY n5/\aY n6
 len:(s0.1.length<=l.length/\s1.1.length<=l.length/\s2.1.length<=l.length/\s3.1.length<=l.length)/\s4.1.length<=l.length/\s5.1.length<=l.length/\s6.1.length<=l.length/\s7.1.length<=l.length/\sN.1.length<=l.length
 ok:EW sN
theorem aMD(l):∃ n0 n1 n2 n3 n4 n5 n6 n7 N s0 s1 s2 s3 s4 s5 s6 s7 sN,Head l n0 n1 n2 n3 n4 n5 n6 n7 N s0 s1 s2 s3 s4 s5 s6 s7 sN:=by
 obtain ⟨n0,s0,e0,i0,l0,o0⟩:=wB (l,false);obtain ⟨n1,s1,e1,i1,l1,o1⟩:=wB s0;obtain ⟨n2,s2,e2,i2,l2,o2⟩:=wB s1;obtain ⟨n3,s3,e3,i3,l3,o3⟩:=wB s2;obtain ⟨n4,s4,e4,i4,l4,o4⟩:=wB s3;obtain ⟨n5,s5,e5,i5,l5,o5⟩:=wB s4;obtain ⟨n6,s6,e6,i6,l6,o6⟩:=wB s5;obtain ⟨n7,s7,e7,i7,l7,o7⟩:=wB s6;obtain ⟨N,sN,eN,lN,oN⟩:=aI1 s7;have l0:s0.1.length<=l.length:=l0;exact ⟨n0,n1,n2,n3,n4,n5,n6,n7,N,s0,s1,s2,s3,s4,s5,s6,s7,sN,e0,e1,e2,e3,e4,e5,e6,e7,eN,⟨⟨i0,i1,i2,i3⟩,i4,i5,i6⟩,⟨⟨l0,by omega,by omega,by omega⟩,by omega,by omega,by omega,by omega,by omega⟩,oN (o7 (o6 (o5 (o4 (o3 (o2 (o1 (o0 (aWK l))))))))) ⟩
section
variable {l:List UInt8}{n0 n1 n2 n3 n4 n5 n6 n7 N:Int}{s0 s1 s2 s3 s4 s5 s6 s7 sN:GM}
theorem Head.read(h:Head l n0 n1 n2 n3 n4 n5 n6 n7 N s0 s1 s2 s3 s4 s5 s6 s7 sN){acc st}(hr:JA N.toNat sN []=(acc,st)):
  yU l=if sR st=true/\qQ ⟨n0,n1,n2,n3,n4,n5,n6,decide (n7=1),acc⟩=l then some ⟨n0,n1,n2,n3,n4,n5,n6,decide (n7=1),acc⟩ else none:=by
 have e:WB 8 (l,false)=([n0,n1,n2,n3,n4,n5,n6,n7],s7):=by
  simp only [WB,h.e0,h.e1,h.e2,h.e3,h.e4,h.e5,h.e6,h.e7]
 unfold yU;rw [e];unfold aIv;simp only;rw [h.eN];simp only;rw [hr];rfl
theorem Head.msg(h:Head l n0 n1 n2 n3 n4 n5 n6 n7 N s0 s1 s2 s3 s4 s5 s6 s7 sN){acc}(ha:∀ x∈acc,aY x.term/\x.data.size<=1000000):UL ⟨n0,n1,n2,n3,n4,n5,n6,decide (n7=1),acc⟩:=by
 obtain ⟨⟨i0,i1,i2,i3⟩,i4,i5,i6⟩:=h.i;refine ⟨λn hn=>?_,ha⟩;have hn:n∈[n0,n1,n2,n3,n4,n5,n6,if decide (n7=1)=true then 1 else 0]:=hn;simp only [List.mem_cons,List.not_mem_nil,or_false] at hn;rcases hn with rfl|rfl|rfl|rfl|rfl|rfl|rfl|rfl;all_goals first|assumption|(split<;>(unfold aY;omega))
end
theorem aCZ{W w S}{Φ:PW}[aB Φ]{p c k acc x}(hl:acc.length<10000000)(cx:Ctx W w (.blk k [.int .i64 x.term,.string x.data] 216 :: .buf p acc.length c (aZ acc) 216 2 :: S) Φ):
  ∃ p' c' w',Sem.run prog (builtin Builtin.append #[99,99] 99 #[false,false] #[.slice p acc.length c,.slice (some ⟨k,0,none⟩) 1 1]) w=.ok (.value (.slice p' (acc++[x]).length c')) w'/\Ctx W w' (.buf p' (acc++[x]).length c' (aZ (acc++[x])) 216 2 :: S) Φ:=by
 obtain ⟨p',c',w',hr,_,Y0⟩:=cx.a2i (ts:=99) (ty:=99) (kb:=#[false,false]) (bytes:=24) (P:=prog) (by kernel_rfl) (by omega) rfl rfl (by omega) (by omega);have ea:(acc++[x]).length=acc.length+1:=by rw [List.length_append];rfl
 have eb:aZ acc++[Value.int .i64 x.term,Value.string x.data]=aZ (acc++[x]):=by rw [RR];rfl
 refine ⟨p',c',w',by rw [ea];exact hr,?_⟩;rw [eb,<-ea] at Y0;exact Y0
set_option maxHeartbeats 4000000 in
theorem aET{W w S}{Φ:PW}[aB Φ](hN:∀ M w,Φ M w->uL M w)(l)(hl:l.length<=1000000)(cx:Ctx W w S Φ){K}(h0:∀ w',yU l=none->Ctx W w' S Φ->K (.returned (.tuple #[S3.v none 0,.bool false])) w')(h1:∀ m p c w',yU l=some m->UL m->m.aF.length<=l.length->m.aF.length<=c->c<=maxLen->Ctx W w' S (λM w=>Φ M w/\Sl M w p m.aF)->K (.returned (.tuple #[m.v p c,.bool true])) w'):
  aD F.E1 #[.string (bs l)] w K:=by
 obtain ⟨n0,n1,n2,n3,n4,n5,n6,n7,N,s0,s1,s2,s3,s4,s5,s6,s7,sN,H⟩:=aMD l;obtain ⟨⟨l0,l1,l2,l3⟩,l4,l5,l6,l7,lN⟩:=H.len;refine gC (QN (bs l) (J:=K∘.returned) cx ?_);clear cx;refine λ_ w G cx=>J9 l cx λb w cx=>⟨_,rfl,rd b (l,false) :: S,Φ,aM,cx,λw G cx=>B2 hN H.e0 (by show l.length<=_;omega) cx λw G cx=>B2 hN H.e1 (by omega) cx λw G cx=>B2 hN H.e2 (by omega) cx λw G cx=>B2 hN H.e3 (by omega) cx λw G cx=>B2 hN H.e4 (by omega) cx λw G cx=>B2 hN H.e5 (by omega) cx λw G cx=>B2 hN H.e6 (by omega) cx λw G cx=>B2 hN H.e7 (by omega) cx λ_ w G cx=>aMC hN H.eN (by omega) cx ?_⟩
 clear cx;refine dN (λa0 a1 a2 a3 a4 a5 a6 y p n c R' aU k=>∃ (acc:List bT) (st:GM),((n0=a0/\n1=a1/\n2=a2/\n3=a3)/\n4=a4/\n5=a5/\n6=a6/\decide (n7=1)=y)/\n=acc.length/\JA (N.toNat - acc.length) st acc=JA N.toNat sN []/\acc.length<=N.toNat/\acc.length+st.1.length<=l.length/\(∀ x∈acc,aY x.term/\x.data.size<=l.length)/\R'=rd b st :: .buf p n c (aZ acc) 216 2 :: S/\aU=Φ/\k=st.1.length)
  ⟨⟨rd b sN :: .buf none 0 0 [] 216 2 :: S,Φ,_,aM,λw G cx=>(Ctx.MN cx 216 2).swap,[],sN,⟨⟨rfl,rfl,rfl,rfl⟩,rfl,rfl,rfl,rfl⟩,rfl,by rw [List.length_nil,Nat.sub_zero],by simp,by simp only [List.length_nil];omega,λx hx=>(by cases hx),rfl,rfl,rfl⟩,?_⟩
 rintro a0 a1 a2 a3 a4 a5 a6 y p n c R1 cF k _ ⟨acc,st,⟨⟨rfl,rfl,rfl,rfl⟩,rfl,rfl,rfl,rfl⟩,rfl,hK,hle,hlen,hsz,rfl,rfl,rfl⟩;refine Br.intro (λhlt=>λw G cx=>a5i cx (Br.intro (λhpos=>?body) (λhnot=>?b2a))) (λhge=>?b2b)
 case body =>
  have hlt:acc.length<N.toNat:=by have:=eR hlt;omega
  have hne:st.1≠[]:=λh=>by rw [h] at hpos;have:=eR hpos;simp at this
  obtain ⟨m,hm⟩:∃ m,N.toNat - acc.length=m+1:=⟨N.toNat - acc.length - 1,by omega⟩;rw [hm,OL,if_neg hne] at hK;have he:=aEx hne;have hd:=aEy st;have ht:=aEz st;have ha:(eI st).2.1.length<=st.1.length:=rF 59 (-9223372036854775808) st;have any:∀ {w:World} {R G:List Own} {Ψ:PW} [aB Ψ],Ctx W w (R++G) Ψ->Ctx W w ([]++G) (λ_ _=>True):=λcx=>(Ctx.right cx).weak λ_ _ _=>trivial;refine ⟨[],λ_ _=>True,aM,λw G cx=>any cx,λw G cx=>S0 hN (by omega) cx ⟨λw G cx=>any cx,λw G cx=>a5k hN (by omega) cx ⟨λw G cx=>any cx,λk=>⟨λw G cx=>any cx,λw G cx=>?_⟩⟩⟩⟩
  obtain ⟨x,s',hx⟩:∃ x s',OK st=(x,s'):=⟨_,_,rfl⟩;rw [hx] at he hd ht hK;have e1:(eI st).1=x.term:=by have:=congrArg (λz=>z.1.term) hx;exact this
  have e2:(stepT (eI st).2).1=x.data:=by have:=congrArg (λz=>z.1.data) hx;exact this
  have e3:(stepT (eI st).2).2=s':=by have:=congrArg (λz=>z.2) hx;exact this
  simp only at he hd ht hK;rw [e1,e2,e3] at cx;have CD:Ctx W w (.blk k [.int .i64 x.term,.string x.data] 216 :: .buf p acc.length c (aZ acc) 216 2 :: rd b s' :: (S++G)) cF:=Ctx.perm cx (List.Perm.cons _ (List.Perm.swap _ _ _));obtain ⟨p',c',w',hr,Y0⟩:=aCZ (by omega) CD;have ea:(acc++[x]).length=acc.length+1:=by rw [List.length_append];rfl
  exact ⟨p',_,c',w',hr,rd b s' :: .buf p' (acc++[x]).length c' (aZ (acc++[x])) 216 2 :: S,cF,aM,Y0.swap,_,cF,s'.1.length,aM,λw G cx=>cx,⟨acc++[x],s',⟨⟨rfl,rfl,rfl,rfl⟩,rfl,rfl,rfl,rfl⟩,rfl,by rw [ea,show N.toNat - (acc.length+1)=m by omega];exact hK,by omega,by omega,λz hz=>by
   rcases List.mem_append.1 hz with hz|hz
   .exact hsz z hz
   .rw [List.mem_singleton.1 hz];exact ⟨ht,by omega⟩,rfl,rfl,rfl⟩,he⟩
 case' b2a =>
  have hrr:JA N.toNat sN []=(acc,st):=by
   rw [<-hK];exact aEw _ _ _ (List.eq_nil_of_length_eq_zero (by have:=dD hnot;omega))
  clear hnot hlt cx w G
 case' b2b =>
  have hrr:JA N.toNat sN []=(acc,st):=by
   rw [<-hK,show N.toNat - acc.length=0 by have:=dD hge;omega];rfl
  clear hge
 all_goals
  have hrd:=H.read hrr;have hmw:=H.msg (acc:=acc) λx hx=>⟨(hsz x hx).1,by have:=(hsz x hx).2;omega⟩;refine λw G cx=>Y3 cx (Br.intro (λhd=>λw G cx=>?_) (λhd=>λw G cx=>?_))
  .have CD:Ctx W w (S++G) cF:=cx.drop1.drop1;refine h0 w ?_ CD.left;rw [hrd,if_neg λh=>by rw [h.1] at hd;cases hd]
  .have hd:sR st=true:=by rw [Bool.not_eq_false'] at hd;exact hd
   rw [hd] at hrd;obtain ⟨c4,hs,hna,hca,hcm⟩:=Ctx.freeze (α:=bT) (l:=acc) (S:=rd b st :: (S++G)) cx.swap (uF λx hx=>⟨(hsz x hx).1,by have:=(hsz x hx).2;unfold maxLen;omega⟩);have CD:Ctx W w (rd b st :: S++G) (λM w=>cF M w/\Sl M w p acc):=c4.add hs;have st2:aB (λM w=>cF M w/\Sl M w p acc):=cE cF (λM w=>Sl M w p acc);refine (a8g (Φ:=λM w=>cF M w/\Sl M w p acc) (m:=⟨n0,n1,n2,n3,n4,n5,n6,decide (n7=1),acc⟩) (c:=c) (λM w h=>(hN M w h.1).1) (λM w h=>h.2) hmw (by show acc.length<=_;omega)).toS CD (Br.intro (λhne=>λw G cx=>?_) (λheq=>λw G cx=>?_))
   .have hne:¬ qQ ⟨n0,n1,n2,n3,n4,n5,n6,decide (n7=1),acc⟩=l:=λh=>eR hne (by rw [h]);have Y0:Ctx W w (S++G) (λM w=>cF M w/\Sl M w p acc):=cx.drop1;exact h0 w (by rw [hrd,if_neg λh=>hne h.2]) (Y0.left.weak λM w h=>h.1)
   .have heq:qQ ⟨n0,n1,n2,n3,n4,n5,n6,decide (n7=1),acc⟩=l:=a5g.1 (Decidable.not_not.1 (dD heq));have Y0:Ctx W w (S++G) (λM w=>cF M w/\Sl M w p acc):=cx.drop1;exact h1 ⟨n0,n1,n2,n3,n4,n5,n6,decide (n7=1),acc⟩ p c w (by rw [hrd,if_pos ⟨rfl,heq⟩]) hmw (by show acc.length<=_;omega) (by show acc.length<=c;omega) hcm Y0.left
abbrev sS:PW:=Tab prog "errata/cell.offsets" .i64 [0,64,131072]
theorem a8h{M w}(h:sS M w){n}(hn:n<3):w.cell? ⟨0,n,none⟩=some (.int .i64 (iJ n:Int)):=by
 have:=Lib.TabIs.cell h.1 (g:=0) (by kernel_rfl) n hn;rw [this];have hj:n=0\/n=1\/n=2:=by omega
 rcases hj with rfl|rfl|rfl<;>rfl
abbrev clB(q:DkP)(c:JC):List Value:=[.pointer (some ⟨q.db,0,none⟩),.int .i64 c.file,.int .i64 (c.slot:Int),.string (bs c.value),.bool c.sure]
abbrev eX(cb:Nat)(q:DkP)(c:JC):Own:=.blk cb (clB q c) 367
theorem a0U{d q}(hq:pL q d)(f a n):(dH d f a n).1.length<=16777216:=by
 unfold dH;split
 .exact Nat.zero_le _
 .split
  .exact Nat.zero_le _
  .show (((d.files f).now.drop a.toNat).take n.toNat).length<=_;have:=(hq.size f).1;rw [List.length_take,List.length_drop];omega
section
variable {W w:World}{S G:List Own}{Φ:PW}
theorem a8i[aB Φ]{cb q c}(cx:Ctx W w (eX cb q c :: S) Φ){K}(hk:∀ w',Ctx W w' (eX cb q c :: S) Φ->K (.returned (.tuple #[.string (bs c.value),.bool (decide (0<c.slot))])) w'):aD F.vB #[.pointer (some ⟨cb,0,none⟩)] w K:=by
 refine gC (NY cb 0 (J:=K∘.returned) cx λw G cx=>⟨_,cx.get 0 rfl rfl,_,cx.get 0 rfl rfl,λw G cx=>?_⟩);have:decide ((0:Int)<(c.slot:Int))=decide (0<c.slot):=decide_eq_decide.2 (by omega);rw [this];exact hk w cx.left
theorem a3K[aB Φ]{q d}(hq:pL q d)(hoff:∀ M w,Φ M w->sS M w){file}(cx:Ctx W w (b8 q d++S) Φ){K}(hn:∀ e w',vX d file=(none,e)->Ctx W w' (b8 q d++S) Φ->K (.returned (.tuple #[.pointer none,.int .i64 e])) w')(hs:∀ c cb w',vX d file=(some c,0)->Ctx W w' (eX cb q c :: (b8 q d++S)) Φ->K (.returned (.tuple #[.pointer (some ⟨cb,0,none⟩),.int .i64 0])) w'):
  aD F.KI #[.pointer (some ⟨q.db,0,none⟩),.int .i64 file] w K:=by
 refine gC (ZZ q.db 0 file (J:=K∘.returned) cx λcb w G cx=>?_);have cx:Ctx W w (eX cb q ⟨file,0,[],false⟩ :: (b8 q d++(S++G))) Φ:=by
  have:eX cb q ⟨file,0,[],false⟩ :: (b8 q d++(S++G))=(eX cb q ⟨file,0,[],false⟩ :: (b8 q d++S))++G:=by rw [<-aX];rfl
  rw [this];exact cx
 refine US (S:=eX cb q ⟨file,0,[],false⟩ :: (S++G)) hq (cx.perm List.perm_middle.symm) λw cx=>?_;have hO:vX d file=vX d file:=rfl;unfold vX at hn hs;generalize hr:dH d file 0 5=r at hn hs;obtain ⟨h,e⟩:=r;simp only at hn hs;have cx:Ctx W w ((eX cb q ⟨file,0,[],false⟩ :: (b8 q d++S))++G) Φ:=by
  have:(eX cb q ⟨file,0,[],false⟩ :: (b8 q d++S))++G=eX cb q ⟨file,0,[],false⟩ :: (b8 q d++(S++G)):=by rw [<-aX];rfl
  rw [this];exact cx.perm List.perm_middle
 have hhl:h.length<=5:=by
  have:h=(dH d file 0 5).1:=by rw [hr]
  rw [this];unfold dH;split
  .exact Nat.zero_le _
  .split
   .exact Nat.zero_le _
   .show (List.take 5 _).length<=5;rw [List.length_take];omega
 have OH:∀ i,i<h.length->(bs h).data.toList.get?Internal i=some (h.getD i 0):=λi hi=>by
  rw [qI,aWJ,List.getD_eq_getElem?_getD,List.getElem?_eq_getElem hi];rfl
 refine ⟨_,_,rfl,eX cb q ⟨file,0,[],false⟩ :: (b8 q d++S),Φ,aM,cx,Br.intro (λhe=>λw G cx=>?_) (λhe=>λw G cx=>⟨h.getD 0 0,λh0=>⟨Int.le_refl 0,OH 0 ?_⟩,Br.intro (λh1=>λw G cx=>?_) (λh1=>λw G cx=>?_)⟩)⟩
 .rw [if_pos (eR he)] at hn;exact hn e w rfl cx.drop1.left
 .exact List.length_pos_iff.2 λe=>by rw [e] at h0;simp [SG] at h0
 .have he:=dD he;have h1:h=[]\/h.getD 0 0=0:=by
   simp only [Bool.or_eq_true,decide_eq_true_eq,SG] at h1;rcases h1 with h1|h1
   .exact .inl h1
   .exact .inr (UInt8.toNat_inj.1 (by simpa using h1))
  rw [if_neg he,if_pos h1] at hs;exact hs _ cb w rfl cx.left
 .have he:=dD he;have h1:¬ (h=[]\/h.getD 0 0=0):=λh'=>by
   simp only [Bool.or_eq_false_iff,decide_eq_false_iff_not,SG] at h1;rcases h' with h'|h'
   .exact h1.1 h'
   .exact h1.2 (by rw [h'];rfl)
  have h0:0<h.length:=List.length_pos_iff.2 λe=>h1 (.inl e);have hne:∀ n:UInt8,(h.getD 0 0≠n) ↔ ¬ ((h.getD 0 0).toNat:Int)=(n.toNat:Int):=λn=>not_congr ⟨λe=>by rw [e],λe=>UInt8.toNat_inj.1 (by omega)⟩;rw [if_neg he,if_neg h1] at hn hs;refine ⟨h.getD 0 0,λ_=>⟨Int.le_refl 0,OH 0 h0⟩,h.getD 0 0,λ_=>⟨Int.le_refl 0,OH 0 h0⟩,Br.intro (λh2=>λw G cx=>?_) (λh2=>?_)⟩
  .have h2:h.length<5\/h.getD 0 0≠1/\h.getD 0 0≠2:=by
    rw [bL] at h2;simp only [Bool.or_eq_true,Bool.and_eq_true,decide_eq_true_eq] at h2;rcases h2 with h2|h2
    .exact .inl (by omega)
    .exact .inr ⟨(hne 1).2 h2.1,(hne 2).2 h2.2⟩
   rw [if_pos h2] at hn;exact hn 2 w rfl cx.drop1.left
  have h2:¬ (h.length<5\/h.getD 0 0≠1/\h.getD 0 0≠2):=λh'=>by
   rw [bL] at h2;simp only [Bool.or_eq_false_iff,Bool.and_eq_false_iff,decide_eq_false_iff_not] at h2;rcases h' with h'|h'
   .exact h2.1 (by omega)
   .rcases h2.2 with h3|h3
    .exact h3 ((hne 1).1 h'.1)
    .exact h3 ((hne 2).1 h'.2)
  have hl5:h.length=5:=by omega
  have SC:(h.getD 0 0).toNat=1\/(h.getD 0 0).toNat=2:=by
   by_cases e1:h.getD 0 0=1
   .left;rw [e1];rfl
   .by_cases e2:h.getD 0 0=2
    .right;rw [e2];rfl
    .exact absurd (.inr ⟨e1,e2⟩) h2
  rw [if_neg h2] at hn hs;refine dN (λn28 n29 R' aU k=>∃ j:Nat,j+k=4/\n29=(k:Int)/\n28=(WH h j:Int)/\R'=eX cb q ⟨file,0,[],false⟩ :: (b8 q d++S)/\aU=Φ) ⟨⟨_,Φ,4,aM,λw G cx=>cx,0,rfl,rfl,rfl,rfl,rfl⟩,?_⟩;rintro n28 n29 R1 Φ k st ⟨j,hjk,rfl,rfl,rfl,rfl⟩;refine Br.intro (λhlt=>?_) (λhge=>?_)
  .have hlt:=eR hlt;obtain ⟨k,rfl⟩:∃ m,k=m+1:=⟨k - 1,by omega⟩;have hp:=a8d h j;have hp:WH h j<16777216:=Nat.lt_of_lt_of_le hp (by
    have:(256:Nat) ^ j<=256 ^ 3:=Nat.pow_le_pow_right (by decide) (by omega);exact this)
   have hb:=(h.getD (k+1) 0).toNat_lt;refine ⟨_,λw=>b18 _ hp w,h.getD (k+1) 0,⟨by omega,by rw [Int.toNat_natCast];exact OH (k+1) (by omega)⟩,_,λw=>(by rw [a0R];exact or8 _ _ hp (by omega) w),by unfold aY;omega,_,Φ,k,aM,λw G cx=>cx,⟨j+1,by omega,by omega,?_,rfl,rfl⟩,Nat.lt_succ_self _⟩;show _=((WH h j*256+(h.getD (4 - j) 0).toNat:Nat):Int);rw [show 4 - j=k+1 by omega]
  .have hge:=dD hge;have hj:j=4:=by omega
   subst hj;rw [aAV];refine Br.intro (λh3=>λw G cx=>?_) (λh3=>⟨h.getD 0 0,⟨Int.le_refl 0,OH 0 h0⟩,λw G cx=>⟨cx.can 0 rfl (by show 2+1<=5;omega),λw' hw'=>?_⟩⟩)
   .have h3:65536<S4 h:=by have:=eR h3;omega
    rw [if_pos h3] at hn;exact hn 2 w rfl cx.drop1.left
   have h3:¬ 65536<S4 h:=by have:=dD h3;omega
   rw [if_neg h3] at hn hs;rw [a0R] at hw';have c1:=cx.put 0 hw' rfl;have hs3:(h.getD 0 0).toNat<3:=by omega
   refine ⟨eX cb q ⟨file,(h.getD 0 0).toNat,[],false⟩ :: (b8 q d++S),Φ,aM,c1,λw G cx=>⟨((h.getD 0 0).toNat:Int),cx.get 0 rfl rfl,⟨by omega,by omega⟩,λw G cx=>⟨(iJ (h.getD 0 0).toNat:Int),by rw [Int.toNat_natCast,Nat.zero_add];exact a8h (hoff _ _ cx.uX) hs3,λw G cx=>?_⟩⟩⟩;have cx:Ctx W w (eX cb q ⟨file,(h.getD 0 0).toNat,[],false⟩ :: (b8 q d++(S++G))) Φ:=by
    have:eX cb q ⟨file,(h.getD 0 0).toNat,[],false⟩ :: (b8 q d++(S++G))=(eX cb q ⟨file,(h.getD 0 0).toNat,[],false⟩ :: (b8 q d++S))++G:=by rw [<-aX];rfl
    rw [this];exact cx
   have hlr:=a0U hq file (iJ (h.getD 0 0).toNat:Int) (S4 h:Int);refine US (S:=eX cb q ⟨file,(h.getD 0 0).toNat,[],false⟩ :: (S++G)) hq (cx.perm List.perm_middle.symm) λw cx=>?_;generalize dH d file (iJ (h.getD 0 0).toNat:Int) (S4 h:Int)=r2 at hn hs hlr;obtain ⟨v,e2⟩:=r2;simp only at hn hs hlr;have cx:Ctx W w ((eX cb q ⟨file,(h.getD 0 0).toNat,[],false⟩ :: (b8 q d++S))++G) Φ:=by
    have:(eX cb q ⟨file,(h.getD 0 0).toNat,[],false⟩ :: (b8 q d++S))++G=eX cb q ⟨file,(h.getD 0 0).toNat,[],false⟩ :: (b8 q d++(S++G)):=by rw [<-aX];rfl
    rw [this];exact cx.perm List.perm_middle
   refine ⟨bs v,e2,rfl,_,Φ,aM,cx,λw G cx=>⟨cx.can 0 rfl (by show 3+1<=5;omega),λw' hw'=>?_⟩⟩;have c2:=cx.put 0 hw' rfl;refine ⟨eX cb q ⟨file,(h.getD 0 0).toNat,v,false⟩ :: (b8 q d++S),Φ,aM,c2,λw G cx=>⟨bs v,λ_=>cx.get 0 rfl rfl,Br.intro (λh4=>λw G cx=>?_) (λh4=>Br.intro (λh5=>λw G cx=>?_) (λh5=>λw G cx=>?_))⟩⟩
   .rw [bL] at h4;simp only [Bool.and_eq_true,decide_eq_true_eq] at h4;rw [if_neg (by omega),if_pos (by omega)] at hn;exact hn 2 w rfl cx.drop1.left
   .have h5:=eR h5;rw [if_pos h5] at hn;exact hn e2 w rfl cx.drop1.left
   .have h5:=dD h5;rw [bL] at h4;simp only [Bool.and_eq_false_iff,decide_eq_false_iff_not] at h4;rw [if_neg h5,if_neg (by omega)] at hs;exact hs _ cb w rfl cx.left
end
section
variable {W w:World}{S G:List Own}{Φ:PW}
theorem OW[aB Φ]{o X S G}(cx:Ctx W w ((o :: (X++S))++G) Φ):Ctx W w (X++(o :: (S++G))) Φ:=(re3 cx).perm List.perm_middle.symm
theorem EX[aB Φ]{o X S G}(cx:Ctx W w (X++(o :: (S++G))) Φ):Ctx W w ((o :: (X++S))++G) Φ:=re4 (cx.perm List.perm_middle)
theorem aEU{d c s}(h:¬ 65536<s.length)(h2:¬ (c.sure=false/\0<c.slot)):uN d c s=DD d c s (if c.slot=1 then 2 else 1):=by
 unfold uN;rw [if_neg h,if_neg h2]
theorem a8j[aB Φ]{cb q d c s}(hq:pL q d)(hkp:JR Φ q d)(hoff:∀ M w,Φ M w->sS M w)(cx:Ctx W w (eX cb q c :: (b8 q d++S)) Φ){K}(hk:∀ u w',pL (q.mv u) (uN d c s).1->Ctx W w' (eX cb q (uN d c s).2.1 :: (b8 (q.mv u) (uN d c s).1++S)) Φ->K (.returned (.int .i64 (uN d c s).2.2)) w'):aD F.vC #[.pointer (some ⟨cb,0,none⟩),.string (bs s)] w K:=by
 refine gC (O0 cb 0 (bs s) (J:=K∘.returned) cx (Br.intro (λh=>λw G cx=>?_) (λh=>dN (λR' aU=>∃ u d1 c1,R'=eX cb q c1 :: (b8 (q.mv u) d1++S)/\aU=Φ/\pL (q.mv u) d1/\d1.keep=d.keep/\uN d c s=DD d1 c1 s (if c1.slot=1 then 2 else 1)) ⟨λw G cx=>⟨_,cx.get 0 rfl rfl,_,λ_=>cx.get 0 rfl rfl,Br.intro (λh2=>?_) (λh2=>?_)⟩,?_⟩)))
 .have h:65536<s.length:=by have:=eR h;rw [bL] at this;omega
  have e:uN d c s=(d,c,6):=by unfold uN;rw [if_pos h]
  rw [e] at hk;exact hk q.un w hq cx.left
 all_goals have h:¬ 65536<s.length:=by have:=dD h;rw [bL] at this;omega
 .have h2:c.sure=false/\0<c.slot:=by
   simp only [Bool.and_eq_true,decide_eq_true_eq,Bool.not_eq_true'] at h2;exact ⟨h2.1,by omega⟩
  refine ⟨_,Φ,aM,λw G cx=>cx,some ⟨q.db,0,none⟩,λw G cx=>⟨_,cx.get 0 rfl rfl,rfl⟩,c.file,λw G cx=>⟨_,cx.get 0 rfl rfl,rfl⟩,λw G cx=>?_⟩;have ec:uN d c s=if (bH d c.file).2≠0 then ((bH d c.file).1,c,(bH d c.file).2) else DD (bH d c.file).1 { c with sure:=true } s (if c.slot=1 then 2 else 1):=by
   unfold uN;rw [if_neg h,if_pos h2]
  have hkeep:=oP d c.file;refine DI (S:=eX cb q c :: (S++G)) hq hkp (OW cx) λu w hq1 cx=>?_;rw [ec] at hk ⊢;generalize bH d c.file=r at hk hq1 cx hkeep;obtain ⟨d1,e1⟩:=r;simp only at hk hq1 cx hkeep;refine ⟨e1,rfl,eX cb q c :: (b8 (q.mv u) d1++S),Φ,aM,EX cx,Br.intro (λh3=>λw G cx=>?_) (λh3=>λw G cx=>⟨cx.can 0 rfl (by show 4+1<=5;omega),λw' hw'=>?_⟩)⟩
  .rw [if_pos (eR h3)] at hk;exact hk u w hq1 cx.left
  .have c1:=cx.put 0 hw' rfl;refine ⟨eX cb q { c with sure:=true } :: (b8 (q.mv u) d1++S),Φ,aM,c1,_,Φ,aM,λw G cx=>cx,u,d1,{ c with sure:=true },rfl,rfl,hq1,hkeep,?_⟩;rw [if_neg (dD h3)]
 .have h2:¬ (c.sure=false/\0<c.slot):=λh3=>by
   simp only [Bool.and_eq_false_iff,decide_eq_false_iff_not,Bool.not_eq_false'] at h2;rcases h2 with h2|h2
   .rw [h3.1] at h2;cases h2
   .omega
  exact ⟨_,Φ,aM,λw G cx=>cx,q.un,d,c,rfl,rfl,hq,rfl,aEU h h2⟩
 rintro R1 Φ st ⟨u,d1,c1,rfl,rfl,hq1,hkeep,aQQ⟩;rw [aQQ] at hk;refine dN (λnI R' aU=>nI=(((if c1.slot=1 then 2 else 1):Nat):Int)/\R'=eX cb q c1 :: (b8 (q.mv u) d1++S)/\aU=Φ) ⟨λw G cx=>⟨(c1.slot:Int),cx.get 0 rfl rfl,Br.intro (λh3=>⟨_,Φ,aM,λw G cx=>cx,by rw [if_pos (by have:=eR h3;omega)];rfl,rfl,rfl⟩) (λh3=>⟨_,Φ,aM,λw G cx=>cx,by rw [if_neg (by have:=dD h3;omega)];rfl,rfl,rfl⟩)⟩,?_⟩;rintro nI R1 Φ st ⟨rfl,rfl,rfl⟩
 have mF:(if c1.slot=1 then 2 else 1)=1\/(if c1.slot=1 then 2 else 1)=2:=by split;exact .inr rfl;exact .inl rfl
 generalize (if c1.slot=1 then 2 else 1)=sl at hk mF;have hs3:sl<3:=by omega
 have aQR:JR Φ (q.mv u) d1:=hkp.of hkeep u;unfold DD at hk;have hkw:=uQ d1 c1.file (iJ sl) s;refine ⟨_,Φ,aM,λw G cx=>cx,⟨by omega,by omega⟩,(iJ sl:Int),λw G cx=>⟨_,by rw [Int.toNat_natCast,Nat.zero_add];exact a8h (hoff _ _ cx.uX) hs3,rfl⟩,some ⟨q.db,0,none⟩,λw G cx=>⟨_,cx.get 0 rfl rfl,rfl⟩,c1.file,λw G cx=>⟨_,cx.get 0 rfl rfl,rfl⟩,λw G cx=>?_⟩;refine UU (q:=q.mv u) (S:=eX cb q c1 :: (S++G)) hq1 aQR (by omega) (OW cx) λu w rN cx=>?_
 generalize bX d1 c1.file (iJ sl:Int) s=r at hk rN cx hkw;obtain ⟨d2,e2⟩:=r;simp only at hk rN cx hkw;refine ⟨e2,rfl,eX cb q c1 :: (b8 (q.mv u) d2++S),Φ,aM,EX cx,Br.intro (λh3=>λw G cx=>?_) (λh3=>?_)⟩
 .rw [if_pos (eR h3)] at hk;exact hk u w rN cx.left
 rw [if_neg (dD h3)] at hk;have b2c:JR Φ (q.mv u) d2:=hkp.of (hkw.trans hkeep) u;have hks:=oP d2 c1.file;refine ⟨_,Φ,aM,λw G cx=>cx,some ⟨q.db,0,none⟩,λw G cx=>⟨_,cx.get 0 rfl rfl,rfl⟩,c1.file,λw G cx=>⟨_,cx.get 0 rfl rfl,rfl⟩,λw G cx=>?_⟩;refine DI (q:=q.mv u) (S:=eX cb q c1 :: (S++G)) rN b2c (OW cx) λu w hq3 cx=>?_;generalize bH d2 c1.file=r at hk hq3 cx hks;obtain ⟨d3,e3⟩:=r;simp only at hk hq3 cx hks
 refine ⟨e3,rfl,eX cb q c1 :: (b8 (q.mv u) d3++S),Φ,aM,EX cx,Br.intro (λh4=>λw G cx=>?_) (λh4=>?_)⟩
 .rw [if_pos (eR h4)] at hk;exact hk u w hq3 cx.left
 rw [if_neg (dD h4)] at hk;have b2d:JR Φ (q.mv u) d3:=hkp.of (hks.trans (hkw.trans hkeep)) u;have aQS:=uQ d3 c1.file 0 (jJ sl s.length);refine ⟨_,Φ,aM,λw G cx=>cx,some ⟨q.db,0,none⟩,λw G cx=>⟨_,cx.get 0 rfl rfl,rfl⟩,c1.file,λw G cx=>⟨_,cx.get 0 rfl rfl,rfl⟩,λw G cx=>?_⟩;refine aAX (S:=(eX cb q c1 :: (b8 (q.mv u) d3++S))++G) (by omega) cx λw cx=>⟨_,rfl,eX cb q c1 :: (b8 (q.mv u) d3++S),Φ,aM,cx,λw G cx=>cx,λw G cx=>?_⟩
 refine UU (q:=q.mv u) (S:=eX cb q c1 :: (S++G)) hq3 b2d (by show 5<=_;omega) (OW cx) λu w hq4 cx=>?_;generalize bX d3 c1.file 0 (jJ sl s.length)=r at hk hq4 cx aQS;obtain ⟨d4,e4⟩:=r;simp only at hk hq4 cx aQS;refine ⟨e4,rfl,eX cb q c1 :: (b8 (q.mv u) d4++S),Φ,aM,EX cx,Br.intro (λh5=>λw G cx=>?_) (λh5=>λw G cx=>⟨cx.can 0 rfl (by show 2+1<=5;omega),λw' hw'=>?_⟩)⟩
 .rw [if_pos (eR h5)] at hk;exact hk u w hq4 cx.left
 rw [if_neg (dD h5)] at hk;have b2e:JR Φ (q.mv u) d4:=hkp.of (aQS.trans (hks.trans (hkw.trans hkeep))) u;refine ⟨eX cb q { c1 with slot:=sl } :: (b8 (q.mv u) d4++S),Φ,aM,cx.put 0 hw' rfl,λw G cx=>⟨cx.can 0 rfl (by show 3+1<=5;omega),λw' hw'=>?_⟩⟩;refine ⟨eX cb q { c1 with slot:=sl,value:=s } :: (b8 (q.mv u) d4++S),Φ,aM,cx.put 0 hw' rfl,λw G cx=>⟨cx.can 0 rfl (by show 4+1<=5;omega),λw' hw'=>?_⟩⟩;refine ⟨eX cb q ⟨c1.file,sl,s,false⟩ :: (b8 (q.mv u) d4++S),Φ,aM,cx.put 0 hw' rfl,?_⟩
 refine ⟨_,Φ,aM,λw G cx=>cx,some ⟨q.db,0,none⟩,λw G cx=>⟨_,cx.get 0 rfl rfl,rfl⟩,c1.file,λw G cx=>⟨_,cx.get 0 rfl rfl,rfl⟩,λw G cx=>?_⟩;refine DI (q:=q.mv u) (S:=eX cb q ⟨c1.file,sl,s,false⟩ :: (S++G)) hq4 b2e (OW cx) λu w hq5 cx=>?_;generalize bH d4 c1.file=r at hk hq5 cx;obtain ⟨d5,e5⟩:=r;simp only at hk hq5 cx;refine ⟨e5,rfl,eX cb q ⟨c1.file,sl,s,false⟩ :: (b8 (q.mv u) d5++S),Φ,aM,EX cx,λw G cx=>⟨cx.can 0 rfl (by show 4+1<=5;omega),λw' hw'=>?_⟩⟩
 exact ⟨eX cb q ⟨c1.file,sl,s,decide (e5=0)⟩ :: (b8 (q.mv u) d5++S),Φ,aM,cx.put 0 hw' rfl,λw G cx=>hk u w hq5 cx.left⟩
end
abbrev dS(l:List ByteArray):List Value:=l.map Value.string
theorem fO(l):(dS l).length=l.length:=by simp
theorem a8k(M w cs)(x:ByteArray)(h:Gv.rep M w cs x):(cs.all λu=>nM u)=true:=by
 obtain ⟨rfl,_⟩:=h;rfl
theorem z6{M w l}(h:∀ x∈l,x.size<=maxLen):dP M w (dS l) l:=by
 refine ⟨by rw [fO];exact (Nat.mul_one _).symm,λj hj=>⟨?_,h _ (List.getElem_mem hj)⟩⟩;show ((dS l).drop (j*1)).take 1=[.string l[j]];rw [Nat.mul_one,List.drop_eq_getElem_cons (by rw [fO];exact hj),List.take_succ_cons,List.take_zero,List.getElem_map]
theorem OX{M w cs l}(h:dP M w cs l):cs=dS l:=by
 have h1:cs.length=l.length:=by have:=h.1;rw [this];exact Nat.mul_one _
 apply List.ext_getElem (by rw [h1,fO]);intro i h2 h3;rw [fO] at h3;have:=(h.2 i h3).1;rw [show (Gv.ty ByteArray).size=1 from rfl,Nat.mul_one,List.drop_eq_getElem_cons h2,List.take_succ_cons,List.take_zero] at this;rw [List.getElem_map];exact (List.cons.inj this).1
theorem aA0{M w b o l}(h:Sl M w (some ⟨b,o,none⟩) l){i}(hi:i<l.length):w.cell? ⟨b,o+i,none⟩=some (.string l[i]):=by
 obtain ⟨b',o',cs,e,_,h3,rfl,_⟩:=h i hi;cases e;have:=h3 0 (by simp);simpa [show (Gv.ty ByteArray).size=1 from rfl] using this
theorem aME{M w p}{l:List ByteArray}(h:Sl M w p l)(k):Sl M w p (l.take k):=λj hj=>by
 have hj2:j<l.length:=by rw [List.length_take] at hj;omega
 have:=h j hj2;rw [List.getElem_take];exact this
theorem aI2{W w M b rest t l}(h:wU W (.blk b (dS l++rest) t) M w)(hs:∀ x∈l,x.size<=maxLen):Sl M w (some ⟨b,0,none⟩) l:=λj hj=>by
 have hr:=h.aWj (o:=j) (vs:=[.string l[j]]) λi hi=>by
  have hi:i=0:=by simp at hi;omega
  subst hi;rw [Nat.add_zero,List.getElem?_append_left (by rw [fO];exact hj),List.getElem?_map,List.getElem?_eq_getElem hj];rfl
 refine ⟨b,0,[.string l[j]],rfl,hr.1,?_,rfl,hs _ (List.getElem_mem hj)⟩;rw [show (Gv.ty ByteArray).size=1 from rfl,Nat.zero_add,Nat.mul_one];exact hr.2.1
inductive SB:Option Addr->Nat->List ByteArray->Own->Prop
 | buf (p:Option Addr) (cap:Nat) (l:List ByteArray):SB p cap l (.buf p l.length cap (dS l) 9 1)
 | cut (g:Nat) (l:List ByteArray) (cs:List Value):SB (some ⟨g,0,none⟩) l.length l (.blk g (dS l++cs) 9)
section
variable {W w:World}{S G:List Own}{Φ:PW}{p:Option Addr}{cap:Nat}{l:List ByteArray}{o:Own}
theorem SB.sl[aB Φ](h:SB p cap l o){M}(hs:∀ x∈l,x.size<=maxLen)(ha:Go.Vc.j8 W [o] Φ M w):Sl M w p l:=by
 have hp:=ha.parked (o:=o) (by simp);cases h with
 | buf=>exact hp.sl (D:=[]) (z6 hs)
 | cut g l cs=>exact aI2 hp hs
theorem SB.get(h:SB p cap l o)(cx:Ctx W w (o :: S) Φ){i}(hi:i<l.length):∃ g,p=some ⟨g,0,none⟩/\w.cell? ⟨g,i,none⟩=some (.string l[i]):=by
 cases h with
 | buf =>
  obtain ⟨g,hg,_,h2⟩:=cx.oG 0 rfl (by rw [fO];omega);exact ⟨g,hg,(h2 i _ (by rw [List.getElem?_map,List.getElem?_eq_getElem hi];rfl)).1⟩
 | cut g l cs=>exact ⟨g,rfl,cx.get 0 rfl (by rw [List.getElem?_append_left (by rw [fO];exact hi),List.getElem?_map,List.getElem?_eq_getElem hi];rfl)⟩
theorem SB.cutAt[aB Φ](h:SB p cap l o)(cx:Ctx W w (o :: S) Φ){k}(hk:k<l.length):∃ g o',p=some ⟨g,0,none⟩/\k<=cap/\SB p k (l.take k) o'/\Ctx W w (o' :: S) Φ:=by
 have hlen:(l.take k).length=k:=by rw [List.length_take];omega
 cases h with
 | buf =>
  obtain ⟨b,cur,h1,hb,rX,hnc,hcm,tC,hl⟩:=cx.aH7 0 rfl (by rw [fO];omega);have e:cur=dS (l.take k)++cur.drop k:=by
   conv=>lhs;rw [<-List.take_append_drop k cur]
   congr 1
   have:(cur.take (l.length*1)).take k=(dS l).take k:=by rw [rX]
   rw [Nat.mul_one,List.take_take,Nat.min_eq_left (by omega)] at this;rw [this,<-List.map_take]
  have hsb:=SB.cut b (l.take k) (cur.drop k);rw [hlen,<-e] at hsb;subst h1;exact ⟨b,_,rfl,by omega,hsb,cx.upd (k:=0) (o':=.blk b cur 9) rfl (lW.refl _ _) (λx hx=>.inl hx) (Own.nodup _) hb⟩
 | cut g l cs =>
  have hsb:=SB.cut g (l.take k) (dS (l.drop k)++cs);rw [hlen,<-aX,<-List.map_append,List.take_append_drop] at hsb;exact ⟨g,_,rfl,by omega,hsb,cx⟩
theorem SB.app[aB Φ](h:SB p cap l o)(cx:Ctx W w (o :: S) Φ){q c2 l2}(mF:∀ M w,Φ M w->Sl M w q l2)(h0:0<l2.length)(hlen:l.length+l2.length<100000000):
  ∃ p' cap' w' o',Sem.run prog (builtin Builtin.append #[40,40] 40 #[false,false] #[.slice p l.length cap,.slice q l2.length c2]) w=.ok (.value (.slice p' (l.length+l2.length) cap')) w'/\SB p' cap' (l++l2) o'/\Ctx W w' (o' :: S) Φ:=by
 cases h with
 | buf =>
  obtain ⟨p',cap',w',news,hr,_,c'⟩:=cx.aH8 (P:=prog) (ts:=40) (ty:=40) (kb:=#[false,false]) (bytes:=16) (c2:=c2) (by kernel_rfl) a8k mF h0 hlen (by omega);have e:=OX c'.uX.2;subst e;have hsb:=SB.buf p' cap' (l++l2);rw [List.length_append] at hsb;refine ⟨p',cap',w',_,hr,hsb,?_⟩;rw [show dS (l++l2)=dS l++dS l2 from List.map_append];exact c'.weak λ_ _ h=>h.1
 | cut g l cs =>
  obtain ⟨i,z,e1,e2,e3,e4,e5,e6⟩:=vT (P:=prog) (ts:=40) (t:=9) (size:=1) (bytes:=16) (by kernel_rfl);obtain ⟨b2,o2,news,hp,g1,g2,g3,g4⟩:=(mF _ _ cx.uX).cells a8k h0;have e:=OX g3;subst e;subst hp;have holds:∀ j u,(dS l)[j]? = some u->w.cell? ((⟨g,0,none⟩:Addr).add j)=some u:=by
   intro j u hj;rw [addr_add,Nat.zero_add];exact cx.get 0 rfl (by rw [List.getElem?_append_left (List.getElem?_eq_some_iff.1 hj).1];exact hj)
  have hr:=run_append_grow (P:=prog) w 40 40 9 i z e1 e2 e3 ⟨g,0,none⟩ l.length l.length (dS l) (by rw [e4,fO,Nat.mul_one]) holds ⟨b2,o2,none⟩ l2.length c2 (dS l2) (by rw [e4,fO,Nat.mul_one]) (λj u hj=>by rw [addr_add];exact g2 j u hj) (by omega) (by omega) (growslice_fits (by omega) (by rw [e6];omega));have hge:=grownCap_ge w (l.length+l2.length) l.length 9;have hcm:grownCap w (l.length+l2.length) l.length 9<=maxLen:=grownCap_le_maxLen w (l.length+l2.length) l.length 9 (by simp only [maxLen];omega)
  have hsb:=SB.buf (some ⟨w.heap.size,0,none⟩) (grownCap w (l.length+l2.length) l.length 9) (l++l2);refine ⟨_,_,_,_,vE hr,hsb,?_⟩;refine Ctx.new' (cx.drop1.draw 1) _ _ (by simp [Own.dom]) ⟨by rw [fO,Nat.mul_one],.inr ⟨w.heap.size,_,_,by rw [List.length_append],Nat.zero_le _,rV w.drew _,by rw [List.length_append];exact hge,hcm,?_,?_⟩⟩
  .simp only [Array.size_append,List.size_toArray,size_zeroCells,fO,e5];omega
  .simp only [Array.toList_append,aX];rw [<-aX,show dS (l++l2)=dS l++dS l2 from List.map_append,show (l++l2).length*1=(dS l++dS l2).length by rw [List.length_append,List.length_append,fO,fO,Nat.mul_one]];exact List.take_left
end
def FI:Nat->GM->Int->List ByteArray->List ByteArray × GM
 | 0,st,n,acc=>(acc,st)
 | k+1,st,n,acc=>if (acc.length:Int)<n/\st.1≠[] then FI k (stepT st).2 n (acc++[(stepT st).1]) else (acc,st)
theorem a3L{st}(h:st.1=[]):(stepT st).2=([],true):=by
 obtain ⟨l,b⟩:=st;simp only at h;subst h;unfold stepT;rw [a0A (a8e _ _)];rfl
theorem aI3{st}(hok:EW st)(h:st.1≠[]):(stepT st).2.1.length<st.1.length:=by
 have hpos:0<st.1.length:=List.length_pos_iff.2 h;cases hb:(stepT st).2.2 with
 | true =>
  have:=a8f hok hb;rw [this,List.length_nil];exact hpos
 | false =>
  have h1:=(a5l hb).2;have h2:=congrArg List.length h1;rw [List.length_append,uM,List.length_append,List.length_cons,List.length_append,List.length_singleton] at h2;omega
theorem loops:∀ (k:Nat) (st:GM) (n:Int) (acc:List ByteArray),EW st->st.1.length<k ->
  (oU k st n acc).1=(FI k st n acc).1/\(((FI k st n acc).1.length:Int)=n->oU k st n acc=FI k st n acc)/\(((FI k st n acc).1.length:Int)<n->sR (oU k st n acc).2=false)
 | 0,st,n,acc,_,h=>by omega
 | k+1,st,n,acc,hok,h=>by
  by_cases hn:(acc.length:Int)<n
  .by_cases h0:st.1=[]
   .have e1:oU (k+1) st n acc=(acc,(stepT st).2):=by unfold oU;rw [if_pos hn,if_pos (.inr h0)]
    have e2:FI (k+1) st n acc=(acc,st):=by unfold FI;rw [if_neg λh=>h.2 h0]
    rw [e1,e2,a3L h0];exact ⟨rfl,λh=>by simp only at h;omega,λ_=>rfl⟩
   .have hlt:=aI3 hok h0;have hno:¬ (st.1.length<=(stepT st).2.1.length\/st.1=[]):=λh=>h.elim (λh=>by omega) h0;have e1:oU (k+1) st n acc=oU k (stepT st).2 n (acc++[(stepT st).1]):=by
     conv=>lhs;unfold oU
     rw [if_pos hn,if_neg hno]
    have e2:FI (k+1) st n acc=FI k (stepT st).2 n (acc++[(stepT st).1]):=by
     conv=>lhs;unfold FI
     rw [if_pos ⟨hn,h0⟩]
    rw [e1,e2];exact loops k _ n _ (a8f hok) (by omega)
  .have e1:oU (k+1) st n acc=(acc,st):=by unfold oU;rw [if_neg hn]
   have e2:FI (k+1) st n acc=(acc,st):=by unfold FI;rw [if_neg λh=>hn h.1]
   rw [e1,e2];exact ⟨rfl,λ_=>rfl,λh=>absurd h hn⟩
section
variable {W w:World}{S G:List Own}{Φ:PW}{p:Option Addr}{cap:Nat}{l:List ByteArray}{o:Own}
theorem a5t[aB Φ](hT:∀ M w,Φ M w->yT M w)(mF:∀ M w,Φ M w->Sl M w p l)(hlen:(aQ l).length<=1000000000):cS Φ prog F.jX #[.slice p l.length cap] (.string (bs (aQ l))):=by
 refine .there (λM w h=>(mF M w h).there) λhth=>?_;have hn:=xW (l:=l) λx hx=>Nat.le_trans (kN hx) (by omega);refine j7 (QZ p l.length cap) λW R=>λb=>?_;refine dN (λiI R' aU k=>∃ (i:Nat) (Q:List Own),iI=i/\i+k=l.length/\BdT b (aQ (l.take i)) Q/\R'=Q++R/\aU=Φ) ⟨?_,?_⟩
 .refine ⟨_,Φ,l.length,aM,λw G cx=>?_,0,[.blk b [.pointer none,.slice none 0 0] 207,.buf none 0 0 (Lib.byteCells []) 5 1],rfl,by omega,Bd.nil,rfl,rfl⟩;exact Bd.fresh cx
 rintro iI R2 Φ k _ ⟨i,Q,rfl,hik,hQ,rfl,rfl⟩;refine Br.intro (λhlt=>?_) (λhge=>λw G cx=>?_)
 .have hlt:i<l.length:=by have:=eR hlt;omega
  obtain ⟨k,rfl⟩:∃ m,k=m+1:=⟨k - 1,by omega⟩;obtain ⟨g,o,rfl⟩:=hth (by omega);have hsz:=kN (List.getElem_mem hlt);have hstep:aQ (l.take (i+1))=aQ (l.take i)++(oS l[i]).data.toList:=by
   rw [List.take_succ_eq_append_getElem hlt,mY];simp [aQ]
  have hle:(aQ (l.take (i+1))).length<=(aQ l).length:=by
   have e:aQ l=aQ (l.take (i+1))++aQ (l.drop (i+1)):=by rw [<-mY,List.take_append_drop]
   rw [e,List.length_append];omega
  refine ⟨⟨by omega,by omega⟩,aW g o rfl λw G cx=>⟨l[i],by rw [Int.toNat_natCast];exact aA0 (mF _ _ cx.uX) hlt,λw G cx=>(aCN (Φ:=Φ) (.inl ⟨hT,by unfold aY;omega⟩) (by omega)).use cx λw cx=>⟨_,rfl,Q++R,Φ,aM,cx,λw G cx=>?_⟩⟩⟩;refine XJ (oS l[i]) hQ (cx.re (aX _ _ _)) (by rw [hstep,List.length_append,gD] at hle;omega) λQ' w hQ' cx=>⟨_,_,rfl,Q'++R,Φ,aM,by rw [aX];exact cx,by unfold aY;omega,_,Φ,k,aM,λw G cx=>cx,⟨i+1,Q',by omega,by omega,?_,rfl,rfl⟩,Nat.lt_succ_self _⟩
  rw [hstep];exact hQ'
 .have hge:i=l.length:=by have:=dD hge;omega
  subst hge;rw [List.take_length] at hQ;exact aAv hQ (cx.re (aX _ _ _)) λw cx=>⟨_,rfl,R,Φ,aM,cx,λw G cx=>⟨rfl,cx.left⟩⟩
theorem a8l[aB Φ](hN:∀ M w,Φ M w->uL M w){cb q c}(hl:c.value.length<=1000000000)(cx:Ctx W w (eX cb q c :: S) Φ){K}(hk:∀ w',Ctx W w' (eX cb q c :: S) Φ->K (.returned (.tuple #[.int .i64 (rH c).1,.int .i64 (rH c).2.1,.bool (rH c).2.2])) w'):aD F.wJ #[.pointer (some ⟨cb,0,none⟩)] w K:=by
 refine gC (I3 cb 0 (J:=K∘.returned) cx λw G cx=>a8i (S:=S++G) cx λw cx=>⟨_,_,rfl,eX cb q c :: S,Φ,aM,cx,Br.intro (λh=>λw G cx=>?_) (λh=>λw G cx=>?_)⟩)
 .have h:c.slot=0:=by
   have:¬ 0<c.slot:=by simpa using h
   omega
  have e:rH c=(0,0,true):=by unfold rH;rw [if_pos h]
  rw [e] at hk;exact hk w cx.left
 .have h:¬ c.slot=0:=by
   have:0<c.slot:=by simpa using h
   omega
  have e:rH c=((mU (c.value,false)).1,(mU (mU (c.value,false)).2).1,sR (mU (mU (c.value,false)).2).2):=by unfold rH;rw [if_neg h]
  rw [e] at hk;have hlen:(mU (c.value,false)).2.1.length<=c.value.length:=rF 59 0 (c.value,false);refine J9 c.value cx λb w cx=>⟨_,rfl,rd b (c.value,false) :: eX cb q c :: S,Φ,aM,cx,λw G cx=>a5h (S:=eX cb q c :: S) hN (by show c.value.length<=_;omega) cx (λw G cx=>a5h (S:=eX cb q c :: S) hN (by omega) cx (λw G cx=>Y3 (S:=eX cb q c :: S) cx (λw G cx=>hk w (Ctx.left (Ctx.drop1 cx)))))⟩
theorem aI4[aB Φ](hT:∀ M w,Φ M w->yT M w){s}(hs:s.length<=16777216){n b}{st:GM}(hform:st.2=false->aQ l++st.1=s)(cx:Ctx W w ((.buf p l.length cap (dS l) 9 1 :: rd b st :: S)++G) Φ){K:EkV}(h0:∀ w',a2n s n (l,st)=none->Ctx W w' S Φ->K (.returned (.tuple #[.slice p l.length cap,.bool false])) w')(h1:∀ w',a2n s n (l,st)=some l->Ctx W w' (.buf p l.length cap (dS l) 9 1 :: S) Φ->K (.returned (.tuple #[.slice p l.length cap,.bool true])) w'):
  aD F.dZ #[.pointer (some ⟨b,0,none⟩)] w λe w'=>∃ c,e=.returned (.bool c)/\∃ R' aU,aB aU/\Ctx W w' (R'++G) aU /\
   Br c (Br (decide ((l.length:Int)=n)) (∀ w G,Ctx W w (R'++G) aU->aD F.jX #[.slice p l.length cap] w λe w'=>∃ s1,e=.returned (.string s1)/\∃ R2 BD,aB BD/\Ctx W w' (R2++G) BD/\∀ w G,Ctx W w (R2++G) BD->K (.returned (.tuple #[.slice p l.length cap,.bool (decide (s1=bs s))])) w)
    (∀ w G,Ctx W w (R'++G) aU->K (.returned (.tuple #[.slice p l.length cap,.bool false])) w)) (∀ w G,Ctx W w (R'++G) aU->K (.returned (.tuple #[.slice p l.length cap,.bool false])) w):=by
 refine Y3 (S:=.buf p l.length cap (dS l) 9 1 :: S) cx.swap (Br.intro (λhd=>Br.intro (λhn=>λw G cx=>?_) (λhn=>λw G cx=>?_)) (λhd=>λw G cx=>?_))
 .have hst:=aMj hd;subst hst;have hf:=hform rfl;rw [List.append_nil] at hf;have he:a2n s n (l,([],false))=some l:=by unfold a2n;exact if_pos ⟨hd,eR hn,hf⟩
  have hlen:(aQ l).length<=16777216:=by rw [hf];exact hs
  have hsz:∀ x∈l,x.size<=maxLen:=λx hx=>Nat.le_trans (kN hx) (by unfold maxLen;omega);have c2:Ctx W w ([Own.buf p l.length cap (dS l) 9 1]++(rd b ([],false) :: (S++G))) Φ:=Ctx.swap (S:=S++G) cx;have c3:=c2.aside;refine (a5t (Φ:=Go.Vc.j8 W [.buf p l.length cap (dS l) 9 1] Φ) (λM w h=>hT M w h.less) (λM w h=>(SB.buf p cap l).sl hsz h) (by omega)).use c3 λw c4=>⟨_,rfl,.buf p l.length cap (dS l) 9 1 :: rd b ([],false) :: S,Φ,aM,c4.AX,λw G cx=>?_⟩
  rw [hf,decide_eq_true (rfl:bs s=bs s)];exact h1 w he (Ctx.drop1 (Ctx.swap (Ctx.left (S:=.buf p l.length cap (dS l) 9 1 :: rd b ([],false) :: S) cx)))
 .have he:a2n s n (l,st)=none:=by unfold a2n;exact if_neg λh=>dD hn h.2.1
  exact h0 w he (Ctx.drop1 (Ctx.drop1 (Ctx.left cx)))
 .have he:a2n s n (l,st)=none:=by unfold a2n;exact if_neg λh=>by rw [h.1] at hd;cases hd
  exact h0 w he (Ctx.drop1 (Ctx.drop1 (Ctx.left cx)))
theorem aI5[aB Φ](hN:∀ M w,Φ M w->uL M w){s}(hs:s.length<=16777216){n}(cx:Ctx W w S Φ){K}(h0:∀ p k c w',a3A s n=none->Ctx W w' S Φ->K (.returned (.tuple #[.slice p k c,.bool false])) w')(h1:∀ p cap l o w',a3A s n=some l->SB p cap l o->Ctx W w' (o :: S) Φ->K (.returned (.tuple #[.slice p l.length cap,.bool true])) w'):
  aD F.E4 #[.string (bs s),.int .i64 n] w K:=by
 have hT:∀ M w,Φ M w->yT M w:=λM w h=>(hN M w h).1;refine gC (QV (bs s) n (J:=K∘.returned) cx λw G cx=>J9 s cx λb w cx=>⟨_,rfl,rd b (s,false) :: S,Φ,aM,cx,?_⟩);refine dN (λp k c R' aU m=>∃ (st:GM) (acc:List ByteArray),k=acc.length/\R'=.buf p acc.length c (dS acc) 9 1 :: rd b st :: S/\aU=Φ/\st.1.length<m/\acc.length+st.1.length<=s.length/\(st.2=false->aQ acc++st.1=s)/\a3A s n=a2n s n (oU m st n acc))
  ⟨⟨.buf none 0 0 (dS []) 9 1 :: rd b (s,false) :: S,Φ,s.length+1,aM,λw G cx=>cx.MN 9 1,(s,false),[],rfl,rfl,rfl,Nat.lt_succ_self _,by simp,λ_=>rfl,rfl⟩,?_⟩
 rintro p k c R1 Φ m st ⟨rs,acc,rfl,rfl,rfl,hm,hal,hform,hread⟩;obtain ⟨m,rfl⟩:∃ x,m=x+1:=⟨m - 1,by omega⟩;have A8:∀ st',(st'.2=false->aQ acc++st'.1=s)->oU (m+1) rs n acc=(acc,st')->∀ {w:World} {G:List Own},Ctx W w ((.buf p acc.length c (dS acc) 9 1 :: rd b st' :: S)++G) Φ->_:=λst' hf hlp {w G} cx =>
  aI4 (S:=S) (G:=G) (K:=K) (n:=n) hT hs hf cx (λw he cx=>h0 p acc.length c w (by rw [hread,hlp];exact he) cx) (λw he cx=>h1 p c acc _ w (by rw [hread,hlp];exact he) (SB.buf p c acc) cx)
 refine Br.intro (λhlt=>λw G cx=>?_) (λhge=>λw G cx=>?_)
 .have hlt:=eR hlt;have e:oU (m+1) rs n acc=if rs.1.length<=(stepT rs).2.1.length\/rs.1=[] then (acc,(stepT rs).2) else oU m (stepT rs).2 n (acc++[(stepT rs).1]):=by
   conv=>lhs;unfold oU
   rw [if_pos hlt]
  have hf2:(stepT rs).2.2=false->aQ acc++((oS (stepT rs).1).data.toList++(stepT rs).2.1)=s:=λhb=>by
   obtain ⟨h1,h2⟩:=a5l hb;rw [<-h2];exact hform h1
  refine a5i (S:=.buf p acc.length c (dS acc) 9 1 :: S) cx.swap (λw G cx=>a5k (S:=.buf p acc.length c (dS acc) 9 1 :: S) hN (by omega) cx (λw G cx=>a5i (S:=.buf p acc.length c (dS acc) 9 1 :: S) cx (Br.intro (λh2=>λw G cx=>?_) (λh2=>Br.intro (λh3=>λw G cx=>?_) (λh3=>λk w G cx=>?_)))))
  .rw [if_pos (.inl (by have:=eR h2;omega))] at e;exact A8 (stepT rs).2 (λhb=>by obtain ⟨h1,h2⟩:=a5l hb;exact absurd h1 (by
    intro h3;have:=hf2 hb;have e2:=congrArg List.length h2;rw [List.length_append,uM,List.length_append,List.length_cons,List.length_append,List.length_singleton] at e2;have:=eR ‹_›;omega)) e cx.swap
  .rw [if_pos (.inr (List.eq_nil_of_length_eq_zero (by have:=eR h3;omega)))] at e;have h0:rs.1=[]:=List.eq_nil_of_length_eq_zero (by have:=eR h3;omega);exact A8 (stepT rs).2 (λhb=>by rw [a3L h0] at hb;cases hb) e cx.swap
  .have h2:=dD h2;have h3:=dD h3;have hc:¬ (rs.1.length<=(stepT rs).2.1.length\/rs.1=[]):=λh=>h.elim (λh=>h2 (by omega)) (λh=>h3 (by rw [h];rfl));rw [if_neg hc] at e;have cx:Ctx W w (.blk k [.string (stepT rs).1] 9 :: .buf p acc.length c (dS acc) 9 1 :: rd b (stepT rs).2 :: (S++G)) Φ:=cx.perm (List.Perm.cons _ (List.Perm.swap _ _ _));obtain ⟨p',cap',w',hr,_,c2⟩:=cx.a2i (ts:=40) (ty:=40) (kb:=#[false,false]) (bytes:=16) (by kernel_rfl) (by decide) rfl rfl (by omega) (by decide)
   have es:dS acc++[.string (stepT rs).1]=dS (acc++[(stepT rs).1]):=by
    show _=List.map Value.string (acc++[(stepT rs).1]);rw [List.map_append];rfl
   have el:acc.length+1=(acc++[(stepT rs).1]).length:=by rw [List.length_append];rfl
   rw [es,el] at c2;rw [el] at hr;refine ⟨p',_,cap',w',hr,.buf p' (acc++[(stepT rs).1]).length cap' (dS (acc++[(stepT rs).1])) 9 1 :: rd b (stepT rs).2 :: S,Φ,aM,c2,_,Φ,m,aM,λw G cx=>cx,⟨_,acc++[(stepT rs).1],rfl,rfl,rfl,by omega,by rw [<-el];omega,λhb=>?_,by rw [hread,e]⟩,Nat.lt_succ_self _⟩;have:=hf2 hb;rw [mY,aX,show aQ [(stepT rs).1]=(oS (stepT rs).1).data.toList by simp [aQ]];exact this
 .have e:oU (m+1) rs n acc=(acc,rs):=by unfold oU;rw [if_neg (dD hge)]
  exact A8 rs hform e cx
end
end Go.Proofs.YtnlkemjhgdbfkaaGreatDoor
end

