/-
 The disk in memory;put;what only looks or sets a cell: walked.
-/
import Derived.Test.YtcmgeboolmmdkaaGreatDoorCm8
import Derived.Test.YtcmgeboolmmdkaaGreatDoorCm5
import Derived.Lib.LazyBuf
import Derived.Lib.SlBytesRow
import Derived.Laws.Cells
import Derived.Laws.IdiomRangeMap
import Derived.Laws.Bits128
open Go.Proofs.Tryz
set_option linter.unusedVariables false
set_option linter.unusedSimpArgs false
section
namespace Go.Proofs.YtcmgeboolmmdkaaGreatDoor
open Go.Vc
abbrev cP(f:ko):Value:=.agg #[.string (bs f.now),.string (bs f.last)]
abbrev e6(p:Int × Int):Value:=.agg #[.int .i64 p.1,.int .i64 p.2]
abbrev A2:ko:=⟨[],[]⟩
theorem A3:zX prog 85 3 119 (Value.int .i64) cP A2:=.ofInt (by kernel_rfl) (by kernel_rfl) (λb x w=>by kernel_rfl) (λw=>by kernel_rfl)
theorem Rt:zX prog 86 122 4 e6 Value.bool false:=by
 refine .aNa (by kernel_rfl) ⟨_,underlying122⟩ (λb x w=>by kernel_rfl) (λx w=>?_) (λx U w=>?_) (λw=>by kernel_rfl)
 .have:Instr.sameBits 10000 (e6 x) (e6 x)=true:=by
   unfold Instr.sameBits;simp [Instr.sameBits]
  unfold Instr.keyThatStays;rw [if_pos this];rfl
 .have hs:prog.stoodInHeld 122=false:=by kernel_rfl
  obtain ⟨fs,ht⟩:∃ fs,prog.underlying 122=some (.struct fs):=⟨_,underlying122⟩;have hf:prog.fieldsOf 122=fs:=by simp [Program.fieldsOf,ht]
  have hr:A1 prog #[.int .i64 x.1,.int .i64 x.2] #[.int .i64 U.1,.int .i64 U.2] (prog.fieldsOf 122).toList=some (decide (x.1=U.1)&&(decide (x.2=U.2)&&true)):=by kernel_rfl
  have key:(Op.equalIn 10000 122 (e6 x) (e6 U)).run prog w=.ok (decide (x.1=U.1)&&(decide (x.2=U.2)&&true)) w:=by
   rw [show (10000:Nat)=9999+1 from rfl,run_equalIn_struct w 9999 122 _ _ (by rw [hf];exact ht) hs];exact Ug hr
  have h2:Op.equal 122 (e6 x) (e6 U)=Op.equalIn 10000 122 (e6 x) (e6 U):=by delta Op.equal Op.maxDepth;exact Eq.refl _
  rw [h2,key];refine congrArg (λb=>Result.ok b w) ?_;rw [Bool.and_true,<-Bool.decide_and];exact decide_eq_decide.2 ⟨λh=>Prod.ext h.1 h.2,λh=>by rw [h];exact ⟨rfl,rfl⟩⟩
structure ld where
 db:Nat
 aJ:Nat
 cY:List (aj Int ko)
 b9:Nat
 sm:Nat
 fh:List (aj (Int × Int) Bool)
 eU:Nat
 eI:Option Addr
 bW:Nat
 kp:Option Addr
 kc:Nat
abbrev fI(l:List (Int × Int)):List Value:=l.flatMap λp=>[.int .i64 p.1,.int .i64 p.2]
abbrev dH(q:ld)(d:b7):List Value:=[.map (some q.aJ),.slice q.eI d.queue.length q.bW,.map (some q.sm),.int .i64 d.lost,.bool d.down,.int .i64 d.eP,.slice q.kp d.keep.length q.kc]
def ξ(q:ld)(d:b7):List Own:=[.blk q.db (dH q d) 89,.obj q.aJ (aZ (Value.int .i64) cP q.cY q.b9),.obj q.sm (aZ e6 Value.bool q.fh q.eU),.buf q.eI d.queue.length q.bW (fI d.queue) 122 2]
structure cG(q:ld)(d:b7):Prop where
 yX:om q.cY q.b9
 BA:om q.fh q.eU
 uc:∀ k,dO A2 q.cY k=d.files k
 zE:∀ p,dO false q.fh p=decide (p∈d.queue)
 nodup:d.queue.Nodup
 range:∀ p∈d.queue,(0<=p.1/\p.1<16)/\0<=p.2/\p.2<262145
 size:∀ k,(d.files k).now.length<=16777216/\(d.files k).last.length<=16777216
 lost:0<=d.lost/\d.lost<=9223372036854775807
 eP:0<=d.eP/\d.eP<=9223372036854775807
abbrev C0(q:ld)(d:b7):θ:=λM w=>Δ M w q.kp d.keep
theorem DA(l):(fI l).length=l.length*2:=by
 induction l with
 | nil=>rfl
 | cons x l ih =>
  show ((.int .i64 x.1 :: .int .i64 x.2 :: fI l)).length=_;rw [List.length_cons,List.length_cons,ih,List.length_cons];omega
theorem Rs{l i}(h:i<l.length):((fI l).drop (i*2)).take 2=[.int .i64 l[i].1,.int .i64 l[i].2]:=by
 induction l generalizing i with
 | nil=>cases h
 | cons x l ih =>
  cases i with
  | zero=>rfl
  | succ i =>
   have:=ih (i:=i) (by simpa using h);show ((.int .i64 x.1 :: .int .i64 x.2 :: fI l).drop ((i+1)*2)).take 2=_;rw [show (i+1)*2=i*2+2 by omega,List.drop_succ_cons,List.drop_succ_cons,this];rfl
theorem a7Q:∀ (n:Nat) (l:List Nat),l.Nodup->(∀ x∈l,x<n)->l.length<=n
 | 0,l,_,h=>by
  cases l with
  | nil=>exact Nat.le_refl _
  | cons x l=>have:=h x (by simp);omega
 | n+1,l,hd,h=>by
  have h1:=a7Q n (l.filter (· != n)) (hd.filter _) λx hx=>by
   have h2:=List.mem_filter.1 hx;have h3:=h x h2.1;have h4:x≠n:=by simpa using h2.2
   omega
  have h2:l.length<=(l.filter (· != n)).length+1:=by
   clear h h1
   induction l with
   | nil=>simp
   | cons x l ih =>
    obtain ⟨hx,hl⟩:=List.nodup_cons.1 hd;by_cases e:x=n
    .have:l.filter (· != n)=l:=List.filter_eq_self.2 λU hy=>by
      have:U≠n:=λe2=>hx (by rw [e,<-e2];exact hy);simpa using this
     rw [List.filter_cons_of_neg (by simp [e]),this,List.length_cons];exact Nat.le_refl _
    .rw [List.filter_cons_of_pos (by simpa using e),List.length_cons,List.length_cons];have:=ih hl;omega
  omega
theorem aOn{l:List (Int × Int)}(hd:l.Nodup)(h:∀ p∈l,(0<=p.1/\p.1<16)/\0<=p.2/\p.2<262145):l.length<=4194320:=by
 have h1:=a7Q 4194320 (l.map λp=>p.1.toNat*262145+p.2.toNat) (by
  refine List.nodup_iff_pairwise_ne.2 (List.pairwise_map.2 ?_);refine (List.nodup_iff_pairwise_ne.1 hd).imp_of_mem fun {a b} ha hb hab e=>hab ?_;have h1:=h a ha;have h2:=h b hb;exact Prod.ext (by omega) (by omega)) (λx hx=>by
  obtain ⟨p,hp,rfl⟩:=List.mem_map.1 hx;have:=h p hp;omega)
 rw [List.length_map] at h1;exact h1
theorem cG.ND{q d}(h:cG q d):d.queue.length<=4194320:=aOn h.nodup h.range
section
variable {W w:World}{S G:List Own}{Φ:θ}
theorem qX{q d}(y:Ctx W w (ξ q d++S) Φ){i v}(h:(dH q d)[i]? = some v):w.cell? ⟨q.db,i,none⟩=some v:=y.get 0 rfl h
theorem Ki{q d}(y:Ctx W w (ξ q d++S) Φ):w.heap[q.aJ]? = some (aZ (Value.int .i64) cP q.cY q.b9):=y.own (.obj q.aJ (aZ (Value.int .i64) cP q.cY q.b9)) (by simp [ξ])
theorem aHi{q d}(y:Ctx W w (ξ q d++S) Φ):w.heap[q.sm]? = some (aZ e6 Value.bool q.fh q.eU):=y.own (.obj q.sm (aZ e6 Value.bool q.fh q.eU)) (by simp [ξ])
theorem aEi[O Φ](y:Ctx W w S Φ){K}(hk:∀ q w',cG q mB->Ctx W w' (ξ q mB++S) (λM w=>Φ M w/\C0 q mB M w)->K (.returned (ε q.db 0)) w'):Γ F.T' #[] w K:=by
 refine ak (aCm (J:=K∘.returned) y λk0 k1 k2 w G y=>?_);refine hk ⟨k2,k0,[],0,k1,[],0,none,0,none,0⟩ w ⟨⟨.nil,.nil,by simp⟩,⟨.nil,.nil,by simp⟩,λk=>rfl,λp=>rfl,List.nodup_nil,λp hp=>(by cases hp),λk=>⟨Nat.zero_le _,Nat.zero_le _⟩,⟨Int.le_refl 0,by decide⟩,⟨Int.le_refl 0,by decide⟩⟩ ?_;have c1:Ctx W w (.buf none 0 0 [] 122 2 :: (.blk k2 (dH ⟨k2,k0,[],0,k1,[],0,none,0,none,0⟩ mB) 89 :: .obj k1 (.map #[] 0) :: .obj k0 (.map #[] 0) :: S)) (λM w=>Φ M w/\Δ M w none ([]:List Int)):=(Ctx.left (S:=.blk k2 (dH ⟨k2,k0,[],0,k1,[],0,none,0,none,0⟩ mB) 89 :: .obj k1 (.map #[] 0) :: .obj k0 (.map #[] 0) :: S) y).weak (λM w h=>⟨h,Δ.nil⟩) |>.yp 122 2
 refine c1.perm ?_;show (Own.buf none 0 0 [] 122 2 :: .blk k2 _ 89 :: .obj k1 (.map #[] 0) :: .obj k0 (.map #[] 0) :: S).Perm (.blk k2 _ 89 :: .obj k0 (.map #[] 0) :: .obj k1 (.map #[] 0) :: .buf none 0 0 [] 122 2 :: S);refine (List.Perm.swap _ _ _).trans (List.Perm.cons _ ?_);refine (List.Perm.swap _ _ _).trans ?_;refine (List.Perm.cons _ (List.Perm.swap _ _ _)).trans ?_;exact (List.Perm.swap _ _ _)
theorem Wv[O Φ]{q d f}(y:Ctx W w (ξ q d++S) Φ){K}(hk:∀ w',Ctx W w' (ξ q d++S) Φ->K (.returned (.int .i64 (j4 d f))) w'):Γ F.Kg #[ε q.db 0,.int .i64 f] w K:=by
 refine ak (aCg q.db 0 f (J:=K∘.returned) y λw G y=>⟨d.down,qX y.left rfl,γ.intro (λh=>λw G y=>?_) (λh=>λw G y=>γ.intro (λh2=>λw G y=>?_) (λh2=>λw G y=>?_))⟩)
 .have e:j4 d f=9:=by unfold j4;rw [if_pos h]
  rw [<-e];exact hk w y.left
 .have e:j4 d f=1:=by unfold j4;rw [if_neg (by rw [h];simp),if_pos (by simpa using h2)]
  rw [<-e];exact hk w y.left
 .have e:j4 d f=0:=by unfold j4;rw [if_neg (by rw [h];simp),if_neg (by simpa using h2)]
  rw [<-e];exact hk w y.left
theorem a4A[O Φ]{q d}(hq:cG q d)(y:Ctx W w (ξ q d++S) Φ){K}(hk:∀ w',cG q (gE d)->Ctx W w' (ξ q (gE d)++S) Φ->K (.returned (.bool (ua d))) w'):Γ F.Pg #[ε q.db 0] w K:=by
 have ha:=hq.eP;refine ak (aCf q.db 0 (J:=K∘.returned) y λw G y=>⟨d.down,qX y.left rfl,d.eP,λ_=>qX y.left rfl,γ.intro (λh=>λw G y=>?_) (λh=>λw G y=>⟨d.eP,qX y.left rfl,by unfold κ;omega,λw G y=>⟨y.can 0 rfl (by show 0+5+1<=7;omega),λw' hw'=>?_⟩⟩)⟩)
 .have h:d.down=true\/d.eP=0:=by simpa using h
  have e:gE d=d:=by unfold gE;rw [if_pos h]
  have e2:ua d=false:=by
   unfold ua;rcases h with h|h
   .rw [h];rfl
   .rw [h];simp
  rw [e] at hk;rw [<-e2];exact hk w hq y.left
 .have h:¬ (d.down=true\/d.eP=0):=by simpa using h
  have e:gE d={ d with eP:=d.eP - 1 }:=by unfold gE;rw [if_neg h]
  have hdn:d.down=false:=by
   cases hd:d.down with
   | true=>exact absurd (.inl hd) h
   | false=>rfl
  rw [e] at hk;have bO:=y.put 0 hw' rfl;refine ⟨ξ q { d with eP:=d.eP - 1 }++S,Φ,δ,bO,λw G y=>⟨d.eP - 1,qX y.left rfl,λw G y=>?_⟩⟩;have e2:decide (d.eP - 1=0)=ua d:=by
   unfold ua;rw [hdn];exact decide_eq_decide.2 ⟨λh=>by omega,λh=>by omega⟩
  rw [e2];exact hk w ⟨hq.yX,hq.BA,hq.uc,hq.zE,hq.nodup,hq.range,hq.size,hq.lost,⟨by show 0<=d.eP - 1;omega,by show d.eP - 1<=_;omega⟩⟩ y.left
theorem a1H[O Φ]{q d}(hq:cG q d){n}(hn:κ n)(y:Ctx W w (ξ q d++S) Φ){K}(hk:∀ w',cG q (k5 d n)->Ctx W w' (ξ q (k5 d n)++S) Φ->K (.returned (.tuple #[])) w'):Γ F.Pe #[ε q.db 0,.int .i64 n] w K:=by
 unfold κ at hn;refine ak (aCa q.db 0 n (J:=K∘.returned) y λw G y=>⟨y.can 0 rfl (by show 0+3+1<=7;omega),λw' hw'=>?_⟩);have bO:=y.put 0 hw' rfl;exact ⟨ξ q (k5 d n)++S,Φ,δ,bO,λw G y=>hk w ⟨hq.yX,hq.BA,hq.uc,hq.zE,hq.nodup,hq.range,hq.size,⟨by show 0<=max n 0;omega,by show max n 0<=_;omega⟩,hq.eP⟩ y.left⟩
theorem a2D[O Φ]{q d}(hq:cG q d)(y:Ctx W w (ξ q d++S) Φ){K}(hk:∀ w',cG q (dz d)->Ctx W w' (ξ q (dz d)++S) Φ->K (.returned (.tuple #[])) w'):Γ F.Pf #[ε q.db 0] w K:=by
 refine ak (aCc q.db 0 (J:=K∘.returned) y λw G y=>⟨y.can 0 rfl (by show 0+4+1<=7;omega),λw' hw'=>?_⟩);have bO:=y.put 0 hw' rfl;exact ⟨ξ q (dz d)++S,Φ,δ,bO,λw G y=>hk w ⟨hq.yX,hq.BA,hq.uc,hq.zE,hq.nodup,hq.range,hq.size,hq.lost,hq.eP⟩ y.left⟩
theorem PM(l:cz)(a b):(bs l).extract a b=bs ((l.drop a).take (b - a)):=by
 apply ByteArray.ext;apply Array.toList_inj.1;rw [Go.Lib.extract_data];rfl
theorem So[O Φ]{q d}(hq:cG q d){f a n}(y:Ctx W w (ξ q d++S) Φ){K}(hk:∀ w',Ctx W w' (ξ q d++S) Φ->K (.returned (.tuple #[.string (bs (cj d f a n).1),.int .i64 (cj d f a n).2])) w'):Γ F.Ke #[ε q.db 0,.int .i64 f,.int .i64 a,.int .i64 n] w K:=by
 refine ak (aCb q.db 0 f a n (J:=K∘.returned) y λw G y=>Wv (S:=S++G) (y.re (μ _ _ _)) λw y=>⟨_,rfl,ξ q d++S,Φ,δ,y.re (μ _ _ _).symm,γ.intro (λh=>λw G y=>?_) (λh=>λw G y=>γ.intro (λh2=>λw G y=>?_) (λh2=>λw G y=>?_))⟩)
 .have e:cj d f a n=([],j4 d f):=by unfold cj;rw [if_pos (aN h)]
  rw [e] at hk;exact hk w y.left
 .have e:cj d f a n=([],1):=by unfold cj;rw [if_neg (Λ h),if_pos (by simpa using h2)]
  rw [e] at hk;exact hk w y.left
 .have h2:¬ (a<0\/n<0):=by simpa using h2
  have e:cj d f a n=(((d.files f).now.drop a.toNat).take n.toNat,0):=by unfold cj;rw [if_neg (Λ h),if_neg h2]
  rw [e] at hk;have hfg:=hq.uc f;refine ⟨some q.aJ,qX y.left rfl,λw G y=>⟨bs (d.files f).now,bs (d.files f).last,λw2 dw=>?_,?_,?_,λw G y=>?_⟩⟩
  .have hr:=NP (P:=prog) A3 (w:=w2) (by rw [dw];exact Ki y.left) f;rw [hfg] at hr;exact hr
  .rw [dN];omega
  .rw [PM,dN];omega
  .have key:(((bs (d.files f).now).extract (min a ((bs (d.files f).now).size:Int)).toNat (bs (d.files f).now).size).extract 0 (min n (((bs (d.files f).now).extract (min a ((bs (d.files f).now).size:Int)).toNat (bs (d.files f).now).size).size:Int)).toNat)=bs (((d.files f).now.drop a.toNat).take n.toNat):=by
    rw [PM,PM,dN,dN,List.drop_zero,Nat.sub_zero]
    congr 1
    have e1:(((d.files f).now.drop (min a ((d.files f).now.length:Int)).toNat).take ((d.files f).now.length - (min a ((d.files f).now.length:Int)).toNat))=(d.files f).now.drop a.toNat:=by
     by_cases ha:a<=((d.files f).now.length:Int)
     .rw [show (min a ((d.files f).now.length:Int)).toNat=a.toNat by omega,List.take_of_length_le (by rw [List.length_drop];exact Nat.le_refl _)]
     .rw [show (min a ((d.files f).now.length:Int)).toNat=(d.files f).now.length by omega,List.drop_length,List.take_nil,List.drop_eq_nil_of_le (by omega)]
    rw [e1];by_cases hn:n<=(((d.files f).now.drop a.toNat).length:Int)
    .rw [show (min n (((d.files f).now.drop a.toNat).length:Int)).toNat=n.toNat by omega]
    .rw [show (min n (((d.files f).now.drop a.toNat).length:Int)).toNat=((d.files f).now.drop a.toNat).length by omega,List.take_length,List.take_of_length_le (by omega)]
   rw [key];exact hk w y.left
end
theorem KQ{l:cz}:(bs l=ByteArray.mk #[]) ↔ l=[]:=(PN (b:=[]))
abbrev iS(l:cz):List Value:=l.map λx=>Value.int .u8 (x.toNat:Int)
theorem Bw(l):(iS l).length=l.length:=by simp [iS]
theorem aOb{s t:cz}{a}(h:t≠[]):gd (gd (List.replicate (max s.length (a+t.length)) (Value.int .u8 0)) 0 (iS s)) a (iS t)=iS (dy s a t):=by
 have e1:gd (List.replicate (max s.length (a+t.length)) (Value.int .u8 0)) 0 (iS s)=iS (s++List.replicate (max s.length (a+t.length) - s.length) 0):=by
  rw [J1 _ _ _ (by rw [Bw,List.length_replicate];omega),Bw,List.take_zero,List.nil_append,Nat.zero_add,List.drop_replicate];unfold iS;rw [List.map_append,List.map_replicate];rfl
 rw [e1,J1 _ _ _ (by rw [Bw,Bw,List.length_append,List.length_replicate];omega),Bw];unfold iS;rw [<-List.map_take,<-List.map_drop,<-List.map_append,<-List.map_append,NB h]
 congr 1
 rw [List.take_append,List.drop_append,List.take_replicate,List.drop_replicate,show min (a - s.length) (max s.length (a+t.length) - s.length)=a - s.length by omega,show max s.length (a+t.length) - s.length - (a+t.length - s.length)=0 by omega,List.replicate_zero,List.append_nil]
section
variable {W w:World}{S G:List Own}{Φ:θ}
theorem a3g{w S}[O Φ]{b o n c cs}{t:cz}(y:Ctx W w (.blk b cs 5 :: S) Φ)(h:t.length<=n)(hc:o+t.length<=cs.length):
  Sem.run prog (builtin Builtin.copy #[162,9] 3 #[false,false] #[.slice (some ⟨b,o,none⟩) n c,.string (bs t)]) w=.ok (.value (.int .i64 t.length)) (w.setCells b o (iS t))/\Ctx W (w.setCells b o (iS t)) (.blk b (gd cs o (iS t)) 5 :: S) Φ:=by
 have hcan:au w b o t.length:=y.can 0 rfl hc;refine ⟨?_,y.pO 0 rfl rfl⟩;refine YY ?_;have:=run_copy_string (P:=prog) w 162 9 3 5 b o n c (bs t) underlying162 (λw=>by kernel_rfl) (by rw [dN];exact h) (λj hj=>(hcan j (by rw [dN] at hj;exact hj)).1) (λj hj=>(hcan j (by rw [dN] at hj;exact hj)).2);rw [dN] at this;exact this
theorem a94[O Φ](y:Ctx W w S Φ){s t:cz}{a}(ha:a+t.length<=16777216)(hs:s.length<=16777216){K}(hk:∀ w',Ctx W w' S Φ->K (.returned (.string (bs (dy s a t)))) w'):Γ F.Pj #[.string (bs s),.int .i64 (a:Int),.string (bs t)] w K:=by
 refine ak (aCn (bs s) (a:Int) (bs t) (J:=K∘.returned) y ?_);refine γ.intro (λh=>λw G y=>?_) (λh=>?_)
 .rw [KQ.1 (aN h),RW] at hk;exact hk w y.left
 have hne:t≠[]:=λe=>by rw [e] at h;exact absurd h (by decide)
 have hlen:0<t.length:=List.length_pos_iff.2 hne;rw [dN,dN,show max (s.length:Int) ((a:Int)+(t.length:Int))=((max s.length (a+t.length):Nat):Int) by omega];generalize hN:max s.length (a+t.length)=N;have VA:a+t.length<=N/\s.length<=N/\N<=16777216:=by omega
 rw [Int.toNat_natCast];refine ⟨by unfold κ;omega,by omega,λk2 w G y=>?_⟩;have y:Ctx W w (.blk k2 (List.replicate N (Value.int .u8 0)) 5 :: (S++G)) Φ:=y;obtain ⟨h1,c1⟩:=a3g (t:=s) (o:=0) (n:=N) (c:=N) y VA.2.1 (by rw [List.length_replicate];omega);refine ⟨_,_,h1,.blk k2 (gd (List.replicate N (Value.int .u8 0)) 0 (iS s)) 5 :: S,Φ,δ,c1,⟨by omega,by omega,by omega⟩,λw G y=>?_⟩;have y:Ctx W w (.blk k2 (gd (List.replicate N (Value.int .u8 0)) 0 (iS s)) 5 :: (S++G)) Φ:=y
 rw [Int.toNat_natCast,aAh _ _ _ _ (by omega),Nat.mul_one];obtain ⟨h2,c2⟩:=a3g (t:=t) (o:=a) (n:=N - a) (c:=N - a) y (by omega) (by rw [J1 _ _ _ (by rw [Bw,List.length_replicate];omega)];simp only [List.length_append,List.length_take,List.length_drop,List.length_replicate,Bw];omega);rw [<-hN,aOb hne] at c2;refine ⟨_,_,h2,.blk k2 (iS (dy s a t)) 5 :: S,Φ,δ,c2,λw G y=>?_⟩;have y:Ctx W w (.blk k2 (iS (dy s a t)) 5 :: (S++G)) Φ:=y
 have hb:Lib.Bytes w k2 0 (bs (dy s a t)):=λi hi=>by
  have:=y.get 0 rfl (b:=k2) (i:=i) (v:=.int .u8 ((dy s a t)[i]'(by rw [dN] at hi;exact hi)).toNat) (by rw [List.getElem?_map,List.getElem?_eq_getElem (by rw [dN] at hi;exact hi)];rfl);rw [Nat.zero_add];exact this
 have hc:=Lib.run_convert_whole (P:=prog) w 162 5 9 underlying162 underlying5 underlying9 k2 0 _ hb N;rw [dN,Xz hne,hN] at hc;exact ⟨_,_,hc,.blk k2 (iS (dy s a t)) 5 :: S,Φ,δ,y,λw G y=>hk w (Ctx.left (Ctx.drop1 (S:=S++G) y))⟩
end
abbrev NY(f n:Int):List Value:=[.int .i64 f,.int .i64 n]
structure BX where
 aJ:Nat
 cY:List (aj Int ko)
 b9:Nat
 sm:Nat
 fh:List (aj (Int × Int) Bool)
 eU:Nat
 eI:Option Addr
 bW:Nat
def ld.mv(q:ld)(u:BX):ld:=⟨q.db,u.aJ,u.cY,u.b9,u.sm,u.fh,u.eU,u.eI,u.bW,q.kp,q.kc⟩
def ld.un(q:ld):BX:=⟨q.aJ,q.cY,q.b9,q.sm,q.fh,q.eU,q.eI,q.bW⟩
theorem aPm(a n):zC a n=(List.range' 0 ((a+n - 1) / 64+1 - a / 64)).map λi=>((a / 64+i:Nat):Int):=by
 unfold zC;rw [List.range_eq_range']
theorem aPf(l p):fI (l++[p])=fI l++[.int .i64 p.1,.int .i64 p.2]:=by
 show List.flatMap _ (l++[p])=_;rw [List.flatMap_append];rfl
section
variable {W w:World}{S G:List Own}{Φ:θ}
theorem aAf{X Y}{F:List Own}(h:X.Sublist Y):(X++F).Sublist (Y++F):=h.append (List.Sublist.refl _)
abbrev lE:θ:=λ_ _=>True
theorem dS[O Φ]{X Y F}(c:Ctx W w (Y++F) Φ)(h:X.Sublist Y):Ctx W w (X++F) lE:=(c.sub (aAf h)).weak λ_ _ _=>trivial
theorem aS4[O Φ]{q d}(hq:cG q d){f a s}(hs:s.length<=9223372036854775807)(y:Ctx W w (ξ q d++S) Φ){K}(hk:∀ u w',cG (q.mv u) (gP d f a s).1->Ctx W w' (ξ (q.mv u) (gP d f a s).1++S) Φ->K (.returned (.int .i64 (gP d f a s).2)) w'):Γ F.Tz #[ε q.db 0,.int .i64 f,.int .i64 a,.string (bs s)] w K:=by
 have hsame:∀ {e:Int} {w':World} {G:List Own},gP d f a s=(d,e)->Ctx W w' ((ξ q d++S)++G) Φ->K (.returned (.int .i64 e)) w':=by
  intro e w' G he y;rw [he] at hk;exact hk q.un w' hq y.left
 refine ak (aCk q.db 0 f a (bs s) (J:=K∘.returned) y λw G y=>Wv (S:=S++G) (y.re (μ _ _ _)) λw y=>⟨_,rfl,ξ q d++S,Φ,δ,y.re (μ _ _ _).symm,γ.intro (λh=>λw G y=>?_) (λh=>γ.intro (λh2=>λw G y=>?_) (λh2=>λw G y=>?_))⟩)
 .exact hsame (by unfold gP;rw [if_pos (aN h)]) y
 .exact hsame (by unfold gP;rw [if_neg (Λ h),if_pos (aN h2)]) y
 have h:=Λ h;have h2:=Λ h2;obtain ⟨a,rfl⟩:∃ n:Nat,a=n:=⟨a.toNat,by omega⟩;rw [dN];refine ⟨λh3=>(λ(h3:¬ (16777216:Int)<(a:Int))=>by unfold κ;omega) (by simpa using h3),γ.intro (λh3=>λw G y=>?_) (λh3=>γ.intro (λh4=>λw G y=>?_) (λh4=>λw G y=>?_))⟩
 .have h3:(16777216:Int)<(a:Int)\/16777216 - (a:Int)<(s.length:Int):=by simpa using h3
  exact hsame (by unfold gP;rw [if_neg h,if_neg h2,if_pos h3]) y
 all_goals have h3:¬ ((16777216:Int)<(a:Int)\/16777216 - (a:Int)<(s.length:Int)):=by simpa using h3
 .exact hsame (by unfold gP;rw [if_neg h,if_neg h2,if_neg h3,if_pos (KQ.1 (aN h4))]) y
 have h4:s≠[]:=λe=>Λ h4 (by rw [e];rfl);have hpos:0<s.length:=List.length_pos_iff.2 h4;have hlen:a+s.length<=16777216:=by omega
 have hfl:0<=f/\f<16:=by
  have h':j4 d f=0:=by omega
  unfold j4 at h';split at h'
  .cases h'
  .split at h'
   .cases h'
   .omega
 have hd1:gP d f a s=({ d.set f ⟨dy (d.files f).now a s,(d.files f).last⟩ with queue:=vf f (zC a s.length) d.queue },0):=by
  unfold gP;rw [if_neg h,if_neg h2,if_neg h3,if_neg h4];rfl
 rw [hd1] at hk;generalize hD:d.set f ⟨dy (d.files f).now a s,(d.files f).last⟩=d1 at hk;refine ⟨some q.aJ,qX y.left rfl,λw G y=>⟨bs (d.files f).now,bs (d.files f).last,λw2 dw=>?_,λb w G y=>?_⟩⟩
 .have hr:=NP (P:=prog) A3 (w:=w2) (by rw [dw];exact Ki y.left) f;rw [hq.uc f] at hr;exact hr
 refine a94 (S:=(ξ q d++S)++G) y hlen (hq.size f).1 λw y=>⟨_,rfl,ξ q d++S,Φ,δ,y,λw G y=>⟨some q.aJ,qX y.left rfl,λw G y=>?_⟩⟩;obtain ⟨ah,hU,hr,k8,hg1⟩:=Ya (P:=prog) A3 hq.yX (Ki y.left) f ⟨dy (d.files f).now a s,(d.files f).last⟩;have y:Ctx W w (.blk q.db (dH q d) 89 :: .obj q.aJ (aZ (Value.int .i64) cP q.cY q.b9) :: .obj q.sm (aZ e6 Value.bool q.fh q.eU) :: .buf q.eI d.queue.length q.bW (fI d.queue) 122 2 :: (S++G)) Φ:=y
 have c1:=y.putObj 1 (aZ (Value.int .i64) cP ah hU) rfl;have hq1:cG (q.mv ⟨q.aJ,ah,hU,q.sm,q.fh,q.eU,q.eI,q.bW⟩) d1:=by
  subst hD;refine ⟨k8,hq.BA,λk=>?_,hq.zE,hq.nodup,hq.range,λk=>?_,hq.lost,hq.eP⟩
  .have:=hg1 k;rw [hq.uc k] at this;exact this
  .show (if k=f then _ else d.files k).now.length<=_/\(if k=f then _ else d.files k).last.length<=_;have h1:=hq.size f;by_cases e:k=f
   .rw [if_pos e,Xz h4];exact ⟨by omega,h1.2⟩
   .rw [if_neg e];exact hq.size k
 have Hs:d.queue=d1.queue:=by rw [<-hD];rfl
 have hkp:d.keep.length=d1.keep.length:=by rw [<-hD];rfl
 have bI:dH q d=dH (q.mv ⟨q.aJ,ah,hU,q.sm,q.fh,q.eU,q.eI,q.bW⟩) d1:=by rw [<-hD];rfl
 rw [bI,Hs] at c1;refine ⟨_,hr,ξ (q.mv ⟨q.aJ,ah,hU,q.sm,q.fh,q.eU,q.eI,q.bW⟩) d1++S,Φ,δ,c1,by decide,?_,?_⟩
 .unfold κ;rw [Int.tdiv_eq_ediv_of_nonneg (by omega)];omega
 rw [Hs] at hk;clear y c1 bI hr hg1 k8;generalize hm:(a+s.length - 1) / 64+1 - a / 64=m;have hm2:a / 64+m=(a+s.length - 1) / 64+1/\(a+s.length - 1) / 64<262144:=by omega
 refine ⟨λn R' η k=>∃ (i:Nat) (u:BX) (c7:List (Int × Int)),n=((a / 64+i:Nat):Int)/\i+k=m/\R'=ξ (q.mv u) { d1 with queue:=c7 }++S/\η=Φ/\cG (q.mv u) { d1 with queue:=c7 }/\vf f ((List.range' i k).map λi=>((a / 64+i:Nat):Int)) c7=vf f (zC a s.length) d1.queue,⟨_,Φ,m,δ,λw G y=>y,0,_,d1.queue,by rw [Int.tdiv_eq_ediv_of_nonneg (by omega)];omega,by omega,rfl,rfl,hq1,by rw [aPm,hm]⟩,?_⟩;rintro n R' Φ k st ⟨i,u,c7,rfl,hik,rfl,rfl,cX,VH⟩
 have hbd:((a:Int)+(s.length:Int) - 1).tdiv 64=(((a+s.length - 1) / 64:Nat):Int):=by rw [Int.tdiv_eq_ediv_of_nonneg (by omega)];omega
 rw [hbd];refine ⟨by unfold κ;omega,by unfold κ;omega,by decide,by unfold κ;omega,γ.intro (λhlt=>?_) (λhge=>λw G y=>?_)⟩
 .have hlt:=aN hlt;obtain ⟨k,rfl⟩:∃ k',k=k'+1:=⟨k - 1,by omega⟩;intro b w G y;have c1:∀ w',w'=w.setCells b 0 [.int .i64 f,.int .i64 ((a / 64+i:Nat):Int)]->Ctx W w' (.blk b [.int .i64 f,.int .i64 ((a / 64+i:Nat):Int)] 122 :: (ξ (q.mv u) { d1 with queue:=c7 }++S)++G) Φ:=λw' hw'=>y.pO 0 hw' rfl;refine ⟨y.can 0 rfl (by decide),λw' hw'=>⟨_,Φ,δ,c1 w' hw',λw G y=>⟨some u.sm,qX (q:=q.mv u) (d:={ d1 with queue:=c7 }) y.drop1.left rfl,f,((a / 64+i:Nat):Int),y.oW 0 rfl,decide ((f,((a / 64+i:Nat):Int))∈c7),λw2 dw=>?_,γ.intro (λhin=>?_) (λhin=>?_)⟩⟩⟩
  .have hr:=NP (P:=prog) Rt (w:=w2) (by rw [dw];exact aHi (q:=q.mv u) (d:={ d1 with queue:=c7 }) y.drop1.left) (f,((a / 64+i:Nat):Int));rw [cX.zE] at hr;exact hr
  .have hin:(f,((a / 64+i:Nat):Int)) ∉ c7:=by simpa using hin
   have aJy:vf f ((List.range' (i+1) k).map λi=>((a / 64+i:Nat):Int)) (c7++[(f,((a / 64+i:Nat):Int))])=vf f (zC a s.length) d1.queue:=by
    rw [<-VH,List.range'_succ,List.map_cons];show _=vf f _ (if _ then _ else _);rw [if_neg hin]
   generalize hn:((a / 64+i:Nat):Int)=n at *;refine ⟨[.blk b [.int .i64 f,.int .i64 n] 122],lE,δ,λw G y=>dS y (.cons_cons _ (List.nil_sublist _)),[.blk b [.int .i64 f,.int .i64 n] 122,.blk q.db (dH (q.mv u) { d1 with queue:=c7 }) 89],lE,δ,λw G y=>dS y (.cons_cons _ (.cons_cons _ (List.nil_sublist _))),
    f,n,λw G y=>⟨f,n,y.oW 0 rfl,rfl⟩,f,n,λw G y=>⟨f,n,y.oW 0 rfl,rfl⟩,some u.sm,λw G y=>⟨some u.sm,y.get 1 rfl rfl,rfl⟩,u.eI,c7.length,u.bW,λw G y=>⟨_,_,_,y.get 1 rfl rfl,rfl⟩,λg=>⟨λw G y=>dS y (.cons _ (.cons_cons _ (List.nil_sublist _))),λw G y=>dS y (.cons _ (.cons_cons _ (.cons_cons _ (List.nil_sublist _)))),λw G y=>?_⟩⟩
   have y:Ctx W w ([.blk g [.int .i64 f,.int .i64 n] 122,.blk b [.int .i64 f,.int .i64 n] 122,.blk q.db (dH (q.mv u) { d1 with queue:=c7 }) 89,.obj u.aJ (aZ (Value.int .i64) cP u.cY u.b9),.obj u.sm (aZ e6 Value.bool u.fh u.eU)]++.buf u.eI c7.length u.bW (fI c7) 122 2 :: (S++G)) Φ:=y;have y:=y.perm (List.Perm.cons _ (List.perm_middle (l₁:=[Own.blk b [.int .i64 f,.int .i64 n] 122,.blk q.db (dH (q.mv u) { d1 with queue:=c7 }) 89,.obj u.aJ (aZ (Value.int .i64) cP u.cY u.b9),.obj u.sm (aZ e6 Value.bool u.fh u.eU)])))
   obtain ⟨p',cap',w',hr,_,c2⟩:=y.yM (ts:=87) (ty:=87) (kb:=#[false,false]) (bytes:=16) (by kernel_rfl) (by decide) rfl rfl (by have:=cX.ND;show c7.length<_;exact Nat.lt_of_le_of_lt this (by decide)) (by decide);refine ⟨p',c7.length+1,cap',w',hr,.buf p' (c7.length+1) cap' (fI c7++NY f n) 122 2 :: .blk b [.int .i64 f,.int .i64 n] 122 :: .blk q.db (dH (q.mv u) { d1 with queue:=c7 }) 89 :: .obj u.aJ (aZ (Value.int .i64) cP u.cY u.b9) :: .obj u.sm (aZ e6 Value.bool u.fh u.eU) :: S,Φ,δ,c2,λw G y=>dS y (.cons _ (.cons_cons _ (List.nil_sublist _))),λw G y=>dS y (.cons _ (.cons_cons _ (.cons_cons _ (List.nil_sublist _)))),λw G y=>⟨y.can 2 rfl (by show 0+1+1<=7;omega),λw' hw'=>?_⟩⟩
   have c3:=y.put 2 hw' rfl;refine ⟨.buf p' (c7.length+1) cap' (fI c7++NY f n) 122 2 :: .blk b [.int .i64 f,.int .i64 n] 122 :: .blk q.db ((dH (q.mv u) { d1 with queue:=c7 }).set 1 (.slice p' (c7.length+1) cap')) 89 :: .obj u.aJ (aZ (Value.int .i64) cP u.cY u.b9) :: .obj u.sm (aZ e6 Value.bool u.fh u.eU) :: S,Φ,δ,c3,λw G y=>dS y (.cons _ (.cons_cons _ (List.nil_sublist _))),trivial,λw G y=>?_⟩;obtain ⟨ah,hU,aAJ,gx,k8,hg1,hx1⟩:=aPV (P:=prog) Rt cX.BA (y.own (.obj u.sm (aZ e6 Value.bool u.fh u.eU)) (by simp)) (f,n)
   have c4:=y.putObj 4 (aZ e6 Value.bool ah hU) rfl;refine ⟨_,_,_,gx,.buf p' (c7.length+1) cap' (fI c7++NY f n) 122 2 :: .blk b [.int .i64 f,.int .i64 n] 122 :: .blk q.db ((dH (q.mv u) { d1 with queue:=c7 }).set 1 (.slice p' (c7.length+1) cap')) 89 :: .obj u.aJ (aZ (Value.int .i64) cP u.cY u.b9) :: .obj u.sm (aZ e6 Value.bool ah hU) :: S,Φ,δ,c4,λw G y=>dS y (.cons _ (.cons_cons _ (List.nil_sublist _))),trivial,λw G y=>?_⟩
   obtain ⟨jW,uk,FU,qg⟩:=aPX (P:=prog) (z:=false) 86 k8 hx1 (y.own (.obj u.sm (aZ e6 Value.bool ah hU)) (by simp)) true;have c5:=y.putObj 4 (aZ e6 Value.bool jW hU) rfl;refine ⟨_,uk,.buf p' (c7.length+1) cap' (fI c7++NY f n) 122 2 :: .blk b [.int .i64 f,.int .i64 n] 122 :: .blk q.db ((dH (q.mv u) { d1 with queue:=c7 }).set 1 (.slice p' (c7.length+1) cap')) 89 :: .obj u.aJ (aZ (Value.int .i64) cP u.cY u.b9) :: .obj u.sm (aZ e6 Value.bool jW hU) :: S,Φ,δ,c5,λw G y=>dS y (.cons _ (.cons_cons _ (List.nil_sublist _))),trivial,by unfold κ;omega,ξ (q.mv { u with eI:=p',bW:=cap',fh:=jW,eU:=hU }) { d1 with queue:=c7++[(f,n)] }++S,Φ,k,δ,λw G y=>?_,⟨i+1,_,_,by omega,by omega,rfl,rfl,⟨cX.yX,FU,cX.uc,λp=>?_,?_,λp hp=>?_,cX.size,cX.lost,cX.eP⟩,aJy⟩,Nat.lt_succ_self _⟩
   .have rO:Ctx W w (.buf p' (c7.length+1) cap' (fI c7++NY f n) 122 2 :: ([.blk q.db ((dH (q.mv u) { d1 with queue:=c7 }).set 1 (.slice p' (c7.length+1) cap')) 89,.obj u.aJ (aZ (Value.int .i64) cP u.cY u.b9),.obj u.sm (aZ e6 Value.bool jW hU)]++(S++G))) Φ:=y.sub (.cons_cons _ (.cons _ (List.Sublist.refl _)));have vi:=rO.perm List.perm_middle.symm;show Ctx W w (.blk q.db _ 89 :: .obj u.aJ _ :: .obj u.sm _ :: .buf p' (c7++[(f,n)]).length cap' (fI (c7++[(f,n)])) 122 2 :: (S++G)) Φ
    rw [aPf,List.length_append];have bL:dH (q.mv { u with eI:=p',bW:=cap',fh:=jW,eU:=hU }) { d1 with queue:=c7++[(f,n)] }=(dH (q.mv u) { d1 with queue:=c7 }).set 1 (.slice p' (c7.length+1) cap'):=by
     show [_,Value.slice p' (c7++[(f,n)]).length cap',_,_,_,_,_]=_;rw [List.length_append];rfl
    rw [bL];exact vi
   .show dO false jW p=decide (p∈c7++[(f,n)]);rw [qg p,hg1 p];have:=cX.zE p;by_cases e:p=(f,n)
    .rw [if_pos e,e];simp
    .rw [if_neg e];refine this.trans (decide_eq_decide.2 ?_);simp [e]
   .show (c7++[(f,n)]).Nodup;refine List.nodup_append.2 ⟨cX.nodup,by simp,λx hx U hy e=>?_⟩;rw [List.mem_singleton.1 hy] at e;exact hin (by rw [<-e];exact hx)
   .rcases List.mem_append.1 hp with hp|hp
    .exact cX.range p hp
    .rw [List.mem_singleton.1 hp];exact ⟨hfl,by show 0<=n;omega,by show n<262145;omega⟩
  .have hin:(f,((a / 64+i:Nat):Int))∈c7:=by simpa using hin
   refine ⟨by unfold κ;omega,ξ (q.mv u) { d1 with queue:=c7 }++S,Φ,k,δ,λw G y=>y.drop1,⟨i+1,u,c7,by omega,by omega,rfl,rfl,cX,?_⟩,Nat.lt_succ_self _⟩;rw [<-VH,List.range'_succ,List.map_cons];show _=vf f _ (if _ then _ else _);rw [if_pos hin]
 .have hge:=Λ hge;have e9:k=0:=by omega
  subst e9;have:vf f (zC a s.length) d1.queue=c7:=VH.symm;rw [this] at hk;exact hk u w cX y.left
end
abbrev gr(p:Option Addr)(cap:Nat)(l:List (Int × Int)):Own:=.buf p l.length cap (fI l) 122 2
theorem aA3:∀ (l:List (Int × Int)) (k:Nat),(fI l).take (k*2)=fI (l.take k)
 | l,0=>by simp
 | [],k+1=>by simp
 | x :: l,k+1=>by
  rw [show (k+1)*2=k*2+1+1 by omega,List.take_succ_cons];show (Value.int .i64 x.1 :: .int .i64 x.2 :: fI l).take (k*2+1+1)=.int .i64 x.1 :: .int .i64 x.2 :: fI (l.take k);rw [List.take_succ_cons,List.take_succ_cons,aA3 l k]
theorem aPg{l i}(h:i<l.length)(x):gd (fI l) (i*2) [.int .i64 x.1,.int .i64 x.2]=fI (l.set i x):=by
 induction l generalizing i with
 | nil=>simp at h
 | cons U l ih =>
  cases i with
  | zero=>rfl
  | succ i =>
   have:=ih (i:=i) (by simpa using h);rw [List.set_cons_succ];show gd (Value.int .i64 U.1 :: .int .i64 U.2 :: fI l) ((i+1)*2) [.int .i64 x.1,.int .i64 x.2]=Value.int .i64 U.1 :: .int .i64 U.2 :: fI (l.set i x);rw [<-this];apply List.ext_getElem?;intro k;have hlen:(fI l).length=l.length*2:=DA l;have hi:i<l.length:=by simpa using h
   generalize fI l=cs at hlen this;by_cases hk:k<2
   .rw [B6 _ _ _ _ (by omega)]
    match k,hk with
    | 0,_=>rfl
    | 1,_=>rfl
   .obtain ⟨m,rfl⟩:∃ m,k=m+2:=⟨k - 2,by omega⟩;simp only [List.getElem?_cons_succ];by_cases h1:m<i*2\/i*2+2<=m
    .rw [B6 _ _ _ _ (by simp;omega),B6 _ _ _ _ (by simp;omega)];simp only [List.getElem?_cons_succ]
    .obtain ⟨q,rfl⟩:∃ q,m=i*2+q:=⟨m - i*2,by omega⟩;rw [Nb _ _ _ _ (by simp;omega) (by simp;omega),show i*2+q+2=(i+1)*2+q by omega,Nb _ _ _ _ (by simp;omega) (by simp;omega)]
theorem a97{W w S}{Φ:θ}{p cap l}(y:Ctx W w (gr p cap l :: S) Φ)(h:0<l.length):∃ g,p=some ⟨g,0,none⟩:=by
 obtain ⟨g,hg,_⟩:=y.uR 0 rfl (by rw [DA];omega);exact ⟨g,hg⟩
theorem a98{W w S}{Φ:θ}{g cap l}(y:Ctx W w (gr (some ⟨g,0,none⟩) cap l :: S) Φ){i X}(hX:l[i]? = some X):bS w g (i*2) [.int .i64 X.1,.int .i64 X.2]:=by
 obtain ⟨hi,rfl⟩:=List.getElem?_eq_some_iff.1 hX;exact y.Tg 0 rfl rfl (D9 (Rs hi))
theorem aOk{W w S}{Φ:θ}{g cap l}(y:Ctx W w (gr (some ⟨g,0,none⟩) cap l :: S) Φ){i}(hi:i<l.length):au w g (i*2) 2 :=
 y.Tf 0 rfl rfl (by rw [DA];omega)
theorem aOl{W w w' S}{Φ:θ}[O Φ]{g cap l}(y:Ctx W w (gr (some ⟨g,0,none⟩) cap l :: S) Φ){i}(hi:i<l.length)(x)(e:w'=w.setCells g (i*2) [.int .i64 x.1,.int .i64 x.2]):
  Ctx W w' (gr (some ⟨g,0,none⟩) cap (l.set i x) :: S) Φ:=by
 have h:=y.PO 0 rfl rfl (by rw [DA];omega) (by rw [DA];simp only [List.length_cons,List.length_nil];omega) e;rw [aPg hi] at h;have hl:(l.set i x).length=l.length:=by simp
 show Ctx W w' (.buf (some ⟨g,0,none⟩) (l.set i x).length cap (fI (l.set i x)) 122 2 :: S) Φ;rw [hl];exact h
def Py(f:Int × Int->Bool)(l:List (Int × Int)):Int:=if l.findIdx f<l.length then (l.findIdx f:Int) else -1
structure Je(Z:List Own)(Φ:θ)(df:FuncId)(p6:Array Value)(f:Int × Int->Bool):Prop where
 ok:nx prog df=true
 go:∀ (x:Int × Int) {W w:World} {S:List Own},Ctx W w (Z++S) Φ->∀ {K:Dn},(∀ w',Ctx W w' (Z++S) Φ->K (.returned (.bool (f x))) w')->Calls prog df (Array.mk (e6 x :: p6.toList)) w K
theorem YB{W w}{Φ:θ}{o Z S G}(y:Ctx W w ((o :: (Z++S))++G) Φ):Ctx W w (o :: (Z++(S++G))) Φ:=by
 rw [<-μ];exact y
theorem RZ{W w}{Φ:θ}{o Z S G}(y:Ctx W w (o :: (Z++(S++G))) Φ):Ctx W w ((o :: (Z++S))++G) Φ:=by
 rw [<-μ] at y;exact y
theorem Je.use{Z}{Φ:θ}[O Φ]{df p6 f}(h:Je Z Φ df p6 f)(x){W w S G o}(y:Ctx W w ((o :: (Z++S))++G) Φ){K}(hk:∀ w',Ctx W w' ((o :: (Z++S))++G) Φ->K (.returned (.bool (f x))) w'):Calls prog df (Array.mk (e6 x :: p6.toList)) w K :=
 h.go x (S:=o :: (S++G)) ((YB y).perm (List.perm_middle (l₁:=Z) (l₂:=S++G)).symm) λw' y=>hk w' (RZ (y.perm List.perm_middle))
theorem aF0{W w S}{Φ:θ}[O Φ]{df p6 f Z}(hf:Je Z Φ df p6 f){p cap}(es)(hl:es.length<=100000000)(y:Ctx W w (gr p cap es :: (Z++S)) Φ){K}(hK:∀ w',Ctx W w' (gr p cap es :: (Z++S)) Φ->K (.returned (.int .i64 (Py f es))) w'):
  Γ F.Z2 #[.slice p es.length cap,.func (.func df) #[] p6] w K:=by
 refine ak (aEJ p es.length cap df p6 (J:=K∘.returned) y ?_);have hp:0<es.length->∃ g,p=some ⟨g,0,none⟩:=λh=>a97 y h;refine fD (λmH R' η n=>∃ i:Nat,mH=i/\i<=es.length/\(∀ q (h:q<es.length),q<i->f es[q]=false)/\R'=gr p cap es :: (Z++S)/\η=Φ/\n=es.length - i) ⟨⟨_,Φ,_,δ,λw G y=>y,0,rfl,Nat.zero_le _,λq h h2=>by omega,rfl,rfl,rfl⟩,?_⟩;clear y;rintro mH aW ψ n _ ⟨i,rfl,hi,h1,rfl,rfl,rfl⟩;refine γ.intro (λhlt=>?_) (λhge=>λw G y=>?_)
 .have hlt:i<es.length:=by have:=aN hlt;omega
  obtain ⟨g,hg⟩:=hp (by omega);subst hg;refine ⟨⟨by omega,by omega⟩,eu g 0 rfl λw G y=>⟨es[i].1,es[i].2,by rw [Nat.zero_add,Int.toNat_natCast];exact a98 y (List.getElem?_eq_getElem hlt),λw G y=>⟨hf.ok,hf.use es[i] y λw y=>⟨_,rfl,gr (some ⟨g,0,none⟩) cap es :: (Z++S),ψ,δ,y,γ.intro (λhc=>λw G y=>?_) (λhc=>?_)⟩⟩⟩⟩
  .have e:es.findIdx f=i:=List.findIdx_eq hlt |>.2 ⟨hc,λq hq=>by rw [h1 q (by omega) hq]⟩;have:=hK w y.left;unfold Py at this;rw [e,if_pos hlt] at this;exact this
  .exact ⟨by unfold κ;omega,_,ψ,es.length - (i+1),δ,λw G y=>y,⟨i+1,by omega,by omega,λq h hq=>by
    by_cases e:q=i
    .subst e;exact hc
    .exact h1 q h (by omega),rfl,rfl,rfl⟩,by omega⟩
 .have hge:es.length<=i:=by have:=Λ hge;omega
  have e:¬ es.findIdx f<es.length:=λh=>by
   have h2:=List.findIdx_getElem (w:=h);rw [h1 _ h (by omega)] at h2;cases h2
  have:=hK w y.left;unfold Py at this;rw [if_neg e] at this;exact this
set_option maxHeartbeats 2000000 in
theorem aEk{W w S}{Φ:θ}[O Φ]{df p6 f Z}(hdf:Je Z Φ df p6 f){p cap}(es)(hl:es.length<=100000000)(y:Ctx W w (gr p cap es :: (Z++S)) Φ){K}(hK:∀ w',Ctx W w' (gr p cap (es.filter λx => !f x) :: (Z++S)) Φ->K (.returned (.slice p (es.filter λx => !f x).length cap)) w'):
  Γ F.Yz #[.slice p es.length cap,.func (.func df) #[] p6] w K:=by
 refine ak (aEG p es.length cap df p6 (J:=K∘.returned) y ?_);have hp:0<es.length->∃ g,p=some ⟨g,0,none⟩:=λh=>a97 y h;obtain ⟨_,hnc,hcm⟩:=y.uS 0 rfl;clear y;refine λw G y=>aF0 hdf es hl (S:=S++G) (YB y) λw y=>⟨_,rfl,gr p cap es :: (Z++S),Φ,δ,RZ y,?_⟩;clear y;unfold Py;by_cases hf:es.findIdx f<es.length
 case neg =>
  rw [if_neg hf];refine γ.intro (λ_=>λw G y=>?_) (λh=>absurd rfl (Λ h));have e:es.filter (λx => !f x)=es:=List.filter_eq_self.2 λx hx=>by
   cases h:f x with
   | false=>rfl
   | true=>exact absurd (List.findIdx_lt_length.2 ⟨x,hx,h⟩) hf
  rw [e] at hK;exact hK w y.left
 rw [if_pos hf];obtain ⟨g,hg⟩:=hp (by omega);subst hg;obtain ⟨i0,hi0⟩:∃ i0,es.findIdx f=i0:=⟨_,rfl⟩;have hg0:f (es[i0]'(by omega))=true:=by
  have:=List.findIdx_getElem (w:=hf);simp only [hi0] at this;exact this
 have hb0:∀ q (h:q<es.length),q<i0->f es[q]=false:=λq h hq=>by
  have:=List.not_of_lt_findIdx (p:=f) (xs:=es) (i:=q) (by omega);simpa using this
 rw [hi0] at hf ⊢;have hstart:es.take i0=(es.take (i0+1)).filter λx => !f x:=by
  rw [List.take_succ_eq_append_getElem hf,List.filter_append,List.filter_cons_of_neg (by rw [hg0];simp),List.filter_nil,List.append_nil];refine (List.filter_eq_self.2 λx hx=>?_).symm;obtain ⟨q,hq,rfl⟩:=List.getElem_of_mem hx;rw [List.length_take] at hq;rw [List.getElem_take,hb0 q (by omega) (by omega)];rfl
 refine γ.intro (λh=>absurd (aN h) (by omega)) (λ_=>⟨by unfold κ;omega,?_⟩);refine fD (λa2H a2j R' η n=>∃ (i j:Nat) (cur:List (Int × Int)),a2H=i/\a2j=j/\i<j/\j<=es.length/\cur.length=es.length/\cur.take i=(es.take j).filter (λx => !f x)/\cur.drop j=es.drop j/\R'=gr (some ⟨g,0,none⟩) cap cur :: (Z++S)/\η=Φ/\n=es.length - j)
  ⟨⟨_,Φ,_,δ,λw G y=>y,i0,i0+1,es,rfl,by omega,by omega,hf,rfl,hstart,rfl,rfl,rfl,rfl⟩,?_⟩
 rintro a2H a2j aW ψ n _ ⟨i,j,cur,rfl,rfl,hij,hj,cW,htk,Ey,rfl,rfl,rfl⟩;refine γ.intro (λhlt=>?_) (λhge=>?_)
 .have hlt:j<es.length:=by have:=aN hlt;omega
  have HZ:cur[j]'(by omega)=es[j]:=by
   have h:=congrArg (λl=>l[0]?) Ey;simp only [List.getElem?_drop,Nat.add_zero] at h;rw [List.getElem?_eq_getElem (by omega),List.getElem?_eq_getElem hlt] at h;exact Option.some.inj h
  have yg:es.take (j+1)=es.take j++[es[j]]:=List.take_succ_eq_append_getElem hlt;have a5H:cur.drop (j+1)=es.drop (j+1):=by rw [<-List.drop_drop,<-List.drop_drop,Ey]
  refine ⟨⟨by omega,by omega⟩,eu g 0 rfl λw G y=>⟨(cur[j]'(by omega)).1,(cur[j]'(by omega)).2,by rw [Nat.zero_add,Int.toNat_natCast];exact a98 y (List.getElem?_eq_getElem (by omega)),λb w G y=>⟨hdf.ok,hdf.use (cur[j]'(by omega)) y λw y=>⟨_,rfl,gr (some ⟨g,0,none⟩) cap cur :: (Z++S),ψ,δ,y,γ.intro (λhc=>?_) (λhc=>?_)⟩⟩⟩⟩
  .have hk:f es[j]=false:=by rw [HZ] at hc;simpa using hc
   refine ⟨⟨by omega,by omega⟩,eu g 0 rfl λw G y=>⟨by rw [Nat.zero_add,Int.toNat_natCast];exact aOk y (i:=i) (by omega),λw' hw'=>?_⟩⟩;rw [Nat.zero_add,Int.toNat_natCast] at hw';have ep:=aOl y (i:=i) (by omega) (cur[j]'(by omega)) hw';refine ⟨gr (some ⟨g,0,none⟩) cap (cur.set i (cur[j]'(by omega))) :: (Z++S),ψ,δ,ep,by unfold κ;omega,by unfold κ;omega,_,ψ,es.length - (j+1),δ,λw G y=>y,⟨i+1,j+1,cur.set i (cur[j]'(by omega)),by omega,by omega,by omega,by omega,by rw [List.length_set];exact cW,?_,?_,rfl,rfl,rfl⟩,by omega⟩
   .rw [List.take_succ_eq_append_getElem (by rw [List.length_set];omega),List.take_set_of_le (Nat.le_refl _),List.getElem_set_self,htk,yg,List.filter_append,List.filter_cons_of_pos (by rw [hk];rfl),List.filter_nil,HZ]
   .rw [List.drop_set_of_lt (by omega)];exact a5H
  .have hk:f es[j]=true:=by rw [HZ] at hc;simpa using hc
   refine ⟨by unfold κ;omega,_,ψ,es.length - (j+1),δ,λw G y=>y,⟨i,j+1,cur,rfl,by omega,by omega,by omega,cW,?_,a5H,rfl,rfl,rfl⟩,by omega⟩;rw [yg,List.filter_append,List.filter_cons_of_neg (by rw [hk];simp),List.filter_nil,List.append_nil,htk]
 .have hge:j=es.length:=by have:=Λ hge;omega
  subst hge;rw [List.take_length] at htk;have rZ:(es.filter λx => !f x).length=i:=by rw [<-htk,List.length_take];omega
  refine ⟨⟨by omega,by omega,hnc⟩,λw G y=>?_⟩;have bO:Ctx W w (gr (some ⟨g,0,none⟩) cap cur :: ((Z++S)++G)) ψ:=y;obtain ⟨w',hr,ep⟩:=bO.aHI rfl (ts:=87) (ty:=0) (kb:=#[false]) (k:=i) (bytes:=16) (by kernel_rfl) (by kernel_rfl) (by omega) (by omega);rw [cW] at hr;rw [aA3,htk] at ep;refine ⟨w',by rw [Int.toNat_natCast];exact hr,gr (some ⟨g,0,none⟩) cap (es.filter λx => !f x) :: (Z++S),ψ,δ,by show Ctx W w' (.buf _ (es.filter _).length cap (fI _) 122 2 :: _) _;rw [rZ];exact ep,⟨by omega,by omega⟩,λw G y=>?_⟩
  have:=hK w y.left;rw [rZ] at this;rw [ZF,Int.toNat_natCast];exact this
theorem aPu{Φ:θ}[O Φ]{kb f}:Je [.blk kb [.int .i64 f] 3] Φ F.a3q #[ε kb 0] (λp=>decide (p.1=f)):=⟨by kernel_rfl,λx W w S y K hk=>by
 refine ak (aCh x.1 x.2 kb 0 (J:=K∘.returned) y ?_);exact λb w G y=>⟨f,y.get 0 rfl rfl,λw G y=>hk w y.left⟩⟩
structure a0t(Z:List Own)(Φ:θ)(df:FuncId)(p6:Array Value)(f:Int × Int->Bool):Prop where
 ok:nx prog df=true
 go:∀ (x:Int × Int) (b:Bool) {W w:World} {S:List Own},Ctx W w (Z++S) Φ->∀ {K:Dn},(∀ w',Ctx W w' (Z++S) Φ->K (.returned (.bool (f x))) w')->Calls prog df (Array.mk (e6 x :: .bool b :: p6.toList)) w K
theorem aPv{Φ:θ}[O Φ]{kb f}:a0t [.blk kb [.int .i64 f] 3] Φ F.a3r #[ε kb 0] (λp=>decide (p.1=f)):=⟨by kernel_rfl,λx b W w S y K hk=>by
 refine ak (aCi x.1 x.2 b kb 0 (J:=K∘.returned) y ?_);exact λb w G y=>⟨f,y.get 0 rfl rfl,λw G y=>hk w y.left⟩⟩
theorem Ib(A Z S G:List Own):(A++(Z++(S++G))).Perm (Z++(A++(S++G))):=by
 rw [<-μ A,<-μ Z];exact List.perm_append_comm.append_right _
abbrev lX(b:Nat)(es:List (aj (Int × Int) Bool))(cm:Nat):Own:=.obj b (aZ e6 Value.bool es cm)
theorem aF9{W w Z S}{Φ:θ}[O Φ]{df p6 f}(hdf:a0t Z Φ df p6 f){b es cm}(ok:om es cm)(y:Ctx W w (lX b es cm :: (Z++S)) Φ){K}(hK:∀ ah w',om ah cm->(∀ U,dO false ah U=if f U=true then false else dO false es U)->Ctx W w' (lX b ah cm :: (Z++S)) Φ->K (.returned (.tuple #[])) w'):
  Γ F.Wu #[.map (some b),.func (.func df) #[] p6] w K:=by
 refine ak (aDd (some b) df p6 (J:=K∘.returned) y ?_);intro w G y;have hb:=y.own (lX b es cm) (by simp);refine ⟨_,_,run_range_map (P:=prog) w 86 122 4 b _ cm Rt.map hb,.obj w.heap.size (.mapIter (some b) cm #[] cm) :: lX b es cm :: (Z++S),Φ,δ,y.newObj rfl,?_⟩;clear hb y;generalize w.heap.size=r;refine fD (λR' η k=>∃ (seen:Array Nat) (ah:List (aj (Int × Int) Bool)),R'=.obj r (.mapIter (some b) cm seen cm) :: lX b ah cm :: (Z++S)/\η=Φ/\k=Ai seen.toList ah/\om ah cm/\(∀ e∈ah,e.born∈seen.toList->f e.key=false)/\(∀ U,f U=false->dO false ah U=dO false es U))
  ⟨⟨_,Φ,_,δ,λw G y=>y,#[],es,rfl,rfl,rfl,ok,λe he hs=>by simp at hs,λU _=>rfl⟩,?_⟩
 rintro aW Φ n _ ⟨seen,ah,rfl,rfl,rfl,k8,Vy,rY⟩;intro w G y;have hr:=y.own (.obj r (.mapIter (some b) cm seen cm)) (by simp);have hb:=y.own (lX b ah cm) (by simp);rcases a7O (P:=prog) 0 hr hb k8.lt (Nat.le_refl _) with ⟨hall,hrun⟩|⟨a,ha,ye,w1,hw1,hrun⟩
 .refine .inl ⟨w,hrun,.obj r (.mapIter (some b) cm seen cm) :: lX b ah cm :: (Z++S),Φ,δ,y,λw G y=>?_⟩;refine hK ah w k8 (λU=>?_) (Ctx.left (Ctx.drop1 y));cases hy:f U with
  | false=>rw [if_neg (by simp)];exact rY U hy
  | true =>
   rw [if_pos rfl];exact C7 λe he e2=>by
    have:=Vy e he (hall e he);rw [e2,hy] at this;cases this
 .have c1:Ctx W w1 ((.obj r (.mapIter (some b) cm seen cm) :: lX b ah cm :: (Z++S))++G) Φ:=by
   rcases hw1 with rfl|rfl
   .exact y
   .exact y.draw 1
  have c2:=c1.putObj 0 (.mapIter (some b) cm (seen.push a.born) cm) rfl;refine .inr ⟨_,_,_,hrun,.obj r (.mapIter (some b) cm (seen.push a.born) cm) :: lX b ah cm :: (Z++S),Φ,δ,c2,λw G y=>?_⟩;refine ⟨a.key.1,a.key.2,a.val,w,a4C k8 (y.own (.obj r (.mapIter (some b) cm (seen.push a.born) cm)) (by simp)) (y.own (lX b ah cm) (by simp)) ha,.obj r (.mapIter (some b) cm (seen.push a.born) cm) :: lX b ah cm :: (Z++S),Φ,δ,y,λb0 w G y=>⟨hdf.ok,?_⟩⟩
  have y:Ctx W w ([Own.obj r (.mapIter (some b) cm (seen.push a.born) cm),lX b ah cm]++(Z++(S++G))) Φ:=by
   rw [<-μ Z];exact y
  have Tw:Ctx W w (Z++([Own.obj r (.mapIter (some b) cm (seen.push a.born) cm),lX b ah cm]++(S++G))) Φ:=y.perm (Ib _ _ _ _);refine hdf.go a.key a.val Tw λw Tw=>⟨_,rfl,.obj r (.mapIter (some b) cm (seen.push a.born) cm) :: lX b ah cm :: (Z++S),Φ,δ,?_,γ.intro (λhc=>λw G y=>?_) (λhc=>?_)⟩
  .have:=Tw.perm (Ib _ _ _ _).symm;rw [<-μ Z] at this;exact this
  .obtain ⟨jW,aLH,FU,qg,hsub,hne⟩:=aPU (P:=prog) Rt k8 (y.own (lX b ah cm) (by simp)) a.key 122 0 #[false,false];have c3:=y.putObj 1 (aZ e6 Value.bool jW cm) rfl;refine ⟨_,aLH,.obj r (.mapIter (some b) cm (seen.push a.born) cm) :: lX b jW cm :: (Z++S),Φ,δ,c3,_,Φ,Ai (seen.push a.born).toList jW,δ,λw G y=>y,⟨_,jW,rfl,rfl,rfl,FU,λe he hs=>?_,λU hy=>?_⟩,?_⟩
   .rw [Array.toList_push] at hs;rcases List.mem_append.1 hs with hs|hs
    .exact Vy e (hsub.subset he) hs
    .have x7:=List.mem_singleton.1 hs;have:e=a:=yw k8.p4 (hsub.subset he) ha x7;exact absurd (by rw [this]) (hne e he)
   .rw [qg U,if_neg (λe=>by rw [e,hc] at hy;cases hy)];exact rY U hy
   .rw [Array.toList_push];exact Wn (hsub.map _) ha ye (List.nodup_iff_pairwise_ne.2 (List.pairwise_map.2 k8.p4))
  .refine ⟨_,Φ,Ai (seen.push a.born).toList ah,δ,λw G y=>y,⟨_,ah,rfl,rfl,rfl,k8,λe he hs=>?_,rY⟩,?_⟩
   .rw [Array.toList_push] at hs;rcases List.mem_append.1 hs with hs|hs
    .exact Vy e he hs
    .have:e=a:=yw k8.p4 he ha (List.mem_singleton.1 hs);rw [this];exact hc
   .rw [Array.toList_push];exact Wn (List.Sublist.refl _) ha ye (List.nodup_iff_pairwise_ne.2 (List.pairwise_map.2 k8.p4))
theorem aPw{W w S}{Φ:θ}[O Φ]{q d}(hq:cG q d){f s}(hs:s.length<=16777216)(y:Ctx W w (ξ q d++S) Φ){K}(hk:∀ u w',cG (q.mv u) (Fs d f s)->Ctx W w' (ξ (q.mv u) (Fs d f s)++S) Φ->K (.returned (.tuple #[])) w'):Γ F.Ty #[ε q.db 0,.int .i64 f,.string (bs s)] w K:=by
 refine ak (aCj q.db 0 f (bs s) (J:=K∘.returned) y λkb w G y=>⟨f,y.get 0 rfl rfl,λw G y=>⟨some q.aJ,qX (d:=d) y.drop1.left rfl,λw G y=>?_⟩⟩);obtain ⟨ah,hU,hr,k8,hg1⟩:=Ya (P:=prog) A3 hq.yX (Ki (d:=d) y.drop1.left) f ⟨s,s⟩;have y:Ctx W w (.blk kb [.int .i64 f] 3 :: .blk q.db (dH q d) 89 :: .obj q.aJ (aZ (Value.int .i64) cP q.cY q.b9) :: .obj q.sm (aZ e6 Value.bool q.fh q.eU) :: gr q.eI q.bW d.queue :: (S++G)) Φ:=y
 have c1:=(y.putObj 2 (aZ (Value.int .i64) cP ah hU) rfl).perm (List.perm_middle (l₁:=[Own.blk kb [.int .i64 f] 3,.blk q.db (dH q d) 89,.obj q.aJ (aZ (Value.int .i64) cP ah hU),.obj q.sm (aZ e6 Value.bool q.fh q.eU)]));refine ⟨_,hr,gr q.eI q.bW d.queue :: .blk kb [.int .i64 f] 3 :: .blk q.db (dH q d) 89 :: .obj q.aJ (aZ (Value.int .i64) cP ah hU) :: .obj q.sm (aZ e6 Value.bool q.fh q.eU) :: S,Φ,δ,c1,λw G y=>⟨q.eI,_,q.bW,y.get 2 rfl rfl,λw G y=>?_⟩⟩
 have hle:=hq.ND;refine aEk (Z:=[.blk kb [.int .i64 f] 3]) aPu d.queue (by omega) (S:=.blk q.db (dH q d) 89 :: .obj q.aJ (aZ (Value.int .i64) cP ah hU) :: .obj q.sm (aZ e6 Value.bool q.fh q.eU) :: (S++G)) y λw y=>?_;have aJ5:(d.queue.filter λp => !(decide (p.1=f)))=d.queue.filter λp=>decide (p.1≠f):=by
  refine congrArg (λg=>d.queue.filter g) (funext λp=>?_);by_cases h:p.1=f<;>simp [h]
 rw [aJ5] at y ⊢;generalize Hs:(d.queue.filter λp=>decide (p.1≠f))=c7 at y ⊢;refine ⟨_,_,_,rfl,gr q.eI q.bW c7 :: .blk kb [.int .i64 f] 3 :: .blk q.db (dH q d) 89 :: .obj q.aJ (aZ (Value.int .i64) cP ah hU) :: .obj q.sm (aZ e6 Value.bool q.fh q.eU) :: S,Φ,δ,y,λw G y=>⟨y.can 2 rfl (by show 0+1+1<=7;omega),λw' hw'=>?_⟩⟩;have c2:=(y.put 2 hw' rfl);refine ⟨gr q.eI q.bW c7 :: .blk kb [.int .i64 f] 3 :: .blk q.db ((dH q d).set 1 (.slice q.eI c7.length q.bW)) 89 :: .obj q.aJ (aZ (Value.int .i64) cP ah hU) :: .obj q.sm (aZ e6 Value.bool q.fh q.eU) :: S,Φ,δ,c2,λw G y=>⟨some q.sm,y.get 2 rfl rfl,λw G y=>?_⟩⟩
 have y:Ctx W w ([gr q.eI q.bW c7,.blk kb [.int .i64 f] 3,.blk q.db ((dH q d).set 1 (.slice q.eI c7.length q.bW)) 89,.obj q.aJ (aZ (Value.int .i64) cP ah hU)]++lX q.sm q.fh q.eU :: (S++G)) Φ:=y;have y:=y.perm List.perm_middle;have y:Ctx W w (lX q.sm q.fh q.eU :: ([gr q.eI q.bW c7]++.blk kb [.int .i64 f] 3 :: (.blk q.db ((dH q d).set 1 (.slice q.eI c7.length q.bW)) 89 :: .obj q.aJ (aZ (Value.int .i64) cP ah hU) :: (S++G)))) Φ:=y
 have y:=y.perm (List.Perm.cons _ List.perm_middle);refine aF9 (Z:=[.blk kb [.int .i64 f] 3]) aPv hq.BA y λjW w FU qg y=>?_;have y:Ctx W w ([lX q.sm jW q.eU,.blk kb [.int .i64 f] 3,gr q.eI q.bW c7]++.blk q.db ((dH q d).set 1 (.slice q.eI c7.length q.bW)) 89 :: .obj q.aJ (aZ (Value.int .i64) cP ah hU) :: (S++G)) Φ:=y;refine ⟨rfl,[lX q.sm jW q.eU,.blk kb [.int .i64 f] 3,gr q.eI q.bW c7]++.blk q.db ((dH q d).set 1 (.slice q.eI c7.length q.bW)) 89 :: .obj q.aJ (aZ (Value.int .i64) cP ah hU) :: S,Φ,δ,y,λw G y=>?_⟩
 have hd:Fs d f s={ d.set f ⟨s,s⟩ with queue:=c7 }:=by unfold Fs;rw [Hs]
 refine hk ⟨q.aJ,ah,hU,q.sm,jW,q.eU,q.eI,q.bW⟩ w ?_ ?_
 .rw [hd];have hsub:c7.Sublist d.queue:=by rw [<-Hs];exact List.filter_sublist
  refine ⟨k8,FU,λk=>?_,λp=>?_,hq.nodup.sublist hsub,λp hp=>hq.range p (hsub.subset hp),λk=>?_,hq.lost,hq.eP⟩
  .have:=hg1 k;rw [hq.uc k] at this;exact this
  .show dO false jW p=decide (p∈c7);rw [qg p,hq.zE p,<-Hs];by_cases e:p.1=f
   .rw [if_pos (by simpa using e)];symm;exact decide_eq_false λh=>by
     have:=(List.mem_filter.1 h).2;simp [e] at this
   .rw [if_neg (by simpa using e)];refine decide_eq_decide.2 ⟨λh=>List.mem_filter.2 ⟨h,by simpa using e⟩,λh=>(List.mem_filter.1 h).1⟩
  .show (if k=f then _ else d.files k).now.length<=_/\(if k=f then _ else d.files k).last.length<=_;by_cases e:k=f
   .rw [if_pos e];exact ⟨hs,hs⟩
   .rw [if_neg e];exact hq.size k
 .rw [hd];have c3:Ctx W w (lX q.sm jW q.eU :: gr q.eI q.bW c7 :: .blk q.db ((dH q d).set 1 (.slice q.eI c7.length q.bW)) 89 :: .obj q.aJ (aZ (Value.int .i64) cP ah hU) :: S) Φ:=(Ctx.left (S:=[lX q.sm jW q.eU,.blk kb [.int .i64 f] 3,gr q.eI q.bW c7]++.blk q.db ((dH q d).set 1 (.slice q.eI c7.length q.bW)) 89 :: .obj q.aJ (aZ (Value.int .i64) cP ah hU) :: S) y).sub (.cons_cons _ (.cons _ (List.Sublist.refl _)))
  have c4:=c3.perm (show ([lX q.sm jW q.eU,gr q.eI q.bW c7]++([Own.blk q.db ((dH q d).set 1 (.slice q.eI c7.length q.bW)) 89,.obj q.aJ (aZ (Value.int .i64) cP ah hU)]++S)).Perm ([Own.blk q.db ((dH q d).set 1 (.slice q.eI c7.length q.bW)) 89,.obj q.aJ (aZ (Value.int .i64) cP ah hU)]++([lX q.sm jW q.eU,gr q.eI q.bW c7]++S)) from Ib _ _ [] S);exact c4
theorem aLe(n):bits .and .i64 n 1=n % 2:=by
 have Lc:(BitVec.ofInt 64 1).toNat=2 ^ 1 - 1:=by decide
 have key:(BitVec.ofInt 64 n &&& BitVec.ofInt 64 1).toNat=(n % ((2 ^ 64:Nat):Int)).toNat % 2 ^ 1:=by
  rw [BitVec.toNat_and,BitVec.toNat_ofInt,Lc,Nat.and_two_pow_sub_one_eq_mod]
 show IntKind.i64.wrap ((BitVec.ofInt 64 n &&& BitVec.ofInt 64 1).toNat:Nat)=n % 2;rw [key,IntKind.wrap_i64];omega
theorem YW{P t}(n w):Sem.run P (binOp .and t (.int .i64 n) (.int .i64 1)) w=.ok (.int .i64 (n % 2)) w:=by
 rw [binOp_and,intBits_and,aLe];rfl
theorem aLk(M w cs)(x:Int)(h:aB.rep M w cs x):(cs.all λu=>ga u)=true:=by
 obtain ⟨rfl,_⟩:=h;rfl
theorem aQ2{M w b o l}(h:Δ M w (some ⟨b,o,none⟩) l){i}(hi:i<l.length):w.cell? ⟨b,o+i,none⟩=some (.int .i64 l[i]):=by
 obtain ⟨b',o',cs,e,_,h3,rfl,_⟩:=h i hi;cases e;have:=h3 0 (by simp);simpa [show (aB.ty Int).size=1 from rfl] using this
theorem a4d{bY eW}[DecidableEq bY]{z}:∀ {es:List (aj bY eW)},es.Pairwise (λa b=>a.key≠b.key)->∀ a∈es,dO z es a.key=a.val
 | [],_,a,ha=>by cases ha
 | e :: es,hp,a,ha=>by
  obtain ⟨h1,h2⟩:=List.pairwise_cons.1 hp;show (if a.key=e.key then e.val else dO z es a.key)=a.val;rcases List.mem_cons.1 ha with rfl|ha
  .rw [if_pos rfl]
  .rw [if_neg (λh=>h1 a ha h.symm)];exact a4d h2 a ha
theorem aPb{bY eW}{es ah:List (aj bY eW)}(hk:ah.map aj.key=es.map aj.key)(hb:ah.map aj.born=es.map aj.born){e}(he:e∈ah):∃ e'∈es,e'.key=e.key/\e'.born=e.born:=by
 obtain ⟨i,hi,rfl⟩:=List.getElem_of_mem he;have hl:i<es.length:=by have:=congrArg List.length hk;simp at this;omega
 have h1:(ah.map aj.key)[i]? = (es.map aj.key)[i]? := by rw [hk]
 have h2:(ah.map aj.born)[i]? = (es.map aj.born)[i]? := by rw [hb]
 rw [List.getElem?_map,List.getElem?_map,List.getElem?_eq_getElem hi,List.getElem?_eq_getElem hl] at h1 h2;exact ⟨es[i],List.getElem_mem hl,(Option.some.inj h1).symm,(Option.some.inj h2).symm⟩
section
variable {W w:World}{S G:List Own}{Φ:θ}
theorem aEb[O Φ]{p cap}{l:List Int}(hl:l.length<=1000000)(bp:∀ M w,Φ M w->Δ M w p l)(y:Ctx W w S Φ){K}(hk:∀ p' c' w',Ctx W w' S (λM w=>Φ M w/\Δ M w p' l)->K (.returned (.slice p' l.length c')) w'):Γ F.Yx #[.slice p l.length cap] w K:=by
 refine ak (aEE p l.length cap (J:=K∘.returned) y (γ.intro (λhn=>λw G y=>?_) (λhn=>λkb w G y=>?_)))
 .have h:l=[]:=by
   cases l with
   | nil=>rfl
   | cons x l =>
    obtain ⟨b,o,cs,e,_⟩:=bp _ _ y.cy 0 (by simp);rw [e] at hn;cases hn
  subst h;exact hk none 0 w (y.left.add Δ.nil)
 .obtain ⟨p',cap',w',cs,hrun,c'⟩:=Ctx.PY (P:=prog) (ts:=30) (ty:=30) (kb:=#[false,false]) (bytes:=8) (c2:=cap) y (by kernel_rfl) aLk bp (by omega) (by omega);obtain ⟨c2,W0,_⟩:=c'.freeze c'.cy.2;exact ⟨_,_,_,_,hrun,S,λM w=>Φ M w/\Δ M w p' l,δ,(c2.weak λ_ _ h=>h.1).add W0,λw G y=>hk p' cap' w y.left⟩
theorem a0l[O Φ]{q d}(hq:cG q d){n}(hn:κ n){p cap l}(hl:l.length<=1000000)(bp:∀ M w,Φ M w->Δ M w p l)(y:Ctx W w (ξ q d++S) Φ){K}(hk:∀ p' c' w',cG { q with kp:=p',kc:=c' } (jR d n l)->Ctx W w' (ξ { q with kp:=p',kc:=c' } (jR d n l)++S) (λM w=>Φ M w/\C0 { q with kp:=p',kc:=c' } (jR d n l) M w)->K (.returned (.tuple #[])) w'):
  Γ F.Pd #[ε q.db 0,.int .i64 n,.slice p l.length cap] w K:=by
 unfold κ at hn;refine ak (aCX q.db 0 n p l.length cap (J:=K∘.returned) y λw G y=>aEb hl bp y λp' c' w y=>⟨_,_,_,rfl,ξ q d++S,(λM w=>Φ M w/\Δ M w p' l),δ,y,λw G y=>⟨y.can 0 rfl (by show 0+5+1<=7;omega),λw' hw'=>?_⟩⟩);have c1:=y.put 0 hw' rfl;refine ⟨.blk q.db ((dH q d).set 5 (.int .i64 (max n 0))) 89 :: .obj q.aJ (aZ (Value.int .i64) cP q.cY q.b9) :: .obj q.sm (aZ e6 Value.bool q.fh q.eU) :: gr q.eI q.bW d.queue :: S,(λM w=>Φ M w/\Δ M w p' l),δ,c1,λw G y=>⟨y.can 0 rfl (by show 0+6+1<=7;omega),λw' hw'=>?_⟩⟩
 have c2:=y.put 0 hw' rfl;exact ⟨ξ { q with kp:=p',kc:=c' } (jR d n l)++S,(λM w=>Φ M w/\Δ M w p' l),δ,c2,λw G y=>hk p' c' w ⟨hq.yX,hq.BA,hq.uc,hq.zE,hq.nodup,hq.range,hq.size,hq.lost,⟨by show 0<=max n 0;omega,by show max n 0<=_;omega⟩⟩ y.left⟩
end
theorem aQc{keep i p fs}(h:keep=[]\/keep.getD (i % keep.length) 0 % 2=0\/((fs p.1).now.length:Int)<=p.2*64):r8 keep i p fs=fs:=by
 unfold r8;rw [if_pos h]
theorem aQb{keep i p fs}(h:¬ (keep=[]\/keep.getD (i % keep.length) 0 % 2=0\/((fs p.1).now.length:Int)<=p.2*64)):
  r8 keep i p fs=λk=>if k=p.1 then ⟨(fs p.1).now,dy (fs p.1).last (p.2*64).toNat (((fs p.1).now.drop (p.2*64).toNat).take 64)⟩ else fs k:=by
 unfold r8;rw [if_neg h]
section
variable {W w:World}{S G:List Own}{Φ:θ}
theorem aOW{keep:List Int}{p}(hkp:0<keep.length->∃ g o,p=some ⟨g,o,none⟩){K}(hk:∀ b o,(keep≠[]->p=some ⟨b,o,none⟩)->K b o):k9 (some !decide ((keep.length:Int)=0)) p K:=by
 by_cases h:keep=[]
 .subst h;exact aOX rfl λb o=>hk b o λh=>absurd rfl h
 .obtain ⟨g,o,e⟩:=hkp (List.length_pos_iff.2 h);exact eu g o e (hk g o λ_=>e)
structure aEe(q:ld)(d:b7)(keep:List Int)(i:Nat)(cY:List (aj Int ko))(b9:Nat)(fs:Int->ko):Prop where
 ok:om cY b9
 get:∀ k,dO A2 cY k=fs k
 size:∀ k,(fs k).now.length<=16777216/\(fs k).last.length<=16777216
 rest:tr keep i (d.queue.drop i) fs=tr keep 0 d.queue d.files
abbrev pg(q:ld)(d:b7)(cY:List (aj Int ko))(b9:Nat):List Own:=[.blk q.db (dH q { d with down:=true,eP:=0 }) 89,.obj q.aJ (aZ (Value.int .i64) cP cY b9),.obj q.sm (aZ e6 Value.bool q.fh q.eU),gr q.eI q.bW d.queue]
theorem OU[O Φ]{q d}(hq:cG q d){p cap keep}(hl:keep.length<=1000000)(bp:∀ M w,Φ M w->Δ M w p keep)(y:Ctx W w (ξ q d++S) Φ){K}(hk:∀ u w',cG (q.mv u) (dj d keep)->Ctx W w' (ξ (q.mv u) (dj d keep)++S) Φ->K (.returned (.tuple #[])) w'):Γ F.H8 #[ε q.db 0,.slice p keep.length cap] w K:=by
 have aL9:0<d.queue.length->∃ g,q.eI=some ⟨g,0,none⟩:=λh=>by
  obtain ⟨g,hg,_⟩:=y.uR 3 rfl (by rw [DA];omega);exact ⟨g,hg⟩
 have hkp:0<keep.length->∃ g o,p=some ⟨g,o,none⟩:=λh=>by
  obtain ⟨b,o,cs,e,_⟩:=bp _ _ y.cy 0 h;exact ⟨b,o,e⟩
 refine ak (aCZ q.db 0 p keep.length cap (J:=K∘.returned) y λw G y=>⟨d.down,qX y.left rfl,γ.intro (λh=>λw G y=>?_) (λh=>λw G y=>⟨y.can 0 rfl (by show 0+4+1<=7;omega),λw' hw'=>?_⟩)⟩)
 .have e:dj d keep=d:=by unfold dj;rw [if_pos h]
  rw [e] at hk;exact hk q.un w hq y.left
 have c1:=y.put 0 hw' rfl;refine ⟨.blk q.db ((dH q d).set 4 (.bool true)) 89 :: .obj q.aJ (aZ (Value.int .i64) cP q.cY q.b9) :: .obj q.sm (aZ e6 Value.bool q.fh q.eU) :: gr q.eI q.bW d.queue :: S,Φ,δ,c1,λw G y=>⟨y.can 0 rfl (by show 0+5+1<=7;omega),λw' hw'=>?_⟩⟩;have c2:=y.put 0 hw' rfl;refine ⟨pg q d q.cY q.b9++S,Φ,δ,c2,λw G y=>⟨q.eI,d.queue.length,q.bW,y.get 0 rfl rfl,?_⟩⟩;refine fD (λmH R' η n=>∃ (i:Nat) (cY:List (aj Int ko)) (b9:Nat) (fs:Int->ko),mH=i/\i+n=d.queue.length/\R'=pg q d cY b9++S/\η=Φ/\aEe q d keep i cY b9 fs) ⟨⟨_,Φ,d.queue.length,δ,λw G y=>y,0,q.cY,q.b9,d.files,rfl,by omega,rfl,rfl,⟨hq.yX,hq.uc,hq.size,rfl⟩⟩,?_⟩
 rintro mH aW Φ n st ⟨i,cY,b9,fs,rfl,hin,rfl,rfl,hI⟩;refine γ.intro (λhlt=>?_) (λhge=>λw G y=>?_)
 .have hlt:i<d.queue.length:=by have:=aN hlt;omega
  obtain ⟨n,rfl⟩:∃ m,n=m+1:=⟨n - 1,by omega⟩;have aKF:d.queue.drop i=d.queue[i] :: d.queue.drop (i+1):=List.drop_eq_getElem_cons hlt;have Vv:=hq.range _ (List.getElem_mem hlt);have dr:=hI.rest;rw [aKF] at dr;have dr:tr keep (i+1) (d.queue.drop (i+1)) (r8 keep i d.queue[i] fs)=tr keep 0 d.queue d.files:=dr;generalize hp:d.queue[i]=P at dr Vv;obtain ⟨F,n0⟩:=P;obtain ⟨m,rfl⟩:∃ m:Nat,n0=m:=⟨n0.toNat,by have:=Vv.2.1;simp only at this;omega⟩
  have hm:m<262145:=by have:=Vv.2.2;simp only at this;omega
  have aJt:κ ((m:Int)*64):=by unfold κ;omega
  obtain ⟨g,hg⟩:=aL9 (by omega);refine ⟨⟨by omega,by omega⟩,eu g 0 hg λw G y=>⟨F,m,?_,λb=>⟨pg q d cY b9++S,Φ,δ,λw G y=>y,aJt,some q.aJ,λw G y=>⟨some q.aJ,y.get 0 rfl rfl,rfl⟩,bs (fs F).now,bs (fs F).last,λw G y=>⟨bs (fs F).now,bs (fs F).last,λw2 dw=>?_,rfl⟩,λkb=>⟨λw G y=>y.drop1,λw G y=>⟨y.can 0 rfl (by decide),λw' hw'=>?_⟩⟩⟩⟩⟩
  .rw [Nat.zero_add,Int.toNat_natCast];have:bS w g (i*2) [.int .i64 d.queue[i].1,.int .i64 d.queue[i].2]:=y.Tg 3 rfl hg (D9 (Rs hlt));rw [hp] at this;exact this
  .have hr:=NP (P:=prog) A3 (w:=w2) (by rw [dw];exact y.own (.obj q.aJ (aZ (Value.int .i64) cP cY b9)) (by simp)) F;rw [hI.get] at hr;exact hr
  have c1:=y.pO 0 hw' rfl;refine ⟨.blk kb [.string (bs (fs F).now),.string (bs (fs F).last)] 119 :: (pg q d cY b9++S),Φ,δ,c1,λw G y=>y.drop1,λw G y=>?_⟩;have q2:w.cell? ⟨kb,0,none⟩=some (.string (bs (fs F).now)):=y.get 0 rfl rfl;refine ⟨λh=>by simpa using h,λh=>?_,?_⟩
  .have:(keep.length:Int)≠0:=by simpa using h
   rw [Int.tmod_eq_emod_of_nonneg (by omega)];exact ⟨Int.emod_nonneg _ (by omega),Int.emod_lt_of_pos _ (by omega)⟩
  refine aOW hkp λb2 o2 hpk=>⟨keep.getD (i % keep.length) 0,λh=>?_,keep.getD (i % keep.length) 0 % 2,λ_ w=>YW _ w,bs (fs F).now,λ_=>q2,γ.intro (λhc=>?_) (λhc=>?_)⟩
  .have hne:keep≠[]:=λe=>by rw [e] at h;simp at h
   have hpos:=List.length_pos_iff.2 hne;have hmod:i % keep.length<keep.length:=Nat.mod_lt _ hpos;have hs:=bp _ _ y.cy;rw [hpk hne] at hs;have:=aQ2 hs hmod;rw [Int.tmod_eq_emod_of_nonneg (by omega),show ((i:Int) % (keep.length:Int)).toNat=i % keep.length by omega,this,List.getD_eq_getElem?_getD,List.getElem?_eq_getElem hmod];rfl
  .have hc:keep=[]\/keep.getD (i % keep.length) 0 % 2=0\/((fs F).now.length:Int)<=(m:Int)*64:=by
    rw [dN] at hc;simp only [Bool.or_eq_true,decide_eq_true_eq] at hc;rcases hc with (hc|hc)|hc
    .exact .inl (List.eq_nil_of_length_eq_zero (by omega))
    .exact .inr (.inl hc)
    .exact .inr (.inr hc)
   rw [aQc (p:=(F,(m:Int))) hc] at dr;exact ⟨by unfold κ;have:=hq.ND;omega,pg q d cY b9++S,Φ,n,δ,λw G y=>y.drop1,⟨i+1,cY,b9,fs,by omega,by omega,rfl,rfl,hI.ok,hI.get,hI.size,dr⟩,Nat.lt_succ_self _⟩
  .have hc:¬ (keep=[]\/keep.getD (i % keep.length) 0 % 2=0\/((fs F).now.length:Int)<=(m:Int)*64):=by
    rw [dN] at hc;simp only [Bool.or_eq_false_iff,decide_eq_false_iff_not] at hc;rintro (h|h|h)
    .exact hc.1.1 (by rw [h];rfl)
    .exact hc.1.2 h
    .exact hc.2 h
   rw [aQb (p:=(F,(m:Int))) hc] at dr;have CJ:m*64<(fs F).now.length:=by
    have:¬ ((fs F).now.length:Int)<=(m:Int)*64:=λh=>hc (.inr (.inr h));omega
   have hsz:=hI.size F;have hrow:∀ {w:World} {G:List Own},Ctx W w ([Own.blk kb [.string (bs (fs F).now),.string (bs (fs F).last)] 119]++G) lE->w.cell? ⟨kb,0,none⟩=some (.string (bs (fs F).now))/\w.cell? ⟨kb,1,none⟩=some (.string (bs (fs F).last)):=λy=>⟨y.get 0 rfl rfl,y.get 0 rfl rfl⟩;rw [show (((m:Int)*64).toNat)=m*64 by omega] at dr;refine ⟨[.blk kb [.string (bs (fs F).now),.string (bs (fs F).last)] 119],lE,δ,λw G y=>dS y (.cons_cons _ (List.nil_sublist _)),bs (fs F).last,λw G y=>⟨_,(hrow y).2,rfl⟩,bs (fs F).now,λw G y=>⟨_,(hrow y).1,rfl⟩,by unfold κ;omega,bs (fs F).now,λw G y=>⟨_,(hrow y).1,rfl⟩,⟨by omega,by rw [dN];omega,by rw [dN];omega⟩,λw G y=>?_⟩
   have aJ4:(bs (fs F).now).extract ((m:Int)*64).toNat (min ((m:Int)*64+64) ((bs (fs F).now).size:Int)).toNat=bs (((fs F).now.drop (m*64)).take 64):=by
    rw [PM,dN,show ((m:Int)*64).toNat=m*64 by omega];refine congrArg bs ?_;by_cases h:m*64+64<=(fs F).now.length
    .rw [show (min ((m:Int)*64+64) ((fs F).now.length:Int)).toNat - m*64=64 by omega]
    .rw [List.take_of_length_le (by rw [List.length_drop];omega),List.take_of_length_le (by rw [List.length_drop];omega)]
   rw [aJ4,show (m:Int)*64=((m*64:Nat):Int) by omega];generalize uh:((fs F).now.drop (m*64)).take 64=ch at dr;have aK8:m*64+ch.length<=(fs F).now.length/\ch≠[]:=by
    rw [<-uh];refine ⟨by rw [List.length_take,List.length_drop];omega,λe=>?_⟩;have:=congrArg List.length e;rw [List.length_take,List.length_drop] at this;simp at this;omega
   refine a94 (S:=(.blk kb [.string (bs (fs F).now),.string (bs (fs F).last)] 119 :: (pg q d cY b9++S))++G) y (by omega) hsz.2 λw y=>⟨_,rfl,.blk kb [.string (bs (fs F).now),.string (bs (fs F).last)] 119 :: (pg q d cY b9++S),Φ,δ,y,λw G y=>⟨y.can 0 rfl (by show 1+1<=2;omega),λw' hw'=>?_⟩⟩;have c2:=y.put 0 hw' rfl;refine ⟨.blk kb [.string (bs (fs F).now),.string (bs (dy (fs F).last (m*64) ch))] 119 :: (pg q d cY b9++S),Φ,δ,c2,λw G y=>⟨_,_,y.oW 0 rfl,λw G y=>⟨some q.aJ,y.get 1 rfl rfl,λw G y=>?_⟩⟩⟩
   obtain ⟨ah,hU,hr,k8,hg1⟩:=Ya (P:=prog) A3 hI.ok (y.own (.obj q.aJ (aZ (Value.int .i64) cP cY b9)) (by simp)) F ⟨(fs F).now,dy (fs F).last (m*64) ch⟩;have c3:=y.putObj 2 (aZ (Value.int .i64) cP ah hU) rfl;refine ⟨_,hr,.blk kb [.string (bs (fs F).now),.string (bs (dy (fs F).last (m*64) ch))] 119 :: (pg q d ah hU++S),Φ,δ,c3,by unfold κ;have:=hq.ND;omega,pg q d ah hU++S,Φ,n,δ,λw G y=>y.drop1,⟨i+1,ah,hU,_,by omega,by omega,rfl,rfl,k8,λk=>?_,λk=>?_,dr⟩,Nat.lt_succ_self _⟩
   .rw [hg1 k,hI.get k]
   .show (if k=F then _ else fs k).now.length<=_/\(if k=F then _ else fs k).last.length<=_;by_cases e:k=F
    .rw [if_pos e];refine ⟨hsz.1,?_⟩;show (dy (fs F).last (m*64) ch).length<=_;rw [Xz aK8.2];omega
    .rw [if_neg e];exact hI.size k
 .have hge:=Λ hge;have aKV:fs=tr keep 0 d.queue d.files:=by
   have:=hI.rest;rw [List.drop_eq_nil_of_le (by omega)] at this;exact this
  refine ⟨some q.aJ,y.get 0 rfl rfl,λw G y=>?_⟩;have hb:=y.own (.obj q.aJ (aZ (Value.int .i64) cP cY b9)) (by simp);refine ⟨_,_,run_range_map (P:=prog) w 85 3 119 q.aJ _ b9 A3.map hb,.obj w.heap.size (.mapIter (some q.aJ) b9 #[] b9) :: (pg q d cY b9++S),Φ,δ,y.newObj rfl,?_⟩;generalize w.heap.size=r;refine fD (λR' η k=>∃ (seen:Array Nat) (ah:List (aj Int ko)),R'=.obj r (.mapIter (some q.aJ) b9 seen b9) :: (pg q d ah b9++S)/\η=Φ/\k=Ai seen.toList ah/\om ah b9/\ah.map aj.key=cY.map aj.key/\(∀ e∈ah,dO A2 ah e.key=if e.born∈seen.toList then ⟨(fs e.key).last,(fs e.key).last⟩ else fs e.key))
   ⟨⟨_,Φ,_,δ,λw G y=>y,#[],cY,rfl,rfl,rfl,hI.ok,rfl,λe he=>by simp [hI.get]⟩,?_⟩
  rintro aW Φ n _ ⟨seen,ah,rfl,rfl,rfl,k8,hkey,rY⟩;intro w G y;have hr:=y.own (.obj r (.mapIter (some q.aJ) b9 seen b9)) (by simp);have hb:=y.own (.obj q.aJ (aZ (Value.int .i64) cP ah b9)) (by simp);rcases a7O (P:=prog) 0 hr hb k8.lt (Nat.le_refl _) with ⟨hall,hrun⟩|⟨a,ha,ye,w1,hw1,hrun⟩
  .refine .inl ⟨w,hrun,.obj r (.mapIter (some q.aJ) b9 seen b9) :: (pg q d ah b9++S),Φ,δ,y,λsm w G y=>⟨y.can 2 rfl (by show 0+1+1<=7;omega),λw' hw'=>?_⟩⟩;have c1:=y.put 2 hw' rfl;refine ⟨.obj sm (Obj.map #[] 0) :: .obj r (.mapIter (some q.aJ) b9 seen b9) :: .blk q.db ((dH q { d with down:=true,eP:=0 }).set 1 (.slice none 0 0)) 89 :: .obj q.aJ (aZ (Value.int .i64) cP ah b9) :: .obj q.sm (aZ e6 Value.bool q.fh q.eU) :: gr q.eI q.bW d.queue :: S,Φ,δ,c1,λw G y=>⟨y.can 2 rfl (by show 0+2+1<=7;omega),λw' hw'=>?_⟩⟩
   have c2:=y.put 2 hw' rfl;refine ⟨.obj sm (Obj.map #[] 0) :: .obj r (.mapIter (some q.aJ) b9 seen b9) :: .blk q.db (((dH q { d with down:=true,eP:=0 }).set 1 (.slice none 0 0)).set 2 (.map (some sm))) 89 :: .obj q.aJ (aZ (Value.int .i64) cP ah b9) :: .obj q.sm (aZ e6 Value.bool q.fh q.eU) :: gr q.eI q.bW d.queue :: S,Φ,δ,c2,λw G y=>?_⟩;have hd:dj d keep={ d with down:=true,eP:=0,queue:=[],files:=λk=>⟨(fs k).last,(fs k).last⟩ }:=by
    unfold dj;rw [if_neg (by rw [h];simp),aKV]
   refine hk ⟨q.aJ,ah,b9,sm,[],0,none,0⟩ w ?_ ?_
   .rw [hd];refine ⟨k8,⟨.nil,.nil,λe he=>(by cases he)⟩,λk=>?_,λp=>rfl,List.nodup_nil,λp hp=>(by cases hp),λk=>⟨(hI.size k).2,(hI.size k).2⟩,hq.lost,⟨Int.le_refl 0,by show (0:Int)<=_;omega⟩⟩;show dO A2 ah k=⟨(fs k).last,(fs k).last⟩;by_cases hex:∃ e∈ah,e.key=k
    .obtain ⟨e,he,rfl⟩:=hex;rw [rY e he,if_pos (hall e he)]
    .have h1:dO A2 ah k=A2:=C7 λe he h=>hex ⟨e,he,h⟩;have h2:dO A2 cY k=A2:=C7 λe he h=>hex (by
      have:k∈cY.map aj.key:=List.mem_map.2 ⟨e,he,h⟩;rw [<-hkey] at this;obtain ⟨e',he',h'⟩:=List.mem_map.1 this;exact ⟨e',he',h'⟩)
     rw [hI.get] at h2;rw [h1,h2]
   .rw [hd];have c3:Ctx W w (.obj sm (Obj.map #[] 0) :: .blk q.db (((dH q { d with down:=true,eP:=0 }).set 1 (.slice none 0 0)).set 2 (.map (some sm))) 89 :: .obj q.aJ (aZ (Value.int .i64) cP ah b9) :: S) Φ:=(Ctx.left (S:=.obj sm (Obj.map #[] 0) :: .obj r (.mapIter (some q.aJ) b9 seen b9) :: .blk q.db (((dH q { d with down:=true,eP:=0 }).set 1 (.slice none 0 0)).set 2 (.map (some sm))) 89 :: .obj q.aJ (aZ (Value.int .i64) cP ah b9) :: .obj q.sm (aZ e6 Value.bool q.fh q.eU) :: gr q.eI q.bW d.queue :: S) y).sub (.cons_cons _ (.cons _ (.cons_cons _ (.cons_cons _ (.cons _ (.cons _ (List.Sublist.refl _)))))))
    have c4:=c3.yp 122 2;have c5:=c4.perm (show ([Own.buf none 0 0 [] 122 2,.obj sm (Obj.map #[] 0)]++([Own.blk q.db (((dH q { d with down:=true,eP:=0 }).set 1 (.slice none 0 0)).set 2 (.map (some sm))) 89,.obj q.aJ (aZ (Value.int .i64) cP ah b9)]++S)).Perm ([Own.blk q.db (((dH q { d with down:=true,eP:=0 }).set 1 (.slice none 0 0)).set 2 (.map (some sm))) 89,.obj q.aJ (aZ (Value.int .i64) cP ah b9)]++([Own.buf none 0 0 [] 122 2,.obj sm (Obj.map #[] 0)]++S)) from Ib _ _ [] S)
    have rO:=c5.perm (show ([Own.blk q.db (((dH q { d with down:=true,eP:=0 }).set 1 (.slice none 0 0)).set 2 (.map (some sm))) 89,.obj q.aJ (aZ (Value.int .i64) cP ah b9)]++(Own.buf none 0 0 [] 122 2 :: .obj sm (Obj.map #[] 0) :: S)).Perm ([Own.blk q.db (((dH q { d with down:=true,eP:=0 }).set 1 (.slice none 0 0)).set 2 (.map (some sm))) 89,.obj q.aJ (aZ (Value.int .i64) cP ah b9)]++(.obj sm (Obj.map #[] 0) :: Own.buf none 0 0 [] 122 2 :: S)) from (List.Perm.swap _ _ _).append_left _)
    exact rO
  .have c1:Ctx W w1 ((.obj r (.mapIter (some q.aJ) b9 seen b9) :: (pg q d ah b9++S))++G) Φ:=by
    rcases hw1 with rfl|rfl
    .exact y
    .exact y.draw 1
   have c2:=c1.putObj 0 (.mapIter (some q.aJ) b9 (seen.push a.born) b9) rfl;refine .inr ⟨_,_,_,hrun,.obj r (.mapIter (some q.aJ) b9 (seen.push a.born) b9) :: (pg q d ah b9++S),Φ,δ,c2,λw G y=>?_⟩;refine ⟨a.key,bs a.val.now,bs a.val.last,w,a4C k8 (y.own (.obj r (.mapIter (some q.aJ) b9 (seen.push a.born) b9)) (by simp)) (y.own (.obj q.aJ (aZ (Value.int .i64) cP ah b9)) (by simp)) ha,.obj r (.mapIter (some q.aJ) b9 (seen.push a.born) b9) :: (pg q d ah b9++S),Φ,δ,y,λb0 w G y=>⟨some q.aJ,y.get 1 rfl rfl,λw G y=>?_⟩⟩
   obtain ⟨jW,uk,FU,qg,hk2,x7⟩:=aPY (P:=prog) A3 k8 (y.own (.obj q.aJ (aZ (Value.int .i64) cP ah b9)) (by simp)) a.key ⟨a.val.last,a.val.last⟩ ⟨a,ha,rfl⟩;have c3:=y.putObj 2 (aZ (Value.int .i64) cP jW b9) rfl;have hval:a.val=fs a.key:=by
    have h1:=rY a ha;rw [a4d k8.keys a ha,if_neg ye] at h1;exact h1
   refine ⟨_,uk,.obj r (.mapIter (some q.aJ) b9 (seen.push a.born) b9) :: (pg q d jW b9++S),Φ,δ,c3,_,Φ,Ai (seen.push a.born).toList jW,δ,λw G y=>y,⟨_,jW,rfl,rfl,rfl,FU,hk2.trans hkey,λe he=>?_⟩,?_⟩
   .obtain ⟨e',he',h1,h2⟩:=aPb hk2 x7 he;rw [qg e.key,Array.toList_push,<-h1,<-h2];by_cases AE:e'.key=a.key
    .have:e'=a:=yw k8.keys he' ha AE;rw [if_pos AE,this,if_pos (by simp),hval]
    .rw [if_neg AE,rY e' he'];have hne:e'.born≠a.born:=λh=>AE (by rw [yw k8.p4 he' ha h]);have:e'.born∈seen.toList++[a.born] ↔ e'.born∈seen.toList:=⟨λh=>by
      rcases List.mem_append.1 h with h|h
      .exact h
      .exact absurd (List.mem_singleton.1 h) hne,λh=>List.mem_append_left _ h⟩
     by_cases hs:e'.born∈seen.toList
     .rw [if_pos hs,if_pos (this.2 hs)]
     .rw [if_neg hs,if_neg λh=>hs (this.1 h)]
   .rw [Array.toList_push];exact Wn (by rw [x7];exact List.Sublist.refl _) ha ye (List.nodup_iff_pairwise_ne.2 (List.pairwise_map.2 k8.p4))
end
theorem JA(d):(gE d).keep=d.keep:=by
 unfold gE;split<;>rfl
theorem a0O(d f a s):(gP d f a s).1.keep=d.keep:=by
 unfold gP
 repeat' split
 all_goals rfl
theorem PZ(d l):(dj d l).keep=d.keep:=by
 unfold dj;split<;>rfl
theorem aJL(d):(kS d).keep=d.keep:=by
 unfold kS;split
 .rw [PZ,JA]
 .exact JA d
theorem JS(d f a s):(ct d f a s).1.keep=d.keep:=by
 unfold ct;split
 .show (dj _ _).keep=_;rw [PZ,a0O,JA]
 .rw [a0O,JA]
theorem BD(d f):(bN d f).1.keep=d.keep:=by
 unfold bN xk
 repeat' split
 all_goals exact aJL d
section
variable {W w:World}{S G:List Own}{Φ:θ}
structure gk(Φ:θ)(q:ld)(d:b7):Prop where
 le:d.keep.length<=1000000
 sl:∀ M w,Φ M w->Δ M w q.kp d.keep
theorem gk.of{q d d'}(h:gk Φ q d)(e:d'.keep=d.keep)(u):gk Φ (q.mv u) d':=⟨by rw [e];exact h.le,λM w hp=>by rw [e];exact h.sl M w hp⟩
theorem gk.weak{q d}(h:gk Φ q d){Ψ}(e:∀ M w,Ψ M w->Φ M w):gk Ψ q d:=⟨h.le,λM w hp=>h.sl M w (e M w hp)⟩
theorem TQ[O Φ]{q d}(hq:cG q d)(hkp:gk Φ q d){f a s}(hs:s.length<=9223372036854775807)(y:Ctx W w (ξ q d++S) Φ){K}(hk:∀ u w',cG (q.mv u) (ct d f a s).1->Ctx W w' (ξ (q.mv u) (ct d f a s).1++S) Φ->K (.returned (.int .i64 (ct d f a s).2)) w'):Γ F.Kf #[ε q.db 0,.int .i64 f,.int .i64 a,.string (bs s)] w K:=by
 refine ak (aCe q.db 0 f a (bs s) (J:=K∘.returned) y λw G y=>a4A (S:=S++G) hq (y.re (μ _ _ _)) λw hq1 y=>⟨_,rfl,ξ q (gE d)++S,Φ,δ,y.re (μ _ _ _).symm,λw G y=>aS4 (S:=S++G) hq1 hs (y.re (μ _ _ _)) λu w cX y=>⟨_,rfl,ξ (q.mv u) (gP (gE d) f a s).1++S,Φ,δ,y.re (μ _ _ _).symm,γ.intro (λhc=>λw G y=>?_) (λhc=>λw G y=>?_)⟩⟩)
 .have e:ct d f a s=(dj (gP (gE d) f a s).1 d.keep,9):=by unfold ct;rw [if_pos hc]
  have A0:(gP (gE d) f a s).1.keep=d.keep:=by rw [a0O,JA]
  rw [e] at hk;refine ⟨q.kp,(gP (gE d) f a s).1.keep.length,q.kc,qX (q:=q.mv u) y.left rfl,λw G y=>?_⟩;rw [A0];exact OU (S:=S++G) cX hkp.le hkp.sl (y.re (μ _ _ _)) λu2 w yf y=>⟨rfl,ξ (q.mv u2) (dj (gP (gE d) f a s).1 d.keep)++S,Φ,δ,y.re (μ _ _ _).symm,λw G y=>hk u2 w yf y.left⟩
 .have e:ct d f a s=gP (gE d) f a s:=by unfold ct;rw [if_neg (by rw [hc];simp)]
  rw [e] at hk;exact hk u w cX y.left
theorem Gq[O Φ]{q d}(hq:cG q d)(hkp:gk Φ q d){f}(y:Ctx W w (ξ q d++S) Φ){K}(hk:∀ u w',cG (q.mv u) (bN d f).1->Ctx W w' (ξ (q.mv u) (bN d f).1++S) Φ->K (.returned (.int .i64 (bN d f).2)) w'):Γ F.Bz #[ε q.db 0,.int .i64 f] w K:=by
 refine ak (aCd q.db 0 f (J:=K∘.returned) y (fD (λR' η=>∃ u,R'=ξ (q.mv u) (kS d)++S/\η=Φ/\cG (q.mv u) (kS d)) ⟨λw G y=>a4A (S:=S++G) hq (y.re (μ _ _ _)) λw hq1 y=>⟨_,rfl,ξ q (gE d)++S,Φ,δ,y.re (μ _ _ _).symm,γ.intro (λhc=>λw G y=>?_) (λhc=>?_)⟩,?_⟩))
 .have e:kS d=dj (gE d) d.keep:=by unfold kS;rw [if_pos hc]
  refine ⟨q.kp,(gE d).keep.length,q.kc,qX (q:=q) y.left rfl,λw G y=>?_⟩;rw [JA];refine OU (S:=S++G) hq1 hkp.le hkp.sl (y.re (μ _ _ _)) λu2 w yf y=>⟨rfl,ξ (q.mv u2) (dj (gE d) d.keep)++S,Φ,δ,y.re (μ _ _ _).symm,_,Φ,δ,λw G y=>y,u2,by rw [e],rfl,by rw [e];exact yf⟩
 .have e:kS d=gE d:=by unfold kS;rw [if_neg (by rw [hc];simp)]
  exact ⟨_,Φ,δ,λw G y=>y,q.un,by rw [e];rfl,rfl,by rw [e];exact hq1⟩
 .rintro aW Φ st ⟨u,rfl,rfl,hq1⟩;have es:bN d f=xk (kS d) f:=rfl;rw [es] at hk;generalize kS d=d1 at hk hq1;intro w G y;refine Wv (S:=S++G) (q:=q.mv u) (y.re (μ _ _ _)) λw y=>⟨_,rfl,ξ (q.mv u) d1++S,Φ,δ,y.re (μ _ _ _).symm,γ.intro (λh=>λw G y=>?_) (λh=>λw G y=>⟨d1.lost,qX (q:=q.mv u) y.left rfl,γ.intro (λh2=>λw G y=>⟨d1.lost,qX (q:=q.mv u) y.left rfl,?_,λw G y=>⟨y.can 0 rfl (by show 0+3+1<=7;omega),λw' hw'=>?_⟩⟩) (λh2=>λw G y=>?_)⟩)⟩
  .have e:xk d1 f=(d1,j4 d1 f):=by unfold xk;rw [if_pos (aN h)]
   rw [e] at hk;exact hk u w hq1 y.left
  .have:=hq1.lost;unfold κ;omega
  .have e:xk d1 f=({ d1 with lost:=d1.lost - 1 },10):=by unfold xk;rw [if_neg (Λ h),if_pos (aN h2)]
   have hl:=hq1.lost;have h2:=aN h2;rw [e] at hk;have c1:=y.put 0 hw' rfl;exact ⟨ξ (q.mv u) { d1 with lost:=d1.lost - 1 }++S,Φ,δ,c1,λw G y=>hk u w ⟨hq1.yX,hq1.BA,hq1.uc,hq1.zE,hq1.nodup,hq1.range,hq1.size,⟨by show 0<=d1.lost - 1;omega,by show d1.lost - 1<=_;omega⟩,hq1.eP⟩ y.left⟩
  .have e:xk d1 f=(Fs d1 f (d1.files f).now,0):=by unfold xk;rw [if_neg (Λ h),if_neg (Λ h2)]
   rw [e] at hk;refine ⟨some u.aJ,qX (q:=q.mv u) y.left rfl,λw G y=>⟨bs (d1.files f).now,bs (d1.files f).last,λw2 dw=>?_,λw G y=>?_⟩⟩
   .have hr:=NP (P:=prog) A3 (w:=w2) (by rw [dw];exact Ki (q:=q.mv u) y.left) f;rw [hq1.uc f] at hr;exact hr
   .exact aPw (S:=S++G) (q:=q.mv u) hq1 (hq1.size f).1 (y.re (μ _ _ _)) λu2 w cX y=>⟨rfl,ξ (q.mv u2) (Fs d1 f (d1.files f).now)++S,Φ,δ,y.re (μ _ _ _).symm,λw G y=>hk u2 w cX y.left⟩
end
theorem aPz(n:Nat)(w):Sem.run prog (binOp BinOp.shr 3 (.int .i64 (n:Int)) (.int .u64 8)) w=.ok (.int .i64 ((n / 256:Nat):Int)) w:=by
 show Sem.run prog (Op.shift .shr .i64 (n:Int) .u64 8) w=_;unfold Op.shift;simp [Sem.run_pure];show (n:Int).fdiv 256=_;rw [Int.fdiv_eq_ediv_of_nonneg _ (by decide)]
theorem aPy(n:Nat)(h:n<16777216)(w):Sem.run prog (binOp BinOp.shl 3 (.int .i64 (n:Int)) (.int .u64 8)) w=.ok (.int .i64 ((n*256:Nat):Int)) w:=by
 show Sem.run prog (Op.shift .shl .i64 (n:Int) .u64 8) w=_;unfold Op.shift;simp [Sem.run_pure];rw [show (2:Int) ^ min 8 IntKind.i64.bits=256 from rfl,IntKind.wrap_i64];omega
theorem aNv(m b:Nat)(hm:m<16777216)(hb:b<256)(w):Sem.run prog (binOp BinOp.or 3 (.int .i64 ((m*256:Nat):Int)) (.int .i64 (b:Int))) w=.ok (.int .i64 ((m*256+b:Nat):Int)) w:=by
 rw [binOp_or];show Sem.run prog (Op.intBits .or .i64 _ _) w=_;have:bits .or .i64 ((m*256:Nat):Int) (b:Int)=((m*256+b:Nat):Int):=by
  show IntKind.i64.wrap ((BitVec.ofInt 64 ((m*256:Nat):Int) ||| BitVec.ofInt 64 (b:Int)).toNat:Nat)=_;have e1:(BitVec.ofInt 64 ((m*256:Nat):Int) ||| BitVec.ofInt 64 (b:Int)).toNat=m*256+b:=by
   rw [BitVec.toNat_or,BitVec.toNat_ofInt,BitVec.toNat_ofInt];have h1:(((m*256:Nat):Int) % ((2 ^ 64:Nat):Int)).toNat=2 ^ 8*m:=by omega
   have h2:((b:Int) % ((2 ^ 64:Nat):Int)).toNat=b:=by omega
   rw [h1,h2,<-Nat.two_pow_add_eq_or_of_lt (by omega:b<2 ^ 8)];omega
  rw [e1,IntKind.wrap_i64];omega
 rw [intBits_or,this];rfl
theorem aC8(k:Nat):IntKind.u8.wrap (k:Int)=((k.toUInt8.toNat:Nat):Int):=by
 have:k.toUInt8.toNat=k % 256:=by simp
 rw [this];simp [IntKind.wrap,IntKind.signed,IntKind.bits]
theorem aC7(u:UInt8):IntKind.i64.wrap (u.toNat:Int)=(u.toNat:Int):=by
 rw [IntKind.wrap_i64];have:=u.toNat_lt;omega
def Cz(h:cz):Nat->Nat
 | 0=>0
 | k+1=>Cz h k*256+(h.getD (4 - k) 0).toNat
theorem a8e(h):∀ k,Cz h k<256 ^ k
 | 0=>by show 0<1;omega
 | k+1=>by
  have h1:=a8e h k;have h2:=(h.getD (4 - k) 0).toNat_lt;show Cz h k*256+_<256 ^ (k+1);rw [Nat.pow_succ];omega
theorem aOA(h):Cz h 4=tF h:=by
 unfold tF;simp only [Cz,Nat.zero_mul,Nat.zero_add,Nat.sub_zero]
section
variable {W w:World}{S G:List Own}{Φ:θ}
theorem aOY[O Φ]{p cap g l x}(hl:l.length<100000000)(y:Ctx W w (.blk g [.int .u8 (x.toNat:Int)] 5 :: .buf p l.length cap (iS l) 5 1 :: S) Φ):
  ∃ p' cap' w',Sem.run prog (builtin Builtin.append #[162,162] 162 #[false,false] #[.slice p l.length cap,.slice (some ⟨g,0,none⟩) 1 1]) w=.ok (.value (.slice p' (l.length+1) cap')) w'/\Ctx W w' (.buf p' (l.length+1) cap' (iS (l++[x])) 5 1 :: S) Φ:=by
 obtain ⟨p',cap',w',hr,_,c2⟩:=y.yM (ts:=162) (ty:=162) (kb:=#[false,false]) (bytes:=1) (by kernel_rfl) (by decide) rfl rfl hl (by decide);refine ⟨p',cap',w',hr,?_⟩;have:iS (l++[x])=iS l++[.int .u8 (x.toNat:Int)]:=by simp [iS]
 rw [this];exact c2
theorem aH3[O Φ]{b n cap l}(y:Ctx W w (.buf (some ⟨b,0,none⟩) n cap (iS l) 5 1 :: S) Φ):Lib.Bytes w b 0 (bs l):=λi hi=>by
 have hi':i<l.length:=by rw [dN] at hi;exact hi
 have:=y.a2q 0 rfl (b:=b) (i:=i) (v:=.int .u8 (l[i].toNat:Int)) rfl (by rw [List.getElem?_map,List.getElem?_eq_getElem hi'];rfl);rw [Nat.zero_add];exact this
theorem aGx[O Φ]{p cap l}(h:0<l.length)(y:Ctx W w (.buf p l.length cap (iS l) 5 1 :: S) Φ):Sem.run prog (convert 162 9 (.slice p l.length cap)) w=.ok (.string (bs l)) w:=by
 obtain ⟨b,hb,_⟩:=y.uR 0 rfl (by rw [Bw];exact h);subst hb;have hc:=Lib.run_convert_whole (P:=prog) w 162 5 9 underlying162 underlying5 underlying9 b 0 _ (aH3 y) cap;rw [dN] at hc;exact hc
theorem aKI[O Φ]{slot}{s:cz}(hs:s.length<=65536)(y:Ctx W w S Φ){K:Dn}(hk:∀ w',Ctx W w' S Φ->K (.returned (.string (bs (eR slot s.length)))) w'):Γ F.Tn #[.int .i64 (slot:Int),.string (bs s)] w K:=by
 refine ak (aCW (slot:Int) (bs s) (J:=K∘.returned) y λk0=>fD (λp n cap fH R' η k=>∃ j:Nat,j+k=4/\n=((eR slot s.length).take (j+1)).length/\fH=((s.length / 256 ^ j:Nat):Int)/\R'=.buf p n cap (iS ((eR slot s.length).take (j+1))) 5 1 :: S/\η=Φ)
  ⟨⟨_,Φ,4,δ,λw G y=>?_,0,rfl,rfl,by rw [dN];simp,rfl,rfl⟩,?_⟩)
 .rw [aC8] at y;exact y.aAy 0 1 1 rfl rfl (by simp [maxLen])
 rintro p n cap fH aW Φ k st ⟨j,tI,rfl,rfl,rfl,rfl⟩;have Vf:(eR slot s.length).length=5:=rfl;have hlen:((eR slot s.length).take (j+1)).length=j+1:=by rw [List.length_take,Vf];omega
 refine γ.intro (λhlt=>?_) (λhge=>λw G y=>?_)
 .have hlt:=aN hlt;rw [hlen] at hlt;obtain ⟨k,rfl⟩:∃ m,k=m+1:=⟨k - 1,by omega⟩;intro g w G y;rw [aC8] at y;obtain ⟨p',cap',w',hr,c2⟩:=aOY (S:=S++G) (by rw [hlen];omega) y;have e:(eR slot s.length).take (j+1)++[(s.length / 256 ^ j).toUInt8]=(eR slot s.length).take (j+1+1):=by
   have:(eR slot s.length)[j+1]? = some (s.length / 256 ^ j).toUInt8:=by
    have hj:j=0\/j=1\/j=2\/j=3:=by omega
    rcases hj with rfl|rfl|rfl|rfl<;>simp [eR]
   rw [List.take_add_one (i:=j+1),this];rfl
  have aKk:((eR slot s.length).take (j+1+1)).length=((eR slot s.length).take (j+1)).length+1:=by rw [<-e,List.length_append];rfl
  rw [e] at c2;refine ⟨p',_,cap',w',hr,.buf p' (((eR slot s.length).take (j+1)).length+1) cap' (iS ((eR slot s.length).take (j+1+1))) 5 1 :: S,Φ,δ,c2,_,λw=>aPz _ w,_,Φ,k,δ,λw G y=>y,⟨j+1,by omega,aKk.symm,?_,rfl,rfl⟩,Nat.lt_succ_self _⟩;rw [Nat.pow_succ,Nat.div_div_eq_div_mul]
 .have hge:=Λ hge;rw [hlen] at hge;have hj:j=4:=by omega
  subst hj;have he:(eR slot s.length).take (4+1)=eR slot s.length:=rfl;rw [he] at y ⊢;refine ⟨_,w,aGx (S:=S++G) (by rw [Vf];omega) y,S,Φ,δ,y.drop1,λw G y=>hk w y.left⟩
end
theorem a4f:∀ (l:List UInt8) (i:Nat),l.get?Internal i=l[i]?
 | [],_=>rfl
 | _ :: _,0=>rfl
 | x :: l,i+1=>by
  show l.get?Internal i=(x :: l)[i+1]?;rw [a4f l i];rfl
def oM(st:gH):Prop:=st.2=true->st.1=[]
theorem aOv(l):oM (l,false):=λh=>by cases h
theorem RY:oM ([],true):=λ_=>rfl
theorem a7Y(e least):qC e least []=none:=by
 unfold qC;simp [Lib.indexByte]
theorem Z9{e least st}(h:oM st):oM (gN e least st).2:=by
 unfold gN;cases hn:qC e least st.1 with
 | none=>exact RY
 | some x =>
  obtain ⟨n,r⟩:=x;intro hb;have hb:st.2=true:=hb;rw [h hb,a7Y] at hn;cases hn
theorem aQK{c st}(h:oM st):oM (xj c st):=by
 obtain ⟨l,b⟩:=st;cases l with
 | nil=>exact RY
 | cons x r =>
  unfold xj;simp only;split
  .intro hb;have:=h hb;cases this
  .exact RY
theorem aOs{st}(h:oM st):oM (eA st).2:=Z9 h
theorem aOu{st}(h:oM st):oM (lC st).2:=Z9 h
theorem aAV{st}(h:oM st):oM (stepT st).2:=by
 unfold stepT;simp only;split
 .exact RY
 .refine aQK λhb=>?_;have:=Z9 (e:=58) (least:=0) h hb;simp only;rw [this,List.drop_nil]
theorem wrap_i64(x):κ (IntKind.i64.wrap x):=by
 unfold κ;simp [IntKind.wrap,IntKind.signed,IntKind.bits];split<;>omega
section
variable {W w:World}{R G S:List Own}{Φ:θ}{b:Nat}{st:gH}
end
theorem Te(a b):bs a++b=bs (a++b.data.toList):=by
 apply ByteArray.ext;apply Array.toList_inj.1;rw [ByteArray.data_append,Array.toList_append];rfl
theorem YF{x}(h:κ x.term)(h2:x.data.size<=200000000000000):(lD x).length<=x.data.size+43:=by
 have h1:=qj h;have h3:=S3 (s:=x.data) (by omega);unfold lD;rw [qq,B8];omega
theorem a9J:∀ {l:List aS},(∀ x∈l,κ x.term/\x.data.size<=1000000)->(kg l).length<=l.length*1000043
 | [],_=>by simp [kg]
 | x :: l,h=>by
  have hx:=h x (by simp);have h1:=YF hx.1 (by omega);have h2:=a9J (l:=l) λU hy=>h U (by simp [hy]);rw [YG,List.length_append,List.length_cons];omega
theorem XV:∀ {l:List Int},(∀ n∈l,κ n)->(mw l).length<=l.length*21
 | [],_=>by simp [mw]
 | n :: l,h=>by
  have h1:=qj (h n (by simp));have h2:=XV (l:=l) λU hy=>h U (by simp [hy]);rw [XU,List.length_append,List.length_cons,qq];omega
theorem aPC{l:List aS}(h:∀ x∈l,κ x.term/\x.data.size<=1000000)(hl:l.length<=1000000)(i):(kg (l.take i)).length<=1000043000000:=by
 have h1:=a9J (l:=l.take i) λU hy=>h U (List.mem_of_mem_take hy);rw [List.length_take] at h1;omega
theorem aKG{m}(h:uH m)(hl:m.ζ.length<=1000000):(vq m).length<=1000:=by
 have h1:=XV h.ints;have h2:=X9 (n:=m.ζ.length) (by unfold κ;omega);have nB:(iY m).length=8:=rfl;unfold vq;rw [List.length_append,qq];omega
abbrev aS.v(x:aS):Value:=.agg #[.int .i64 x.term,.string x.data]
section
variable {Φ:θ}
theorem a26[O Φ](hT:∀ M w,Φ M w->lu M w){x}(h:κ x.term)(h2:x.data.size<=200000000000000):fL Φ prog F.NL #[x.v] (.string (bs (lD x))):=by
 have h1:=qj h;have h3:=S3 (s:=x.data) (by omega);refine rW (aDt x.term x.data) λW R=>λ_=>⟨[],λ_ _=>True,δ,λw G y=>(Ctx.right y).weak λ_ _ _=>trivial,λw G y=>?_⟩;refine (Dw (.inl ⟨hT,h⟩)).Fw y ⟨λw G y=>(Ctx.right y).weak λ_ _ _=>trivial,λw G y=>(a2F (.inl ⟨hT,by unfold κ;omega⟩) (by omega)).Fw y ⟨by show (iJ x.term).size+(n9 x.data).size<=_;omega,λw G y=>⟨rfl,y.left⟩⟩⟩
def a9V:Option aS->Value
 | some x=>.tuple #[x.v,.bool true]
 | none=>.tuple #[.agg #[.int .i64 0,.string (ByteArray.mk #[])],.bool false]
theorem aG7[O Φ](hN:∀ M w,Φ M w->jt M w)(l)(hl:l.length<=900000000000000):fL Φ prog F.YM #[.string (bs l)] (a9V (D2 l)):=by
 have h1:(eA (l,false)).2.1.length<=l.length:=DE 59 (-9223372036854775808) (l,false);refine rW (aDr (bs l)) λW R=>λ_ w G y=>Jr l y λb w y=>⟨_,rfl,rd b (l,false) :: R,Φ,δ,y,λw G y=>?_⟩;refine KB hN (by show l.length<=_;omega) y λw G y=>TP hN (by omega) y λ_ w G y=>?_;have e:(stepT (eA (l,false)).2).2=(sD (l,false)).2:=rfl;rw [e] at y;refine OV y (γ.intro (λhd=>λw G y=>⟨?_,(Ctx.drop1 y).left⟩) (λhd=>λw G y=>⟨?_,(Ctx.drop1 y).left⟩))
 .have hd:tg (sD (l,false)).2=false:=by rw [Bool.not_eq_true'] at hd;exact hd
  unfold D2;rw [if_neg (by rw [hd];simp)];rfl
 .have hd:tg (sD (l,false)).2=true:=by rw [Bool.not_eq_false'] at hd;exact hd
  unfold D2;rw [if_pos hd];rfl
set_option maxHeartbeats 1000000 in
theorem a0m[O Φ](hT:∀ M w,Φ M w->lu M w){m p c}(cL:∀ M w,Φ M w->Δ M w p m.ζ)(hm:uH m)(hl:m.ζ.length<=1000000):fL Φ prog F.NK #[m.v p c] (.string (bs (j5 m))):=by
 have a5Q:=aKG hm hl;have hpre:=aPC hm.ζ hl;have AM:=X9 (n:=m.ζ.length) (by unfold κ;omega);have nB:(iY m).length=8:=rfl;refine .there (λM w h=>(cL M w h).there) λxE=>?_;refine rW (aDp m.kind m.src m.to m.term m.index m.prev m.υ m.yes p m.ζ.length c) λW R=>λ_=>γ.intro (λhy=>?_) (λhy=>?_);all_goals
  refine fD (λst fH R' η k=>∃ i:Nat,fH=i/\i<=8/\st=bs (mw ((iY m).take i))/\R'=R/\η=Φ/\k=8 - i) ⟨⟨R,Φ,_,δ,λw G y=>y,0,rfl,by omega,rfl,rfl,rfl,rfl⟩,?_⟩;rintro st fH aW ψ k _ ⟨i,rfl,hi,rfl,rfl,rfl,rfl⟩;have hpl:=XV (l:=(iY m).take i) λU hy=>hm.ints U (List.mem_of_mem_take hy);rw [List.length_take] at hpl;refine γ.intro (λhlt=>?_) (λhge=>λw G y=>?_)
  .have hlt:i<8:=by have:=aN hlt;omega
   have hIn:κ ((iY m)[i]'(by omega)):=hm.ints _ (List.getElem_mem _);have hs1:=qj hIn;have hst:bs (mw ((iY m).take i))++iJ ((iY m)[i]'(by omega))=bs (mw ((iY m).take (i+1))):=by
    rw [Te,List.take_succ_eq_append_getElem (by omega),aNS,aNT]
   refine ⟨(iY m)[i]'(by omega),⟨by omega,by omega,?_⟩,λw G y=>(Dw (.inl ⟨hT,hIn⟩)).Fw y ⟨by show (bs (mw ((iY m).take i))).size+(iJ ((iY m)[i]'(by omega))).size<=_;rw [dN];omega,by unfold κ;omega,aW,ψ,8 - (i+1),δ,λw G y=>y,⟨i+1,by omega,by omega,hst,rfl,rfl,rfl⟩,by omega⟩⟩;have h8:i=0\/i=1\/i=2\/i=3\/i=4\/i=5\/i=6\/i=7:=by omega
   rcases h8 with rfl|rfl|rfl|rfl|rfl|rfl|rfl|rfl<;>first|rfl|(show _=some (Value.int .i64 (if m.yes=true then 1 else 0));rw [hy];rfl)
  .have hge:i=8:=by have:=Λ hge;omega
   subst hge;have htk:(iY m).take 8=iY m:=List.take_of_length_le (by omega);rw [htk] at hpl ⊢;refine (aFR (.inl ⟨hT,by unfold κ;omega⟩)).Fw y ⟨by show (bs (mw (iY m))).size+(vC (m.ζ.length:Int)).size<=_;rw [dN];omega,?_⟩;have eh:bs (mw (iY m))++vC (m.ζ.length:Int)=bs (vq m++kg (m.ζ.take 0)):=by
    rw [Te,List.take_zero,show kg []=[] from rfl,List.append_nil];rfl
   rw [eh];clear y;refine fD (λst fH R' η k=>∃ j:Nat,fH=j/\j<=m.ζ.length/\st=bs (vq m++kg (m.ζ.take j))/\R'=aW/\η=ψ/\k=m.ζ.length - j) ⟨⟨aW,ψ,_,δ,λw G y=>y,0,rfl,Nat.zero_le _,rfl,rfl,rfl,rfl⟩,?_⟩;rintro st fH dM dF k _ ⟨j,rfl,hj,rfl,rfl,rfl,rfl⟩;have oO:=hpre j;have VL:(bs (vq m++kg (m.ζ.take j))).size=(vq m).length+(kg (m.ζ.take j)).length:=by rw [dN,List.length_append]
   refine γ.intro (λhlt=>?_) (λhge=>λw G y=>⟨?_,y.left⟩)
   .have hlt:j<m.ζ.length:=by have:=aN hlt;omega
    obtain ⟨g,o,rfl⟩:=xE (by omega);have hx:=hm.ζ _ (List.getElem_mem hlt);have hrl:=YF hx.1 (by omega);have hst:bs (vq m++kg (m.ζ.take j))++bs (lD m.ζ[j])=bs (vq m++kg (m.ζ.take (j+1))):=by
     rw [Te,vh,List.take_succ_eq_append_getElem hlt,aPA,aPB,μ]
    refine ⟨⟨by omega,by omega⟩,eu g o rfl λw G y=>⟨m.ζ[j].term,m.ζ[j].data,by rw [Int.toNat_natCast];exact J3 (cL _ _ y.cy) hlt,λ_ w G y=>?_⟩⟩;refine (a26 hT hx.1 (by omega)).Fw y ⟨by show (bs (vq m++kg (m.ζ.take j))).size+(bs (lD m.ζ[j])).size<=_;rw [dN (lD m.ζ[j])];omega,by unfold κ;omega,dM,dF,m.ζ.length - (j+1),δ,λw G y=>y,⟨j+1,by omega,by omega,hst,rfl,rfl,rfl⟩,by omega⟩
   .have hge:j=m.ζ.length:=by have:=Λ hge;omega
    subst hge;rw [List.take_length];rfl
end
section
variable {W w:World}{S G:List Own}{Φ:θ}{b:Nat}{st:gH}
theorem Bn[O Φ](cL:∀ M w,Φ M w->jt M w){n s}(e:eA st=(n,s))(hl:st.1.length<=1000000)(c:Ctx W w (rd b st :: S++G) Φ){K:Int->List Own->θ->Prop}(hk:K n (rd b s :: S) Φ):
  Γ F.sP #[ε b 0] w λe w'=>∃ n,e=.returned (.int .i64 n)/\∃ R' η,O η/\Ctx W w' (R'++G) η/\K n R' η :=
 KB cL (by omega) c (by rw [e];exact hk)
theorem aG5[O Φ](cL:∀ M w,Φ M w->jt M w){n s}(e:lC st=(n,s))(hl:st.1.length<=1000000)(c:Ctx W w (rd b st :: S++G) Φ){K:Int->List Own->θ->Prop}(hk:K n (rd b s :: S) Φ):
  Γ F.JP #[ε b 0] w λe w'=>∃ n,e=.returned (.int .i64 n)/\∃ R' η,O η/\Ctx W w' (R'++G) η/\K n R' η :=
 TO cL (by omega) c (by rw [e];exact hk)
end
theorem D0(st):∃ n s,eA st=(n,s)/\κ n/\s.1.length<=st.1.length/\(oM st->oM s):=by
 have h1:=a9D st;have h2:(eA st).2.1.length<=st.1.length:=DE 59 (-9223372036854775808) st;have h3:=λh=>aOs (st:=st) h;exact ⟨(eA st).1,(eA st).2,rfl,h1,h2,h3⟩
theorem aOt(st):∃ n s,lC st=(n,s)/\s.1.length<=st.1.length/\(oM st->oM s):=by
 have h2:(lC st).2.1.length<=st.1.length:=DE 59 0 st;have h3:=λh=>aOu (st:=st) h;exact ⟨(lC st).1,(lC st).2,rfl,h2,h3⟩
structure Head(l:List UInt8)(n0 n1 n2 cN b6 n5 bg n7 N:Int)(s0 s1 s2 en dL iB jm r6 cE:gH):Prop where
 e0:eA (l,false)=(n0,s0)
 e1:eA s0=(n1,s1)
 e2:eA s1=(n2,s2)
 bI:eA s2=(cN,en)
 bL:eA en=(b6,dL)
 bz:eA dL=(n5,iB)
 eX:eA iB=(bg,jm)
 iT:eA jm=(n7,r6)
 uZ:lC r6=(N,cE)
 i:(κ n0/\κ n1/\κ n2/\κ cN)/\κ b6/\κ n5/\κ bg
 len:(s0.1.length<=l.length/\s1.1.length<=l.length/\s2.1.length<=l.length/\en.1.length<=l.length)/\dL.1.length<=l.length/\iB.1.length<=l.length/\jm.1.length<=l.length/\r6.1.length<=l.length/\cE.1.length<=l.length
 ok:oM cE
theorem aKH(l):∃ n0 n1 n2 cN b6 n5 bg n7 N s0 s1 s2 en dL iB jm r6 cE,Head l n0 n1 n2 cN b6 n5 bg n7 N s0 s1 s2 en dL iB jm r6 cE:=by
 obtain ⟨n0,s0,e0,i0,l0,o0⟩:=D0 (l,false);obtain ⟨n1,s1,e1,i1,l1,o1⟩:=D0 s0;obtain ⟨n2,s2,e2,i2,l2,o2⟩:=D0 s1;obtain ⟨cN,en,bI,i3,l3,gz⟩:=D0 s2;obtain ⟨b6,dL,bL,i4,l4,aNV⟩:=D0 en;obtain ⟨n5,iB,bz,i5,aMM,aNW⟩:=D0 dL;obtain ⟨bg,jm,eX,i6,aMN,aNX⟩:=D0 iB;obtain ⟨n7,r6,iT,i7,aMO,aNY⟩:=D0 jm;obtain ⟨N,cE,uZ,iW,aNZ⟩:=aOt r6;have l0:s0.1.length<=l.length:=l0;exact ⟨n0,n1,n2,cN,b6,n5,bg,n7,N,s0,s1,s2,en,dL,iB,jm,r6,cE,e0,e1,e2,bI,bL,bz,eX,iT,uZ,⟨⟨i0,i1,i2,i3⟩,i4,i5,i6⟩,⟨⟨l0,by omega,by omega,by omega⟩,by omega,by omega,by omega,by omega,by omega⟩,aNZ (aNY (aNX (aNW (aNV (gz (o2 (o1 (o0 (aOv l))))))))) ⟩
section
variable {l:List UInt8}{n0 n1 n2 cN b6 n5 bg n7 N:Int}{s0 s1 s2 en dL iB jm r6 cE:gH}
theorem Head.read(h:Head l n0 n1 n2 cN b6 n5 bg n7 N s0 s1 s2 en dL iB jm r6 cE){acc st}(hr:xe N.toNat cE []=(acc,st)):
  sB l=if tg st=true/\j5 ⟨n0,n1,n2,cN,b6,n5,bg,decide (n7=1),acc⟩=l then some ⟨n0,n1,n2,cN,b6,n5,bg,decide (n7=1),acc⟩ else none:=by
 have e:CN 8 (l,false)=([n0,n1,n2,cN,b6,n5,bg,n7],r6):=by
  simp only [CN,h.e0,h.e1,h.e2,h.bI,h.bL,h.bz,h.eX,h.iT]
 unfold sB;rw [e];unfold ZI;simp only;rw [h.uZ];simp only;rw [hr];rfl
theorem Head.msg(h:Head l n0 n1 n2 cN b6 n5 bg n7 N s0 s1 s2 en dL iB jm r6 cE){acc}(ha:∀ x∈acc,κ x.term/\x.data.size<=1000000):uH ⟨n0,n1,n2,cN,b6,n5,bg,decide (n7=1),acc⟩:=by
 obtain ⟨⟨i0,i1,i2,i3⟩,i4,i5,i6⟩:=h.i;refine ⟨λn hn=>?_,ha⟩;have hn:n∈[n0,n1,n2,cN,b6,n5,bg,if decide (n7=1)=true then 1 else 0]:=hn;simp only [List.mem_cons,List.not_mem_nil,or_false] at hn;rcases hn with rfl|rfl|rfl|rfl|rfl|rfl|rfl|rfl;all_goals first|assumption|(split<;>(unfold κ;omega))
end
theorem a2X{W w S}{Φ:θ}[O Φ]{p c k acc x}(hl:acc.length<10000000)(y:Ctx W w (.blk k [.int .i64 x.term,.string x.data] 76 :: .buf p acc.length c (dZ acc) 76 2 :: S) Φ):
  ∃ p' c' w',Sem.run prog (builtin Builtin.append #[43,43] 43 #[false,false] #[.slice p acc.length c,.slice (some ⟨k,0,none⟩) 1 1]) w=.ok (.value (.slice p' (acc++[x]).length c')) w'/\Ctx W w' (.buf p' (acc++[x]).length c' (dZ (acc++[x])) 76 2 :: S) Φ:=by
 obtain ⟨p',c',w',hr,_,lQ⟩:=y.yM (ts:=43) (ty:=43) (kb:=#[false,false]) (bytes:=24) (P:=prog) (by kernel_rfl) (by omega) rfl rfl (by omega) (by omega);have ea:(acc++[x]).length=acc.length+1:=by rw [List.length_append];rfl
 have eb:dZ acc++[Value.int .i64 x.term,Value.string x.data]=dZ (acc++[x]):=by rw [Rb];rfl
 refine ⟨p',c',w',by rw [ea];exact hr,?_⟩;rw [eb,<-ea] at lQ;exact lQ
set_option maxHeartbeats 4000000 in
theorem aG6{W w S}{Φ:θ}[O Φ](hN:∀ M w,Φ M w->jt M w)(l)(hl:l.length<=1000000)(y:Ctx W w S Φ){K}(h0:∀ w',sB l=none->Ctx W w' S Φ->K (.returned (.tuple #[Ak.v none 0,.bool false])) w')(h1:∀ m p c w',sB l=some m->uH m->m.ζ.length<=l.length->m.ζ.length<=c->c<=maxLen->Ctx W w' S (λM w=>Φ M w/\Δ M w p m.ζ)->K (.returned (.tuple #[m.v p c,.bool true])) w'):
  Γ F.YL #[.string (bs l)] w K:=by
 obtain ⟨n0,n1,n2,cN,b6,n5,bg,n7,N,s0,s1,s2,en,dL,iB,jm,r6,cE,H⟩:=aKH l;obtain ⟨⟨l0,l1,l2,l3⟩,l4,aMM,aMN,aMO,iW⟩:=H.len;refine ak (aDs (bs l) (J:=K∘.returned) y ?_);clear y;refine λ_ w G y=>Jr l y λb w y=>⟨_,rfl,rd b (l,false) :: S,Φ,δ,y,λw G y=>Bn hN H.e0 (by show l.length<=_;omega) y λw G y=>Bn hN H.e1 (by omega) y λw G y=>Bn hN H.e2 (by omega) y λw G y=>Bn hN H.bI (by omega) y λw G y=>Bn hN H.bL (by omega) y λw G y=>Bn hN H.bz (by omega) y λw G y=>Bn hN H.eX (by omega) y λw G y=>Bn hN H.iT (by omega) y λ_ w G y=>aG5 hN H.uZ (by omega) y ?_⟩
 clear y;refine fD (λa0 a1 a2 a3 a4 a5 a6 U p n c R' η k=>∃ (acc:List aS) (st:gH),((n0=a0/\n1=a1/\n2=a2/\cN=a3)/\b6=a4/\n5=a5/\bg=a6/\decide (n7=1)=U)/\n=acc.length/\xe (N.toNat - acc.length) st acc=xe N.toNat cE []/\acc.length<=N.toNat/\acc.length+st.1.length<=l.length/\(∀ x∈acc,κ x.term/\x.data.size<=l.length)/\R'=rd b st :: .buf p n c (dZ acc) 76 2 :: S/\η=Φ/\k=st.1.length)
  ⟨⟨rd b cE :: .buf none 0 0 [] 76 2 :: S,Φ,_,δ,λw G y=>(Ctx.yp y 76 2).swap,[],cE,⟨⟨rfl,rfl,rfl,rfl⟩,rfl,rfl,rfl,rfl⟩,rfl,by rw [List.length_nil,Nat.sub_zero],by simp,by simp only [List.length_nil];omega,λx hx=>(by cases hx),rfl,rfl,rfl⟩,?_⟩
 rintro a0 a1 a2 a3 a4 a5 a6 U p n c aW ψ k _ ⟨acc,st,⟨⟨rfl,rfl,rfl,rfl⟩,rfl,rfl,rfl,rfl⟩,rfl,hK,hle,hlen,hsz,rfl,rfl,rfl⟩;refine γ.intro (λhlt=>λw G y=>TC y (γ.intro (λhpos=>?body) (λhnot=>?aJQ))) (λhge=>?aJR)
 case body =>
  have hlt:acc.length<N.toNat:=by have:=aN hlt;omega
  have hne:st.1≠[]:=λh=>by rw [h] at hpos;have:=aN hpos;simp at this
  obtain ⟨m,hm⟩:∃ m,N.toNat - acc.length=m+1:=⟨N.toNat - acc.length - 1,by omega⟩;rw [hm,YH,if_neg hne] at hK;have he:=aP6 hne;have hd:=aP5 st;have ht:=aP7 st;have ha:(eA st).2.1.length<=st.1.length:=DE 59 (-9223372036854775808) st;have any:∀ {w:World} {R G:List Own} {Ψ:θ} [O Ψ],Ctx W w (R++G) Ψ->Ctx W w ([]++G) (λ_ _=>True):=λy=>(Ctx.right y).weak λ_ _ _=>trivial;refine ⟨[],λ_ _=>True,δ,λw G y=>any y,λw G y=>KB hN (by omega) y ⟨λw G y=>any y,λw G y=>TP hN (by omega) y ⟨λw G y=>any y,λk=>⟨λw G y=>any y,λw G y=>?_⟩⟩⟩⟩
  obtain ⟨x,s',hx⟩:∃ x s',sD st=(x,s'):=⟨_,_,rfl⟩;rw [hx] at he hd ht hK;have e1:(eA st).1=x.term:=by have:=congrArg (λz=>z.1.term) hx;exact this
  have e2:(stepT (eA st).2).1=x.data:=by have:=congrArg (λz=>z.1.data) hx;exact this
  have bI:(stepT (eA st).2).2=s':=by have:=congrArg (λz=>z.2) hx;exact this
  simp only at he hd ht hK;rw [e1,e2,bI] at y;have ep:Ctx W w (.blk k [.int .i64 x.term,.string x.data] 76 :: .buf p acc.length c (dZ acc) 76 2 :: rd b s' :: (S++G)) ψ:=Ctx.perm y (List.Perm.cons _ (List.Perm.swap _ _ _));obtain ⟨p',c',w',hr,lQ⟩:=a2X (by omega) ep;have ea:(acc++[x]).length=acc.length+1:=by rw [List.length_append];rfl
  exact ⟨p',_,c',w',hr,rd b s' :: .buf p' (acc++[x]).length c' (dZ (acc++[x])) 76 2 :: S,ψ,δ,lQ.swap,_,ψ,s'.1.length,δ,λw G y=>y,⟨acc++[x],s',⟨⟨rfl,rfl,rfl,rfl⟩,rfl,rfl,rfl,rfl⟩,rfl,by rw [ea,show N.toNat - (acc.length+1)=m by omega];exact hK,by omega,by omega,λz hz=>by
   rcases List.mem_append.1 hz with hz|hz
   .exact hsz z hz
   .rw [List.mem_singleton.1 hz];exact ⟨ht,by omega⟩,rfl,rfl,rfl⟩,he⟩
 case' aJQ =>
  have uo:xe N.toNat cE []=(acc,st):=by
   rw [<-hK];exact aPD _ _ _ (List.eq_nil_of_length_eq_zero (by have:=Λ hnot;omega))
  clear hnot hlt y w G
 case' aJR =>
  have uo:xe N.toNat cE []=(acc,st):=by
   rw [<-hK,show N.toNat - acc.length=0 by have:=Λ hge;omega];rfl
  clear hge
 all_goals
  have hrd:=H.read uo;have QZ:=H.msg (acc:=acc) λx hx=>⟨(hsz x hx).1,by have:=(hsz x hx).2;omega⟩;refine λw G y=>OV y (γ.intro (λhd=>λw G y=>?_) (λhd=>λw G y=>?_))
  .have ep:Ctx W w (S++G) ψ:=y.drop1.drop1;refine h0 w ?_ ep.left;rw [hrd,if_neg λh=>by rw [h.1] at hd;cases hd]
  .have hd:tg st=true:=by rw [Bool.not_eq_false'] at hd;exact hd
   rw [hd] at hrd;obtain ⟨c4,hs,hna,hca,hcm⟩:=Ctx.freeze (α:=aS) (l:=acc) (S:=rd b st :: (S++G)) y.swap (Ik λx hx=>⟨(hsz x hx).1,by have:=(hsz x hx).2;unfold maxLen;omega⟩);have ep:Ctx W w (rd b st :: S++G) (λM w=>ψ M w/\Δ M w p acc):=c4.add hs;have aTV:O (λM w=>ψ M w/\Δ M w p acc):=vv ψ (λM w=>Δ M w p acc);refine (a0m (Φ:=λM w=>ψ M w/\Δ M w p acc) (m:=⟨n0,n1,n2,cN,b6,n5,bg,decide (n7=1),acc⟩) (c:=c) (λM w h=>(hN M w h.1).1) (λM w h=>h.2) QZ (by show acc.length<=_;omega)).Fw ep (γ.intro (λhne=>λw G y=>?_) (λheq=>λw G y=>?_))
   .have hne:¬ j5 ⟨n0,n1,n2,cN,b6,n5,bg,decide (n7=1),acc⟩=l:=λh=>aN hne (by rw [h]);have lQ:Ctx W w (S++G) (λM w=>ψ M w/\Δ M w p acc):=y.drop1;exact h0 w (by rw [hrd,if_neg λh=>hne h.2]) (lQ.left.weak λM w h=>h.1)
   .have heq:j5 ⟨n0,n1,n2,cN,b6,n5,bg,decide (n7=1),acc⟩=l:=PN.1 (Decidable.not_not.1 (Λ heq));have lQ:Ctx W w (S++G) (λM w=>ψ M w/\Δ M w p acc):=y.drop1;exact h1 ⟨n0,n1,n2,cN,b6,n5,bg,decide (n7=1),acc⟩ p c w (by rw [hrd,if_pos ⟨rfl,heq⟩]) QZ (by show acc.length<=_;omega) (by show acc.length<=c;omega) hcm lQ.left
abbrev jO:θ:=Bq prog "errata/cell.offsets" .i64 [0,64,131072]
theorem a7a{M w}(h:jO M w){n}(hn:n<3):w.cell? ⟨0,n,none⟩=some (.int .i64 (dY n:Int)):=by
 have:=Lib.TabIs.cell h.1 (g:=0) (by kernel_rfl) n hn;rw [this];have hj:n=0\/n=1\/n=2:=by omega
 rcases hj with rfl|rfl|rfl<;>rfl
abbrev a3b(q:ld)(c:pT):List Value:=[ε q.db 0,.int .i64 c.file,.int .i64 (c.slot:Int),.string (bs c.value),.bool c.sure]
abbrev aP(cb:Nat)(q:ld)(c:pT):Own:=.blk cb (a3b q c) 138
theorem YD{d q}(hq:cG q d)(f a n):(cj d f a n).1.length<=16777216:=by
 unfold cj;split
 .exact Nat.zero_le _
 .split
  .exact Nat.zero_le _
  .show (((d.files f).now.drop a.toNat).take n.toNat).length<=_;have:=(hq.size f).1;rw [List.length_take,List.length_drop];omega
section
variable {W w:World}{S G:List Own}{Φ:θ}
theorem a0n[O Φ]{cb q c}(y:Ctx W w (aP cb q c :: S) Φ){K}(hk:∀ w',Ctx W w' (aP cb q c :: S) Φ->K (.returned (.tuple #[.string (bs c.value),.bool (decide (0<c.slot))])) w'):Γ F.PU #[ε cb 0] w K:=by
 refine ak (aCT cb 0 (J:=K∘.returned) y λw G y=>⟨_,y.get 0 rfl rfl,_,y.get 0 rfl rfl,λw G y=>?_⟩);have:decide ((0:Int)<(c.slot:Int))=decide (0<c.slot):=decide_eq_decide.2 (by omega);rw [this];exact hk w y.left
theorem a0o[O Φ]{q d}(hq:cG q d)(hoff:∀ M w,Φ M w->jO M w){file}(y:Ctx W w (ξ q d++S) Φ){K}(hn:∀ e w',qD d file=(none,e)->Ctx W w' (ξ q d++S) Φ->K (.returned (.tuple #[.pointer none,.int .i64 e])) w')(hs:∀ c cb w',qD d file=(some c,0)->Ctx W w' (aP cb q c :: (ξ q d++S)) Φ->K (.returned (.tuple #[ε cb 0,.int .i64 0])) w'):
  Γ F.PW #[ε q.db 0,.int .i64 file] w K:=by
 refine ak (aCV q.db 0 file (J:=K∘.returned) y λcb w G y=>?_);have y:Ctx W w (aP cb q ⟨file,0,[],false⟩ :: (ξ q d++(S++G))) Φ:=by
  have:aP cb q ⟨file,0,[],false⟩ :: (ξ q d++(S++G))=(aP cb q ⟨file,0,[],false⟩ :: (ξ q d++S))++G:=by rw [<-μ];rfl
  rw [this];exact y
 refine So (S:=aP cb q ⟨file,0,[],false⟩ :: (S++G)) hq (y.perm List.perm_middle.symm) λw y=>?_;have qd:qD d file=qD d file:=rfl;unfold qD at hn hs;generalize hr:cj d file 0 5=r at hn hs;obtain ⟨h,e⟩:=r;simp only at hn hs;have y:Ctx W w ((aP cb q ⟨file,0,[],false⟩ :: (ξ q d++S))++G) Φ:=by
  have:(aP cb q ⟨file,0,[],false⟩ :: (ξ q d++S))++G=aP cb q ⟨file,0,[],false⟩ :: (ξ q d++(S++G)):=by rw [<-μ];rfl
  rw [this];exact y.perm List.perm_middle
 have aT1:h.length<=5:=by
  have:h=(cj d file 0 5).1:=by rw [hr]
  rw [this];unfold cj;split
  .exact Nat.zero_le _
  .split
   .exact Nat.zero_le _
   .show (List.take 5 _).length<=5;rw [List.length_take];omega
 have rY:∀ i,i<h.length->(bs h).data.toList.get?Internal i=some (h.getD i 0):=λi hi=>by
  rw [vh,a4f,List.getD_eq_getElem?_getD,List.getElem?_eq_getElem hi];rfl
 refine ⟨_,_,rfl,aP cb q ⟨file,0,[],false⟩ :: (ξ q d++S),Φ,δ,y,γ.intro (λhe=>λw G y=>?_) (λhe=>λw G y=>⟨h.getD 0 0,λh0=>⟨Int.le_refl 0,rY 0 ?_⟩,γ.intro (λh1=>λw G y=>?_) (λh1=>λw G y=>?_)⟩)⟩
 .rw [if_pos (aN he)] at hn;exact hn e w rfl y.drop1.left
 .exact List.length_pos_iff.2 λe=>by rw [e] at h0;simp [KQ] at h0
 .have he:=Λ he;have h1:h=[]\/h.getD 0 0=0:=by
   simp only [Bool.or_eq_true,decide_eq_true_eq,KQ] at h1;rcases h1 with h1|h1
   .exact .inl h1
   .exact .inr (UInt8.toNat_inj.1 (by simpa using h1))
  rw [if_neg he,if_pos h1] at hs;exact hs _ cb w rfl y.left
 .have he:=Λ he;have h1:¬ (h=[]\/h.getD 0 0=0):=λh'=>by
   simp only [Bool.or_eq_false_iff,decide_eq_false_iff_not,KQ] at h1;rcases h' with h'|h'
   .exact h1.1 h'
   .exact h1.2 (by rw [h'];rfl)
  have h0:0<h.length:=List.length_pos_iff.2 λe=>h1 (.inl e);have hne:∀ n:UInt8,(h.getD 0 0≠n) ↔ ¬ ((h.getD 0 0).toNat:Int)=(n.toNat:Int):=λn=>not_congr ⟨λe=>by rw [e],λe=>UInt8.toNat_inj.1 (by omega)⟩;rw [if_neg he,if_neg h1] at hn hs;refine ⟨h.getD 0 0,λ_=>⟨Int.le_refl 0,rY 0 h0⟩,h.getD 0 0,λ_=>⟨Int.le_refl 0,rY 0 h0⟩,γ.intro (λh2=>λw G y=>?_) (λh2=>?_)⟩
  .have h2:h.length<5\/h.getD 0 0≠1/\h.getD 0 0≠2:=by
    rw [dN] at h2;simp only [Bool.or_eq_true,Bool.and_eq_true,decide_eq_true_eq] at h2;rcases h2 with h2|h2
    .exact .inl (by omega)
    .exact .inr ⟨(hne 1).2 h2.1,(hne 2).2 h2.2⟩
   rw [if_pos h2] at hn;exact hn 2 w rfl y.drop1.left
  have h2:¬ (h.length<5\/h.getD 0 0≠1/\h.getD 0 0≠2):=λh'=>by
   rw [dN] at h2;simp only [Bool.or_eq_false_iff,Bool.and_eq_false_iff,decide_eq_false_iff_not] at h2;rcases h' with h'|h'
   .exact h2.1 (by omega)
   .rcases h2.2 with h3|h3
    .exact h3 ((hne 1).1 h'.1)
    .exact h3 ((hne 2).1 h'.2)
  have Vf:h.length=5:=by omega
  have AP:(h.getD 0 0).toNat=1\/(h.getD 0 0).toNat=2:=by
   by_cases e1:h.getD 0 0=1
   .left;rw [e1];rfl
   .by_cases e2:h.getD 0 0=2
    .right;rw [e2];rfl
    .exact absurd (.inr ⟨e1,e2⟩) h2
  rw [if_neg h2] at hn hs;refine fD (λgK iZ R' η k=>∃ j:Nat,j+k=4/\iZ=(k:Int)/\gK=(Cz h j:Int)/\R'=aP cb q ⟨file,0,[],false⟩ :: (ξ q d++S)/\η=Φ) ⟨⟨_,Φ,4,δ,λw G y=>y,0,rfl,rfl,rfl,rfl,rfl⟩,?_⟩;rintro gK iZ aW Φ k st ⟨j,tI,rfl,rfl,rfl,rfl⟩;refine γ.intro (λhlt=>?_) (λhge=>?_)
  .have hlt:=aN hlt;obtain ⟨k,rfl⟩:∃ m,k=m+1:=⟨k - 1,by omega⟩;have hp:=a8e h j;have hp:Cz h j<16777216:=Nat.lt_of_lt_of_le hp (by
    have:(256:Nat) ^ j<=256 ^ 3:=Nat.pow_le_pow_right (by decide) (by omega);exact this)
   have hb:=(h.getD (k+1) 0).toNat_lt;refine ⟨_,λw=>aPy _ hp w,h.getD (k+1) 0,⟨by omega,by rw [Int.toNat_natCast];exact rY (k+1) (by omega)⟩,_,λw=>(by rw [aC7];exact aNv _ _ hp (by omega) w),by unfold κ;omega,_,Φ,k,δ,λw G y=>y,⟨j+1,by omega,by omega,?_,rfl,rfl⟩,Nat.lt_succ_self _⟩;show _=((Cz h j*256+(h.getD (4 - j) 0).toNat:Nat):Int);rw [show 4 - j=k+1 by omega]
  .have hge:=Λ hge;have hj:j=4:=by omega
   subst hj;rw [aOA];refine γ.intro (λh3=>λw G y=>?_) (λh3=>⟨h.getD 0 0,⟨Int.le_refl 0,rY 0 h0⟩,λw G y=>⟨y.can 0 rfl (by show 2+1<=5;omega),λw' hw'=>?_⟩⟩)
   .have h3:65536<tF h:=by have:=aN h3;omega
    rw [if_pos h3] at hn;exact hn 2 w rfl y.drop1.left
   have h3:¬ 65536<tF h:=by have:=Λ h3;omega
   rw [if_neg h3] at hn hs;rw [aC7] at hw';have c1:=y.put 0 hw' rfl;have hs3:(h.getD 0 0).toNat<3:=by omega
   refine ⟨aP cb q ⟨file,(h.getD 0 0).toNat,[],false⟩ :: (ξ q d++S),Φ,δ,c1,λw G y=>⟨((h.getD 0 0).toNat:Int),y.get 0 rfl rfl,⟨by omega,by omega⟩,λw G y=>⟨(dY (h.getD 0 0).toNat:Int),by rw [Int.toNat_natCast,Nat.zero_add];exact a7a (hoff _ _ y.cy) hs3,λw G y=>?_⟩⟩⟩;have y:Ctx W w (aP cb q ⟨file,(h.getD 0 0).toNat,[],false⟩ :: (ξ q d++(S++G))) Φ:=by
    have:aP cb q ⟨file,(h.getD 0 0).toNat,[],false⟩ :: (ξ q d++(S++G))=(aP cb q ⟨file,(h.getD 0 0).toNat,[],false⟩ :: (ξ q d++S))++G:=by rw [<-μ];rfl
    rw [this];exact y
   have hlr:=YD hq file (dY (h.getD 0 0).toNat:Int) (tF h:Int);refine So (S:=aP cb q ⟨file,(h.getD 0 0).toNat,[],false⟩ :: (S++G)) hq (y.perm List.perm_middle.symm) λw y=>?_;generalize cj d file (dY (h.getD 0 0).toNat:Int) (tF h:Int)=r2 at hn hs hlr;obtain ⟨v,e2⟩:=r2;simp only at hn hs hlr;have y:Ctx W w ((aP cb q ⟨file,(h.getD 0 0).toNat,[],false⟩ :: (ξ q d++S))++G) Φ:=by
    have:(aP cb q ⟨file,(h.getD 0 0).toNat,[],false⟩ :: (ξ q d++S))++G=aP cb q ⟨file,(h.getD 0 0).toNat,[],false⟩ :: (ξ q d++(S++G)):=by rw [<-μ];rfl
    rw [this];exact y.perm List.perm_middle
   refine ⟨bs v,e2,rfl,_,Φ,δ,y,λw G y=>⟨y.can 0 rfl (by show 3+1<=5;omega),λw' hw'=>?_⟩⟩;have c2:=y.put 0 hw' rfl;refine ⟨aP cb q ⟨file,(h.getD 0 0).toNat,v,false⟩ :: (ξ q d++S),Φ,δ,c2,λw G y=>⟨bs v,λ_=>y.get 0 rfl rfl,γ.intro (λh4=>λw G y=>?_) (λh4=>γ.intro (λh5=>λw G y=>?_) (λh5=>λw G y=>?_))⟩⟩
   .rw [dN] at h4;simp only [Bool.and_eq_true,decide_eq_true_eq] at h4;rw [if_neg (by omega),if_pos (by omega)] at hn;exact hn 2 w rfl y.drop1.left
   .have h5:=aN h5;rw [if_pos h5] at hn;exact hn e2 w rfl y.drop1.left
   .have h5:=Λ h5;rw [dN] at h4;simp only [Bool.and_eq_false_iff,decide_eq_false_iff_not] at h4;rw [if_neg h5,if_neg (by omega)] at hs;exact hs _ cb w rfl y.left
end
section
variable {W w:World}{S G:List Own}{Φ:θ}
theorem Ff[O Φ]{o X S G}(y:Ctx W w ((o :: (X++S))++G) Φ):Ctx W w (X++(o :: (S++G))) Φ:=(YB y).perm List.perm_middle.symm
theorem Fg[O Φ]{o X S G}(y:Ctx W w (X++(o :: (S++G))) Φ):Ctx W w ((o :: (X++S))++G) Φ:=RZ (y.perm List.perm_middle)
theorem aPr{d c s}(h:¬ 65536<s.length)(h2:¬ (c.sure=false/\0<c.slot)):kE d c s=vH d c s (if c.slot=1 then 2 else 1):=by
 unfold kE;rw [if_neg h,if_neg h2]
theorem a0p[O Φ]{cb q d c s}(hq:cG q d)(hkp:gk Φ q d)(hoff:∀ M w,Φ M w->jO M w)(y:Ctx W w (aP cb q c :: (ξ q d++S)) Φ){K}(hk:∀ u w',cG (q.mv u) (kE d c s).1->Ctx W w' (aP cb q (kE d c s).2.1 :: (ξ (q.mv u) (kE d c s).1++S)) Φ->K (.returned (.int .i64 (kE d c s).2.2)) w'):Γ F.PV #[ε cb 0,.string (bs s)] w K:=by
 refine ak (aCU cb 0 (bs s) (J:=K∘.returned) y (γ.intro (λh=>λw G y=>?_) (λh=>fD (λR' η=>∃ u d1 c1,R'=aP cb q c1 :: (ξ (q.mv u) d1++S)/\η=Φ/\cG (q.mv u) d1/\d1.keep=d.keep/\kE d c s=vH d1 c1 s (if c1.slot=1 then 2 else 1)) ⟨λw G y=>⟨_,y.get 0 rfl rfl,_,λ_=>y.get 0 rfl rfl,γ.intro (λh2=>?_) (λh2=>?_)⟩,?_⟩)))
 .have h:65536<s.length:=by have:=aN h;rw [dN] at this;omega
  have e:kE d c s=(d,c,6):=by unfold kE;rw [if_pos h]
  rw [e] at hk;exact hk q.un w hq y.left
 all_goals have h:¬ 65536<s.length:=by have:=Λ h;rw [dN] at this;omega
 .have h2:c.sure=false/\0<c.slot:=by
   simp only [Bool.and_eq_true,decide_eq_true_eq,Bool.not_eq_true'] at h2;exact ⟨h2.1,by omega⟩
  refine ⟨_,Φ,δ,λw G y=>y,some ⟨q.db,0,none⟩,λw G y=>⟨_,y.get 0 rfl rfl,rfl⟩,c.file,λw G y=>⟨_,y.get 0 rfl rfl,rfl⟩,λw G y=>?_⟩;have aJ3:kE d c s=if (bN d c.file).2≠0 then ((bN d c.file).1,c,(bN d c.file).2) else vH (bN d c.file).1 { c with sure:=true } s (if c.slot=1 then 2 else 1):=by
   unfold kE;rw [if_neg h,if_pos h2]
  have hkeep:=BD d c.file;refine Gq (S:=aP cb q c :: (S++G)) hq hkp (Ff y) λu w hq1 y=>?_;rw [aJ3] at hk ⊢;generalize bN d c.file=r at hk hq1 y hkeep;obtain ⟨d1,e1⟩:=r;simp only at hk hq1 y hkeep;refine ⟨e1,rfl,aP cb q c :: (ξ (q.mv u) d1++S),Φ,δ,Fg y,γ.intro (λh3=>λw G y=>?_) (λh3=>λw G y=>⟨y.can 0 rfl (by show 4+1<=5;omega),λw' hw'=>?_⟩)⟩
  .rw [if_pos (aN h3)] at hk;exact hk u w hq1 y.left
  .have c1:=y.put 0 hw' rfl;refine ⟨aP cb q { c with sure:=true } :: (ξ (q.mv u) d1++S),Φ,δ,c1,_,Φ,δ,λw G y=>y,u,d1,{ c with sure:=true },rfl,rfl,hq1,hkeep,?_⟩;rw [if_neg (Λ h3)]
 .have h2:¬ (c.sure=false/\0<c.slot):=λh3=>by
   simp only [Bool.and_eq_false_iff,decide_eq_false_iff_not,Bool.not_eq_false'] at h2;rcases h2 with h2|h2
   .rw [h3.1] at h2;cases h2
   .omega
  exact ⟨_,Φ,δ,λw G y=>y,q.un,d,c,rfl,rfl,hq,rfl,aPr h h2⟩
 rintro aW Φ st ⟨u,d1,c1,rfl,rfl,hq1,hkeep,Vz⟩;rw [Vz] at hk;refine fD (λfH R' η=>fH=(((if c1.slot=1 then 2 else 1):Nat):Int)/\R'=aP cb q c1 :: (ξ (q.mv u) d1++S)/\η=Φ) ⟨λw G y=>⟨(c1.slot:Int),y.get 0 rfl rfl,γ.intro (λh3=>⟨_,Φ,δ,λw G y=>y,by rw [if_pos (by have:=aN h3;omega)];rfl,rfl,rfl⟩) (λh3=>⟨_,Φ,δ,λw G y=>y,by rw [if_neg (by have:=Λ h3;omega)];rfl,rfl,rfl⟩)⟩,?_⟩;rintro fH aW Φ st ⟨rfl,rfl,rfl⟩
 have bp:(if c1.slot=1 then 2 else 1)=1\/(if c1.slot=1 then 2 else 1)=2:=by split;exact .inr rfl;exact .inl rfl
 generalize (if c1.slot=1 then 2 else 1)=sl at hk bp;have hs3:sl<3:=by omega
 have Vd:gk Φ (q.mv u) d1:=hkp.of hkeep u;unfold vH at hk;have Lv:=JS d1 c1.file (dY sl) s;refine ⟨_,Φ,δ,λw G y=>y,⟨by omega,by omega⟩,(dY sl:Int),λw G y=>⟨_,by rw [Int.toNat_natCast,Nat.zero_add];exact a7a (hoff _ _ y.cy) hs3,rfl⟩,some ⟨q.db,0,none⟩,λw G y=>⟨_,y.get 0 rfl rfl,rfl⟩,c1.file,λw G y=>⟨_,y.get 0 rfl rfl,rfl⟩,λw G y=>?_⟩;refine TQ (q:=q.mv u) (S:=aP cb q c1 :: (S++G)) hq1 Vd (by omega) (Ff y) λu w cX y=>?_
 generalize ct d1 c1.file (dY sl:Int) s=r at hk cX y Lv;obtain ⟨d2,e2⟩:=r;simp only at hk cX y Lv;refine ⟨e2,rfl,aP cb q c1 :: (ξ (q.mv u) d2++S),Φ,δ,Fg y,γ.intro (λh3=>λw G y=>?_) (λh3=>?_)⟩
 .rw [if_pos (aN h3)] at hk;exact hk u w cX y.left
 rw [if_neg (Λ h3)] at hk;have aKd:gk Φ (q.mv u) d2:=hkp.of (Lv.trans hkeep) u;have hks:=BD d2 c1.file;refine ⟨_,Φ,δ,λw G y=>y,some ⟨q.db,0,none⟩,λw G y=>⟨_,y.get 0 rfl rfl,rfl⟩,c1.file,λw G y=>⟨_,y.get 0 rfl rfl,rfl⟩,λw G y=>?_⟩;refine Gq (q:=q.mv u) (S:=aP cb q c1 :: (S++G)) cX aKd (Ff y) λu w yf y=>?_;generalize bN d2 c1.file=r at hk yf y hks;obtain ⟨d3,bI⟩:=r;simp only at hk yf y hks;refine ⟨bI,rfl,aP cb q c1 :: (ξ (q.mv u) d3++S),Φ,δ,Fg y,γ.intro (λh4=>λw G y=>?_) (λh4=>?_)⟩
 .rw [if_pos (aN h4)] at hk;exact hk u w yf y.left
 rw [if_neg (Λ h4)] at hk;have aKe:gk Φ (q.mv u) d3:=hkp.of (hks.trans (Lv.trans hkeep)) u;have Ve:=JS d3 c1.file 0 (eR sl s.length);refine ⟨_,Φ,δ,λw G y=>y,some ⟨q.db,0,none⟩,λw G y=>⟨_,y.get 0 rfl rfl,rfl⟩,c1.file,λw G y=>⟨_,y.get 0 rfl rfl,rfl⟩,λw G y=>?_⟩;refine aKI (S:=(aP cb q c1 :: (ξ (q.mv u) d3++S))++G) (by omega) y λw y=>⟨_,rfl,aP cb q c1 :: (ξ (q.mv u) d3++S),Φ,δ,y,λw G y=>y,λw G y=>?_⟩
 refine TQ (q:=q.mv u) (S:=aP cb q c1 :: (S++G)) yf aKe (by show 5<=_;omega) (Ff y) λu w Qc y=>?_;generalize ct d3 c1.file 0 (eR sl s.length)=r at hk Qc y Ve;obtain ⟨d4,bL⟩:=r;simp only at hk Qc y Ve;refine ⟨bL,rfl,aP cb q c1 :: (ξ (q.mv u) d4++S),Φ,δ,Fg y,γ.intro (λh5=>λw G y=>?_) (λh5=>λw G y=>⟨y.can 0 rfl (by show 2+1<=5;omega),λw' hw'=>?_⟩)⟩
 .rw [if_pos (aN h5)] at hk;exact hk u w Qc y.left
 rw [if_neg (Λ h5)] at hk;have aKf:gk Φ (q.mv u) d4:=hkp.of (Ve.trans (hks.trans (Lv.trans hkeep))) u;refine ⟨aP cb q { c1 with slot:=sl } :: (ξ (q.mv u) d4++S),Φ,δ,y.put 0 hw' rfl,λw G y=>⟨y.can 0 rfl (by show 3+1<=5;omega),λw' hw'=>?_⟩⟩;refine ⟨aP cb q { c1 with slot:=sl,value:=s } :: (ξ (q.mv u) d4++S),Φ,δ,y.put 0 hw' rfl,λw G y=>⟨y.can 0 rfl (by show 4+1<=5;omega),λw' hw'=>?_⟩⟩;refine ⟨aP cb q ⟨c1.file,sl,s,false⟩ :: (ξ (q.mv u) d4++S),Φ,δ,y.put 0 hw' rfl,?_⟩
 refine ⟨_,Φ,δ,λw G y=>y,some ⟨q.db,0,none⟩,λw G y=>⟨_,y.get 0 rfl rfl,rfl⟩,c1.file,λw G y=>⟨_,y.get 0 rfl rfl,rfl⟩,λw G y=>?_⟩;refine Gq (q:=q.mv u) (S:=aP cb q ⟨c1.file,sl,s,false⟩ :: (S++G)) Qc aKf (Ff y) λu w Vs y=>?_;generalize bN d4 c1.file=r at hk Vs y;obtain ⟨d5,bz⟩:=r;simp only at hk Vs y;refine ⟨bz,rfl,aP cb q ⟨c1.file,sl,s,false⟩ :: (ξ (q.mv u) d5++S),Φ,δ,Fg y,λw G y=>⟨y.can 0 rfl (by show 4+1<=5;omega),λw' hw'=>?_⟩⟩
 exact ⟨aP cb q ⟨c1.file,sl,s,decide (bz=0)⟩ :: (ξ (q.mv u) d5++S),Φ,δ,y.put 0 hw' rfl,λw G y=>hk u w Vs y.left⟩
end
abbrev bX(l:List ByteArray):List Value:=l.map Value.string
theorem o8(l):(bX l).length=l.length:=by simp
theorem aAb(M w cs)(x:ByteArray)(h:aB.rep M w cs x):(cs.all λu=>ga u)=true:=by
 obtain ⟨rfl,_⟩:=h;rfl
theorem L6{M w l}(h:∀ x∈l,x.size<=maxLen):dA M w (bX l) l:=by
 refine ⟨by rw [o8];exact (Nat.mul_one _).symm,λj hj=>⟨?_,h _ (List.getElem_mem hj)⟩⟩;show ((bX l).drop (j*1)).take 1=[.string l[j]];rw [Nat.mul_one,List.drop_eq_getElem_cons (by rw [o8];exact hj),List.take_succ_cons,List.take_zero,List.getElem_map]
theorem ZE{M w cs l}(h:dA M w cs l):cs=bX l:=by
 have h1:cs.length=l.length:=by have:=h.1;rw [this];exact Nat.mul_one _
 apply List.ext_getElem (by rw [h1,o8]);intro i h2 h3;rw [o8] at h3;have:=(h.2 i h3).1;rw [show (aB.ty ByteArray).size=1 from rfl,Nat.mul_one,List.drop_eq_getElem_cons h2,List.take_succ_cons,List.take_zero] at this;rw [List.getElem_map];exact (List.cons.inj this).1
theorem Nf{M w b o l}(h:Δ M w (some ⟨b,o,none⟩) l){i}(hi:i<l.length):w.cell? ⟨b,o+i,none⟩=some (.string l[i]):=by
 obtain ⟨b',o',cs,e,_,h3,rfl,_⟩:=h i hi;cases e;have:=h3 0 (by simp);simpa [show (aB.ty ByteArray).size=1 from rfl] using this
theorem aQ4{M w p}{l:List ByteArray}(h:Δ M w p l)(k):Δ M w p (l.take k):=λj hj=>by
 have hj2:j<l.length:=by rw [List.length_take] at hj;omega
 have:=h j hj2;rw [List.getElem_take];exact this
theorem aO8{W w M b rest t l}(h:vZ W (.blk b (bX l++rest) t) M w)(hs:∀ x∈l,x.size<=maxLen):Δ M w (some ⟨b,0,none⟩) l:=λj hj=>by
 have hr:=h.aPP (o:=j) (vs:=[.string l[j]]) λi hi=>by
  have hi:i=0:=by simp at hi;omega
  subst hi;rw [Nat.add_zero,List.getElem?_append_left (by rw [o8];exact hj),List.getElem?_map,List.getElem?_eq_getElem hj];rfl
 refine ⟨b,0,[.string l[j]],rfl,hr.1,?_,rfl,hs _ (List.getElem_mem hj)⟩;rw [show (aB.ty ByteArray).size=1 from rfl,Nat.zero_add,Nat.mul_one];exact hr.2.1
inductive fY:Option Addr->Nat->List ByteArray->Own->Prop
 | buf (p:Option Addr) (cap:Nat) (l:List ByteArray):fY p cap l (.buf p l.length cap (bX l) 9 1)
 | cut (g:Nat) (l:List ByteArray) (cs:List Value):fY (some ⟨g,0,none⟩) l.length l (.blk g (bX l++cs) 9)
section
variable {W w:World}{S G:List Own}{Φ:θ}{p:Option Addr}{cap:Nat}{l:List ByteArray}{o:Own}
theorem fY.sl[O Φ](h:fY p cap l o){M}(hs:∀ x∈l,x.size<=maxLen)(ha:Go.Vc.lZ W [o] Φ M w):Δ M w p l:=by
 have hp:=ha.parked (o:=o) (by simp);cases h with
 | buf=>exact hp.sl (D:=[]) (L6 hs)
 | cut g l cs=>exact aO8 hp hs
theorem fY.get(h:fY p cap l o)(y:Ctx W w (o :: S) Φ){i}(hi:i<l.length):∃ g,p=some ⟨g,0,none⟩/\w.cell? ⟨g,i,none⟩=some (.string l[i]):=by
 cases h with
 | buf =>
  obtain ⟨g,hg,_,h2⟩:=y.uR 0 rfl (by rw [o8];omega);exact ⟨g,hg,(h2 i _ (by rw [List.getElem?_map,List.getElem?_eq_getElem hi];rfl)).1⟩
 | cut g l cs=>exact ⟨g,rfl,y.get 0 rfl (by rw [List.getElem?_append_left (by rw [o8];exact hi),List.getElem?_map,List.getElem?_eq_getElem hi];rfl)⟩
theorem fY.cutAt[O Φ](h:fY p cap l o)(y:Ctx W w (o :: S) Φ){k}(hk:k<l.length):∃ g o',p=some ⟨g,0,none⟩/\k<=cap/\fY p k (l.take k) o'/\Ctx W w (o' :: S) Φ:=by
 have hlen:(l.take k).length=k:=by rw [List.length_take];omega
 cases h with
 | buf =>
  obtain ⟨b,cur,h1,hb,oP,hnc,hcm,cW,hl⟩:=y.a2p 0 rfl (by rw [o8];omega);have e:cur=bX (l.take k)++cur.drop k:=by
   conv=>lhs;rw [<-List.take_append_drop k cur]
   congr 1
   have:(cur.take (l.length*1)).take k=(bX l).take k:=by rw [oP]
   rw [Nat.mul_one,List.take_take,Nat.min_eq_left (by omega)] at this;rw [this,<-List.map_take]
  have hsb:=fY.cut b (l.take k) (cur.drop k);rw [hlen,<-e] at hsb;subst h1;exact ⟨b,_,rfl,by omega,hsb,y.sI (k:=0) (o':=.blk b cur 9) rfl (bZ.refl _ _) (λx hx=>.inl hx) (Own.nodup _) hb⟩
 | cut g l cs =>
  have hsb:=fY.cut g (l.take k) (bX (l.drop k)++cs);rw [hlen,<-μ,<-List.map_append,List.take_append_drop] at hsb;exact ⟨g,_,rfl,by omega,hsb,y⟩
theorem fY.app[O Φ](h:fY p cap l o)(y:Ctx W w (o :: S) Φ){q c2 l2}(bp:∀ M w,Φ M w->Δ M w q l2)(h0:0<l2.length)(hlen:l.length+l2.length<100000000):
  ∃ p' cap' w' o',Sem.run prog (builtin Builtin.append #[40,40] 40 #[false,false] #[.slice p l.length cap,.slice q l2.length c2]) w=.ok (.value (.slice p' (l.length+l2.length) cap')) w'/\fY p' cap' (l++l2) o'/\Ctx W w' (o' :: S) Φ:=by
 cases h with
 | buf =>
  obtain ⟨p',cap',w',news,hr,_,c'⟩:=y.TZ (P:=prog) (ts:=40) (ty:=40) (kb:=#[false,false]) (bytes:=16) (c2:=c2) (by kernel_rfl) aAb bp h0 hlen (by omega);have e:=ZE c'.cy.2;subst e;have hsb:=fY.buf p' cap' (l++l2);rw [List.length_append] at hsb;refine ⟨p',cap',w',_,hr,hsb,?_⟩;rw [show bX (l++l2)=bX l++bX l2 from List.map_append];exact c'.weak λ_ _ h=>h.1
 | cut g l cs =>
  obtain ⟨i,z,e1,e2,bI,bL,bz,eX⟩:=Bu (P:=prog) (ts:=40) (t:=9) (size:=1) (bytes:=16) (by kernel_rfl);obtain ⟨b2,o2,news,hp,g1,g2,g3,g4⟩:=(bp _ _ y.cy).cells aAb h0;have e:=ZE g3;subst e;subst hp;have holds:∀ j u,(bX l)[j]? = some u->w.cell? ((⟨g,0,none⟩:Addr).add j)=some u:=by
   intro j u hj;rw [addr_add,Nat.zero_add];exact y.get 0 rfl (by rw [List.getElem?_append_left (List.getElem?_eq_some_iff.1 hj).1];exact hj)
  have hr:=run_append_grow (P:=prog) w 40 40 9 i z e1 e2 bI ⟨g,0,none⟩ l.length l.length (bX l) (by rw [bL,o8,Nat.mul_one]) holds ⟨b2,o2,none⟩ l2.length c2 (bX l2) (by rw [bL,o8,Nat.mul_one]) (λj u hj=>by rw [addr_add];exact g2 j u hj) (by omega) (by omega) (growslice_fits (by omega) (by rw [eX];omega));have hge:=grownCap_ge w (l.length+l2.length) l.length 9;have hcm:grownCap w (l.length+l2.length) l.length 9<=maxLen:=grownCap_le_maxLen w (l.length+l2.length) l.length 9 (by simp only [maxLen];omega)
  have hsb:=fY.buf (some ⟨w.heap.size,0,none⟩) (grownCap w (l.length+l2.length) l.length 9) (l++l2);refine ⟨_,_,_,_,zB hr,hsb,?_⟩;refine Ctx.new' (y.drop1.draw 1) _ _ (by simp [Own.dom]) ⟨by rw [o8,Nat.mul_one],.inr ⟨w.heap.size,_,_,by rw [List.length_append],Nat.zero_le _,Ly w.drew _,by rw [List.length_append];exact hge,hcm,?_,?_⟩⟩
  .simp only [Array.size_append,List.size_toArray,size_zeroCells,o8,bz];omega
  .simp only [Array.toList_append,μ];rw [<-μ,show bX (l++l2)=bX l++bX l2 from List.map_append,show (l++l2).length*1=(bX l++bX l2).length by rw [List.length_append,List.length_append,o8,o8,Nat.mul_one]];exact List.take_left
end
def w6:Nat->gH->Int->List ByteArray->List ByteArray × gH
 | 0,st,n,acc=>(acc,st)
 | k+1,st,n,acc=>if (acc.length:Int)<n/\st.1≠[] then w6 k (stepT st).2 n (acc++[(stepT st).1]) else (acc,st)
theorem aAU{st}(h:st.1=[]):(stepT st).2=([],true):=by
 obtain ⟨l,b⟩:=st;simp only at h;subst h;unfold stepT;rw [aAR (a7Y _ _)];rfl
theorem aQO{st}(hok:oM st)(h:st.1≠[]):(stepT st).2.1.length<st.1.length:=by
 have hpos:0<st.1.length:=List.length_pos_iff.2 h;cases hb:(stepT st).2.2 with
 | true =>
  have:=aAV hok hb;rw [this,List.length_nil];exact hpos
 | false =>
  have h1:=(ZM hb).2;have h2:=congrArg List.length h1;rw [List.length_append,J9,List.length_append,List.length_cons,List.length_append,List.length_singleton] at h2;omega
theorem loops:∀ (k:Nat) (st:gH) (n:Int) (acc:List ByteArray),oM st->st.1.length<k ->
  (mq k st n acc).1=(w6 k st n acc).1/\(((w6 k st n acc).1.length:Int)=n->mq k st n acc=w6 k st n acc)/\(((w6 k st n acc).1.length:Int)<n->tg (mq k st n acc).2=false)
 | 0,st,n,acc,_,h=>by omega
 | k+1,st,n,acc,hok,h=>by
  by_cases hn:(acc.length:Int)<n
  .by_cases h0:st.1=[]
   .have e1:mq (k+1) st n acc=(acc,(stepT st).2):=by unfold mq;rw [if_pos hn,if_pos (.inr h0)]
    have e2:w6 (k+1) st n acc=(acc,st):=by unfold w6;rw [if_neg λh=>h.2 h0]
    rw [e1,e2,aAU h0];exact ⟨rfl,λh=>by simp only at h;omega,λ_=>rfl⟩
   .have hlt:=aQO hok h0;have hno:¬ (st.1.length<=(stepT st).2.1.length\/st.1=[]):=λh=>h.elim (λh=>by omega) h0;have e1:mq (k+1) st n acc=mq k (stepT st).2 n (acc++[(stepT st).1]):=by
     conv=>lhs;unfold mq
     rw [if_pos hn,if_neg hno]
    have e2:w6 (k+1) st n acc=w6 k (stepT st).2 n (acc++[(stepT st).1]):=by
     conv=>lhs;unfold w6
     rw [if_pos ⟨hn,h0⟩]
    rw [e1,e2];exact loops k _ n _ (aAV hok) (by omega)
  .have e1:mq (k+1) st n acc=(acc,st):=by unfold mq;rw [if_neg hn]
   have e2:w6 (k+1) st n acc=(acc,st):=by unfold w6;rw [if_neg λh=>hn h.1]
   rw [e1,e2];exact ⟨rfl,λ_=>rfl,λh=>absurd h hn⟩
section
variable {W w:World}{S G:List Own}{Φ:θ}{p:Option Addr}{cap:Nat}{l:List ByteArray}{o:Own}
theorem Up[O Φ](hT:∀ M w,Φ M w->lu M w)(bp:∀ M w,Φ M w->Δ M w p l)(hlen:(aK l).length<=1000000000):fL Φ prog F.CO #[.slice p l.length cap] (.string (bs (aK l))):=by
 refine .there (λM w h=>(bp M w h).there) λxE=>?_;have hn:=HJ (l:=l) λx hx=>Nat.le_trans (yZ hx) (by omega);refine rW (aDa p l.length cap) λW R=>λb=>?_;refine fD (λmH R' η k=>∃ (i:Nat) (Q:List Own),mH=i/\i+k=l.length/\OR b (aK (l.take i)) Q/\R'=Q++R/\η=Φ) ⟨?_,?_⟩
 .refine ⟨_,Φ,l.length,δ,λw G y=>?_,0,[.blk b [.pointer none,.slice none 0 0] 179,.buf none 0 0 (Lib.byteCells []) 5 1],rfl,by omega,zV.nil,rfl,rfl⟩;exact zV.fresh y
 rintro mH dM Φ k _ ⟨i,Q,rfl,hik,hQ,rfl,rfl⟩;refine γ.intro (λhlt=>?_) (λhge=>λw G y=>?_)
 .have hlt:i<l.length:=by have:=aN hlt;omega
  obtain ⟨k,rfl⟩:∃ m,k=m+1:=⟨k - 1,by omega⟩;obtain ⟨g,o,rfl⟩:=xE (by omega);have hsz:=yZ (List.getElem_mem hlt);have hstep:aK (l.take (i+1))=aK (l.take i)++(n9 l[i]).data.toList:=by
   rw [List.take_succ_eq_append_getElem hlt,yY];simp [aK]
  have hle:(aK (l.take (i+1))).length<=(aK l).length:=by
   have e:aK l=aK (l.take (i+1))++aK (l.drop (i+1)):=by rw [<-yY,List.take_append_drop]
   rw [e,List.length_append];omega
  refine ⟨⟨by omega,by omega⟩,eu g o rfl λw G y=>⟨l[i],by rw [Int.toNat_natCast];exact Nf (bp _ _ y.cy) hlt,λw G y=>(a2F (Φ:=Φ) (.inl ⟨hT,by unfold κ;omega⟩) (by omega)).use y λw y=>⟨_,rfl,Q++R,Φ,δ,y,λw G y=>?_⟩⟩⟩;refine aGJ (n9 l[i]) hQ (y.re (μ _ _ _)) (by rw [hstep,List.length_append,qq] at hle;omega) λQ' w Li y=>⟨_,_,rfl,Q'++R,Φ,δ,by rw [μ];exact y,by unfold κ;omega,_,Φ,k,δ,λw G y=>y,⟨i+1,Q',by omega,by omega,?_,rfl,rfl⟩,Nat.lt_succ_self _⟩
  rw [hstep];exact Li
 .have hge:i=l.length:=by have:=Λ hge;omega
  subst hge;rw [List.take_length] at hQ;exact aGH hQ (y.re (μ _ _ _)) λw y=>⟨_,rfl,R,Φ,δ,y,λw G y=>⟨rfl,y.left⟩⟩
theorem aNR[O Φ](hN:∀ M w,Φ M w->jt M w){cb q c}(hl:c.value.length<=1000000000)(y:Ctx W w (aP cb q c :: S) Φ){K}(hk:∀ w',Ctx W w' (aP cb q c :: S) Φ->K (.returned (.tuple #[.int .i64 (nw c).1,.int .i64 (nw c).2.1,.bool (nw c).2.2])) w'):Γ F.WJ #[ε cb 0] w K:=by
 refine ak (aDb cb 0 (J:=K∘.returned) y λw G y=>a0n (S:=S++G) y λw y=>⟨_,_,rfl,aP cb q c :: S,Φ,δ,y,γ.intro (λh=>λw G y=>?_) (λh=>λw G y=>?_)⟩)
 .have h:c.slot=0:=by
   have:¬ 0<c.slot:=by simpa using h
   omega
  have e:nw c=(0,0,true):=by unfold nw;rw [if_pos h]
  rw [e] at hk;exact hk w y.left
 .have h:¬ c.slot=0:=by
   have:0<c.slot:=by simpa using h
   omega
  have e:nw c=((lC (c.value,false)).1,(lC (lC (c.value,false)).2).1,tg (lC (lC (c.value,false)).2).2):=by unfold nw;rw [if_neg h]
  rw [e] at hk;have hlen:(lC (c.value,false)).2.1.length<=c.value.length:=DE 59 0 (c.value,false);refine Jr c.value y λb w y=>⟨_,rfl,rd b (c.value,false) :: aP cb q c :: S,Φ,δ,y,λw G y=>TO (S:=aP cb q c :: S) hN (by show c.value.length<=_;omega) y (λw G y=>TO (S:=aP cb q c :: S) hN (by omega) y (λw G y=>OV (S:=aP cb q c :: S) y (λw G y=>hk w (Ctx.left (Ctx.drop1 y)))))⟩
theorem aOy[O Φ](hT:∀ M w,Φ M w->lu M w){s}(hs:s.length<=16777216){n b}{st:gH}(hform:st.2=false->aK l++st.1=s)(y:Ctx W w ((.buf p l.length cap (bX l) 9 1 :: rd b st :: S)++G) Φ){K:Dn}(h0:∀ w',yW s n (l,st)=none->Ctx W w' S Φ->K (.returned (.tuple #[.slice p l.length cap,.bool false])) w')(h1:∀ w',yW s n (l,st)=some l->Ctx W w' (.buf p l.length cap (bX l) 9 1 :: S) Φ->K (.returned (.tuple #[.slice p l.length cap,.bool true])) w'):
  Γ F.zM #[ε b 0] w λe w'=>∃ c,e=.returned (.bool c)/\∃ R' η,O η/\Ctx W w' (R'++G) η /\
   γ c (γ (decide ((l.length:Int)=n)) (∀ w G,Ctx W w (R'++G) η->Γ F.CO #[.slice p l.length cap] w λe w'=>∃ s1,e=.returned (.string s1)/\∃ dM dF,O dF/\Ctx W w' (dM++G) dF/\∀ w G,Ctx W w (dM++G) dF->K (.returned (.tuple #[.slice p l.length cap,.bool (decide (s1=bs s))])) w)
    (∀ w G,Ctx W w (R'++G) η->K (.returned (.tuple #[.slice p l.length cap,.bool false])) w)) (∀ w G,Ctx W w (R'++G) η->K (.returned (.tuple #[.slice p l.length cap,.bool false])) w):=by
 refine OV (S:=.buf p l.length cap (bX l) 9 1 :: S) y.swap (γ.intro (λhd=>γ.intro (λhn=>λw G y=>?_) (λhn=>λw G y=>?_)) (λhd=>λw G y=>?_))
 .have hst:=aHl hd;subst hst;have hf:=hform rfl;rw [List.append_nil] at hf;have he:yW s n (l,([],false))=some l:=by unfold yW;exact if_pos ⟨hd,aN hn,hf⟩
  have hlen:(aK l).length<=16777216:=by rw [hf];exact hs
  have hsz:∀ x∈l,x.size<=maxLen:=λx hx=>Nat.le_trans (yZ hx) (by unfold maxLen;omega);have c2:Ctx W w ([Own.buf p l.length cap (bX l) 9 1]++(rd b ([],false) :: (S++G))) Φ:=Ctx.swap (S:=S++G) y;have c3:=c2.aside;refine (Up (Φ:=Go.Vc.lZ W [.buf p l.length cap (bX l) 9 1] Φ) (λM w h=>hT M w h.less) (λM w h=>(fY.buf p cap l).sl hsz h) (by omega)).use c3 λw c4=>⟨_,rfl,.buf p l.length cap (bX l) 9 1 :: rd b ([],false) :: S,Φ,δ,c4.DJ,λw G y=>?_⟩
  rw [hf,decide_eq_true (rfl:bs s=bs s)];exact h1 w he (Ctx.drop1 (Ctx.swap (Ctx.left (S:=.buf p l.length cap (bX l) 9 1 :: rd b ([],false) :: S) y)))
 .have he:yW s n (l,st)=none:=by unfold yW;exact if_neg λh=>Λ hn h.2.1
  exact h0 w he (Ctx.drop1 (Ctx.drop1 (Ctx.left y)))
 .have he:yW s n (l,st)=none:=by unfold yW;exact if_neg λh=>by rw [h.1] at hd;cases hd
  exact h0 w he (Ctx.drop1 (Ctx.drop1 (Ctx.left y)))
theorem aG8[O Φ](hN:∀ M w,Φ M w->jt M w){s}(hs:s.length<=16777216){n}(y:Ctx W w S Φ){K}(h0:∀ p k c w',Ij s n=none->Ctx W w' S Φ->K (.returned (.tuple #[.slice p k c,.bool false])) w')(h1:∀ p cap l o w',Ij s n=some l->fY p cap l o->Ctx W w' (o :: S) Φ->K (.returned (.tuple #[.slice p l.length cap,.bool true])) w'):
  Γ F.WK #[.string (bs s),.int .i64 n] w K:=by
 have hT:∀ M w,Φ M w->lu M w:=λM w h=>(hN M w h).1;refine ak (aDc (bs s) n (J:=K∘.returned) y λw G y=>Jr s y λb w y=>⟨_,rfl,rd b (s,false) :: S,Φ,δ,y,?_⟩);refine fD (λp k c R' η m=>∃ (st:gH) (acc:List ByteArray),k=acc.length/\R'=.buf p acc.length c (bX acc) 9 1 :: rd b st :: S/\η=Φ/\st.1.length<m/\acc.length+st.1.length<=s.length/\(st.2=false->aK acc++st.1=s)/\Ij s n=yW s n (mq m st n acc))
  ⟨⟨.buf none 0 0 (bX []) 9 1 :: rd b (s,false) :: S,Φ,s.length+1,δ,λw G y=>y.yp 9 1,(s,false),[],rfl,rfl,rfl,Nat.lt_succ_self _,by simp,λ_=>rfl,rfl⟩,?_⟩
 rintro p k c aW Φ m st ⟨rs,acc,rfl,rfl,rfl,hm,hal,hform,hread⟩;obtain ⟨m,rfl⟩:∃ x,m=x+1:=⟨m - 1,by omega⟩;have mm:∀ st',(st'.2=false->aK acc++st'.1=s)->mq (m+1) rs n acc=(acc,st')->∀ {w:World} {G:List Own},Ctx W w ((.buf p acc.length c (bX acc) 9 1 :: rd b st' :: S)++G) Φ->_:=λst' hf AK {w G} y =>
  aOy (S:=S) (G:=G) (K:=K) (n:=n) hT hs hf y (λw he y=>h0 p acc.length c w (by rw [hread,AK];exact he) y) (λw he y=>h1 p c acc _ w (by rw [hread,AK];exact he) (fY.buf p c acc) y)
 refine γ.intro (λhlt=>λw G y=>?_) (λhge=>λw G y=>?_)
 .have hlt:=aN hlt;have e:mq (m+1) rs n acc=if rs.1.length<=(stepT rs).2.1.length\/rs.1=[] then (acc,(stepT rs).2) else mq m (stepT rs).2 n (acc++[(stepT rs).1]):=by
   conv=>lhs;unfold mq
   rw [if_pos hlt]
  have a5N:(stepT rs).2.2=false->aK acc++((n9 (stepT rs).1).data.toList++(stepT rs).2.1)=s:=λhb=>by
   obtain ⟨h1,h2⟩:=ZM hb;rw [<-h2];exact hform h1
  refine TC (S:=.buf p acc.length c (bX acc) 9 1 :: S) y.swap (λw G y=>TP (S:=.buf p acc.length c (bX acc) 9 1 :: S) hN (by omega) y (λw G y=>TC (S:=.buf p acc.length c (bX acc) 9 1 :: S) y (γ.intro (λh2=>λw G y=>?_) (λh2=>γ.intro (λh3=>λw G y=>?_) (λh3=>λk w G y=>?_)))))
  .rw [if_pos (.inl (by have:=aN h2;omega))] at e;exact mm (stepT rs).2 (λhb=>by obtain ⟨h1,h2⟩:=ZM hb;exact absurd h1 (by
    intro h3;have:=a5N hb;have e2:=congrArg List.length h2;rw [List.length_append,J9,List.length_append,List.length_cons,List.length_append,List.length_singleton] at e2;have:=aN ‹_›;omega)) e y.swap
  .rw [if_pos (.inr (List.eq_nil_of_length_eq_zero (by have:=aN h3;omega)))] at e;have h0:rs.1=[]:=List.eq_nil_of_length_eq_zero (by have:=aN h3;omega);exact mm (stepT rs).2 (λhb=>by rw [aAU h0] at hb;cases hb) e y.swap
  .have h2:=Λ h2;have h3:=Λ h3;have hc:¬ (rs.1.length<=(stepT rs).2.1.length\/rs.1=[]):=λh=>h.elim (λh=>h2 (by omega)) (λh=>h3 (by rw [h];rfl));rw [if_neg hc] at e;have y:Ctx W w (.blk k [.string (stepT rs).1] 9 :: .buf p acc.length c (bX acc) 9 1 :: rd b (stepT rs).2 :: (S++G)) Φ:=y.perm (List.Perm.cons _ (List.Perm.swap _ _ _));obtain ⟨p',cap',w',hr,_,c2⟩:=y.yM (ts:=40) (ty:=40) (kb:=#[false,false]) (bytes:=16) (by kernel_rfl) (by decide) rfl rfl (by omega) (by decide)
   have es:bX acc++[.string (stepT rs).1]=bX (acc++[(stepT rs).1]):=by
    show _=List.map Value.string (acc++[(stepT rs).1]);rw [List.map_append];rfl
   have el:acc.length+1=(acc++[(stepT rs).1]).length:=by rw [List.length_append];rfl
   rw [es,el] at c2;rw [el] at hr;refine ⟨p',_,cap',w',hr,.buf p' (acc++[(stepT rs).1]).length cap' (bX (acc++[(stepT rs).1])) 9 1 :: rd b (stepT rs).2 :: S,Φ,δ,c2,_,Φ,m,δ,λw G y=>y,⟨_,acc++[(stepT rs).1],rfl,rfl,rfl,by omega,by rw [<-el];omega,λhb=>?_,by rw [hread,e]⟩,Nat.lt_succ_self _⟩;have:=a5N hb;rw [yY,μ,show aK [(stepT rs).1]=(n9 (stepT rs).1).data.toList by simp [aK]];exact this
 .have e:mq (m+1) rs n acc=(acc,rs):=by unfold mq;rw [if_neg (Λ hge)]
  exact mm rs hform e y
end
end Go.Proofs.YtcmgeboolmmdkaaGreatDoor
end

