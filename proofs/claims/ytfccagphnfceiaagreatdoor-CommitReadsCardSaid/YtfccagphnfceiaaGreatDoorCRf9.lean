/-
 The disk in memory;put;what only looks or sets a cell: walked.
-/
import Derived.Test.YtfccagphnfceiaaGreatDoorCRf8
import Derived.Test.YtfccagphnfceiaaGreatDoorCRf6
import Derived.Test.YtfccagphnfceiaaGreatDoorCRf5
import Derived.Lib.LazyBuf
import Derived.Lib.SlBytesRow
import Derived.Laws.Cells
import Derived.Laws.IdiomRangeMap
import Derived.Laws.Bits128
import Derived.Laws.IdiomStrings
import Derived.Test.YtfccagphnfceiaaGreatDoorCRf7

set_option linter.unusedVariables false
set_option linter.unusedSimpArgs false
section
namespace Go.Proofs.YtfccagphnfceiaaGreatDoor
open Go.Vc
abbrev j4 (f:iA):Value:=.agg #[.string (bs f.now),.string (bs f.last)]
abbrev lA (p:Int × Int):Value:=.agg #[.int .i64 p.1,.int .i64 p.2]
abbrev a1k:iA:=⟨[],[]⟩
theorem N9:GTy Tryz.prog 93 3 112 (Value.int .i64) j4 a1k:=.ofInt (by kernel_rfl) (by kernel_rfl) (λb x w=>by kernel_rfl) (λw=>by kernel_rfl)
theorem a7E:GTy Tryz.prog 94 110 4 lA Value.bool false:=by
 refine .aBo (by kernel_rfl) ⟨_,Tryz.underlying110⟩ (λb x w=>by kernel_rfl) (λx w=>?_) (λx y w=>?_) (λw=>by kernel_rfl)
 ·have:Instr.sameBits 10000 (lA x) (lA x)=true:=by
   unfold Instr.sameBits
   simp [Instr.sameBits]
  unfold Instr.keyThatStays
  rw [if_pos this];rfl
 ·have hs:Tryz.prog.stoodInHeld 110=false:=by kernel_rfl
  obtain ⟨fs,ht⟩:∃ fs,Tryz.prog.underlying 110=some (.struct fs):=⟨_,Tryz.underlying110⟩
  have hf:Tryz.prog.fieldsOf 110=fs:=by simp [Program.fieldsOf,ht]
  have hr:CG Tryz.prog #[.int .i64 x.1,.int .i64 x.2] #[.int .i64 y.1,.int .i64 y.2] (Tryz.prog.fieldsOf 110).toList=some (decide (x.1=y.1)&&(decide (x.2=y.2)&&true)):=by kernel_rfl
  have key:(Op.equalIn 10000 110 (lA x) (lA y)).run Tryz.prog w=.ok (decide (x.1=y.1)&&(decide (x.2=y.2)&&true)) w:=by
   rw [show (10000:Nat)=9999+1 from rfl,run_equalIn_struct w 9999 110 _ _ (by rw [hf];exact ht) hs]
   exact JA hr
  have h2:Op.equal 110 (lA x) (lA y)=Op.equalIn 10000 110 (lA x) (lA y):=by delta Op.equal Op.maxDepth;exact Eq.refl _
  rw [h2,key]
  refine congrArg (λb=>Result.ok b w) ?_
  rw [Bool.and_true,<-Bool.decide_and]
  exact decide_eq_decide.2 ⟨λh=>Prod.ext h.1 h.2,λh=>by rw [h];exact ⟨rfl,rfl⟩⟩
structure uK where
 db:Nat
 fm:Nat
 A4:List (bE Int iA)
 dG:Nat
 sm:Nat
 J5:List (bE (Int × Int) Bool)
 mJ:Nat
 qp:Option Addr
 qc:Nat
 kp:Option Addr
 kc:Nat
abbrev iT (l:List (Int × Int)):List Value:=l.flatMap λp=>[.int .i64 p.1,.int .i64 p.2]
abbrev C4 (q:uK) (d:cC):List Value:=[.map (some q.fm),.slice q.qp d.queue.length q.qc,.map (some q.sm),.int .i64 d.lost,.bool d.down,.int .i64 d.bS,.slice q.kp d.keep.length q.kc]
def cJ (q:uK) (d:cC):List Own:=[.blk q.db (C4 q d) 97,.obj q.fm (cA (Value.int .i64) j4 q.A4 q.dG),.obj q.sm (cA lA Value.bool q.J5 q.mJ),.buf q.qp d.queue.length q.qc (iT d.queue) 110 2]
structure wK (q:uK) (d:cC):Prop where
 fok:GOk q.A4 q.dG
 sok:GOk q.J5 q.mJ
 C5:∀ k,hY a1k q.A4 k=d.files k
 a5P:∀ p,hY false q.J5 p=decide (p∈d.queue)
 nodup:d.queue.Nodup
 range:∀ p∈d.queue,(0<=p.1/\p.1<16)/\0<=p.2/\p.2<262145
 size:∀ k,(d.files k).now.length<=16777216/\(d.files k).last.length<=16777216
 lost:0<=d.lost/\d.lost<=9223372036854775807
 bS:0<=d.bS/\d.bS<=9223372036854775807
theorem wK.w {q:uK} {d:cC} (h:wK q d):L4 d:=λp hp=>(h.range p hp).2.1
abbrev dkF (q:uK) (d:cC):PW:=λM w=>Sl M w q.kp d.keep
theorem yP (l:List (Int × Int)):(iT l).length=l.length*2:=by
 induction l with
 | nil=>rfl
 | cons x l ih =>
  show ((.int .i64 x.1 :: .int .i64 x.2 :: iT l)).length=_
  rw [List.length_cons,List.length_cons,ih,List.length_cons];omega
theorem a1l {l:List (Int × Int)} {i:Nat} (h:i<l.length):((iT l).drop (i*2)).take 2=[.int .i64 l[i].1,.int .i64 l[i].2]:=by
 induction l generalizing i with
 | nil=>cases h
 | cons x l ih =>
  cases i with
  | zero=>rfl
  | succ i =>
   have:=ih (i:=i) (by simpa using h)
   show ((.int .i64 x.1 :: .int .i64 x.2 :: iT l).drop ((i+1)*2)).take 2=_
   rw [show (i+1)*2=i*2+2 by omega,List.drop_succ_cons,List.drop_succ_cons,this]
   rfl
theorem V7:∀ (n:Nat) (l:List Nat),l.Nodup->(∀ x∈l,x<n)->l.length<=n
 | 0,l,_,h=>by
  cases l with
  | nil=>exact Nat.le_refl _
  | cons x l=>have:=h x (by simp);omega
 | n+1,l,hd,h=>by
  have h1:=V7 n (l.filter (· != n)) (hd.filter _) λx hx=>by
   have h2:=List.mem_filter.1 hx
   have h3:=h x h2.1
   have h4:x≠n:=by simpa using h2.2
   omega
  have h2:l.length<=(l.filter (· != n)).length+1:=by
   clear h h1
   induction l with
   | nil=>simp
   | cons x l ih =>
    obtain ⟨hx,hl⟩:=List.nodup_cons.1 hd
    by_cases e:x=n
    ·have:l.filter (· != n)=l:=List.filter_eq_self.2 λy hy=>by
      have:y≠n:=λe2=>hx (by rw [e,<-e2];exact hy)
      simpa using this
     rw [List.filter_cons_of_neg (by simp [e]),this,List.length_cons];exact Nat.le_refl _
    ·rw [List.filter_cons_of_pos (by simpa using e),List.length_cons,List.length_cons]
     have:=ih hl
     omega
  omega
theorem ZE {l:List (Int × Int)} (hd:l.Nodup) (h:∀ p∈l,(0<=p.1/\p.1<16)/\0<=p.2/\p.2<262145):l.length<=4194320:=by
 have h1:=V7 4194320 (l.map λp=>p.1.toNat*262145+p.2.toNat) (by
  refine List.nodup_iff_pairwise_ne.2 (List.pairwise_map.2 ?_)
  refine (List.nodup_iff_pairwise_ne.1 hd).imp_of_mem fun {a b} ha hb hab e=>hab ?_
  have h1:=h a ha
  have h2:=h b hb
  exact Prod.ext (by omega) (by omega)) (λx hx=>by
  obtain ⟨p,hp,rfl⟩:=List.mem_map.1 hx
  have:=h p hp
  omega)
 rw [List.length_map] at h1
 exact h1
theorem wK.XA {q:uK} {d:cC} (h:wK q d):d.queue.length<=4194320:=ZE h.nodup h.range
section
variable {W w:World} {S G:List Own} {Φ:PW}
theorem pK {q:uK} {d:cC} (cx:Ctx W w (cJ q d++S) Φ) {i:Nat} {v:Value} (h:(C4 q d)[i]? = some v):w.cell? ⟨q.db,i,none⟩=some v:=cx.get 0 rfl h
theorem a3E {q:uK} {d:cC} (cx:Ctx W w (cJ q d++S) Φ):w.heap[q.fm]? = some (cA (Value.int .i64) j4 q.A4 q.dG):=cx.own (.obj q.fm (cA (Value.int .i64) j4 q.A4 q.dG)) (by simp [cJ])
theorem aU7 {q:uK} {d:cC} (cx:Ctx W w (cJ q d++S) Φ):w.heap[q.sm]? = some (cA lA Value.bool q.J5 q.mJ):=cx.own (.obj q.sm (cA lA Value.bool q.J5 q.mJ)) (by simp [cJ])
theorem a3F [aA Φ] (cx:Ctx W w S Φ) {K:Ending->World->Prop} (hk:∀ q w',wK q bX->Ctx W w' (cJ q bX++S) (λM w=>Φ M w/\dkF q bX M w)->K (.returned (.pointer (some ⟨q.db,0,none⟩))) w'):Calls Tryz.prog F.F4 #[] w K:=by
 refine (X0 (J:=λu w'=>K (.returned u) w') cx λk0 k1 k2 w G cx=>?_).mono λe w' ⟨v,he,hj⟩=>by rw [he];exact hj
 refine hk ⟨k2,k0,[],0,k1,[],0,none,0,none,0⟩ w ⟨⟨.nil,.nil,by simp⟩,⟨.nil,.nil,by simp⟩,λk=>rfl,λp=>rfl,List.nodup_nil,λp hp=>(by cases hp),λk=>⟨Nat.zero_le _,Nat.zero_le _⟩,⟨Int.le_refl 0,by decide⟩,⟨Int.le_refl 0,by decide⟩⟩ ?_
 have c1:Ctx W w (.buf none 0 0 [] 110 2 :: (.blk k2 (C4 ⟨k2,k0,[],0,k1,[],0,none,0,none,0⟩ bX) 97 :: .obj k1 (.map #[] 0) :: .obj k0 (.map #[] 0) :: S)) (λM w=>Φ M w/\Sl M w none ([]:List Int)):=(Ctx.left (S:=.blk k2 (C4 ⟨k2,k0,[],0,k1,[],0,none,0,none,0⟩ bX) 97 :: .obj k1 (.map #[] 0) :: .obj k0 (.map #[] 0) :: S) cx).weak (λM w h=>⟨h,Sl.nil⟩) |>.yC 110 2
 refine c1.perm ?_
 show (Own.buf none 0 0 [] 110 2 :: .blk k2 _ 97 :: .obj k1 (.map #[] 0) :: .obj k0 (.map #[] 0) :: S).Perm (.blk k2 _ 97 :: .obj k0 (.map #[] 0) :: .obj k1 (.map #[] 0) :: .buf none 0 0 [] 110 2 :: S)
 refine (List.Perm.swap _ _ _).trans (List.Perm.cons _ ?_)
 refine (List.Perm.swap _ _ _).trans ?_
 refine (List.Perm.cons _ (List.Perm.swap _ _ _)).trans ?_
 exact (List.Perm.swap _ _ _)
theorem a1m [aA Φ] {q:uK} {d:cC} {f:Int} (cx:Ctx W w (cJ q d++S) Φ) {K:Ending->World->Prop} (hk:∀ w',Ctx W w' (cJ q d++S) Φ->K (.returned (.int .i64 (j8 d f))) w'):Calls Tryz.prog F.mM #[.pointer (some ⟨q.db,0,none⟩),.int .i64 f] w K:=by
 refine (KA q.db 0 f (J:=λu w'=>K (.returned u) w') cx λw G cx=>⟨d.down,pK cx.left rfl,Br.intro (λh=>λw G cx=>?_) (λh=>λw G cx=>Br.intro (λh2=>λw G cx=>?_) (λh2=>λw G cx=>?_))⟩).mono λe w' ⟨v,he,hj⟩=>by rw [he];exact hj
 ·have e:j8 d f=9:=by unfold j8;rw [if_pos h]
  rw [<-e];exact hk w cx.left
 ·have e:j8 d f=1:=by unfold j8;rw [if_neg (by rw [h];simp),if_pos (by simpa using h2)]
  rw [<-e];exact hk w cx.left
 ·have e:j8 d f=0:=by unfold j8;rw [if_neg (by rw [h];simp),if_neg (by simpa using h2)]
  rw [<-e];exact hk w cx.left
theorem a3G [aA Φ] {q:uK} {d:cC} (hq:wK q d) (cx:Ctx W w (cJ q d++S) Φ) {K:Ending->World->Prop} (hk:∀ w',wK q (cP d)->Ctx W w' (cJ q (cP d)++S) Φ->K (.returned (.bool (o4 d))) w'):Calls Tryz.prog F.nS #[.pointer (some ⟨q.db,0,none⟩)] w K:=by
 have ha:=hq.bS
 refine (IE q.db 0 (J:=λu w'=>K (.returned u) w') cx λw G cx=>⟨d.down,pK cx.left rfl,d.bS,λ_=>pK cx.left rfl,Br.intro (λh=>λw G cx=>?_) (λh=>λw G cx=>⟨d.bS,pK cx.left rfl,by unfold aR;omega,λw G cx=>⟨cx.can 0 rfl (by show 0+5+1<=7;omega),λw' hw'=>?_⟩⟩)⟩).mono λe w' ⟨v,he,hj⟩=>by rw [he];exact hj
 ·have h:d.down=true\/d.bS=0:=by simpa using h
  have e:cP d=d:=by unfold cP;rw [if_pos h]
  have e2:o4 d=false:=by
   unfold o4
   rcases h with h|h
   ·rw [h];rfl
   ·rw [h];simp
  rw [e] at hk
  rw [<-e2]
  exact hk w hq cx.left
 ·have h:¬ (d.down=true\/d.bS=0):=by simpa using h
  have e:cP d={ d with bS:=d.bS - 1 }:=by unfold cP;rw [if_neg h]
  have hdn:d.down=false:=by
   cases hd:d.down with
   | true=>exact absurd (.inl hd) h
   | false=>rfl
  rw [e] at hk
  have J1:=cx.put 0 hw' rfl
  refine ⟨cJ q { d with bS:=d.bS - 1 }++S,Φ,inferInstance,J1,λw G cx=>⟨d.bS - 1,pK cx.left rfl,λw G cx=>?_⟩⟩
  have e2:decide (d.bS - 1=0)=o4 d:=by
   unfold o4
   rw [hdn]
   exact decide_eq_decide.2 ⟨λh=>by omega,λh=>by omega⟩
  rw [e2]
  exact hk w ⟨hq.fok,hq.sok,hq.C5,hq.a5P,hq.nodup,hq.range,hq.size,hq.lost,⟨by show 0<=d.bS - 1;omega,by show d.bS - 1<=_;omega⟩⟩ cx.left
theorem a9x [aA Φ] {q:uK} {d:cC} (hq:wK q d) (cx:Ctx W w (cJ q d++S) Φ) {K:Ending->World->Prop} (hk:∀ w',wK q (AR d)->Ctx W w' (cJ q (AR d)++S) Φ->K (.returned (.tuple #[])) w'):Calls Tryz.prog F.qF #[.pointer (some ⟨q.db,0,none⟩)] w K:=by
 refine (FR q.db 0 (J:=λu w'=>K (.returned u) w') cx λw G cx=>⟨cx.can 0 rfl (by show 0+4+1<=7;omega),λw' hw'=>?_⟩).mono λe w' ⟨v,he,hj⟩=>by rw [he];exact hj
 have J1:=cx.put 0 hw' rfl
 exact ⟨cJ q (AR d)++S,Φ,inferInstance,J1,λw G cx=>hk w ⟨hq.fok,hq.sok,hq.C5,hq.a5P,hq.nodup,hq.range,hq.size,hq.lost,hq.bS⟩ cx.left⟩
theorem uG (l:Bs) (a b:Nat):(bs l).extract a b=bs ((l.drop a).take (b - a)):=by
 apply ByteArray.ext
 apply Array.toList_inj.1
 rw [Go.Lib.extract_data]
 rfl
theorem ZF [aA Φ] {q:uK} {d:cC} (hq:wK q d) {f a n:Int} (cx:Ctx W w (cJ q d++S) Φ) {K:Ending->World->Prop} (hk:∀ w',Ctx W w' (cJ q d++S) Φ->K (.returned (.tuple #[.string (bs (b9 d f a n).1),.int .i64 (b9 d f a n).2])) w'):Calls Tryz.prog F.nN #[.pointer (some ⟨q.db,0,none⟩),.int .i64 f,.int .i64 a,.int .i64 n] w K:=by
 refine (ID q.db 0 f a n (J:=λu w'=>K (.returned u) w') cx λw G cx=>a1m (S:=S++G) (cx.re (List.append_assoc _ _ _)) λw cx=>⟨_,rfl,cJ q d++S,Φ,inferInstance,cx.re (List.append_assoc _ _ _).symm,Br.intro (λh=>λw G cx=>?_) (λh=>λw G cx=>Br.intro (λh2=>λw G cx=>?_) (λh2=>λw G cx=>?_))⟩).mono λe w' ⟨v,he,hj⟩=>by rw [he];exact hj
 ·have e:b9 d f a n=([],j8 d f):=by unfold b9;rw [if_pos (of_decide_eq_true h)]
  rw [e] at hk
  exact hk w cx.left
 ·have e:b9 d f a n=([],1):=by unfold b9;rw [if_neg (of_decide_eq_false h),if_pos (by simpa using h2)]
  rw [e] at hk
  exact hk w cx.left
 ·have h2:¬ (a<0\/n<0):=by simpa using h2
  have e:b9 d f a n=(((d.files f).now.drop a.toNat).take n.toNat,0):=by unfold b9;rw [if_neg (of_decide_eq_false h),if_neg h2]
  rw [e] at hk
  have hfg:=hq.C5 f
  refine ⟨some q.fm,pK cx.left rfl,λw G cx=>⟨bs (d.files f).now,bs (d.files f).last,λw2 F3=>?_,?_,?_,λw G cx=>?_⟩⟩
  ·have hr:=uS (P:=Tryz.prog) N9 (w:=w2) (by rw [F3];exact a3E cx.left) f
   rw [hfg] at hr
   exact hr
  ·rw [aT]
   omega
  ·rw [uG,aT]
   omega
  ·have key:(((bs (d.files f).now).extract (min a ((bs (d.files f).now).size:Int)).toNat (bs (d.files f).now).size).extract 0 (min n (((bs (d.files f).now).extract (min a ((bs (d.files f).now).size:Int)).toNat (bs (d.files f).now).size).size:Int)).toNat)=bs (((d.files f).now.drop a.toNat).take n.toNat):=by
    rw [uG,uG,aT,aT,List.drop_zero,Nat.sub_zero]
    congr 1
    have e1:(((d.files f).now.drop (min a ((d.files f).now.length:Int)).toNat).take ((d.files f).now.length - (min a ((d.files f).now.length:Int)).toNat))=(d.files f).now.drop a.toNat:=by
     by_cases ha:a<=((d.files f).now.length:Int)
     ·rw [show (min a ((d.files f).now.length:Int)).toNat=a.toNat by omega,List.take_of_length_le (by rw [List.length_drop];exact Nat.le_refl _)]
     ·rw [show (min a ((d.files f).now.length:Int)).toNat=(d.files f).now.length by omega,List.drop_length,List.take_nil,List.drop_eq_nil_of_le (by omega)]
    rw [e1]
    by_cases hn:n<=(((d.files f).now.drop a.toNat).length:Int)
    ·rw [show (min n (((d.files f).now.drop a.toNat).length:Int)).toNat=n.toNat by omega]
    ·rw [show (min n (((d.files f).now.drop a.toNat).length:Int)).toNat=((d.files f).now.drop a.toNat).length by omega,List.take_length,List.take_of_length_le (by omega)]
   rw [key]
   exact hk w cx.left
end
end Go.Proofs.YtfccagphnfceiaaGreatDoor
end

section
namespace Go.Proofs.YtfccagphnfceiaaGreatDoor
open Go.Vc
theorem A5 {l:Bs}:(bs l=ByteArray.mk #[]) ↔ l=[]:=(a08 (b:=[]))
abbrev bB (l:Bs):List Value:=l.map λx=>Value.int .u8 (x.toNat:Int)
theorem o9 (l:Bs):(bB l).length=l.length:=by simp [bB]
theorem a9y {s t:Bs} {a:Nat} (h:t≠[]):oB (oB (List.replicate (max s.length (a+t.length)) (Value.int .u8 0)) 0 (bB s)) a (bB t)=bB (gK s a t):=by
 have e1:oB (List.replicate (max s.length (a+t.length)) (Value.int .u8 0)) 0 (bB s)=bB (s++List.replicate (max s.length (a+t.length) - s.length) 0):=by
  rw [S8 _ _ _ (by rw [o9,List.length_replicate];omega),o9,List.take_zero,List.nil_append,Nat.zero_add,List.drop_replicate]
  unfold bB
  rw [List.map_append,List.map_replicate]
  rfl
 rw [e1,S8 _ _ _ (by rw [o9,o9,List.length_append,List.length_replicate];omega),o9]
 unfold bB
 rw [<-List.map_take,<-List.map_drop,<-List.map_append,<-List.map_append,HC h]
 congr 1
 rw [List.take_append,List.drop_append,List.take_replicate,List.drop_replicate,show min (a - s.length) (max s.length (a+t.length) - s.length)=a - s.length by omega,show max s.length (a+t.length) - s.length - (a+t.length - s.length)=0 by omega,List.replicate_zero,List.append_nil]
section
variable {W w:World} {S G:List Own} {Φ:PW}
theorem a3H {w:World} {S:List Own} [aA Φ] {b o n c:Nat} {cs:List Value} {t:Bs} (cx:Ctx W w (.blk b cs 5 :: S) Φ) (h:t.length<=n) (hc:o+t.length<=cs.length) :
  Sem.run Tryz.prog (builtin Builtin.copy #[129,9] 3 #[false,false] #[.slice (some ⟨b,o,none⟩) n c,.string (bs t)]) w=.ok (.value (.int .i64 t.length)) (w.setCells b o (bB t))/\Ctx W (w.setCells b o (bB t)) (.blk b (oB cs o (bB t)) 5 :: S) Φ:=by
 have hcan:aE w b o t.length:=cx.can 0 rfl hc
 refine ⟨?_,cx.EY 0 rfl rfl⟩
 refine aGX ?_
 have:=run_copy_string (P:=Tryz.prog) w 129 9 3 5 b o n c (bs t) Tryz.underlying129 (λw=>by kernel_rfl) (by rw [aT];exact h) (λj hj=>(hcan j (by rw [aT] at hj;exact hj)).1) (λj hj=>(hcan j (by rw [aT] at hj;exact hj)).2)
 rw [aT] at this
 exact this
theorem a7G [aA Φ] (cx:Ctx W w S Φ) {s t:Bs} {a:Nat} (ha:a+t.length<=16777216) (hs:s.length<=16777216) {K:Ending->World->Prop} (hk:∀ w',Ctx W w' S Φ->K (.returned (.string (bs (gK s a t)))) w'):Calls Tryz.prog F.F5 #[.string (bs s),.int .i64 (a:Int),.string (bs t)] w K:=by
 refine (X2 (bs s) (a:Int) (bs t) (J:=λu w'=>K (.returned u) w') cx ?_).mono λe w' ⟨v,he,hj⟩=>by rw [he];exact hj
 refine Br.intro (λh=>λw G cx=>?_) (λh=>?_)
 ·rw [A5.1 (of_decide_eq_true h),MW] at hk
  exact hk w cx.left
 have hne:t≠[]:=λe=>by rw [e] at h;exact absurd h (by decide)
 have hlen:0<t.length:=List.length_pos_iff.2 hne
 rw [aT,aT,show max (s.length:Int) ((a:Int)+(t.length:Int))=((max s.length (a+t.length):Nat):Int) by omega]
 generalize hN:max s.length (a+t.length)=N
 have hN2:a+t.length<=N/\s.length<=N/\N<=16777216:=by omega
 rw [Int.toNat_natCast]
 refine ⟨by unfold aR;omega,by omega,λk2 w G cx=>?_⟩
 have cx:Ctx W w (.blk k2 (List.replicate N (Value.int .u8 0)) 5 :: (S++G)) Φ:=cx
 obtain ⟨h1,c1⟩:=a3H (t:=s) (o:=0) (n:=N) (c:=N) cx hN2.2.1 (by rw [List.length_replicate];omega)
 refine ⟨_,_,h1,.blk k2 (oB (List.replicate N (Value.int .u8 0)) 0 (bB s)) 5 :: S,Φ,inferInstance,c1,⟨by omega,by omega,by omega⟩,λw G cx=>?_⟩
 have cx:Ctx W w (.blk k2 (oB (List.replicate N (Value.int .u8 0)) 0 (bB s)) 5 :: (S++G)) Φ:=cx
 rw [Int.toNat_natCast,ZD _ _ _ _ (by omega),Nat.mul_one]
 obtain ⟨h2,c2⟩:=a3H (t:=t) (o:=a) (n:=N - a) (c:=N - a) cx (by omega) (by rw [S8 _ _ _ (by rw [o9,List.length_replicate];omega)];simp only [List.length_append,List.length_take,List.length_drop,List.length_replicate,o9];omega)
 rw [<-hN,a9y hne] at c2
 refine ⟨_,_,h2,.blk k2 (bB (gK s a t)) 5 :: S,Φ,inferInstance,c2,λw G cx=>?_⟩
 have cx:Ctx W w (.blk k2 (bB (gK s a t)) 5 :: (S++G)) Φ:=cx
 have hb:Lib.Bytes w k2 0 (bs (gK s a t)):=λi hi=>by
  have:=cx.get 0 rfl (b:=k2) (i:=i) (v:=.int .u8 ((gK s a t)[i]'(by rw [aT] at hi;exact hi)).toNat) (by rw [List.getElem?_map,List.getElem?_eq_getElem (by rw [aT] at hi;exact hi)];rfl)
  rw [Nat.zero_add]
  exact this
 have hc:=Lib.run_convert_whole (P:=Tryz.prog) w 129 5 9 Tryz.underlying129 Tryz.underlying5 Tryz.underlying9 k2 0 _ hb N
 rw [aT,uZ hne,hN] at hc
 exact ⟨_,_,hc,.blk k2 (bB (gK s a t)) 5 :: S,Φ,inferInstance,cx,λw G cx=>hk w (Ctx.left (Ctx.drop1 (S:=S++G) cx))⟩
end
end Go.Proofs.YtfccagphnfceiaaGreatDoor
end

section
namespace Go.Proofs.YtfccagphnfceiaaGreatDoor
open Go.Vc
abbrev aDz (f n:Int):List Value:=[.int .i64 f,.int .i64 n]
structure DkU where
 fm:Nat
 A4:List (bE Int iA)
 dG:Nat
 sm:Nat
 J5:List (bE (Int × Int) Bool)
 mJ:Nat
 qp:Option Addr
 qc:Nat
def uK.mv (q:uK) (u:DkU):uK:=⟨q.db,u.fm,u.A4,u.dG,u.sm,u.J5,u.mJ,u.qp,u.qc,q.kp,q.kc⟩
def uK.un (q:uK):DkU:=⟨q.fm,q.A4,q.dG,q.sm,q.J5,q.mJ,q.qp,q.qc⟩
theorem a3I (a n:Nat):uY a n=(List.range' 0 ((a+n - 1) / 64+1 - a / 64)).map λi=>((a / 64+i:Nat):Int):=by
 unfold uY;rw [List.range_eq_range']
theorem a3J (l:List (Int × Int)) (p:Int × Int):iT (l++[p])=iT l++[.int .i64 p.1,.int .i64 p.2]:=by
 show List.flatMap _ (l++[p])=_
 rw [List.flatMap_append];rfl
section
variable {W w:World} {S G:List Own} {Φ:PW}
theorem b2V {X Y:List Own} {F:List Own} (h:X.Sublist Y):(X++F).Sublist (Y++F):=h.append (List.Sublist.refl _)
abbrev tru:PW:=λ_ _=>True
theorem fL [aA Φ] {X Y F:List Own} (c:Ctx W w (Y++F) Φ) (h:X.Sublist Y):Ctx W w (X++F) tru:=(c.sub (b2V h)).weak λ_ _ _=>trivial
theorem a5Q [aA Φ] {q:uK} {d:cC} (hq:wK q d) {f a:Int} {s:Bs} (hs:s.length<=9223372036854775807) (cx:Ctx W w (cJ q d++S) Φ) {K:Ending->World->Prop}
  (hk:∀ u w',wK (q.mv u) (cK d f a s).1->Ctx W w' (cJ (q.mv u) (cK d f a s).1++S) Φ->K (.returned (.int .i64 (cK d f a s).2)) w'):Calls Tryz.prog F.qI #[.pointer (some ⟨q.db,0,none⟩),.int .i64 f,.int .i64 a,.string (bs s)] w K:=by
 have hsame:∀ {e:Int} {w':World} {G:List Own},cK d f a s=(d,e)->Ctx W w' ((cJ q d++S)++G) Φ->K (.returned (.int .i64 e)) w':=by
  intro e w' G he cx
  rw [he] at hk
  exact hk q.un w' hq cx.left
 refine (G7 q.db 0 f a (bs s) (J:=λu w'=>K (.returned u) w') cx λw G cx=>a1m (S:=S++G) (cx.re (List.append_assoc _ _ _)) λw cx=>⟨_,rfl,cJ q d++S,Φ,inferInstance,cx.re (List.append_assoc _ _ _).symm,Br.intro (λh=>λw G cx=>?_) (λh=>Br.intro (λh2=>λw G cx=>?_) (λh2=>λw G cx=>?_))⟩).mono λe w' ⟨v,he,hj⟩=>by rw [he];exact hj
 ·exact hsame (by unfold cK;rw [if_pos (of_decide_eq_true h)]) cx
 ·exact hsame (by unfold cK;rw [if_neg (of_decide_eq_false h),if_pos (of_decide_eq_true h2)]) cx
 have h:=of_decide_eq_false h
 have h2:=of_decide_eq_false h2
 obtain ⟨a,rfl⟩:∃ n:Nat,a=n:=⟨a.toNat,by omega⟩
 rw [aT]
 refine ⟨λh3=>(λ(h3:¬ (16777216:Int)<(a:Int))=>by unfold aR;omega) (by simpa using h3),Br.intro (λh3=>λw G cx=>?_) (λh3=>Br.intro (λh4=>λw G cx=>?_) (λh4=>λw G cx=>?_))⟩
 ·have h3:(16777216:Int)<(a:Int)\/16777216 - (a:Int)<(s.length:Int):=by simpa using h3
  exact hsame (by unfold cK;rw [if_neg h,if_neg h2,if_pos h3]) cx
 all_goals have h3:¬ ((16777216:Int)<(a:Int)\/16777216 - (a:Int)<(s.length:Int)):=by simpa using h3
 ·exact hsame (by unfold cK;rw [if_neg h,if_neg h2,if_neg h3,if_pos (A5.1 (of_decide_eq_true h4))]) cx
 have h4:s≠[]:=λe=>of_decide_eq_false h4 (by rw [e];rfl)
 have hpos:0<s.length:=List.length_pos_iff.2 h4
 have hlen:a+s.length<=16777216:=by omega
 have hfl:0<=f/\f<16:=by
  have h':j8 d f=0:=by omega
  unfold j8 at h'
  split at h'
  ·cases h'
  ·split at h'
   ·cases h'
   ·omega
 have hd1:cK d f a s=({ d.set f ⟨gK (d.files f).now a s,(d.files f).last⟩ with queue:=yH f (uY a s.length) d.queue },0):=by
  unfold cK;rw [if_neg h,if_neg h2,if_neg h3,if_neg h4];rfl
 rw [hd1] at hk
 generalize hD:d.set f ⟨gK (d.files f).now a s,(d.files f).last⟩=d1 at hk
 refine ⟨some q.fm,pK cx.left rfl,λw G cx=>⟨bs (d.files f).now,bs (d.files f).last,λw2 F3=>?_,λb w G cx=>?_⟩⟩
 ·have hr:=uS (P:=Tryz.prog) N9 (w:=w2) (by rw [F3];exact a3E cx.left) f
  rw [hq.C5 f] at hr
  exact hr
 refine a7G (S:=(cJ q d++S)++G) cx hlen (hq.size f).1 λw cx=>⟨_,rfl,cJ q d++S,Φ,inferInstance,cx,λw G cx=>⟨some q.fm,pK cx.left rfl,λw G cx=>?_⟩⟩
 obtain ⟨fU,oM,hr,P3,hg1⟩:=FM (P:=Tryz.prog) N9 hq.fok (a3E cx.left) f ⟨gK (d.files f).now a s,(d.files f).last⟩
 have cx:Ctx W w (.blk q.db (C4 q d) 97 :: .obj q.fm (cA (Value.int .i64) j4 q.A4 q.dG) :: .obj q.sm (cA lA Value.bool q.J5 q.mJ) :: .buf q.qp d.queue.length q.qc (iT d.queue) 110 2 :: (S++G)) Φ:=cx
 have c1:=cx.putObj 1 (cA (Value.int .i64) j4 fU oM) rfl
 have hq1:wK (q.mv ⟨q.fm,fU,oM,q.sm,q.J5,q.mJ,q.qp,q.qc⟩) d1:=by
  subst hD
  refine ⟨P3,hq.sok,λk=>?_,hq.a5P,hq.nodup,hq.range,λk=>?_,hq.lost,hq.bS⟩
  ·have:=hg1 k
   rw [hq.C5 k] at this
   exact this
  ·show (if k=f then _ else d.files k).now.length<=_/\(if k=f then _ else d.files k).last.length<=_
   have h1:=hq.size f
   by_cases e:k=f
   ·rw [if_pos e,uZ h4]
    exact ⟨by omega,h1.2⟩
   ·rw [if_neg e]
    exact hq.size k
 have hqu:d.queue=d1.queue:=by rw [<-hD];rfl
 have hkp:d.keep.length=d1.keep.length:=by rw [<-hD];rfl
 have e3:C4 q d=C4 (q.mv ⟨q.fm,fU,oM,q.sm,q.J5,q.mJ,q.qp,q.qc⟩) d1:=by rw [<-hD];rfl
 rw [e3,hqu] at c1
 refine ⟨_,hr,cJ (q.mv ⟨q.fm,fU,oM,q.sm,q.J5,q.mJ,q.qp,q.qc⟩) d1++S,Φ,inferInstance,c1,by decide,?_,?_⟩
 ·unfold aR;rw [Int.tdiv_eq_ediv_of_nonneg (by omega)];omega
 rw [hqu] at hk
 clear cx c1 e3 hr hg1 P3
 generalize hm:(a+s.length - 1) / 64+1 - a / 64=m
 have hm2:a / 64+m=(a+s.length - 1) / 64+1/\(a+s.length - 1) / 64<262144:=by omega
 refine ⟨λn R' aF k=>∃ (i:Nat) (u:DkU) (qu:List (Int × Int)),n=((a / 64+i:Nat):Int)/\i+k=m/\R'=cJ (q.mv u) { d1 with queue:=qu }++S/\aF=Φ/\wK (q.mv u) { d1 with queue:=qu }/\yH f ((List.range' i k).map λi=>((a / 64+i:Nat):Int)) qu=yH f (uY a s.length) d1.queue,⟨_,Φ,m,inferInstance,λw G cx=>cx,0,_,d1.queue,by rw [Int.tdiv_eq_ediv_of_nonneg (by omega)];omega,by omega,rfl,rfl,hq1,by rw [a3I,hm]⟩,?_⟩
 rintro n R' Φ k st ⟨i,u,qu,rfl,hik,rfl,rfl,gG,a1n⟩
 have hbd:((a:Int)+(s.length:Int) - 1).tdiv 64=(((a+s.length - 1) / 64:Nat):Int):=by rw [Int.tdiv_eq_ediv_of_nonneg (by omega)];omega
 rw [hbd]
 refine ⟨by unfold aR;omega,by unfold aR;omega,by decide,by unfold aR;omega,Br.intro (λhlt=>?_) (λhge=>λw G cx=>?_)⟩
 ·have hlt:=of_decide_eq_true hlt
  obtain ⟨k,rfl⟩:∃ k',k=k'+1:=⟨k - 1,by omega⟩
  intro b w G cx
  have c1:∀ w',w'=w.setCells b 0 [.int .i64 f,.int .i64 ((a / 64+i:Nat):Int)]->Ctx W w' (.blk b [.int .i64 f,.int .i64 ((a / 64+i:Nat):Int)] 110 :: (cJ (q.mv u) { d1 with queue:=qu }++S)++G) Φ:=λw' hw'=>cx.EY 0 hw' rfl
  refine ⟨cx.can 0 rfl (by decide),λw' hw'=>⟨_,Φ,inferInstance,c1 w' hw',λw G cx=>⟨some u.sm,pK (q:=q.mv u) (d:={ d1 with queue:=qu }) cx.drop1.left rfl,f,((a / 64+i:Nat):Int),cx.LO 0 rfl,decide ((f,((a / 64+i:Nat):Int))∈qu),λw2 F3=>?_,Br.intro (λhin=>?_) (λhin=>?_)⟩⟩⟩
  ·have hr:=uS (P:=Tryz.prog) a7E (w:=w2) (by rw [F3];exact aU7 (q:=q.mv u) (d:={ d1 with queue:=qu }) cx.drop1.left) (f,((a / 64+i:Nat):Int))
   rw [gG.a5P] at hr
   exact hr
  ·have hin:(f,((a / 64+i:Nat):Int)) ∉ qu:=by simpa using hin
   have aDA:yH f ((List.range' (i+1) k).map λi=>((a / 64+i:Nat):Int)) (qu++[(f,((a / 64+i:Nat):Int))])=yH f (uY a s.length) d1.queue:=by
    rw [<-a1n,List.range'_succ,List.map_cons]
    show _=yH f _ (if _ then _ else _)
    rw [if_neg hin]
   generalize hn:((a / 64+i:Nat):Int)=n at *
   refine ⟨[.blk b [.int .i64 f,.int .i64 n] 110],tru,inferInstance,λw G cx=>fL cx (.cons_cons _ (List.nil_sublist _)),[.blk b [.int .i64 f,.int .i64 n] 110,.blk q.db (C4 (q.mv u) { d1 with queue:=qu }) 97],tru,inferInstance,λw G cx=>fL cx (.cons_cons _ (.cons_cons _ (List.nil_sublist _))),
    f,n,λw G cx=>⟨f,n,cx.LO 0 rfl,rfl⟩,f,n,λw G cx=>⟨f,n,cx.LO 0 rfl,rfl⟩,some u.sm,λw G cx=>⟨some u.sm,cx.get 1 rfl rfl,rfl⟩,u.qp,qu.length,u.qc,λw G cx=>⟨_,_,_,cx.get 1 rfl rfl,rfl⟩,λg=>⟨λw G cx=>fL cx (.cons _ (.cons_cons _ (List.nil_sublist _))),λw G cx=>fL cx (.cons _ (.cons_cons _ (.cons_cons _ (List.nil_sublist _)))),λw G cx=>?_⟩⟩
   have cx:Ctx W w ([.blk g [.int .i64 f,.int .i64 n] 110,.blk b [.int .i64 f,.int .i64 n] 110,.blk q.db (C4 (q.mv u) { d1 with queue:=qu }) 97,.obj u.fm (cA (Value.int .i64) j4 u.A4 u.dG),.obj u.sm (cA lA Value.bool u.J5 u.mJ)]++.buf u.qp qu.length u.qc (iT qu) 110 2 :: (S++G)) Φ:=cx
   have cx:=cx.perm (List.Perm.cons _ (List.perm_middle (l₁:=[Own.blk b [.int .i64 f,.int .i64 n] 110,.blk q.db (C4 (q.mv u) { d1 with queue:=qu }) 97,.obj u.fm (cA (Value.int .i64) j4 u.A4 u.dG),.obj u.sm (cA lA Value.bool u.J5 u.mJ)])))
   obtain ⟨p',cap',w',hr,_,c2⟩:=cx.a2t (ts:=95) (ty:=95) (kb:=#[false,false]) (bytes:=16) (by kernel_rfl) (by decide) rfl rfl (by have:=gG.XA;show qu.length<_;exact Nat.lt_of_le_of_lt this (by decide)) (by decide)
   refine ⟨p',qu.length+1,cap',w',hr,.buf p' (qu.length+1) cap' (iT qu++aDz f n) 110 2 :: .blk b [.int .i64 f,.int .i64 n] 110 :: .blk q.db (C4 (q.mv u) { d1 with queue:=qu }) 97 :: .obj u.fm (cA (Value.int .i64) j4 u.A4 u.dG) :: .obj u.sm (cA lA Value.bool u.J5 u.mJ) :: S,Φ,inferInstance,c2,λw G cx=>fL cx (.cons _ (.cons_cons _ (List.nil_sublist _))),λw G cx=>fL cx (.cons _ (.cons_cons _ (.cons_cons _ (List.nil_sublist _)))),λw G cx=>⟨cx.can 2 rfl (by show 0+1+1<=7;omega),λw' hw'=>?_⟩⟩
   have c3:=cx.put 2 hw' rfl
   refine ⟨.buf p' (qu.length+1) cap' (iT qu++aDz f n) 110 2 :: .blk b [.int .i64 f,.int .i64 n] 110 :: .blk q.db ((C4 (q.mv u) { d1 with queue:=qu }).set 1 (.slice p' (qu.length+1) cap')) 97 :: .obj u.fm (cA (Value.int .i64) j4 u.A4 u.dG) :: .obj u.sm (cA lA Value.bool u.J5 u.mJ) :: S,Φ,inferInstance,c3,λw G cx=>fL cx (.cons _ (.cons_cons _ (List.nil_sublist _))),trivial,λw G cx=>?_⟩
   obtain ⟨fU,oM,sn,hr1,P3,hg1,hx1⟩:=a4X (P:=Tryz.prog) a7E gG.sok (cx.own (.obj u.sm (cA lA Value.bool u.J5 u.mJ)) (by simp)) (f,n)
   have c4:=cx.putObj 4 (cA lA Value.bool fU oM) rfl
   refine ⟨_,_,_,hr1,.buf p' (qu.length+1) cap' (iT qu++aDz f n) 110 2 :: .blk b [.int .i64 f,.int .i64 n] 110 :: .blk q.db ((C4 (q.mv u) { d1 with queue:=qu }).set 1 (.slice p' (qu.length+1) cap')) 97 :: .obj u.fm (cA (Value.int .i64) j4 u.A4 u.dG) :: .obj u.sm (cA lA Value.bool fU oM) :: S,Φ,inferInstance,c4,λw G cx=>fL cx (.cons _ (.cons_cons _ (List.nil_sublist _))),trivial,λw G cx=>?_⟩
   obtain ⟨RS,hr2,ok2,hg2⟩:=a4Y (P:=Tryz.prog) (z:=false) 94 P3 hx1 (cx.own (.obj u.sm (cA lA Value.bool fU oM)) (by simp)) true
   have c5:=cx.putObj 4 (cA lA Value.bool RS oM) rfl
   refine ⟨_,hr2,.buf p' (qu.length+1) cap' (iT qu++aDz f n) 110 2 :: .blk b [.int .i64 f,.int .i64 n] 110 :: .blk q.db ((C4 (q.mv u) { d1 with queue:=qu }).set 1 (.slice p' (qu.length+1) cap')) 97 :: .obj u.fm (cA (Value.int .i64) j4 u.A4 u.dG) :: .obj u.sm (cA lA Value.bool RS oM) :: S,Φ,inferInstance,c5,λw G cx=>fL cx (.cons _ (.cons_cons _ (List.nil_sublist _))),trivial,by unfold aR;omega,cJ (q.mv { u with qp:=p',qc:=cap',J5:=RS,mJ:=oM }) { d1 with queue:=qu++[(f,n)] }++S,Φ,k,inferInstance,λw G cx=>?_,⟨i+1,_,_,by omega,by omega,rfl,rfl,⟨gG.fok,ok2,gG.C5,λp=>?_,?_,λp hp=>?_,gG.size,gG.lost,gG.bS⟩,aDA⟩,Nat.lt_succ_self _⟩
   ·have c6:Ctx W w (.buf p' (qu.length+1) cap' (iT qu++aDz f n) 110 2 :: ([.blk q.db ((C4 (q.mv u) { d1 with queue:=qu }).set 1 (.slice p' (qu.length+1) cap')) 97,.obj u.fm (cA (Value.int .i64) j4 u.A4 u.dG),.obj u.sm (cA lA Value.bool RS oM)]++(S++G))) Φ:=cx.sub (.cons_cons _ (.cons _ (List.Sublist.refl _)))
    have c7:=c6.perm List.perm_middle.symm
    show Ctx W w (.blk q.db _ 97 :: .obj u.fm _ :: .obj u.sm _ :: .buf p' (qu++[(f,n)]).length cap' (iT (qu++[(f,n)])) 110 2 :: (S++G)) Φ
    rw [a3J,List.length_append]
    have e4:C4 (q.mv { u with qp:=p',qc:=cap',J5:=RS,mJ:=oM }) { d1 with queue:=qu++[(f,n)] }=(C4 (q.mv u) { d1 with queue:=qu }).set 1 (.slice p' (qu.length+1) cap'):=by
     show [_,Value.slice p' (qu++[(f,n)]).length cap',_,_,_,_,_]=_
     rw [List.length_append];rfl
    rw [e4]
    exact c7
   ·show hY false RS p=decide (p∈qu++[(f,n)])
    rw [hg2 p,hg1 p]
    have:=gG.a5P p
    by_cases e:p=(f,n)
    ·rw [if_pos e,e];simp
    ·rw [if_neg e]
     refine this.trans (decide_eq_decide.2 ?_)
     simp [e]
   ·show (qu++[(f,n)]).Nodup
    refine List.nodup_append.2 ⟨gG.nodup,by simp,λx hx y hy e=>?_⟩
    rw [List.mem_singleton.1 hy] at e
    exact hin (by rw [<-e];exact hx)
   ·rcases List.mem_append.1 hp with hp|hp
    ·exact gG.range p hp
    ·rw [List.mem_singleton.1 hp]
     exact ⟨hfl,by show 0<=n;omega,by show n<262145;omega⟩
  ·have hin:(f,((a / 64+i:Nat):Int))∈qu:=by simpa using hin
   refine ⟨by unfold aR;omega,cJ (q.mv u) { d1 with queue:=qu }++S,Φ,k,inferInstance,λw G cx=>cx.drop1,⟨i+1,u,qu,by omega,by omega,rfl,rfl,gG,?_⟩,Nat.lt_succ_self _⟩
   rw [<-a1n,List.range'_succ,List.map_cons]
   show _=yH f _ (if _ then _ else _)
   rw [if_pos hin]
 ·have hge:=of_decide_eq_false hge
  have hk0:k=0:=by omega
  subst hk0
  have:yH f (uY a s.length) d1.queue=qu:=a1n.symm
  rw [this] at hk
  exact hk u w gG cx.left
end
end Go.Proofs.YtfccagphnfceiaaGreatDoor
end

section
namespace Go.Proofs.YtfccagphnfceiaaGreatDoor
open Go.Vc
abbrev oN (p:Option Addr) (cap:Nat) (l:List (Int × Int)):Own:=.buf p l.length cap (iT l) 110 2
theorem ZG:∀ (l:List (Int × Int)) (k:Nat),(iT l).take (k*2)=iT (l.take k)
 | l,0=>by simp
 | [],k+1=>by simp
 | x :: l,k+1=>by
  rw [show (k+1)*2=k*2+1+1 by omega,List.take_succ_cons]
  show (Value.int .i64 x.1 :: .int .i64 x.2 :: iT l).take (k*2+1+1)=.int .i64 x.1 :: .int .i64 x.2 :: iT (l.take k)
  rw [List.take_succ_cons,List.take_succ_cons,ZG l k]
theorem aDB {l:List (Int × Int)} {i:Nat} (h:i<l.length) (x:Int × Int):oB (iT l) (i*2) [.int .i64 x.1,.int .i64 x.2]=iT (l.set i x):=by
 induction l generalizing i with
 | nil=>simp at h
 | cons y l ih =>
  cases i with
  | zero=>rfl
  | succ i =>
   have:=ih (i:=i) (by simpa using h)
   rw [List.set_cons_succ]
   show oB (Value.int .i64 y.1 :: .int .i64 y.2 :: iT l) ((i+1)*2) [.int .i64 x.1,.int .i64 x.2]=Value.int .i64 y.1 :: .int .i64 y.2 :: iT (l.set i x)
   rw [<-this]
   apply List.ext_getElem?
   intro k
   have hlen:(iT l).length=l.length*2:=yP l
   have hi:i<l.length:=by simpa using h
   generalize iT l=cs at hlen this
   by_cases hk:k<2
   ·rw [kW _ _ _ _ (by omega)]
    match k,hk with
    | 0,_=>rfl
    | 1,_=>rfl
   ·obtain ⟨m,rfl⟩:∃ m,k=m+2:=⟨k - 2,by omega⟩
    simp only [List.getElem?_cons_succ]
    by_cases h1:m<i*2\/i*2+2<=m
    ·rw [kW _ _ _ _ (by simp;omega),kW _ _ _ _ (by simp;omega)]
     simp only [List.getElem?_cons_succ]
    ·obtain ⟨q,rfl⟩:∃ q,m=i*2+q:=⟨m - i*2,by omega⟩
     rw [CZ _ _ _ _ (by simp;omega) (by simp;omega),show i*2+q+2=(i+1)*2+q by omega,CZ _ _ _ _ (by simp;omega) (by simp;omega)]
theorem aDC {W w:World} {S:List Own} {Φ:PW} {p:Option Addr} {cap:Nat} {l:List (Int × Int)} (cx:Ctx W w (oN p cap l :: S) Φ) (h:0<l.length):∃ g,p=some ⟨g,0,none⟩:=by
 obtain ⟨g,hg,_⟩:=cx.jF 0 rfl (by rw [yP];omega)
 exact ⟨g,hg⟩
theorem aDD {W w:World} {S:List Own} {Φ:PW} {g cap:Nat} {l:List (Int × Int)} (cx:Ctx W w (oN (some ⟨g,0,none⟩) cap l :: S) Φ) {i:Nat} {X:Int × Int} (hX:l[i]? = some X):dH w g (i*2) [.int .i64 X.1,.int .i64 X.2]:=by
 obtain ⟨hi,rfl⟩:=List.getElem?_eq_some_iff.1 hX
 exact cx.OE 0 rfl rfl (zY (a1l hi))
theorem aL6 {W w:World} {S:List Own} {Φ:PW} {g cap:Nat} {l:List (Int × Int)} (cx:Ctx W w (oN (some ⟨g,0,none⟩) cap l :: S) Φ) {i:Nat} (hi:i<l.length):aE w g (i*2) 2 :=
 cx.aBk 0 rfl rfl (by rw [yP];omega)
theorem aL7 {W w w':World} {S:List Own} {Φ:PW} [aA Φ] {g cap:Nat} {l:List (Int × Int)} (cx:Ctx W w (oN (some ⟨g,0,none⟩) cap l :: S) Φ) {i:Nat} (hi:i<l.length) (x:Int × Int) (e:w'=w.setCells g (i*2) [.int .i64 x.1,.int .i64 x.2]) :
  Ctx W w' (oN (some ⟨g,0,none⟩) cap (l.set i x) :: S) Φ:=by
 have h:=cx.a0Q 0 rfl rfl (by rw [yP];omega) (by rw [yP];simp only [List.length_cons,List.length_nil];omega) e
 rw [aDB hi] at h
 have hl:(l.set i x).length=l.length:=by simp
 show Ctx W w' (.buf (some ⟨g,0,none⟩) (l.set i x).length cap (iT (l.set i x)) 110 2 :: S) Φ
 rw [hl]
 exact h
def a1o (f:Int × Int->Bool) (l:List (Int × Int)):Int:=if l.findIdx f<l.length then (l.findIdx f:Int) else -1
structure aDE (Z:List Own) (Φ:PW) (df:FuncId) (dc:Array Value) (f:Int × Int->Bool):Prop where
 ok:qT Tryz.prog df=true
 go:∀ (x:Int × Int) {W w:World} {S:List Own},Ctx W w (Z++S) Φ->∀ {K:Ending->World->Prop},(∀ w',Ctx W w' (Z++S) Φ->K (.returned (.bool (f x))) w')->Calls Tryz.prog df (Array.mk (lA x :: dc.toList)) w K
theorem re3 {W w:World} {Φ:PW} {o:Own} {Z S G:List Own} (cx:Ctx W w ((o :: (Z++S))++G) Φ):Ctx W w (o :: (Z++(S++G))) Φ:=by
 rw [<-List.append_assoc];exact cx
theorem re4 {W w:World} {Φ:PW} {o:Own} {Z S G:List Own} (cx:Ctx W w (o :: (Z++(S++G))) Φ):Ctx W w ((o :: (Z++S))++G) Φ:=by
 rw [<-List.append_assoc] at cx;exact cx
theorem aDE.use {Z:List Own} {Φ:PW} [aA Φ] {df:FuncId} {dc:Array Value} {f:Int × Int->Bool} (h:aDE Z Φ df dc f) (x:Int × Int) {W w:World} {S G:List Own} {o:Own} (cx:Ctx W w ((o :: (Z++S))++G) Φ) {K:Ending->World->Prop} (hk:∀ w',Ctx W w' ((o :: (Z++S))++G) Φ->K (.returned (.bool (f x))) w'):Calls Tryz.prog df (Array.mk (lA x :: dc.toList)) w K :=
 h.go x (S:=o :: (S++G)) ((re3 cx).perm (List.perm_middle (l₁:=Z) (l₂:=S++G)).symm) λw' cx=>hk w' (re4 (cx.perm List.perm_middle))
theorem XB {W w:World} {S:List Own} {Φ:PW} [aA Φ] {df:FuncId} {dc:Array Value} {f:Int × Int->Bool} {Z:List Own} (hf:aDE Z Φ df dc f) {p:Option Addr} {cap:Nat} (es:List (Int × Int)) (hl:es.length<=100000000) (cx:Ctx W w (oN p cap es :: (Z++S)) Φ) {K:Ending->World->Prop}
  (hK:∀ w',Ctx W w' (oN p cap es :: (Z++S)) Φ->K (.returned (.int .i64 (a1o f es))) w') :
  Calls Tryz.prog F.cS #[.slice p es.length cap,.func (.func df) #[] dc] w K:=by
 refine (kE p es.length cap df dc (J:=λu w'=>K (.returned u) w') cx ?_).mono λe w' ⟨v,he,hj⟩=>by rw [he];exact hj
 have hp:0<es.length->∃ g,p=some ⟨g,0,none⟩:=λh=>aDC cx h
 refine bY (λiI R' aF n=>∃ i:Nat,iI=i/\i<=es.length/\(∀ q (h:q<es.length),q<i->f es[q]=false)/\R'=oN p cap es :: (Z++S)/\aF=Φ/\n=es.length - i) ⟨⟨_,Φ,_,inferInstance,λw G cx=>cx,0,rfl,Nat.zero_le _,λq h h2=>by omega,rfl,rfl,rfl⟩,?_⟩
 clear cx
 rintro iI R1 bH n _ ⟨i,rfl,hi,h1,rfl,rfl,rfl⟩
 refine Br.intro (λhlt=>?_) (λhge=>λw G cx=>?_)
 ·have hlt:i<es.length:=by have:=of_decide_eq_true hlt;omega
  obtain ⟨g,hg⟩:=hp (by omega)
  subst hg
  refine ⟨⟨by omega,by omega⟩,aJ g 0 rfl λw G cx=>⟨es[i].1,es[i].2,by rw [Nat.zero_add,Int.toNat_natCast];exact aDD cx (List.getElem?_eq_getElem hlt),λw G cx=>⟨hf.ok,hf.use es[i] cx λw cx=>⟨_,rfl,oN (some ⟨g,0,none⟩) cap es :: (Z++S),bH,inferInstance,cx,Br.intro (λhc=>λw G cx=>?_) (λhc=>?_)⟩⟩⟩⟩
  ·have e:es.findIdx f=i:=List.findIdx_eq hlt |>.2 ⟨hc,λq hq=>by rw [h1 q (by omega) hq]⟩
   have:=hK w cx.left
   unfold a1o at this
   rw [e,if_pos hlt] at this
   exact this
  ·exact ⟨by unfold aR;omega,_,bH,es.length - (i+1),inferInstance,λw G cx=>cx,⟨i+1,by omega,by omega,λq h hq=>by
    by_cases e:q=i
    ·subst e;exact hc
    ·exact h1 q h (by omega),rfl,rfl,rfl⟩,by omega⟩
 ·have hge:es.length<=i:=by have:=of_decide_eq_false hge;omega
  have e:¬ es.findIdx f<es.length:=λh=>by
   have h2:=List.findIdx_getElem (w:=h)
   rw [h1 _ h (by omega)] at h2
   cases h2
  have:=hK w cx.left
  unfold a1o at this
  rw [if_neg e] at this
  exact this
set_option maxHeartbeats 2000000 in
theorem a5R {W w:World} {S:List Own} {Φ:PW} [aA Φ] {df:FuncId} {dc:Array Value} {f:Int × Int->Bool} {Z:List Own} (hdf:aDE Z Φ df dc f) {p:Option Addr} {cap:Nat} (es:List (Int × Int)) (hl:es.length<=100000000) (cx:Ctx W w (oN p cap es :: (Z++S)) Φ) {K:Ending->World->Prop}
  (hK:∀ w',Ctx W w' (oN p cap (es.filter λx => !f x) :: (Z++S)) Φ->K (.returned (.slice p (es.filter λx => !f x).length cap)) w') :
  Calls Tryz.prog F.cM #[.slice p es.length cap,.func (.func df) #[] dc] w K:=by
 refine (jW p es.length cap df dc (J:=λu w'=>K (.returned u) w') cx ?_).mono λe w' ⟨v,he,hj⟩=>by rw [he];exact hj
 have hp:0<es.length->∃ g,p=some ⟨g,0,none⟩:=λh=>aDC cx h
 obtain ⟨_,hnc,hcm⟩:=cx.xM 0 rfl
 clear cx
 refine λw G cx=>XB hdf es hl (S:=S++G) (re3 cx) λw cx=>⟨_,rfl,oN p cap es :: (Z++S),Φ,inferInstance,re4 cx,?_⟩
 clear cx
 unfold a1o
 by_cases hf:es.findIdx f<es.length
 case neg =>
  rw [if_neg hf]
  refine Br.intro (λ_=>λw G cx=>?_) (λh=>absurd rfl (of_decide_eq_false h))
  have e:es.filter (λx => !f x)=es:=List.filter_eq_self.2 λx hx=>by
   cases h:f x with
   | false=>rfl
   | true=>exact absurd (List.findIdx_lt_length.2 ⟨x,hx,h⟩) hf
  rw [e] at hK
  exact hK w cx.left
 rw [if_pos hf]
 obtain ⟨g,hg⟩:=hp (by omega)
 subst hg
 obtain ⟨i0,hi0⟩:∃ i0,es.findIdx f=i0:=⟨_,rfl⟩
 have hg0:f (es[i0]'(by omega))=true:=by
  have:=List.findIdx_getElem (w:=hf)
  simp only [hi0] at this
  exact this
 have hb0:∀ q (h:q<es.length),q<i0->f es[q]=false:=λq h hq=>by
  have:=List.not_of_lt_findIdx (p:=f) (xs:=es) (i:=q) (by omega)
  simpa using this
 rw [hi0] at hf ⊢
 have hstart:es.take i0=(es.take (i0+1)).filter λx => !f x:=by
  rw [List.take_succ_eq_append_getElem hf,List.filter_append,List.filter_cons_of_neg (by rw [hg0];simp),List.filter_nil,List.append_nil]
  refine (List.filter_eq_self.2 λx hx=>?_).symm
  obtain ⟨q,hq,rfl⟩:=List.getElem_of_mem hx
  rw [List.length_take] at hq
  rw [List.getElem_take,hb0 q (by omega) (by omega)]
  rfl
 refine Br.intro (λh=>absurd (of_decide_eq_true h) (by omega)) (λ_=>⟨by unfold aR;omega,?_⟩)
 refine bY (λaI bI R' aF n=>∃ (i j:Nat) (cur:List (Int × Int)),aI=i/\bI=j/\i<j/\j<=es.length/\cur.length=es.length/\cur.take i=(es.take j).filter (λx => !f x)/\cur.drop j=es.drop j/\R'=oN (some ⟨g,0,none⟩) cap cur :: (Z++S)/\aF=Φ/\n=es.length - j)
  ⟨⟨_,Φ,_,inferInstance,λw G cx=>cx,i0,i0+1,es,rfl,by omega,by omega,hf,rfl,hstart,rfl,rfl,rfl,rfl⟩,?_⟩
 rintro aI bI R1 bH n _ ⟨i,j,cur,rfl,rfl,hij,hj,DI,htk,hdr,rfl,rfl,rfl⟩
 refine Br.intro (λhlt=>?_) (λhge=>?_)
 ·have hlt:j<es.length:=by have:=of_decide_eq_true hlt;omega
  have hcj:cur[j]'(by omega)=es[j]:=by
   have h:=congrArg (λl=>l[0]?) hdr
   simp only [List.getElem?_drop,Nat.add_zero] at h
   rw [List.getElem?_eq_getElem (by omega),List.getElem?_eq_getElem hlt] at h
   exact Option.some.inj h
  have htj:es.take (j+1)=es.take j++[es[j]]:=List.take_succ_eq_append_getElem hlt
  have hdj:cur.drop (j+1)=es.drop (j+1):=by rw [<-List.drop_drop,<-List.drop_drop,hdr]
  refine ⟨⟨by omega,by omega⟩,aJ g 0 rfl λw G cx=>⟨(cur[j]'(by omega)).1,(cur[j]'(by omega)).2,by rw [Nat.zero_add,Int.toNat_natCast];exact aDD cx (List.getElem?_eq_getElem (by omega)),λb w G cx=>⟨hdf.ok,hdf.use (cur[j]'(by omega)) cx λw cx=>⟨_,rfl,oN (some ⟨g,0,none⟩) cap cur :: (Z++S),bH,inferInstance,cx,Br.intro (λhc=>?_) (λhc=>?_)⟩⟩⟩⟩
  ·have hk:f es[j]=false:=by rw [hcj] at hc;simpa using hc
   refine ⟨⟨by omega,by omega⟩,aJ g 0 rfl λw G cx=>⟨by rw [Nat.zero_add,Int.toNat_natCast];exact aL6 cx (i:=i) (by omega),λw' hw'=>?_⟩⟩
   rw [Nat.zero_add,Int.toNat_natCast] at hw'
   have cx2:=aL7 cx (i:=i) (by omega) (cur[j]'(by omega)) hw'
   refine ⟨oN (some ⟨g,0,none⟩) cap (cur.set i (cur[j]'(by omega))) :: (Z++S),bH,inferInstance,cx2,by unfold aR;omega,by unfold aR;omega,_,bH,es.length - (j+1),inferInstance,λw G cx=>cx,⟨i+1,j+1,cur.set i (cur[j]'(by omega)),by omega,by omega,by omega,by omega,by rw [List.length_set];exact DI,?_,?_,rfl,rfl,rfl⟩,by omega⟩
   ·rw [List.take_succ_eq_append_getElem (by rw [List.length_set];omega),List.take_set_of_le (Nat.le_refl _),List.getElem_set_self,htk,htj,List.filter_append,List.filter_cons_of_pos (by rw [hk];rfl),List.filter_nil,hcj]
   ·rw [List.drop_set_of_lt (by omega)];exact hdj
  ·have hk:f es[j]=true:=by rw [hcj] at hc;simpa using hc
   refine ⟨by unfold aR;omega,_,bH,es.length - (j+1),inferInstance,λw G cx=>cx,⟨i,j+1,cur,rfl,by omega,by omega,by omega,DI,?_,hdj,rfl,rfl,rfl⟩,by omega⟩
   rw [htj,List.filter_append,List.filter_cons_of_neg (by rw [hk];simp),List.filter_nil,List.append_nil,htk]
 ·have hge:j=es.length:=by have:=of_decide_eq_false hge;omega
  subst hge
  rw [List.take_length] at htk
  have hil:(es.filter λx => !f x).length=i:=by rw [<-htk,List.length_take];omega
  refine ⟨⟨by omega,by omega,hnc⟩,λw G cx=>?_⟩
  have J1:Ctx W w (oN (some ⟨g,0,none⟩) cap cur :: ((Z++S)++G)) bH:=cx
  obtain ⟨w',hr,cx2⟩:=J1.aL3 rfl (ts:=95) (ty:=0) (kb:=#[false]) (k:=i) (bytes:=16) (by kernel_rfl) (by kernel_rfl) (by omega) (by omega)
  rw [DI] at hr
  rw [ZG,htk] at cx2
  refine ⟨w',by rw [Int.toNat_natCast];exact hr,oN (some ⟨g,0,none⟩) cap (es.filter λx => !f x) :: (Z++S),bH,inferInstance,by show Ctx W w' (.buf _ (es.filter _).length cap (iT _) 110 2 :: _) _;rw [hil];exact cx2,⟨by omega,by omega⟩,λw G cx=>?_⟩
  have:=hK w cx.left
  rw [hil] at this
  rw [a3D,Int.toNat_natCast]
  exact this
theorem a5S {Φ:PW} [aA Φ] {kb:Nat} {f:Int}:aDE [.blk kb [.int .i64 f] 3] Φ F.qM #[.pointer (some ⟨kb,0,none⟩)] (λp=>decide (p.1=f)):=⟨by kernel_rfl,λx W w S cx K hk=>by
 refine (BW x.1 x.2 kb 0 (J:=λu w'=>K (.returned u) w') cx ?_).mono λe w' ⟨v,he,hj⟩=>by rw [he];exact hj
 exact λb w G cx=>⟨f,cx.get 0 rfl rfl,λw G cx=>hk w cx.left⟩⟩
end Go.Proofs.YtfccagphnfceiaaGreatDoor
end

section
namespace Go.Proofs.YtfccagphnfceiaaGreatDoor
open Go.Vc
structure aU9 (Z:List Own) (Φ:PW) (df:FuncId) (dc:Array Value) (f:Int × Int->Bool):Prop where
 ok:qT Tryz.prog df=true
 go:∀ (x:Int × Int) (b:Bool) {W w:World} {S:List Own},Ctx W w (Z++S) Φ->∀ {K:Ending->World->Prop},(∀ w',Ctx W w' (Z++S) Φ->K (.returned (.bool (f x))) w')->Calls Tryz.prog df (Array.mk (lA x :: .bool b :: dc.toList)) w K
theorem a5T {Φ:PW} [aA Φ] {kb:Nat} {f:Int}:aU9 [.blk kb [.int .i64 f] 3] Φ F.qN #[.pointer (some ⟨kb,0,none⟩)] (λp=>decide (p.1=f)):=⟨by kernel_rfl,λx b W w S cx K hk=>by
 refine (BX x.1 x.2 b kb 0 (J:=λu w'=>K (.returned u) w') cx ?_).mono λe w' ⟨v,he,hj⟩=>by rw [he];exact hj
 exact λb w G cx=>⟨f,cx.get 0 rfl rfl,λw G cx=>hk w cx.left⟩⟩
theorem a7H (A Z S G:List Own):(A++(Z++(S++G))).Perm (Z++(A++(S++G))):=by
 rw [<-List.append_assoc A,<-List.append_assoc Z];exact List.perm_append_comm.append_right _
abbrev x6 (b:Nat) (es:List (bE (Int × Int) Bool)) (vN:Nat):Own:=.obj b (cA lA Value.bool es vN)
theorem a5U {W w:World} {Z S:List Own} {Φ:PW} [aA Φ] {df:FuncId} {dc:Array Value} {f:Int × Int->Bool} (hdf:aU9 Z Φ df dc f) {b:Nat} {es:List (bE (Int × Int) Bool)} {vN:Nat} (ok:GOk es vN) (cx:Ctx W w (x6 b es vN :: (Z++S)) Φ) {K:Ending->World->Prop}
  (hK:∀ fU w',GOk fU vN->(∀ y,hY false fU y=if f y=true then false else hY false es y)->Ctx W w' (x6 b fU vN :: (Z++S)) Φ->K (.returned (.tuple #[])) w') :
  Calls Tryz.prog F.bJ #[.map (some b),.func (.func df) #[] dc] w K:=by
 refine (gV (some b) df dc (J:=λu w'=>K (.returned u) w') cx ?_).mono λe w' ⟨v,he,hj⟩=>by rw [he];exact hj
 intro w G cx
 have hb:=cx.own (x6 b es vN) (by simp)
 refine ⟨_,_,run_range_map (P:=Tryz.prog) w 94 110 4 b _ vN a7E.map hb,.obj w.heap.size (.mapIter (some b) vN #[] vN) :: x6 b es vN :: (Z++S),Φ,inferInstance,cx.newObj rfl,?_⟩
 clear hb cx
 generalize w.heap.size=r
 refine bY (λR' aF k=>∃ (seen:Array Nat) (fU:List (bE (Int × Int) Bool)),R'=.obj r (.mapIter (some b) vN seen vN) :: x6 b fU vN :: (Z++S)/\aF=Φ/\k=N8 seen.toList fU/\GOk fU vN/\(∀ e∈fU,e.born∈seen.toList->f e.key=false)/\(∀ y,f y=false->hY false fU y=hY false es y))
  ⟨⟨_,Φ,_,inferInstance,λw G cx=>cx,#[],es,rfl,rfl,rfl,ok,λe he hs=>by simp at hs,λy _=>rfl⟩,?_⟩
 rintro R1 Φ n _ ⟨seen,fU,rfl,rfl,rfl,P3,aDF,x7⟩
 intro w G cx
 have hr:=cx.own (.obj r (.mapIter (some b) vN seen vN)) (by simp)
 have hb:=cx.own (x6 b fU vN) (by simp)
 rcases aDy (P:=Tryz.prog) 0 hr hb P3.lt (Nat.le_refl _) with ⟨hall,hrun⟩|⟨a,ha,hns,w1,hw1,hrun⟩
 ·refine .inl ⟨w,hrun,.obj r (.mapIter (some b) vN seen vN) :: x6 b fU vN :: (Z++S),Φ,inferInstance,cx,λw G cx=>?_⟩
  refine hK fU w P3 (λy=>?_) (Ctx.left (Ctx.drop1 cx))
  cases hy:f y with
  | false=>rw [if_neg (by simp)];exact x7 y hy
  | true =>
   rw [if_pos rfl]
   exact qZ λe he e2=>by
    have:=aDF e he (hall e he)
    rw [e2,hy] at this
    cases this
 ·have c1:Ctx W w1 ((.obj r (.mapIter (some b) vN seen vN) :: x6 b fU vN :: (Z++S))++G) Φ:=by
   rcases hw1 with rfl|rfl
   ·exact cx
   ·exact cx.draw 1
  have c2:=c1.putObj 0 (.mapIter (some b) vN (seen.push a.born) vN) rfl
  refine .inr ⟨_,_,_,hrun,.obj r (.mapIter (some b) vN (seen.push a.born) vN) :: x6 b fU vN :: (Z++S),Φ,inferInstance,c2,λw G cx=>?_⟩
  refine ⟨a.key.1,a.key.2,a.val,w,a7B P3 (cx.own (.obj r (.mapIter (some b) vN (seen.push a.born) vN)) (by simp)) (cx.own (x6 b fU vN) (by simp)) ha,.obj r (.mapIter (some b) vN (seen.push a.born) vN) :: x6 b fU vN :: (Z++S),Φ,inferInstance,cx,λb0 w G cx=>⟨hdf.ok,?_⟩⟩
  have cx:Ctx W w ([Own.obj r (.mapIter (some b) vN (seen.push a.born) vN),x6 b fU vN]++(Z++(S++G))) Φ:=by
   rw [<-List.append_assoc Z];exact cx
  have cz:Ctx W w (Z++([Own.obj r (.mapIter (some b) vN (seen.push a.born) vN),x6 b fU vN]++(S++G))) Φ:=cx.perm (a7H _ _ _ _)
  refine hdf.go a.key a.val cz λw cz=>⟨_,rfl,.obj r (.mapIter (some b) vN (seen.push a.born) vN) :: x6 b fU vN :: (Z++S),Φ,inferInstance,?_,Br.intro (λhc=>λw G cx=>?_) (λhc=>?_)⟩
  ·have:=cz.perm (a7H _ _ _ _).symm
   rw [<-List.append_assoc Z] at this
   exact this
  ·obtain ⟨RS,a7i,ok2,hg2,hsub,hne⟩:=a3B (P:=Tryz.prog) a7E P3 (cx.own (x6 b fU vN) (by simp)) a.key 110 0 #[false,false]
   have c3:=cx.putObj 1 (cA lA Value.bool RS vN) rfl
   refine ⟨_,a7i,.obj r (.mapIter (some b) vN (seen.push a.born) vN) :: x6 b RS vN :: (Z++S),Φ,inferInstance,c3,_,Φ,N8 (seen.push a.born).toList RS,inferInstance,λw G cx=>cx,⟨_,RS,rfl,rfl,rfl,ok2,λe he hs=>?_,λy hy=>?_⟩,?_⟩
   ·rw [Array.toList_push] at hs
    rcases List.mem_append.1 hs with hs|hs
    ·exact aDF e (hsub.subset he) hs
    ·have hb2:=List.mem_singleton.1 hs
     have:e=a:=pU P3.rW (hsub.subset he) ha hb2
     exact absurd (by rw [this]) (hne e he)
   ·rw [hg2 y,if_neg (λe=>by rw [e,hc] at hy;cases hy)]
    exact x7 y hy
   ·rw [Array.toList_push]
    exact KK (hsub.map _) ha hns (List.nodup_iff_pairwise_ne.2 (List.pairwise_map.2 P3.rW))
  ·refine ⟨_,Φ,N8 (seen.push a.born).toList fU,inferInstance,λw G cx=>cx,⟨_,fU,rfl,rfl,rfl,P3,λe he hs=>?_,x7⟩,?_⟩
   ·rw [Array.toList_push] at hs
    rcases List.mem_append.1 hs with hs|hs
    ·exact aDF e he hs
    ·have:e=a:=pU P3.rW he ha (List.mem_singleton.1 hs)
     rw [this];exact hc
   ·rw [Array.toList_push]
    exact KK (List.Sublist.refl _) ha hns (List.nodup_iff_pairwise_ne.2 (List.pairwise_map.2 P3.rW))
theorem a5V {W w:World} {S:List Own} {Φ:PW} [aA Φ] {q:uK} {d:cC} (hq:wK q d) {f:Int} {s:Bs} (hs:s.length<=16777216) (cx:Ctx W w (cJ q d++S) Φ) {K:Ending->World->Prop}
  (hk:∀ u w',wK (q.mv u) (sA d f s)->Ctx W w' (cJ (q.mv u) (sA d f s)++S) Φ->K (.returned (.tuple #[])) w'):Calls Tryz.prog F.oF #[.pointer (some ⟨q.db,0,none⟩),.int .i64 f,.string (bs s)] w K:=by
 refine (EE q.db 0 f (bs s) (J:=λu w'=>K (.returned u) w') cx λkb w G cx=>⟨f,cx.get 0 rfl rfl,λw G cx=>⟨some q.fm,pK (d:=d) cx.drop1.left rfl,λw G cx=>?_⟩⟩).mono λe w' ⟨v,he,hj⟩=>by rw [he];exact hj
 obtain ⟨fU,oM,hr,P3,hg1⟩:=FM (P:=Tryz.prog) N9 hq.fok (a3E (d:=d) cx.drop1.left) f ⟨s,s⟩
 have cx:Ctx W w (.blk kb [.int .i64 f] 3 :: .blk q.db (C4 q d) 97 :: .obj q.fm (cA (Value.int .i64) j4 q.A4 q.dG) :: .obj q.sm (cA lA Value.bool q.J5 q.mJ) :: oN q.qp q.qc d.queue :: (S++G)) Φ:=cx
 have c1:=(cx.putObj 2 (cA (Value.int .i64) j4 fU oM) rfl).perm (List.perm_middle (l₁:=[Own.blk kb [.int .i64 f] 3,.blk q.db (C4 q d) 97,.obj q.fm (cA (Value.int .i64) j4 fU oM),.obj q.sm (cA lA Value.bool q.J5 q.mJ)]))
 refine ⟨_,hr,oN q.qp q.qc d.queue :: .blk kb [.int .i64 f] 3 :: .blk q.db (C4 q d) 97 :: .obj q.fm (cA (Value.int .i64) j4 fU oM) :: .obj q.sm (cA lA Value.bool q.J5 q.mJ) :: S,Φ,inferInstance,c1,λw G cx=>⟨q.qp,_,q.qc,cx.get 2 rfl rfl,λw G cx=>?_⟩⟩
 have hle:=hq.XA
 refine a5R (Z:=[.blk kb [.int .i64 f] 3]) a5S d.queue (by omega) (S:=.blk q.db (C4 q d) 97 :: .obj q.fm (cA (Value.int .i64) j4 fU oM) :: .obj q.sm (cA lA Value.bool q.J5 q.mJ) :: (S++G)) cx λw cx=>?_
 have ef:(d.queue.filter λp => !(decide (p.1=f)))=d.queue.filter λp=>decide (p.1≠f):=by
  refine congrArg (λg=>d.queue.filter g) (funext λp=>?_)
  by_cases h:p.1=f<;>simp [h]
 rw [ef] at cx ⊢
 generalize hqu:(d.queue.filter λp=>decide (p.1≠f))=qu at cx ⊢
 refine ⟨_,_,_,rfl,oN q.qp q.qc qu :: .blk kb [.int .i64 f] 3 :: .blk q.db (C4 q d) 97 :: .obj q.fm (cA (Value.int .i64) j4 fU oM) :: .obj q.sm (cA lA Value.bool q.J5 q.mJ) :: S,Φ,inferInstance,cx,λw G cx=>⟨cx.can 2 rfl (by show 0+1+1<=7;omega),λw' hw'=>?_⟩⟩
 have c2:=(cx.put 2 hw' rfl)
 refine ⟨oN q.qp q.qc qu :: .blk kb [.int .i64 f] 3 :: .blk q.db ((C4 q d).set 1 (.slice q.qp qu.length q.qc)) 97 :: .obj q.fm (cA (Value.int .i64) j4 fU oM) :: .obj q.sm (cA lA Value.bool q.J5 q.mJ) :: S,Φ,inferInstance,c2,λw G cx=>⟨some q.sm,cx.get 2 rfl rfl,λw G cx=>?_⟩⟩
 have cx:Ctx W w ([oN q.qp q.qc qu,.blk kb [.int .i64 f] 3,.blk q.db ((C4 q d).set 1 (.slice q.qp qu.length q.qc)) 97,.obj q.fm (cA (Value.int .i64) j4 fU oM)]++x6 q.sm q.J5 q.mJ :: (S++G)) Φ:=cx
 have cx:=cx.perm List.perm_middle
 have cx:Ctx W w (x6 q.sm q.J5 q.mJ :: ([oN q.qp q.qc qu]++.blk kb [.int .i64 f] 3 :: (.blk q.db ((C4 q d).set 1 (.slice q.qp qu.length q.qc)) 97 :: .obj q.fm (cA (Value.int .i64) j4 fU oM) :: (S++G)))) Φ:=cx
 have cx:=cx.perm (List.Perm.cons _ List.perm_middle)
 refine a5U (Z:=[.blk kb [.int .i64 f] 3]) a5T hq.sok cx λRS w ok2 hg2 cx=>?_
 have cx:Ctx W w ([x6 q.sm RS q.mJ,.blk kb [.int .i64 f] 3,oN q.qp q.qc qu]++.blk q.db ((C4 q d).set 1 (.slice q.qp qu.length q.qc)) 97 :: .obj q.fm (cA (Value.int .i64) j4 fU oM) :: (S++G)) Φ:=cx
 refine ⟨rfl,[x6 q.sm RS q.mJ,.blk kb [.int .i64 f] 3,oN q.qp q.qc qu]++.blk q.db ((C4 q d).set 1 (.slice q.qp qu.length q.qc)) 97 :: .obj q.fm (cA (Value.int .i64) j4 fU oM) :: S,Φ,inferInstance,cx,λw G cx=>?_⟩
 have hd:sA d f s={ d.set f ⟨s,s⟩ with queue:=qu }:=by unfold sA;rw [hqu]
 refine hk ⟨q.fm,fU,oM,q.sm,RS,q.mJ,q.qp,q.qc⟩ w ?_ ?_
 ·rw [hd]
  have hsub:qu.Sublist d.queue:=by rw [<-hqu];exact List.filter_sublist
  refine ⟨P3,ok2,λk=>?_,λp=>?_,hq.nodup.sublist hsub,λp hp=>hq.range p (hsub.subset hp),λk=>?_,hq.lost,hq.bS⟩
  ·have:=hg1 k
   rw [hq.C5 k] at this
   exact this
  ·show hY false RS p=decide (p∈qu)
   rw [hg2 p,hq.a5P p,<-hqu]
   by_cases e:p.1=f
   ·rw [if_pos (by simpa using e)]
    symm
    exact decide_eq_false λh=>by
     have:=(List.mem_filter.1 h).2
     simp [e] at this
   ·rw [if_neg (by simpa using e)]
    refine decide_eq_decide.2 ⟨λh=>List.mem_filter.2 ⟨h,by simpa using e⟩,λh=>(List.mem_filter.1 h).1⟩
  ·show (if k=f then _ else d.files k).now.length<=_/\(if k=f then _ else d.files k).last.length<=_
   by_cases e:k=f
   ·rw [if_pos e];exact ⟨hs,hs⟩
   ·rw [if_neg e];exact hq.size k
 ·rw [hd]
  have c3:Ctx W w (x6 q.sm RS q.mJ :: oN q.qp q.qc qu :: .blk q.db ((C4 q d).set 1 (.slice q.qp qu.length q.qc)) 97 :: .obj q.fm (cA (Value.int .i64) j4 fU oM) :: S) Φ:=(Ctx.left (S:=[x6 q.sm RS q.mJ,.blk kb [.int .i64 f] 3,oN q.qp q.qc qu]++.blk q.db ((C4 q d).set 1 (.slice q.qp qu.length q.qc)) 97 :: .obj q.fm (cA (Value.int .i64) j4 fU oM) :: S) cx).sub (.cons_cons _ (.cons _ (List.Sublist.refl _)))
  have c4:=c3.perm (show ([x6 q.sm RS q.mJ,oN q.qp q.qc qu]++([Own.blk q.db ((C4 q d).set 1 (.slice q.qp qu.length q.qc)) 97,.obj q.fm (cA (Value.int .i64) j4 fU oM)]++S)).Perm ([Own.blk q.db ((C4 q d).set 1 (.slice q.qp qu.length q.qc)) 97,.obj q.fm (cA (Value.int .i64) j4 fU oM)]++([x6 q.sm RS q.mJ,oN q.qp q.qc qu]++S)) from a7H _ _ [] S)
  exact c4
end Go.Proofs.YtfccagphnfceiaaGreatDoor
end

section
namespace Go.Proofs.YtfccagphnfceiaaGreatDoor
open Go.Vc
theorem aDG (n:Int):bits .and .i64 n 1=n % 2:=by
 have h15:(BitVec.ofInt 64 1).toNat=2 ^ 1 - 1:=by decide
 have key:(BitVec.ofInt 64 n &&& BitVec.ofInt 64 1).toNat=(n % ((2 ^ 64:Nat):Int)).toNat % 2 ^ 1:=by
  rw [BitVec.toNat_and,BitVec.toNat_ofInt,h15,Nat.and_two_pow_sub_one_eq_mod]
 show IntKind.i64.wrap ((BitVec.ofInt 64 n &&& BitVec.ofInt 64 1).toNat:Nat)=n % 2
 rw [key,IntKind.wrap_i64]
 omega
theorem a3K {P:Program} {t:TypeId} (n:Int) (w:World):Sem.run P (binOp .and t (.int .i64 n) (.int .i64 1)) w=.ok (.int .i64 (n % 2)) w:=by
 rw [binOp_and,intBits_and,aDG]
 rfl
theorem a7I {M:List Nat} {w:World} {b o:Nat} {l:List Int} (h:Sl M w (some ⟨b,o,none⟩) l) {i:Nat} (hi:i<l.length):w.cell? ⟨b,o+i,none⟩=some (.int .i64 l[i]):=by
 obtain ⟨b',o',cs,e,_,h3,rfl,_⟩:=h i hi
 cases e
 have:=h3 0 (by simp)
 simpa [show (Gv.ty Int).size=1 from rfl] using this
theorem a3L {κ ν:Type} [DecidableEq κ] {z:ν}:∀ {es:List (bE κ ν)},es.Pairwise (λa b=>a.key≠b.key)->∀ a∈es,hY z es a.key=a.val
 | [],_,a,ha=>by cases ha
 | e :: es,hp,a,ha=>by
  obtain ⟨h1,h2⟩:=List.pairwise_cons.1 hp
  show (if a.key=e.key then e.val else hY z es a.key)=a.val
  rcases List.mem_cons.1 ha with rfl|ha
  ·rw [if_pos rfl]
  ·rw [if_neg (λh=>h1 a ha h.symm)]
   exact a3L h2 a ha
theorem aGY {κ ν:Type} {es fU:List (bE κ ν)} (hk:fU.map bE.key=es.map bE.key) (hb:fU.map bE.born=es.map bE.born) {e:bE κ ν} (he:e∈fU):∃ e'∈es,e'.key=e.key/\e'.born=e.born:=by
 obtain ⟨i,hi,rfl⟩:=List.getElem_of_mem he
 have hl:i<es.length:=by have:=congrArg List.length hk;simp at this;omega
 have h1:(fU.map bE.key)[i]? = (es.map bE.key)[i]? := by rw [hk]
 have h2:(fU.map bE.born)[i]? = (es.map bE.born)[i]? := by rw [hb]
 rw [List.getElem?_map,List.getElem?_map,List.getElem?_eq_getElem hi,List.getElem?_eq_getElem hl] at h1 h2
 exact ⟨es[i],List.getElem_mem hl,(Option.some.inj h1).symm,(Option.some.inj h2).symm⟩
section
variable {W w:World} {S G:List Own} {Φ:PW}
end
end Go.Proofs.YtfccagphnfceiaaGreatDoor
end

section
namespace Go.Proofs.YtfccagphnfceiaaGreatDoor
open Go.Vc
theorem ZH {keep:List Int} {i:Nat} {p:Int × Int} {fs:Int->iA} (h:keep=[]\/keep.getD (i % keep.length) 0 % 2=0\/((fs p.1).now.length:Int)<=p.2*64):C0 keep i p fs=fs:=by
 unfold C0;rw [if_pos h]
theorem aDH {keep:List Int} {i:Nat} {p:Int × Int} {fs:Int->iA} (h:¬ (keep=[]\/keep.getD (i % keep.length) 0 % 2=0\/((fs p.1).now.length:Int)<=p.2*64)) :
  C0 keep i p fs=λk=>if k=p.1 then ⟨(fs p.1).now,gK (fs p.1).last (p.2*64).toNat (((fs p.1).now.drop (p.2*64).toNat).take 64)⟩ else fs k:=by
 unfold C0;rw [if_neg h]
section
variable {W w:World} {S G:List Own} {Φ:PW}
theorem a9z {keep:List Int} {p:Option Addr} (hkp:0<keep.length->∃ g o,p=some ⟨g,o,none⟩) {K:Nat->Nat->Prop} (hk:∀ b o,(keep≠[]->p=some ⟨b,o,none⟩)->K b o):jD (some !decide ((keep.length:Int)=0)) p K:=by
 by_cases h:keep=[]
 ·subst h
  exact a1N rfl λb o=>hk b o λh=>absurd rfl h
 ·obtain ⟨g,o,e⟩:=hkp (List.length_pos_iff.2 h)
  exact aJ g o e (hk g o λ_=>e)
structure CrI (q:uK) (d:cC) (keep:List Int) (i:Nat) (A4:List (bE Int iA)) (dG:Nat) (fs:Int->iA):Prop where
 ok:GOk A4 dG
 get:∀ k,hY a1k A4 k=fs k
 size:∀ k,(fs k).now.length<=16777216/\(fs k).last.length<=16777216
 rest:o5 keep i (d.queue.drop i) fs=o5 keep 0 d.queue d.files
abbrev dkC (q:uK) (d:cC) (A4:List (bE Int iA)) (dG:Nat):List Own:=[.blk q.db (C4 q { d with down:=true,bS:=0 }) 97,.obj q.fm (cA (Value.int .i64) j4 A4 dG),.obj q.sm (cA lA Value.bool q.J5 q.mJ),oN q.qp q.qc d.queue]
theorem P4 [aA Φ] {q:uK} {d:cC} (hq:wK q d) {p:Option Addr} {cap:Nat} {keep:List Int} (hl:keep.length<=1000000) (NQ:∀ M w,Φ M w->Sl M w p keep) (cx:Ctx W w (cJ q d++S) Φ) {K:Ending->World->Prop}
  (hk:∀ u w',wK (q.mv u) (cL d keep)->Ctx W w' (cJ (q.mv u) (cL d keep)++S) Φ->K (.returned (.tuple #[])) w'):Calls Tryz.prog F.j9 #[.pointer (some ⟨q.db,0,none⟩),.slice p keep.length cap] w K:=by
 have hqp:0<d.queue.length->∃ g,q.qp=some ⟨g,0,none⟩:=λh=>by
  obtain ⟨g,hg,_⟩:=cx.jF 3 rfl (by rw [yP];omega)
  exact ⟨g,hg⟩
 have hkp:0<keep.length->∃ g o,p=some ⟨g,o,none⟩:=λh=>by
  obtain ⟨b,o,cs,e,_⟩:=NQ _ _ cx.gW 0 h
  exact ⟨b,o,e⟩
 refine (FQ q.db 0 p keep.length cap (J:=λu w'=>K (.returned u) w') cx λw G cx=>⟨d.down,pK cx.left rfl,Br.intro (λh=>λw G cx=>?_) (λh=>λw G cx=>⟨cx.can 0 rfl (by show 0+4+1<=7;omega),λw' hw'=>?_⟩)⟩).mono λe w' ⟨v,he,hj⟩=>by rw [he];exact hj
 ·have e:cL d keep=d:=by unfold cL;rw [if_pos h]
  rw [e] at hk
  exact hk q.un w hq cx.left
 have c1:=cx.put 0 hw' rfl
 refine ⟨.blk q.db ((C4 q d).set 4 (.bool true)) 97 :: .obj q.fm (cA (Value.int .i64) j4 q.A4 q.dG) :: .obj q.sm (cA lA Value.bool q.J5 q.mJ) :: oN q.qp q.qc d.queue :: S,Φ,inferInstance,c1,λw G cx=>⟨cx.can 0 rfl (by show 0+5+1<=7;omega),λw' hw'=>?_⟩⟩
 have c2:=cx.put 0 hw' rfl
 refine ⟨dkC q d q.A4 q.dG++S,Φ,inferInstance,c2,λw G cx=>⟨q.qp,d.queue.length,q.qc,cx.get 0 rfl rfl,?_⟩⟩
 refine bY (λiI R' aF n=>∃ (i:Nat) (A4:List (bE Int iA)) (dG:Nat) (fs:Int->iA),iI=i/\i+n=d.queue.length/\R'=dkC q d A4 dG++S/\aF=Φ/\CrI q d keep i A4 dG fs) ⟨⟨_,Φ,d.queue.length,inferInstance,λw G cx=>cx,0,q.A4,q.dG,d.files,rfl,by omega,rfl,rfl,⟨hq.fok,hq.C5,hq.size,rfl⟩⟩,?_⟩
 rintro iI R1 Φ n st ⟨i,A4,dG,fs,rfl,hin,rfl,rfl,hI⟩
 refine Br.intro (λhlt=>?_) (λhge=>λw G cx=>?_)
 ·have hlt:i<d.queue.length:=by have:=of_decide_eq_true hlt;omega
  obtain ⟨n,rfl⟩:∃ m,n=m+1:=⟨n - 1,by omega⟩
  have aVa:d.queue.drop i=d.queue[i] :: d.queue.drop (i+1):=List.drop_eq_getElem_cons hlt
  have hrg:=hq.range _ (List.getElem_mem hlt)
  have lT:=hI.rest
  rw [aVa] at lT
  have lT:o5 keep (i+1) (d.queue.drop (i+1)) (C0 keep i d.queue[i] fs)=o5 keep 0 d.queue d.files:=lT
  generalize hp:d.queue[i]=P at lT hrg
  obtain ⟨F,n0⟩:=P
  obtain ⟨m,rfl⟩:∃ m:Nat,n0=m:=⟨n0.toNat,by have:=hrg.2.1;simp only at this;omega⟩
  have hm:m<262145:=by have:=hrg.2.2;simp only at this;omega
  have b20:aR ((m:Int)*64):=by unfold aR;omega
  obtain ⟨g,hg⟩:=hqp (by omega)
  refine ⟨⟨by omega,by omega⟩,aJ g 0 hg λw G cx=>⟨F,m,?_,λb=>⟨dkC q d A4 dG++S,Φ,inferInstance,λw G cx=>cx,b20,some q.fm,λw G cx=>⟨some q.fm,cx.get 0 rfl rfl,rfl⟩,bs (fs F).now,bs (fs F).last,λw G cx=>⟨bs (fs F).now,bs (fs F).last,λw2 F3=>?_,rfl⟩,λkb=>⟨λw G cx=>cx.drop1,λw G cx=>⟨cx.can 0 rfl (by decide),λw' hw'=>?_⟩⟩⟩⟩⟩
  ·rw [Nat.zero_add,Int.toNat_natCast]
   have:dH w g (i*2) [.int .i64 d.queue[i].1,.int .i64 d.queue[i].2]:=cx.OE 3 rfl hg (zY (a1l hlt))
   rw [hp] at this
   exact this
  ·have hr:=uS (P:=Tryz.prog) N9 (w:=w2) (by rw [F3];exact cx.own (.obj q.fm (cA (Value.int .i64) j4 A4 dG)) (by simp)) F
   rw [hI.get] at hr
   exact hr
  have c1:=cx.EY 0 hw' rfl
  refine ⟨.blk kb [.string (bs (fs F).now),.string (bs (fs F).last)] 112 :: (dkC q d A4 dG++S),Φ,inferInstance,c1,λw G cx=>cx.drop1,λw G cx=>?_⟩
  have aGs:w.cell? ⟨kb,0,none⟩=some (.string (bs (fs F).now)):=cx.get 0 rfl rfl
  refine ⟨λh=>by simpa using h,λh=>?_,?_⟩
  ·have:(keep.length:Int)≠0:=by simpa using h
   rw [Int.tmod_eq_emod_of_nonneg (by omega)]
   exact ⟨Int.emod_nonneg _ (by omega),Int.emod_lt_of_pos _ (by omega)⟩
  refine a9z hkp λb2 o2 hpk=>⟨keep.getD (i % keep.length) 0,λh=>?_,keep.getD (i % keep.length) 0 % 2,λ_ w=>a3K _ w,bs (fs F).now,λ_=>aGs,Br.intro (λhc=>?_) (λhc=>?_)⟩
  ·have hne:keep≠[]:=λe=>by rw [e] at h;simp at h
   have hpos:=List.length_pos_iff.2 hne
   have hmod:i % keep.length<keep.length:=Nat.mod_lt _ hpos
   have hs:=NQ _ _ cx.gW
   rw [hpk hne] at hs
   have:=a7I hs hmod
   rw [Int.tmod_eq_emod_of_nonneg (by omega),show ((i:Int) % (keep.length:Int)).toNat=i % keep.length by omega,this,List.getD_eq_getElem?_getD,List.getElem?_eq_getElem hmod]
   rfl
  ·have hc:keep=[]\/keep.getD (i % keep.length) 0 % 2=0\/((fs F).now.length:Int)<=(m:Int)*64:=by
    rw [aT] at hc
    simp only [Bool.or_eq_true,decide_eq_true_eq] at hc
    rcases hc with (hc|hc)|hc
    ·exact .inl (List.eq_nil_of_length_eq_zero (by omega))
    ·exact .inr (.inl hc)
    ·exact .inr (.inr hc)
   rw [ZH (p:=(F,(m:Int))) hc] at lT
   exact ⟨by unfold aR;have:=hq.XA;omega,dkC q d A4 dG++S,Φ,n,inferInstance,λw G cx=>cx.drop1,⟨i+1,A4,dG,fs,by omega,by omega,rfl,rfl,hI.ok,hI.get,hI.size,lT⟩,Nat.lt_succ_self _⟩
  ·have hc:¬ (keep=[]\/keep.getD (i % keep.length) 0 % 2=0\/((fs F).now.length:Int)<=(m:Int)*64):=by
    rw [aT] at hc
    simp only [Bool.or_eq_false_iff,decide_eq_false_iff_not] at hc
    rintro (h|h|h)
    ·exact hc.1.1 (by rw [h];rfl)
    ·exact hc.1.2 h
    ·exact hc.2 h
   rw [aDH (p:=(F,(m:Int))) hc] at lT
   have aGj:m*64<(fs F).now.length:=by
    have:¬ ((fs F).now.length:Int)<=(m:Int)*64:=λh=>hc (.inr (.inr h))
    omega
   have hsz:=hI.size F
   have hrow:∀ {w:World} {G:List Own},Ctx W w ([Own.blk kb [.string (bs (fs F).now),.string (bs (fs F).last)] 112]++G) tru->w.cell? ⟨kb,0,none⟩=some (.string (bs (fs F).now))/\w.cell? ⟨kb,1,none⟩=some (.string (bs (fs F).last)):=λcx=>⟨cx.get 0 rfl rfl,cx.get 0 rfl rfl⟩
   rw [show (((m:Int)*64).toNat)=m*64 by omega] at lT
   refine ⟨[.blk kb [.string (bs (fs F).now),.string (bs (fs F).last)] 112],tru,inferInstance,λw G cx=>fL cx (.cons_cons _ (List.nil_sublist _)),bs (fs F).last,λw G cx=>⟨_,(hrow cx).2,rfl⟩,bs (fs F).now,λw G cx=>⟨_,(hrow cx).1,rfl⟩,by unfold aR;omega,bs (fs F).now,λw G cx=>⟨_,(hrow cx).1,rfl⟩,⟨by omega,by rw [aT];omega,by rw [aT];omega⟩,λw G cx=>?_⟩
   have ech:(bs (fs F).now).extract ((m:Int)*64).toNat (min ((m:Int)*64+64) ((bs (fs F).now).size:Int)).toNat=bs (((fs F).now.drop (m*64)).take 64):=by
    rw [uG,aT,show ((m:Int)*64).toNat=m*64 by omega]
    refine congrArg bs ?_
    by_cases h:m*64+64<=(fs F).now.length
    ·rw [show (min ((m:Int)*64+64) ((fs F).now.length:Int)).toNat - m*64=64 by omega]
    ·rw [List.take_of_length_le (by rw [List.length_drop];omega),List.take_of_length_le (by rw [List.length_drop];omega)]
   rw [ech,show (m:Int)*64=((m*64:Nat):Int) by omega]
   generalize hch:((fs F).now.drop (m*64)).take 64=ch at lT
   have b21:m*64+ch.length<=(fs F).now.length/\ch≠[]:=by
    rw [<-hch]
    refine ⟨by rw [List.length_take,List.length_drop];omega,λe=>?_⟩
    have:=congrArg List.length e
    rw [List.length_take,List.length_drop] at this
    simp at this;omega
   refine a7G (S:=(.blk kb [.string (bs (fs F).now),.string (bs (fs F).last)] 112 :: (dkC q d A4 dG++S))++G) cx (by omega) hsz.2 λw cx=>⟨_,rfl,.blk kb [.string (bs (fs F).now),.string (bs (fs F).last)] 112 :: (dkC q d A4 dG++S),Φ,inferInstance,cx,λw G cx=>⟨cx.can 0 rfl (by show 1+1<=2;omega),λw' hw'=>?_⟩⟩
   have c2:=cx.put 0 hw' rfl
   refine ⟨.blk kb [.string (bs (fs F).now),.string (bs (gK (fs F).last (m*64) ch))] 112 :: (dkC q d A4 dG++S),Φ,inferInstance,c2,λw G cx=>⟨_,_,cx.LO 0 rfl,λw G cx=>⟨some q.fm,cx.get 1 rfl rfl,λw G cx=>?_⟩⟩⟩
   obtain ⟨fU,oM,hr,P3,hg1⟩:=FM (P:=Tryz.prog) N9 hI.ok (cx.own (.obj q.fm (cA (Value.int .i64) j4 A4 dG)) (by simp)) F ⟨(fs F).now,gK (fs F).last (m*64) ch⟩
   have c3:=cx.putObj 2 (cA (Value.int .i64) j4 fU oM) rfl
   refine ⟨_,hr,.blk kb [.string (bs (fs F).now),.string (bs (gK (fs F).last (m*64) ch))] 112 :: (dkC q d fU oM++S),Φ,inferInstance,c3,by unfold aR;have:=hq.XA;omega,dkC q d fU oM++S,Φ,n,inferInstance,λw G cx=>cx.drop1,⟨i+1,fU,oM,_,by omega,by omega,rfl,rfl,P3,λk=>?_,λk=>?_,lT⟩,Nat.lt_succ_self _⟩
   ·rw [hg1 k,hI.get k]
   ·show (if k=F then _ else fs k).now.length<=_/\(if k=F then _ else fs k).last.length<=_
    by_cases e:k=F
    ·rw [if_pos e]
     refine ⟨hsz.1,?_⟩
     show (gK (fs F).last (m*64) ch).length<=_
     rw [uZ b21.2];omega
    ·rw [if_neg e];exact hI.size k
 ·have hge:=of_decide_eq_false hge
  have hfs:fs=o5 keep 0 d.queue d.files:=by
   have:=hI.rest
   rw [List.drop_eq_nil_of_le (by omega)] at this
   exact this
  refine ⟨some q.fm,cx.get 0 rfl rfl,λw G cx=>?_⟩
  have hb:=cx.own (.obj q.fm (cA (Value.int .i64) j4 A4 dG)) (by simp)
  refine ⟨_,_,run_range_map (P:=Tryz.prog) w 93 3 112 q.fm _ dG N9.map hb,.obj w.heap.size (.mapIter (some q.fm) dG #[] dG) :: (dkC q d A4 dG++S),Φ,inferInstance,cx.newObj rfl,?_⟩
  generalize w.heap.size=r
  refine bY (λR' aF k=>∃ (seen:Array Nat) (fU:List (bE Int iA)),R'=.obj r (.mapIter (some q.fm) dG seen dG) :: (dkC q d fU dG++S)/\aF=Φ/\k=N8 seen.toList fU/\GOk fU dG/\fU.map bE.key=A4.map bE.key/\(∀ e∈fU,hY a1k fU e.key=if e.born∈seen.toList then ⟨(fs e.key).last,(fs e.key).last⟩ else fs e.key))
   ⟨⟨_,Φ,_,inferInstance,λw G cx=>cx,#[],A4,rfl,rfl,rfl,hI.ok,rfl,λe he=>by simp [hI.get]⟩,?_⟩
  rintro R1 Φ n _ ⟨seen,fU,rfl,rfl,rfl,P3,hkey,x7⟩
  intro w G cx
  have hr:=cx.own (.obj r (.mapIter (some q.fm) dG seen dG)) (by simp)
  have hb:=cx.own (.obj q.fm (cA (Value.int .i64) j4 fU dG)) (by simp)
  rcases aDy (P:=Tryz.prog) 0 hr hb P3.lt (Nat.le_refl _) with ⟨hall,hrun⟩|⟨a,ha,hns,w1,hw1,hrun⟩
  ·refine .inl ⟨w,hrun,.obj r (.mapIter (some q.fm) dG seen dG) :: (dkC q d fU dG++S),Φ,inferInstance,cx,λsm w G cx=>⟨cx.can 2 rfl (by show 0+1+1<=7;omega),λw' hw'=>?_⟩⟩
   have c1:=cx.put 2 hw' rfl
   refine ⟨.obj sm (Obj.map #[] 0) :: .obj r (.mapIter (some q.fm) dG seen dG) :: .blk q.db ((C4 q { d with down:=true,bS:=0 }).set 1 (.slice none 0 0)) 97 :: .obj q.fm (cA (Value.int .i64) j4 fU dG) :: .obj q.sm (cA lA Value.bool q.J5 q.mJ) :: oN q.qp q.qc d.queue :: S,Φ,inferInstance,c1,λw G cx=>⟨cx.can 2 rfl (by show 0+2+1<=7;omega),λw' hw'=>?_⟩⟩
   have c2:=cx.put 2 hw' rfl
   refine ⟨.obj sm (Obj.map #[] 0) :: .obj r (.mapIter (some q.fm) dG seen dG) :: .blk q.db (((C4 q { d with down:=true,bS:=0 }).set 1 (.slice none 0 0)).set 2 (.map (some sm))) 97 :: .obj q.fm (cA (Value.int .i64) j4 fU dG) :: .obj q.sm (cA lA Value.bool q.J5 q.mJ) :: oN q.qp q.qc d.queue :: S,Φ,inferInstance,c2,λw G cx=>?_⟩
   have hd:cL d keep={ d with down:=true,bS:=0,queue:=[],files:=λk=>⟨(fs k).last,(fs k).last⟩ }:=by
    unfold cL;rw [if_neg (by rw [h];simp),hfs]
   refine hk ⟨q.fm,fU,dG,sm,[],0,none,0⟩ w ?_ ?_
   ·rw [hd]
    refine ⟨P3,⟨.nil,.nil,λe he=>(by cases he)⟩,λk=>?_,λp=>rfl,List.nodup_nil,λp hp=>(by cases hp),λk=>⟨(hI.size k).2,(hI.size k).2⟩,hq.lost,⟨Int.le_refl 0,by show (0:Int)<=_;omega⟩⟩
    show hY a1k fU k=⟨(fs k).last,(fs k).last⟩
    by_cases hex:∃ e∈fU,e.key=k
    ·obtain ⟨e,he,rfl⟩:=hex
     rw [x7 e he,if_pos (hall e he)]
    ·have h1:hY a1k fU k=a1k:=qZ λe he h=>hex ⟨e,he,h⟩
     have h2:hY a1k A4 k=a1k:=qZ λe he h=>hex (by
      have:k∈A4.map bE.key:=List.mem_map.2 ⟨e,he,h⟩
      rw [<-hkey] at this
      obtain ⟨e',he',h'⟩:=List.mem_map.1 this
      exact ⟨e',he',h'⟩)
     rw [hI.get] at h2
     rw [h1,h2]
   ·rw [hd]
    have c3:Ctx W w (.obj sm (Obj.map #[] 0) :: .blk q.db (((C4 q { d with down:=true,bS:=0 }).set 1 (.slice none 0 0)).set 2 (.map (some sm))) 97 :: .obj q.fm (cA (Value.int .i64) j4 fU dG) :: S) Φ:=(Ctx.left (S:=.obj sm (Obj.map #[] 0) :: .obj r (.mapIter (some q.fm) dG seen dG) :: .blk q.db (((C4 q { d with down:=true,bS:=0 }).set 1 (.slice none 0 0)).set 2 (.map (some sm))) 97 :: .obj q.fm (cA (Value.int .i64) j4 fU dG) :: .obj q.sm (cA lA Value.bool q.J5 q.mJ) :: oN q.qp q.qc d.queue :: S) cx).sub (.cons_cons _ (.cons _ (.cons_cons _ (.cons_cons _ (.cons _ (.cons _ (List.Sublist.refl _)))))))
    have c4:=c3.yC 110 2
    have c5:=c4.perm (show ([Own.buf none 0 0 [] 110 2,.obj sm (Obj.map #[] 0)]++([Own.blk q.db (((C4 q { d with down:=true,bS:=0 }).set 1 (.slice none 0 0)).set 2 (.map (some sm))) 97,.obj q.fm (cA (Value.int .i64) j4 fU dG)]++S)).Perm ([Own.blk q.db (((C4 q { d with down:=true,bS:=0 }).set 1 (.slice none 0 0)).set 2 (.map (some sm))) 97,.obj q.fm (cA (Value.int .i64) j4 fU dG)]++([Own.buf none 0 0 [] 110 2,.obj sm (Obj.map #[] 0)]++S)) from a7H _ _ [] S)
    have c6:=c5.perm (show ([Own.blk q.db (((C4 q { d with down:=true,bS:=0 }).set 1 (.slice none 0 0)).set 2 (.map (some sm))) 97,.obj q.fm (cA (Value.int .i64) j4 fU dG)]++(Own.buf none 0 0 [] 110 2 :: .obj sm (Obj.map #[] 0) :: S)).Perm ([Own.blk q.db (((C4 q { d with down:=true,bS:=0 }).set 1 (.slice none 0 0)).set 2 (.map (some sm))) 97,.obj q.fm (cA (Value.int .i64) j4 fU dG)]++(.obj sm (Obj.map #[] 0) :: Own.buf none 0 0 [] 110 2 :: S)) from (List.Perm.swap _ _ _).append_left _)
    exact c6
  ·have c1:Ctx W w1 ((.obj r (.mapIter (some q.fm) dG seen dG) :: (dkC q d fU dG++S))++G) Φ:=by
    rcases hw1 with rfl|rfl
    ·exact cx
    ·exact cx.draw 1
   have c2:=c1.putObj 0 (.mapIter (some q.fm) dG (seen.push a.born) dG) rfl
   refine .inr ⟨_,_,_,hrun,.obj r (.mapIter (some q.fm) dG (seen.push a.born) dG) :: (dkC q d fU dG++S),Φ,inferInstance,c2,λw G cx=>?_⟩
   refine ⟨a.key,bs a.val.now,bs a.val.last,w,a7B P3 (cx.own (.obj r (.mapIter (some q.fm) dG (seen.push a.born) dG)) (by simp)) (cx.own (.obj q.fm (cA (Value.int .i64) j4 fU dG)) (by simp)) ha,.obj r (.mapIter (some q.fm) dG (seen.push a.born) dG) :: (dkC q d fU dG++S),Φ,inferInstance,cx,λb0 w G cx=>⟨some q.fm,cx.get 1 rfl rfl,λw G cx=>?_⟩⟩
   obtain ⟨RS,hr2,ok2,hg2,hk2,hb2⟩:=a3C (P:=Tryz.prog) N9 P3 (cx.own (.obj q.fm (cA (Value.int .i64) j4 fU dG)) (by simp)) a.key ⟨a.val.last,a.val.last⟩ ⟨a,ha,rfl⟩
   have c3:=cx.putObj 2 (cA (Value.int .i64) j4 RS dG) rfl
   have hval:a.val=fs a.key:=by
    have h1:=x7 a ha
    rw [a3L P3.keys a ha,if_neg hns] at h1
    exact h1
   refine ⟨_,hr2,.obj r (.mapIter (some q.fm) dG (seen.push a.born) dG) :: (dkC q d RS dG++S),Φ,inferInstance,c3,_,Φ,N8 (seen.push a.born).toList RS,inferInstance,λw G cx=>cx,⟨_,RS,rfl,rfl,rfl,ok2,hk2.trans hkey,λe he=>?_⟩,?_⟩
   ·obtain ⟨e',he',h1,h2⟩:=aGY hk2 hb2 he
    rw [hg2 e.key,Array.toList_push,<-h1,<-h2]
    by_cases hea:e'.key=a.key
    ·have:e'=a:=pU P3.keys he' ha hea
     rw [if_pos hea,this,if_pos (by simp),hval]
    ·rw [if_neg hea,x7 e' he']
     have hne:e'.born≠a.born:=λh=>hea (by rw [pU P3.rW he' ha h])
     have:e'.born∈seen.toList++[a.born] ↔ e'.born∈seen.toList:=⟨λh=>by
      rcases List.mem_append.1 h with h|h
      ·exact h
      ·exact absurd (List.mem_singleton.1 h) hne,λh=>List.mem_append_left _ h⟩
     by_cases hs:e'.born∈seen.toList
     ·rw [if_pos hs,if_pos (this.2 hs)]
     ·rw [if_neg hs,if_neg λh=>hs (this.1 h)]
   ·rw [Array.toList_push]
    exact KK (by rw [hb2];exact List.Sublist.refl _) ha hns (List.nodup_iff_pairwise_ne.2 (List.pairwise_map.2 P3.rW))
end
end Go.Proofs.YtfccagphnfceiaaGreatDoor
end

section
namespace Go.Proofs.YtfccagphnfceiaaGreatDoor
open Go.Vc
theorem xH (d:cC):(cP d).keep=d.keep:=by
 unfold cP;split<;>rfl
theorem GG (d:cC) (f a:Int) (s:Bs):(cK d f a s).1.keep=d.keep:=by
 unfold cK
 repeat' split
 all_goals rfl
theorem KL (d:cC) (l:List Int):(cL d l).keep=d.keep:=by
 unfold cL;split<;>rfl
theorem a9A (d:cC):(kC d).keep=d.keep:=by
 unfold kC;split
 ·rw [KL,xH]
 ·exact xH d
theorem lS (d:cC) (f a:Int) (s:Bs):(aY d f a s).1.keep=d.keep:=by
 unfold aY;split
 ·show (cL _ _).keep=_
  rw [KL,GG,xH]
 ·rw [GG,xH]
theorem jC (d:cC) (f:Int):(bQ d f).1.keep=d.keep:=by
 unfold bQ wJ
 repeat' split
 all_goals exact a9A d
section
variable {W w:World} {S G:List Own} {Φ:PW}
structure RT (Φ:PW) (q:uK) (d:cC):Prop where
 le:d.keep.length<=1000000
 sl:∀ M w,Φ M w->Sl M w q.kp d.keep
theorem RT.of {q:uK} {d d':cC} (h:RT Φ q d) (e:d'.keep=d.keep) (u:DkU):RT Φ (q.mv u) d':=⟨by rw [e];exact h.le,λM w hp=>by rw [e];exact h.sl M w hp⟩
theorem RT.weak {q:uK} {d:cC} (h:RT Φ q d) {Ψ:PW} (e:∀ M w,Ψ M w->Φ M w):RT Ψ q d:=⟨h.le,λM w hp=>h.sl M w (e M w hp)⟩
theorem ZI [aA Φ] {q:uK} {d:cC} (hq:wK q d) (hkp:RT Φ q d) {f a:Int} {s:Bs} (hs:s.length<=9223372036854775807) (cx:Ctx W w (cJ q d++S) Φ) {K:Ending->World->Prop}
  (hk:∀ u w',wK (q.mv u) (aY d f a s).1->Ctx W w' (cJ (q.mv u) (aY d f a s).1++S) Φ->K (.returned (.int .i64 (aY d f a s).2)) w'):Calls Tryz.prog F.lU #[.pointer (some ⟨q.db,0,none⟩),.int .i64 f,.int .i64 a,.string (bs s)] w K:=by
 refine (FX q.db 0 f a (bs s) (J:=λu w'=>K (.returned u) w') cx λw G cx=>a3G (S:=S++G) hq (cx.re (List.append_assoc _ _ _)) λw hq1 cx=>⟨_,rfl,cJ q (cP d)++S,Φ,inferInstance,cx.re (List.append_assoc _ _ _).symm,λw G cx=>a5Q (S:=S++G) hq1 hs (cx.re (List.append_assoc _ _ _)) λu w gG cx=>⟨_,rfl,cJ (q.mv u) (cK (cP d) f a s).1++S,Φ,inferInstance,cx.re (List.append_assoc _ _ _).symm,Br.intro (λhc=>λw G cx=>?_) (λhc=>λw G cx=>?_)⟩⟩).mono λe w' ⟨v,he,hj⟩=>by rw [he];exact hj
 ·have e:aY d f a s=(cL (cK (cP d) f a s).1 d.keep,9):=by unfold aY;rw [if_pos hc]
  have ek:(cK (cP d) f a s).1.keep=d.keep:=by rw [GG,xH]
  rw [e] at hk
  refine ⟨q.kp,(cK (cP d) f a s).1.keep.length,q.kc,pK (q:=q.mv u) cx.left rfl,λw G cx=>?_⟩
  rw [ek]
  exact P4 (S:=S++G) gG hkp.le hkp.sl (cx.re (List.append_assoc _ _ _)) λu2 w RY cx=>⟨rfl,cJ (q.mv u2) (cL (cK (cP d) f a s).1 d.keep)++S,Φ,inferInstance,cx.re (List.append_assoc _ _ _).symm,λw G cx=>hk u2 w RY cx.left⟩
 ·have e:aY d f a s=cK (cP d) f a s:=by unfold aY;rw [if_neg (by rw [hc];simp)]
  rw [e] at hk
  exact hk u w gG cx.left
theorem NA [aA Φ] {q:uK} {d:cC} (hq:wK q d) (hkp:RT Φ q d) {f:Int} (cx:Ctx W w (cJ q d++S) Φ) {K:Ending->World->Prop}
  (hk:∀ u w',wK (q.mv u) (bQ d f).1->Ctx W w' (cJ (q.mv u) (bQ d f).1++S) Φ->K (.returned (.int .i64 (bQ d f).2)) w'):Calls Tryz.prog F.iW #[.pointer (some ⟨q.db,0,none⟩),.int .i64 f] w K:=by
 refine (IC q.db 0 f (J:=λu w'=>K (.returned u) w') cx (bY (λR' aF=>∃ u,R'=cJ (q.mv u) (kC d)++S/\aF=Φ/\wK (q.mv u) (kC d)) ⟨λw G cx=>a3G (S:=S++G) hq (cx.re (List.append_assoc _ _ _)) λw hq1 cx=>⟨_,rfl,cJ q (cP d)++S,Φ,inferInstance,cx.re (List.append_assoc _ _ _).symm,Br.intro (λhc=>λw G cx=>?_) (λhc=>?_)⟩,?_⟩)).mono λe w' ⟨v,he,hj⟩=>by rw [he];exact hj
 ·have e:kC d=cL (cP d) d.keep:=by unfold kC;rw [if_pos hc]
  refine ⟨q.kp,(cP d).keep.length,q.kc,pK (q:=q) cx.left rfl,λw G cx=>?_⟩
  rw [xH]
  refine P4 (S:=S++G) hq1 hkp.le hkp.sl (cx.re (List.append_assoc _ _ _)) λu2 w RY cx=>⟨rfl,cJ (q.mv u2) (cL (cP d) d.keep)++S,Φ,inferInstance,cx.re (List.append_assoc _ _ _).symm,_,Φ,inferInstance,λw G cx=>cx,u2,by rw [e],rfl,by rw [e];exact RY⟩
 ·have e:kC d=cP d:=by unfold kC;rw [if_neg (by rw [hc];simp)]
  exact ⟨_,Φ,inferInstance,λw G cx=>cx,q.un,by rw [e];rfl,rfl,by rw [e];exact hq1⟩
 ·rintro R1 Φ st ⟨u,rfl,rfl,hq1⟩
  have es:bQ d f=wJ (kC d) f:=rfl
  rw [es] at hk
  generalize kC d=d1 at hk hq1
  intro w G cx
  refine a1m (S:=S++G) (q:=q.mv u) (cx.re (List.append_assoc _ _ _)) λw cx=>⟨_,rfl,cJ (q.mv u) d1++S,Φ,inferInstance,cx.re (List.append_assoc _ _ _).symm,Br.intro (λh=>λw G cx=>?_) (λh=>λw G cx=>⟨d1.lost,pK (q:=q.mv u) cx.left rfl,Br.intro (λh2=>λw G cx=>⟨d1.lost,pK (q:=q.mv u) cx.left rfl,?_,λw G cx=>⟨cx.can 0 rfl (by show 0+3+1<=7;omega),λw' hw'=>?_⟩⟩) (λh2=>λw G cx=>?_)⟩)⟩
  ·have e:wJ d1 f=(d1,j8 d1 f):=by unfold wJ;rw [if_pos (of_decide_eq_true h)]
   rw [e] at hk
   exact hk u w hq1 cx.left
  ·have:=hq1.lost
   unfold aR;omega
  ·have e:wJ d1 f=({ d1 with lost:=d1.lost - 1 },10):=by unfold wJ;rw [if_neg (of_decide_eq_false h),if_pos (of_decide_eq_true h2)]
   have hl:=hq1.lost
   have h2:=of_decide_eq_true h2
   rw [e] at hk
   have c1:=cx.put 0 hw' rfl
   exact ⟨cJ (q.mv u) { d1 with lost:=d1.lost - 1 }++S,Φ,inferInstance,c1,λw G cx=>hk u w ⟨hq1.fok,hq1.sok,hq1.C5,hq1.a5P,hq1.nodup,hq1.range,hq1.size,⟨by show 0<=d1.lost - 1;omega,by show d1.lost - 1<=_;omega⟩,hq1.bS⟩ cx.left⟩
  ·have e:wJ d1 f=(sA d1 f (d1.files f).now,0):=by unfold wJ;rw [if_neg (of_decide_eq_false h),if_neg (of_decide_eq_false h2)]
   rw [e] at hk
   refine ⟨some u.fm,pK (q:=q.mv u) cx.left rfl,λw G cx=>⟨bs (d1.files f).now,bs (d1.files f).last,λw2 F3=>?_,λw G cx=>?_⟩⟩
   ·have hr:=uS (P:=Tryz.prog) N9 (w:=w2) (by rw [F3];exact a3E (q:=q.mv u) cx.left) f
    rw [hq1.C5 f] at hr
    exact hr
   ·exact a5V (S:=S++G) (q:=q.mv u) hq1 (hq1.size f).1 (cx.re (List.append_assoc _ _ _)) λu2 w gG cx=>⟨rfl,cJ (q.mv u2) (sA d1 f (d1.files f).now)++S,Φ,inferInstance,cx.re (List.append_assoc _ _ _).symm,λw G cx=>hk u2 w gG cx.left⟩
end
end Go.Proofs.YtfccagphnfceiaaGreatDoor
end

section
namespace Go.Proofs.YtfccagphnfceiaaGreatDoor
open Go.Vc
theorem b23 (n:Nat) (w:World):Sem.run Tryz.prog (binOp BinOp.shr 3 (.int .i64 (n:Int)) (.int .u64 8)) w=.ok (.int .i64 ((n / 256:Nat):Int)) w:=by
 show Sem.run Tryz.prog (Op.shift .shr .i64 (n:Int) .u64 8) w=_
 unfold Op.shift
 simp [Sem.run_pure]
 show (n:Int).fdiv 256=_
 rw [Int.fdiv_eq_ediv_of_nonneg _ (by decide)]
theorem b24 (n:Nat) (h:n<16777216) (w:World):Sem.run Tryz.prog (binOp BinOp.shl 3 (.int .i64 (n:Int)) (.int .u64 8)) w=.ok (.int .i64 ((n*256:Nat):Int)) w:=by
 show Sem.run Tryz.prog (Op.shift .shl .i64 (n:Int) .u64 8) w=_
 unfold Op.shift
 simp [Sem.run_pure]
 rw [show (2:Int) ^ min 8 IntKind.i64.bits=256 from rfl,IntKind.wrap_i64]
 omega
theorem or8 (m b:Nat) (hm:m<16777216) (hb:b<256) (w:World):Sem.run Tryz.prog (binOp BinOp.or 3 (.int .i64 ((m*256:Nat):Int)) (.int .i64 (b:Int))) w=.ok (.int .i64 ((m*256+b:Nat):Int)) w:=by
 rw [binOp_or]
 show Sem.run Tryz.prog (Op.intBits .or .i64 _ _) w=_
 have:bits .or .i64 ((m*256:Nat):Int) (b:Int)=((m*256+b:Nat):Int):=by
  show IntKind.i64.wrap ((BitVec.ofInt 64 ((m*256:Nat):Int) ||| BitVec.ofInt 64 (b:Int)).toNat:Nat)=_
  have e1:(BitVec.ofInt 64 ((m*256:Nat):Int) ||| BitVec.ofInt 64 (b:Int)).toNat=m*256+b:=by
   rw [BitVec.toNat_or,BitVec.toNat_ofInt,BitVec.toNat_ofInt]
   have h1:(((m*256:Nat):Int) % ((2 ^ 64:Nat):Int)).toNat=2 ^ 8*m:=by omega
   have h2:((b:Int) % ((2 ^ 64:Nat):Int)).toNat=b:=by omega
   rw [h1,h2,<-Nat.two_pow_add_eq_or_of_lt (by omega:b<2 ^ 8)]
   omega
  rw [e1,IntKind.wrap_i64]
  omega
 rw [intBits_or,this]
 rfl
theorem C6 (k:Nat):IntKind.u8.wrap (k:Int)=((k.toUInt8.toNat:Nat):Int):=by
 have:k.toUInt8.toNat=k % 256:=by simp
 rw [this]
 simp [IntKind.wrap,IntKind.signed,IntKind.bits]
theorem V8 (u:UInt8):IntKind.i64.wrap (u.toNat:Int)=(u.toNat:Int):=by
 rw [IntKind.wrap_i64];have:=u.toNat_lt;omega
def QK (h:Bs):Nat->Nat
 | 0=>0
 | k+1=>QK h k*256+(h.getD (4 - k) 0).toNat
theorem a3N (h:Bs):∀ k,QK h k<256 ^ k
 | 0=>by show 0<1;omega
 | k+1=>by
  have h1:=a3N h k
  have h2:=(h.getD (4 - k) 0).toNat_lt
  show QK h k*256+_<256 ^ (k+1)
  rw [Nat.pow_succ]
  omega
theorem a5W (h:Bs):QK h 4=sM h:=by
 unfold sM
 simp only [QK,Nat.zero_mul,Nat.zero_add,Nat.sub_zero]
section
variable {W w:World} {S G:List Own} {Φ:PW}
theorem a9B [aA Φ] {p:Option Addr} {cap g:Nat} {l:Bs} {x:UInt8} (hl:l.length<100000000) (cx:Ctx W w (.blk g [.int .u8 (x.toNat:Int)] 5 :: .buf p l.length cap (bB l) 5 1 :: S) Φ) :
  ∃ p' cap' w',Sem.run Tryz.prog (builtin Builtin.append #[129,129] 129 #[false,false] #[.slice p l.length cap,.slice (some ⟨g,0,none⟩) 1 1]) w=.ok (.value (.slice p' (l.length+1) cap')) w'/\Ctx W w' (.buf p' (l.length+1) cap' (bB (l++[x])) 5 1 :: S) Φ:=by
 obtain ⟨p',cap',w',hr,_,c2⟩:=cx.a2t (ts:=129) (ty:=129) (kb:=#[false,false]) (bytes:=1) (by kernel_rfl) (by decide) rfl rfl hl (by decide)
 refine ⟨p',cap',w',hr,?_⟩
 have:bB (l++[x])=bB l++[.int .u8 (x.toNat:Int)]:=by simp [bB]
 rw [this]
 exact c2
theorem aDI [aA Φ] {b n cap:Nat} {l:Bs} (cx:Ctx W w (.buf (some ⟨b,0,none⟩) n cap (bB l) 5 1 :: S) Φ):Lib.Bytes w b 0 (bs l):=λi hi=>by
 have hi':i<l.length:=by rw [aT] at hi;exact hi
 have:=cx.a4V 0 rfl (b:=b) (i:=i) (v:=.int .u8 (l[i].toNat:Int)) rfl (by rw [List.getElem?_map,List.getElem?_eq_getElem hi'];rfl)
 rw [Nat.zero_add]
 exact this
theorem a5X [aA Φ] {p:Option Addr} {cap:Nat} {l:Bs} (h:0<l.length) (cx:Ctx W w (.buf p l.length cap (bB l) 5 1 :: S) Φ):Sem.run Tryz.prog (convert 129 9 (.slice p l.length cap)) w=.ok (.string (bs l)) w:=by
 obtain ⟨b,hb,_⟩:=cx.jF 0 rfl (by rw [o9];exact h)
 subst hb
 have hc:=Lib.run_convert_whole (P:=Tryz.prog) w 129 5 9 Tryz.underlying129 Tryz.underlying5 Tryz.underlying9 b 0 _ (aDI cx) cap
 rw [aT] at hc
 exact hc
theorem a5Y [aA Φ] {slot:Nat} {s:Bs} (hs:s.length<=65536) (cx:Ctx W w S Φ) {K:Ending->World->Prop} (hk:∀ w',Ctx W w' S Φ->K (.returned (.string (bs (gZ slot s.length)))) w'):Calls Tryz.prog F.zN #[.int .i64 (slot:Int),.string (bs s)] w K:=by
 refine (OO (slot:Int) (bs s) (J:=λu w'=>K (.returned u) w') cx λk0=>bY (λp n cap nI R' aF k=>∃ j:Nat,j+k=4/\n=((gZ slot s.length).take (j+1)).length/\nI=((s.length / 256 ^ j:Nat):Int)/\R'=.buf p n cap (bB ((gZ slot s.length).take (j+1))) 5 1 :: S/\aF=Φ)
  ⟨⟨_,Φ,4,inferInstance,λw G cx=>?_,0,rfl,rfl,by rw [aT];simp,rfl,rfl⟩,?_⟩).mono λe w' ⟨v,he,hj⟩=>by rw [he];exact hj
 ·rw [C6] at cx
  exact cx.a14 0 1 1 rfl rfl (by simp [maxLen])
 rintro p n cap nI R1 Φ k st ⟨j,hjk,rfl,rfl,rfl,rfl⟩
 have hl5:(gZ slot s.length).length=5:=rfl
 have hlen:((gZ slot s.length).take (j+1)).length=j+1:=by rw [List.length_take,hl5];omega
 refine Br.intro (λhlt=>?_) (λhge=>λw G cx=>?_)
 ·have hlt:=of_decide_eq_true hlt
  rw [hlen] at hlt
  obtain ⟨k,rfl⟩:∃ m,k=m+1:=⟨k - 1,by omega⟩
  intro g w G cx
  rw [C6] at cx
  obtain ⟨p',cap',w',hr,c2⟩:=a9B (S:=S++G) (by rw [hlen];omega) cx
  have e:(gZ slot s.length).take (j+1)++[(s.length / 256 ^ j).toUInt8]=(gZ slot s.length).take (j+1+1):=by
   have:(gZ slot s.length)[j+1]? = some (s.length / 256 ^ j).toUInt8:=by
    have hj:j=0\/j=1\/j=2\/j=3:=by omega
    rcases hj with rfl|rfl|rfl|rfl<;>simp [gZ]
   rw [List.take_add_one (i:=j+1),this];rfl
  have aVb:((gZ slot s.length).take (j+1+1)).length=((gZ slot s.length).take (j+1)).length+1:=by rw [<-e,List.length_append];rfl
  rw [e] at c2
  refine ⟨p',_,cap',w',hr,.buf p' (((gZ slot s.length).take (j+1)).length+1) cap' (bB ((gZ slot s.length).take (j+1+1))) 5 1 :: S,Φ,inferInstance,c2,_,λw=>b23 _ w,_,Φ,k,inferInstance,λw G cx=>cx,⟨j+1,by omega,aVb.symm,?_,rfl,rfl⟩,Nat.lt_succ_self _⟩
  rw [Nat.pow_succ,Nat.div_div_eq_div_mul]
 ·have hge:=of_decide_eq_false hge
  rw [hlen] at hge
  have hj:j=4:=by omega
  subst hj
  have he:(gZ slot s.length).take (4+1)=gZ slot s.length:=rfl
  rw [he] at cx ⊢
  refine ⟨_,w,a5X (S:=S++G) (by rw [hl5];omega) cx,S,Φ,inferInstance,cx.drop1,λw G cx=>hk w cx.left⟩
end
end Go.Proofs.YtfccagphnfceiaaGreatDoor
end

section
namespace Go.Proofs.YtfccagphnfceiaaGreatDoor
open Go.Vc
theorem a5Z (n:Nat):(-(n:Int)).tmod 10 = -((n % 10:Nat):Int):=by
 rw [Int.neg_tmod];rfl
theorem a50 (n:Nat):(-(n:Int)).tdiv 10 = -((n / 10:Nat):Int):=by
 rw [Int.neg_tdiv];rfl
theorem aDJ (d:Nat) (h:d<10):IntKind.u8.wrap (48 - -(d:Int))=((UInt8.ofNat (48+d)).toNat:Int):=by
 have:∀ d:Fin 10,IntKind.u8.wrap (48 - -((d.val:Nat):Int))=((UInt8.ofNat (48+d.val)).toNat:Int):=by decide
 exact this ⟨d,h⟩
theorem aDK (l:List UInt8) (b:ByteArray):(⟨l.toArray⟩:ByteArray)++b=⟨(l++b.data.toList).toArray⟩:=by
 apply ByteArray.ext
 rw [ByteArray.data_append]
 apply Array.toList_inj.1
 simp
theorem a3O:∀ (n:Nat),n<=9223372036854775808->pS Tryz.prog F.gH #[.int .i64 (-(n:Int))] (.string ⟨(Lib.decDigits n).toArray⟩):=by
 intro n
 induction n using Nat.strongRecOn with
 | _ n ih =>
  intro hn
  refine pT (BV (-(n:Int))) λW R Φ hs=>?_
  have e0:(48:Int) - (-(n:Int)).tmod 10=48 - -((n % 10:Nat):Int):=by rw [a5Z]
  refine ⟨by omega,by rw [e0];unfold aR;omega,λk w G cx=>?_⟩
  rw [e0,aDJ _ (by omega)] at cx
  have hcell:∀ j,(hj:j < [UInt8.ofNat (48+n % 10)].length)->w.cell? ((⟨k,0,none⟩:Addr).add j)=some (.int .u8 ([UInt8.ofNat (48+n % 10)][j].toNat:Int)):=λj hj=>by
   obtain rfl:j=0:=by simpa using hj
   exact cx.get 0 rfl rfl
  refine ⟨_,_,run_convert_bytes_back w 129 9 5 ⟨k,0,none⟩ 1 [UInt8.ofNat (48+n % 10)] (by kernel_rfl) (by kernel_rfl) (by kernel_rfl) hcell,R,Φ,hs,cx.drop1,?_⟩
  clear cx
  refine Br.intro (λh=>λw G cx=>⟨?_,cx.left⟩) (λh=>?_)
  ·have h:=of_decide_eq_true h
   rw [Lib.decDigits,dif_pos (by omega),show n % 10=n by omega]
  ·have h:=of_decide_eq_false h
   have e1:=a50 n
   refine ⟨by omega,by rw [e1];unfold aR;omega,λw G cx=>?_⟩
   rw [e1]
   have hl:=D1 19 (n / 10) (by omega) (by decide)
   have hd:=Lib.decDigits_length (n / 10)
   refine ((ih (n / 10) (by omega) (by omega)).in).TV cx ⟨?_,λw G cx=>⟨?_,cx.left⟩⟩
   ·show (ByteArray.mk (Lib.decDigits (n / 10)).toArray).size+1<=_
    rw [r3,hd];omega
   ·conv=>rhs;rw [Lib.decDigits,dif_neg (by omega)]
    rw [aDK]
theorem aGZ (n:Int) (h:aR n):pS Tryz.prog F.jA #[.int .i64 n] (.string (cH n)):=by
 have hs:=cT h
 unfold cH EC at hs
 rw [aZ,r3,show (ByteArray.mk #[59]).size=1 from rfl] at hs
 unfold aR at h
 refine pT (FY n) λW R Φ _=>Br.intro (λhn=>?_) (λhn=>?_)
 ·have hn:=of_decide_eq_true hn
  have e:n = -((n.natAbs:Nat):Int):=by omega
  have hi:Lib.itoa n=45 :: Lib.decDigits n.natAbs:=by unfold Lib.itoa;rw [if_pos hn]
  have hg:=a3O n.natAbs (by omega)
  rw [<-e] at hg
  rw [hi,List.length_cons] at hs
  have e45:(ByteArray.mk #[45])++ByteArray.mk (Lib.decDigits n.natAbs).toArray=EC n:=by
   unfold EC
   rw [show (ByteArray.mk #[45])=⟨[(45:UInt8)].toArray⟩ from rfl,aDK,hi]
   rfl
  refine λw G cx=>(hg.in).TV cx ⟨?_,?_,λw G cx=>⟨?_,cx.left⟩⟩
  ·show 1+(ByteArray.mk (Lib.decDigits n.natAbs).toArray).size<=_
   rw [r3];omega
  ·show ((ByteArray.mk #[45])++ByteArray.mk (Lib.decDigits n.natAbs).toArray).size+1<=_
   have e1:(ByteArray.mk #[45]).size=1:=rfl
   rw [aZ,r3 (Lib.decDigits n.natAbs),e1]
   omega
  ·unfold cH
   rw [<-e45]
 ·have hn:=of_decide_eq_false hn
  have e:0 - n = -((n.toNat:Nat):Int):=by omega
  have hi:Lib.itoa n=Lib.decDigits n.toNat:=by unfold Lib.itoa;rw [if_neg hn]
  have hg:=a3O n.toNat (by omega)
  rw [<-e,<-hi] at hg
  refine ⟨by unfold aR;omega,λw G cx=>(hg.in).TV cx ⟨?_,λw G cx=>⟨rfl,cx.left⟩⟩⟩
  show (ByteArray.mk (Lib.itoa n).toArray).size+1<=_
  rw [r3];omega
end Go.Proofs.YtfccagphnfceiaaGreatDoor
end

section
namespace Go.Proofs.YtfccagphnfceiaaGreatDoor
open Go.Vc
theorem a9C:∀ (l:List UInt8) (i:Nat),l.get?Internal i=l[i]?
 | [],_=>rfl
 | _ :: _,0=>rfl
 | x :: l,i+1=>by
  show l.get?Internal i=(x :: l)[i+1]?
  rw [a9C l i];rfl
def jX (st:iK):Prop:=st.2=true->st.1=[]
theorem aJk (l:List UInt8):jX (l,false):=λh=>by cases h
theorem a7J:jX ([],true):=λ_=>rfl
theorem V9 (e:UInt8) (least:Int):q8 e least []=none:=by
 unfold q8
 simp [Lib.indexByte]
theorem NB {e:UInt8} {least:Int} {st:iK} (h:jX st):jX (bR e least st).2:=by
 unfold bR
 cases hn:q8 e least st.1 with
 | none=>exact a7J
 | some x =>
  obtain ⟨n,r⟩:=x
  intro hb
  have hb:st.2=true:=hb
  rw [h hb,V9] at hn
  cases hn
theorem aDL {c:UInt8} {st:iK} (h:jX st):jX (oT c st):=by
 obtain ⟨l,b⟩:=st
 cases l with
 | nil=>exact a7J
 | cons x r =>
  unfold oT
  simp only
  split
  ·intro hb
   have:=h hb
   cases this
  ·exact a7J
theorem kZ {st:iK} (h:jX st):jX (aL st).2:=NB h
theorem a3P {st:iK} (h:jX st):jX (dW st).2:=NB h
theorem NC {st:iK} (h:jX st):jX (stepT st).2:=by
 unfold stepT
 simp only
 split
 ·exact a7J
 ·refine aDL λhb=>?_
  have:=NB (e:=58) (least:=0) h hb
  simp only
  rw [this,List.drop_nil]
theorem P5 {l:List UInt8} {f:Nat} (hf:f=1/\l[0]? = some 45\/f=0/\l[0]? ≠ some 45) {n:Int} (hn:aR n) (e:l=Lib.itoa n):∃ u:Nat,l.drop f=Lib.decDigits u/\u<=9223372036854775808/\n=(if f=1 then -(u:Int) else u):=by
 unfold aR at hn
 unfold Lib.itoa at e
 split at e
 ·rename_i h
  rcases hf with ⟨rfl,h0⟩|⟨rfl,h0⟩
  ·exact ⟨n.natAbs,by rw [e];rfl,by omega,by rw [if_pos rfl];omega⟩
  ·rw [e] at h0;exact absurd rfl h0
 ·rename_i h
  rcases hf with ⟨rfl,h0⟩|⟨rfl,h0⟩
  ·have hd:=oL n.toNat 45 (by rw [<-e];exact List.mem_of_getElem? h0)
   exact absurd hd.1 (by decide)
  ·exact ⟨n.toNat,by rw [e];rfl,by omega,by rw [if_neg (by decide)];omega⟩
theorem aDM (D:List UInt8) (k:Nat):D3 0 (D.take k)<=D3 0 D:=by
 have h:=OV (D.drop k) (D3 0 (D.take k))
 have e:D3 (D3 0 (D.take k)) (D.drop k)=D3 0 D:=by
  unfold D3
  rw [<-List.foldl_append,List.take_append_drop]
 omega
theorem aL9 {c:UInt8} (h:48<=c.toNat/\c.toNat<=57):IntKind.i64.wrap (IntKind.u8.wrap ((c.toNat:Int) - 48))=((c.toNat - 48:Nat):Int):=by
 have e:((c.toNat:Int) - 48)=((c.toNat - 48:Nat):Int):=by omega
 rw [e]
 have h2:IntKind.u8.wrap ((c.toNat - 48:Nat):Int)=((c.toNat - 48:Nat):Int):=by simp [IntKind.wrap,IntKind.signed,IntKind.bits];omega
 rw [h2,AZ (by unfold aR;omega)]
theorem wrap_i64 (x:Int):aR (IntKind.i64.wrap x):=by
 unfold aR
 simp [IntKind.wrap,IntKind.signed,IntKind.bits]
 split<;>omega
def ZJ (l:List UInt8) (f j:Nat) (acc:Int):Prop:=f<=j/\j<=l.length/\aR acc/\∀ n,aR n->l=Lib.itoa n->acc = -((D3 0 ((l.drop f).take (j - f)):Nat):Int)
theorem aDN {l:List UInt8} {f:Nat} (h:f<=l.length):ZJ l f f 0:=⟨Nat.le_refl _,h,by unfold aR;decide,λn _ _=>by rw [Nat.sub_self,List.take_zero];rfl⟩
theorem VA {l:List UInt8} {f j:Nat} (hf:f=1/\l[0]? = some 45\/f=0/\l[0]? ≠ some 45) (hfj:f<=j) {c:UInt8} (hc:l[j]? = some c) {n:Int} (hn:aR n) (e:l=Lib.itoa n):(48<=c.toNat/\c.toNat<=57)/\j<=20:=by
 obtain ⟨u,hu,_,_⟩:=P5 hf hn e
 refine ⟨oL u c ?_,?_⟩
 ·rw [<-hu]
  refine List.mem_of_getElem? (i:=j - f) ?_
  rw [List.getElem?_drop,show f+(j - f)=j by omega]
  exact hc
 ·have:=yG hn
  rw [<-e] at this
  have:=(List.getElem?_eq_some_iff.1 hc).1
  omega
theorem VB {l:List UInt8} {f j:Nat} {acc:Int} (hf:f=1/\l[0]? = some 45\/f=0/\l[0]? ≠ some 45) (h:ZJ l f j acc) {c:UInt8} (hc:l[j]? = some c):ZJ l f (j+1) (IntKind.i64.wrap (IntKind.i64.wrap (10*acc) - IntKind.i64.wrap (IntKind.u8.wrap ((c.toNat:Int) - 48)))):=by
 obtain ⟨h1,h2,h3,h4⟩:=h
 have hjl:=(List.getElem?_eq_some_iff.1 hc).1
 refine ⟨by omega,by omega,wrap_i64 _,λn hn e=>?_⟩
 have h5:=h4 n hn e
 obtain ⟨u,hu,hub,_⟩:=P5 hf hn e
 obtain ⟨hd,_⟩:=VA hf h1 hc hn e
 have hs:(l.drop f).take (j+1 - f)=(l.drop f).take (j - f)++[c]:=by
  rw [show j+1 - f=(j - f)+1 by omega,List.take_add_one,List.getElem?_drop,show f+(j - f)=j by omega,hc]
  rfl
 have hpre:=aDM (l.drop f) (j+1 - f)
 rw [hu] at hpre
 rw [MU u] at hpre
 rw [<-hu,hs,OU] at hpre
 rw [hs,OU,h5,aL9 hd]
 rw [AZ (n:=10 * -((D3 0 ((l.drop f).take (j - f)):Nat):Int)) (by unfold aR;omega)]
 rw [AZ (by unfold aR;omega)]
 omega
theorem ZK {l:List UInt8} {f j:Nat} {acc:Int} (hf:f=1/\l[0]? = some 45\/f=0/\l[0]? ≠ some 45) (h:ZJ l f j acc) (hj:l.length<=j) {n:Int} (hn:aR n) (e:l=Lib.itoa n):n=(if f=1 then acc else IntKind.i64.wrap (0 - acc)):=by
 obtain ⟨h1,h2,h3,h4⟩:=h
 have h5:=h4 n hn e
 obtain ⟨u,hu,hub,hn2⟩:=P5 hf hn e
 rw [List.take_of_length_le (by rw [List.length_drop];omega),hu,MU] at h5
 rcases hf with ⟨rfl,_⟩|⟨rfl,_⟩
 ·rw [if_pos rfl] at hn2 ⊢
  omega
 ·rw [if_neg (by decide)] at hn2 ⊢
  unfold aR at hn
  rw [h5,AZ (by unfold aR;omega)]
  omega
theorem ZL {n:Int} {l:List UInt8}:(cH n=bs l++ByteArray.mk #[59]) ↔ l=Lib.itoa n:=by
 have e1:(cH n).data.toList=Lib.itoa n++[59]:=by unfold cH EC;simp [ByteArray.data_append]
 have e2:(bs l++ByteArray.mk #[59]).data.toList=l++[59]:=by simp [bs,ByteArray.data_append]
 constructor
 ·intro h
  have h2:(cH n).data.toList=(bs l++ByteArray.mk #[59]).data.toList:=by rw [h]
  rw [e1,e2] at h2
  exact (List.append_cancel_right h2).symm
 ·intro h
  apply ByteArray.ext
  apply Array.toList_inj.1
  rw [e1,e2,h]
section
variable {W w:World} {R G S:List Own} {Φ:PW} {b:Nat} {st:iK}
theorem a7K {l:List UInt8} {j:Nat} {c:UInt8} (h:l[j]? = some c):(bs l).data.toList.get?Internal j=some c:=by rw [wY,a9C,h]
theorem aG0 [aA Φ] (l:List UInt8) (hl:l.length<=1000000000) (c:Ctx W w (R++G) Φ) {K:Int->Bool->List Own->PW->Prop}
  (h1:∀ n,aR n->l=Lib.itoa n->K n true R Φ) (h0:(∀ n,aR n->l≠Lib.itoa n)->∀ m,K m false R Φ) :
  Calls Tryz.prog F.oI #[.string (bs l)] w λe w'=>∃ n ok,e=.returned (.tuple #[.int .i64 n,.bool ok])/\∃ R' aF,aA aF/\Ctx W w' (R'++G) aF/\K n ok R' aF:=by
 refine (EJ (bs l) (J:=λu w'=>∃ n ok,(Ending.returned u)=.returned (.tuple #[.int .i64 n,.bool ok])/\∃ R' aF,aA aF/\Ctx W w' (R'++G) aF/\K n ok R' aF) (R:=R++G) c ?_).mono λe w' ⟨v,he,hj⟩=>by rw [he];exact hj
 clear c
 have hsz:(bs l).size=l.length:=aT l
 have body:∀ (f:Nat),(f=1/\l[0]? = some 45\/f=0/\l[0]? ≠ some 45)->∀ (n:Int),aR n->(∀ m,aR m->l=Lib.itoa m->m=n)->∀ {w:World} {G2:List Own},Ctx W w ((R++G)++G2) Φ ->
   Calls Tryz.prog F.jA #[.int .i64 n] w λe28 w29=>∃ (s30:ByteArray),e28=.returned (.string s30)/\∃ (HZ:List Own),∃ (wV:PW),aA wV/\Ctx W w29 (HZ++G2) wV/\((bs l).size+(ByteArray.mk #[OfNat.ofNat 59]).size).le 9223372036854775807/\∀ (w33:World) (S1:List Own),Ctx W w33 (HZ++S1) wV ->
    ∃ n' ok,(Ending.returned (Value.tuple #[.int .i64 n,.bool (decide (s30=bs l++ByteArray.mk #[OfNat.ofNat 59]))]))=.returned (.tuple #[.int .i64 n',.bool ok])/\∃ R' aF,aA aF/\Ctx W w33 (R'++G) aF/\K n' ok R' aF:=λf hf n hn hu {w G2} cx =>
  (pS.in (aGZ n hn)).TV cx ⟨by rw [hsz];show l.length+1<=9223372036854775807;omega,λw G3 cx=>⟨n,_,rfl,R,Φ,inferInstance,cx.left,by
   by_cases he:l=Lib.itoa n
   ·rw [decide_eq_true (ZL.2 he)];exact h1 n hn he
   ·rw [decide_eq_false λh=>he (ZL.1 h)]
    exact h0 (λm hm e=>he (by rw [<-hu m hm e];exact e)) n⟩⟩
 have bad:(∀ n,aR n->l≠Lib.itoa n)->∀ {w:World} {G2:List Own},Ctx W w ((R++G)++G2) Φ->∃ n' ok,(Ending.returned (Value.tuple #[.int .i64 0,.bool false]))=.returned (.tuple #[.int .i64 n',.bool ok])/\∃ R' aF,aA aF/\Ctx W w (R'++G) aF/\K n' ok R' aF:=λh {w G2} cx=>⟨0,false,rfl,R,Φ,inferInstance,cx.left,h0 h 0⟩
 refine λw G2 cx=>⟨l[0]?.getD 0,λh=>⟨by decide,?_⟩,?_⟩
 ·have h:=of_decide_eq_true h
  rw [hsz] at h
  rw [wY,a9C,List.getElem?_eq_getElem (by omega)];rfl
 clear cx
 have hbyte:∀ {j:Nat},j<l.length->(bs l).data.toList.get?Internal ((j:Int)).toNat=some (l[j]?.getD 0)/\l[j]? = some (l[j]?.getD 0):=fun {j} hj=>by
  rw [wY,a9C,Int.toNat_natCast,List.getElem?_eq_getElem hj]
  exact ⟨rfl,rfl⟩
 refine Br.intro (λhs=>?_) (λhs=>?_)
 ·rw [Bool.and_eq_true,hsz] at hs
  have h0l:=of_decide_eq_true hs.1
  have hc0:=of_decide_eq_true hs.2
  have hf:(1=1/\l[0]? = some 45\/1=0/\l[0]? ≠ some 45):=.inl ⟨rfl,by
   rw [List.getElem?_eq_getElem (by omega)] at hc0 ⊢
   congr 1
   apply UInt8.toNat_inj.1
   simp only [Option.getD_some] at hc0
   exact Int.ofNat.inj hc0⟩
  refine bY (λacc jI R' aF k=>∃ j:Nat,jI=j/\ZJ l 1 j acc/\R'=R++G/\aF=Φ/\k=l.length - j) ⟨⟨_,_,_,inferInstance,λw G cx=>cx,1,rfl,aDN (by omega),rfl,rfl,rfl⟩,?_⟩
  rintro acc jI R1 bH k _ ⟨j,rfl,hB,rfl,rfl,rfl⟩
  rw [hsz]
  refine Br.intro (λhlt=>λw G2 cx=>?_) (λhge=>λw G2 cx=>?_)
  ·have hlt:j<l.length:=by have:=of_decide_eq_true hlt;omega
   obtain ⟨hb1,hb2⟩:=hbyte hlt
   refine ⟨_,⟨by omega,hb1⟩,_,λ_=>⟨by omega,hb1⟩,Br.intro (λh=>λw G2 cx=>bad (λn hn e=>?_) cx) (λh=>⟨_,⟨by omega,hb1⟩,by unfold aR;omega,_,_,l.length - (j+1),inferInstance,λw G cx=>cx,⟨j+1,by omega,VB hf hB hb2,rfl,rfl,rfl⟩,by omega⟩)⟩
   obtain ⟨⟨g1,g2⟩,g3⟩:=VA hf hB.1 hb2 hn e
   rw [decide_eq_false (by omega),decide_eq_false (by omega),decide_eq_false (by omega)] at h
   cases h
  ·have hge:=of_decide_eq_false hge
   exact body 1 hf acc hB.2.2.1 (λm hm e=>by have:=ZK hf hB (by omega) hm e;rw [if_pos rfl] at this;exact this) cx
 ·have hf:(0=1/\l[0]? = some 45\/0=0/\l[0]? ≠ some 45):=.inr ⟨rfl,λe=>by
   have h0l:=(List.getElem?_eq_some_iff.1 e).1
   rw [hsz,e,decide_eq_true (by omega),decide_eq_true (by rfl)] at hs
   cases hs⟩
  refine bY (λacc jI R' aF k=>∃ j:Nat,jI=j/\ZJ l 0 j acc/\R'=R++G/\aF=Φ/\k=l.length - j) ⟨⟨_,_,_,inferInstance,λw G cx=>cx,0,rfl,aDN (Nat.zero_le _),rfl,rfl,rfl⟩,?_⟩
  rintro acc jI R1 bH k _ ⟨j,rfl,hB,rfl,rfl,rfl⟩
  rw [hsz]
  refine Br.intro (λhlt=>λw G2 cx=>?_) (λhge=>?_)
  ·have hlt:j<l.length:=by have:=of_decide_eq_true hlt;omega
   obtain ⟨hb1,hb2⟩:=hbyte hlt
   refine ⟨_,⟨by omega,hb1⟩,_,λ_=>⟨by omega,hb1⟩,Br.intro (λh=>λw G2 cx=>bad (λn hn e=>?_) cx) (λh=>⟨_,⟨by omega,hb1⟩,by unfold aR;omega,_,_,l.length - (j+1),inferInstance,λw G cx=>cx,⟨j+1,by omega,VB hf hB hb2,rfl,rfl,rfl⟩,by omega⟩)⟩
   obtain ⟨⟨g1,g2⟩,g3⟩:=VA hf hB.1 hb2 hn e
   rw [decide_eq_false (by omega),decide_eq_false (by omega),decide_eq_false (by omega)] at h
   cases h
  ·have hge:=of_decide_eq_false hge
   exact λw G2 cx=>body 0 hf (IntKind.i64.wrap (0 - acc)) (wrap_i64 _) (λm hm e=>by have:=ZK hf hB (by omega) hm e;rw [if_neg (by decide)] at this;exact this) cx
end
end Go.Proofs.YtfccagphnfceiaaGreatDoor
end

section
namespace Go.Proofs.YtfccagphnfceiaaGreatDoor
open Go.Vc
abbrev aDO:PW:=Tab Tryz.prog "errata/cell.offsets" .i64 [0,64,131072]
theorem a3Q {M:List Nat} {w:World} (h:aDO M w) {n:Nat} (hn:n<3):w.cell? ⟨0,n,none⟩=some (.int .i64 (eX n:Int)):=by
 have:=Lib.TabIs.cell h.1 (g:=0) (by kernel_rfl) n hn
 rw [this]
 have hj:n=0\/n=1\/n=2:=by omega
 rcases hj with rfl|rfl|rfl<;>rfl
abbrev clB (q:uK) (c:sL):List Value:=[.pointer (some ⟨q.db,0,none⟩),.int .i64 c.file,.int .i64 (c.slot:Int),.string (bs c.value),.bool c.sure]
abbrev l8 (cb:Nat) (q:uK) (c:sL):Own:=.blk cb (clB q c) 119
theorem aDP {d:cC} {q:uK} (hq:wK q d) (f a n:Int):(b9 d f a n).1.length<=16777216:=by
 unfold b9
 split
 ·exact Nat.zero_le _
 ·split
  ·exact Nat.zero_le _
  ·show (((d.files f).now.drop a.toNat).take n.toNat).length<=_
   have:=(hq.size f).1
   rw [List.length_take,List.length_drop];omega
section
variable {W w:World} {S G:List Own} {Φ:PW}
theorem aDQ [aA Φ] {cb:Nat} {q:uK} {c:sL} (cx:Ctx W w (l8 cb q c :: S) Φ) {K:Ending->World->Prop} (hk:∀ w',Ctx W w' (l8 cb q c :: S) Φ->K (.returned (.tuple #[.string (bs c.value),.bool (decide (0<c.slot))])) w'):Calls Tryz.prog F.uJ #[.pointer (some ⟨cb,0,none⟩)] w K:=by
 refine (K9 cb 0 (J:=λu w'=>K (.returned u) w') cx λw G cx=>⟨_,cx.get 0 rfl rfl,_,cx.get 0 rfl rfl,λw G cx=>?_⟩).mono λe w' ⟨v,he,hj⟩=>by rw [he];exact hj
 have:decide ((0:Int)<(c.slot:Int))=decide (0<c.slot):=decide_eq_decide.2 (by omega)
 rw [this]
 exact hk w cx.left
theorem ZM [aA Φ] {q:uK} {d:cC} (hq:wK q d) (hoff:∀ M w,Φ M w->aDO M w) {file:Int} (cx:Ctx W w (cJ q d++S) Φ) {K:Ending->World->Prop}
  (hn:∀ e w',mF d file=(none,e)->Ctx W w' (cJ q d++S) Φ->K (.returned (.tuple #[.pointer none,.int .i64 e])) w')
  (hs:∀ c cb w',mF d file=(some c,0)->Ctx W w' (l8 cb q c :: (cJ q d++S)) Φ->K (.returned (.tuple #[.pointer (some ⟨cb,0,none⟩),.int .i64 0])) w') :
  Calls Tryz.prog F.BB #[.pointer (some ⟨q.db,0,none⟩),.int .i64 file] w K:=by
 refine (UH q.db 0 file (J:=λu w'=>K (.returned u) w') cx λcb w G cx=>?_).mono λe w' ⟨v,he,hj⟩=>by rw [he];exact hj
 have cx:Ctx W w (l8 cb q ⟨file,0,[],false⟩ :: (cJ q d++(S++G))) Φ:=by
  have:l8 cb q ⟨file,0,[],false⟩ :: (cJ q d++(S++G))=(l8 cb q ⟨file,0,[],false⟩ :: (cJ q d++S))++G:=by rw [<-List.append_assoc];rfl
  rw [this];exact cx
 refine ZF (S:=l8 cb q ⟨file,0,[],false⟩ :: (S++G)) hq (cx.perm List.perm_middle.symm) λw cx=>?_
 have hO:mF d file=mF d file:=rfl
 unfold mF at hn hs
 generalize hr:b9 d file 0 5=r at hn hs
 obtain ⟨h,e⟩:=r
 simp only at hn hs
 have cx:Ctx W w ((l8 cb q ⟨file,0,[],false⟩ :: (cJ q d++S))++G) Φ:=by
  have:(l8 cb q ⟨file,0,[],false⟩ :: (cJ q d++S))++G=l8 cb q ⟨file,0,[],false⟩ :: (cJ q d++(S++G)):=by rw [<-List.append_assoc];rfl
  rw [this];exact cx.perm List.perm_middle
 have hhl:h.length<=5:=by
  have:h=(b9 d file 0 5).1:=by rw [hr]
  rw [this]
  unfold b9
  split
  ·exact Nat.zero_le _
  ·split
   ·exact Nat.zero_le _
   ·show (List.take 5 _).length<=5
    rw [List.length_take];omega
 have x7:∀ i,i<h.length->(bs h).data.toList.get?Internal i=some (h.getD i 0):=λi hi=>by
  rw [wY,a9C,List.getD_eq_getElem?_getD,List.getElem?_eq_getElem hi];rfl
 refine ⟨_,_,rfl,l8 cb q ⟨file,0,[],false⟩ :: (cJ q d++S),Φ,inferInstance,cx,Br.intro (λhe=>λw G cx=>?_) (λhe=>λw G cx=>⟨h.getD 0 0,λh0=>⟨Int.le_refl 0,x7 0 ?_⟩,Br.intro (λh1=>λw G cx=>?_) (λh1=>λw G cx=>?_)⟩)⟩
 ·rw [if_pos (of_decide_eq_true he)] at hn
  exact hn e w rfl cx.drop1.left
 ·exact List.length_pos_iff.2 λe=>by rw [e] at h0;simp [A5] at h0
 ·have he:=of_decide_eq_false he
  have h1:h=[]\/h.getD 0 0=0:=by
   simp only [Bool.or_eq_true,decide_eq_true_eq,A5] at h1
   rcases h1 with h1|h1
   ·exact .inl h1
   ·exact .inr (UInt8.toNat_inj.1 (by simpa using h1))
  rw [if_neg he,if_pos h1] at hs
  exact hs _ cb w rfl cx.left
 ·have he:=of_decide_eq_false he
  have h1:¬ (h=[]\/h.getD 0 0=0):=λh'=>by
   simp only [Bool.or_eq_false_iff,decide_eq_false_iff_not,A5] at h1
   rcases h' with h'|h'
   ·exact h1.1 h'
   ·exact h1.2 (by rw [h'];rfl)
  have h0:0<h.length:=List.length_pos_iff.2 λe=>h1 (.inl e)
  have hne:∀ n:UInt8,(h.getD 0 0≠n) ↔ ¬ ((h.getD 0 0).toNat:Int)=(n.toNat:Int):=λn=>not_congr ⟨λe=>by rw [e],λe=>UInt8.toNat_inj.1 (by omega)⟩
  rw [if_neg he,if_neg h1] at hn hs
  refine ⟨h.getD 0 0,λ_=>⟨Int.le_refl 0,x7 0 h0⟩,h.getD 0 0,λ_=>⟨Int.le_refl 0,x7 0 h0⟩,Br.intro (λh2=>λw G cx=>?_) (λh2=>?_)⟩
  ·have h2:h.length<5\/h.getD 0 0≠1/\h.getD 0 0≠2:=by
    rw [aT] at h2
    simp only [Bool.or_eq_true,Bool.and_eq_true,decide_eq_true_eq] at h2
    rcases h2 with h2|h2
    ·exact .inl (by omega)
    ·exact .inr ⟨(hne 1).2 h2.1,(hne 2).2 h2.2⟩
   rw [if_pos h2] at hn
   exact hn 2 w rfl cx.drop1.left
  have h2:¬ (h.length<5\/h.getD 0 0≠1/\h.getD 0 0≠2):=λh'=>by
   rw [aT] at h2
   simp only [Bool.or_eq_false_iff,Bool.and_eq_false_iff,decide_eq_false_iff_not] at h2
   rcases h' with h'|h'
   ·exact h2.1 (by omega)
   ·rcases h2.2 with h3|h3
    ·exact h3 ((hne 1).1 h'.1)
    ·exact h3 ((hne 2).1 h'.2)
  have hl5:h.length=5:=by omega
  have V0:(h.getD 0 0).toNat=1\/(h.getD 0 0).toNat=2:=by
   by_cases e1:h.getD 0 0=1
   ·left;rw [e1];rfl
   ·by_cases e2:h.getD 0 0=2
    ·right;rw [e2];rfl
    ·exact absurd (.inr ⟨e1,e2⟩) h2
  rw [if_neg h2] at hn hs
  refine bY (λn28 WQ R' aF k=>∃ j:Nat,j+k=4/\WQ=(k:Int)/\n28=(QK h j:Int)/\R'=l8 cb q ⟨file,0,[],false⟩ :: (cJ q d++S)/\aF=Φ) ⟨⟨_,Φ,4,inferInstance,λw G cx=>cx,0,rfl,rfl,rfl,rfl,rfl⟩,?_⟩
  rintro n28 WQ R1 Φ k st ⟨j,hjk,rfl,rfl,rfl,rfl⟩
  refine Br.intro (λhlt=>?_) (λhge=>?_)
  ·have hlt:=of_decide_eq_true hlt
   obtain ⟨k,rfl⟩:∃ m,k=m+1:=⟨k - 1,by omega⟩
   have hp:=a3N h j
   have hp:QK h j<16777216:=Nat.lt_of_lt_of_le hp (by
    have:(256:Nat) ^ j<=256 ^ 3:=Nat.pow_le_pow_right (by decide) (by omega)
    exact this)
   have hb:=(h.getD (k+1) 0).toNat_lt
   refine ⟨_,λw=>b24 _ hp w,h.getD (k+1) 0,⟨by omega,by rw [Int.toNat_natCast];exact x7 (k+1) (by omega)⟩,_,λw=>(by rw [V8];exact or8 _ _ hp (by omega) w),by unfold aR;omega,_,Φ,k,inferInstance,λw G cx=>cx,⟨j+1,by omega,by omega,?_,rfl,rfl⟩,Nat.lt_succ_self _⟩
   show _=((QK h j*256+(h.getD (4 - j) 0).toNat:Nat):Int)
   rw [show 4 - j=k+1 by omega]
  ·have hge:=of_decide_eq_false hge
   have hj:j=4:=by omega
   subst hj
   rw [a5W]
   refine Br.intro (λh3=>λw G cx=>?_) (λh3=>⟨h.getD 0 0,⟨Int.le_refl 0,x7 0 h0⟩,λw G cx=>⟨cx.can 0 rfl (by show 2+1<=5;omega),λw' hw'=>?_⟩⟩)
   ·have h3:65536<sM h:=by have:=of_decide_eq_true h3;omega
    rw [if_pos h3] at hn
    exact hn 2 w rfl cx.drop1.left
   have h3:¬ 65536<sM h:=by have:=of_decide_eq_false h3;omega
   rw [if_neg h3] at hn hs
   rw [V8] at hw'
   have c1:=cx.put 0 hw' rfl
   have hs3:(h.getD 0 0).toNat<3:=by omega
   refine ⟨l8 cb q ⟨file,(h.getD 0 0).toNat,[],false⟩ :: (cJ q d++S),Φ,inferInstance,c1,λw G cx=>⟨((h.getD 0 0).toNat:Int),cx.get 0 rfl rfl,⟨by omega,by omega⟩,λw G cx=>⟨(eX (h.getD 0 0).toNat:Int),by rw [Int.toNat_natCast,Nat.zero_add];exact a3Q (hoff _ _ cx.gW) hs3,λw G cx=>?_⟩⟩⟩
   have cx:Ctx W w (l8 cb q ⟨file,(h.getD 0 0).toNat,[],false⟩ :: (cJ q d++(S++G))) Φ:=by
    have:l8 cb q ⟨file,(h.getD 0 0).toNat,[],false⟩ :: (cJ q d++(S++G))=(l8 cb q ⟨file,(h.getD 0 0).toNat,[],false⟩ :: (cJ q d++S))++G:=by rw [<-List.append_assoc];rfl
    rw [this];exact cx
   have hlr:=aDP hq file (eX (h.getD 0 0).toNat:Int) (sM h:Int)
   refine ZF (S:=l8 cb q ⟨file,(h.getD 0 0).toNat,[],false⟩ :: (S++G)) hq (cx.perm List.perm_middle.symm) λw cx=>?_
   generalize b9 d file (eX (h.getD 0 0).toNat:Int) (sM h:Int)=r2 at hn hs hlr
   obtain ⟨v,e2⟩:=r2
   simp only at hn hs hlr
   have cx:Ctx W w ((l8 cb q ⟨file,(h.getD 0 0).toNat,[],false⟩ :: (cJ q d++S))++G) Φ:=by
    have:(l8 cb q ⟨file,(h.getD 0 0).toNat,[],false⟩ :: (cJ q d++S))++G=l8 cb q ⟨file,(h.getD 0 0).toNat,[],false⟩ :: (cJ q d++(S++G)):=by rw [<-List.append_assoc];rfl
    rw [this];exact cx.perm List.perm_middle
   refine ⟨bs v,e2,rfl,_,Φ,inferInstance,cx,λw G cx=>⟨cx.can 0 rfl (by show 3+1<=5;omega),λw' hw'=>?_⟩⟩
   have c2:=cx.put 0 hw' rfl
   refine ⟨l8 cb q ⟨file,(h.getD 0 0).toNat,v,false⟩ :: (cJ q d++S),Φ,inferInstance,c2,λw G cx=>⟨bs v,λ_=>cx.get 0 rfl rfl,Br.intro (λh4=>λw G cx=>?_) (λh4=>Br.intro (λh5=>λw G cx=>?_) (λh5=>λw G cx=>?_))⟩⟩
   ·rw [aT] at h4
    simp only [Bool.and_eq_true,decide_eq_true_eq] at h4
    rw [if_neg (by omega),if_pos (by omega)] at hn
    exact hn 2 w rfl cx.drop1.left
   ·have h5:=of_decide_eq_true h5
    rw [if_pos h5] at hn
    exact hn e2 w rfl cx.drop1.left
   ·have h5:=of_decide_eq_false h5
    rw [aT] at h4
    simp only [Bool.and_eq_false_iff,decide_eq_false_iff_not] at h4
    rw [if_neg h5,if_neg (by omega)] at hs
    exact hs _ cb w rfl cx.left
end
end Go.Proofs.YtfccagphnfceiaaGreatDoor
end

section
namespace Go.Proofs.YtfccagphnfceiaaGreatDoor
open Go.Vc
section
variable {W w:World} {S G:List Own} {Φ:PW}
theorem VC [aA Φ] {o:Own} {X S G:List Own} (cx:Ctx W w ((o :: (X++S))++G) Φ):Ctx W w (X++(o :: (S++G))) Φ:=(re3 cx).perm List.perm_middle.symm
theorem ND [aA Φ] {o:Own} {X S G:List Own} (cx:Ctx W w (X++(o :: (S++G))) Φ):Ctx W w ((o :: (X++S))++G) Φ:=re4 (cx.perm List.perm_middle)
theorem a9D {d:cC} {c:sL} {s:Bs} (h:¬ 65536<s.length) (h2:¬ (c.sure=false/\0<c.slot)):lQ d c s=sD d c s (if c.slot=1 then 2 else 1):=by
 unfold lQ;rw [if_neg h,if_neg h2]
theorem a3R [aA Φ] {cb:Nat} {q:uK} {d:cC} {c:sL} {s:Bs} (hq:wK q d) (hkp:RT Φ q d) (hoff:∀ M w,Φ M w->aDO M w) (cx:Ctx W w (l8 cb q c :: (cJ q d++S)) Φ) {K:Ending->World->Prop}
  (hk:∀ u w',wK (q.mv u) (lQ d c s).1->Ctx W w' (l8 cb q (lQ d c s).2.1 :: (cJ (q.mv u) (lQ d c s).1++S)) Φ->K (.returned (.int .i64 (lQ d c s).2.2)) w'):Calls Tryz.prog F.pN #[.pointer (some ⟨cb,0,none⟩),.string (bs s)] w K:=by
 refine (K8 cb 0 (bs s) (J:=λu w'=>K (.returned u) w') cx (Br.intro (λh=>λw G cx=>?_) (λh=>bY (λR' aF=>∃ u d1 c1,R'=l8 cb q c1 :: (cJ (q.mv u) d1++S)/\aF=Φ/\wK (q.mv u) d1/\d1.keep=d.keep/\lQ d c s=sD d1 c1 s (if c1.slot=1 then 2 else 1)) ⟨λw G cx=>⟨_,cx.get 0 rfl rfl,_,λ_=>cx.get 0 rfl rfl,Br.intro (λh2=>?_) (λh2=>?_)⟩,?_⟩))).mono λe w' ⟨v,he,hj⟩=>by rw [he];exact hj
 ·have h:65536<s.length:=by have:=of_decide_eq_true h;rw [aT] at this;omega
  have e:lQ d c s=(d,c,6):=by unfold lQ;rw [if_pos h]
  rw [e] at hk
  exact hk q.un w hq cx.left
 all_goals have h:¬ 65536<s.length:=by have:=of_decide_eq_false h;rw [aT] at this;omega
 ·have h2:c.sure=false/\0<c.slot:=by
   simp only [Bool.and_eq_true,decide_eq_true_eq,Bool.not_eq_true'] at h2
   exact ⟨h2.1,by omega⟩
  refine ⟨_,Φ,inferInstance,λw G cx=>cx,some ⟨q.db,0,none⟩,λw G cx=>⟨_,cx.get 0 rfl rfl,rfl⟩,c.file,λw G cx=>⟨_,cx.get 0 rfl rfl,rfl⟩,λw G cx=>?_⟩
  have ec:lQ d c s=if (bQ d c.file).2≠0 then ((bQ d c.file).1,c,(bQ d c.file).2) else sD (bQ d c.file).1 { c with sure:=true } s (if c.slot=1 then 2 else 1):=by
   unfold lQ;rw [if_neg h,if_pos h2]
  have hkeep:=jC d c.file
  refine NA (S:=l8 cb q c :: (S++G)) hq hkp (VC cx) λu w hq1 cx=>?_
  rw [ec] at hk ⊢
  generalize bQ d c.file=r at hk hq1 cx hkeep
  obtain ⟨d1,e1⟩:=r
  simp only at hk hq1 cx hkeep
  refine ⟨e1,rfl,l8 cb q c :: (cJ (q.mv u) d1++S),Φ,inferInstance,ND cx,Br.intro (λh3=>λw G cx=>?_) (λh3=>λw G cx=>⟨cx.can 0 rfl (by show 4+1<=5;omega),λw' hw'=>?_⟩)⟩
  ·rw [if_pos (of_decide_eq_true h3)] at hk
   exact hk u w hq1 cx.left
  ·have c1:=cx.put 0 hw' rfl
   refine ⟨l8 cb q { c with sure:=true } :: (cJ (q.mv u) d1++S),Φ,inferInstance,c1,_,Φ,inferInstance,λw G cx=>cx,u,d1,{ c with sure:=true },rfl,rfl,hq1,hkeep,?_⟩
   rw [if_neg (of_decide_eq_false h3)]
 ·have h2:¬ (c.sure=false/\0<c.slot):=λh3=>by
   simp only [Bool.and_eq_false_iff,decide_eq_false_iff_not,Bool.not_eq_false'] at h2
   rcases h2 with h2|h2
   ·rw [h3.1] at h2;cases h2
   ·omega
  exact ⟨_,Φ,inferInstance,λw G cx=>cx,q.un,d,c,rfl,rfl,hq,rfl,a9D h h2⟩
 rintro R1 Φ st ⟨u,d1,c1,rfl,rfl,hq1,hkeep,a52⟩
 rw [a52] at hk
 refine bY (λnI R' aF=>nI=(((if c1.slot=1 then 2 else 1):Nat):Int)/\R'=l8 cb q c1 :: (cJ (q.mv u) d1++S)/\aF=Φ) ⟨λw G cx=>⟨(c1.slot:Int),cx.get 0 rfl rfl,Br.intro (λh3=>⟨_,Φ,inferInstance,λw G cx=>cx,by rw [if_pos (by have:=of_decide_eq_true h3;omega)];rfl,rfl,rfl⟩) (λh3=>⟨_,Φ,inferInstance,λw G cx=>cx,by rw [if_neg (by have:=of_decide_eq_false h3;omega)];rfl,rfl,rfl⟩)⟩,?_⟩
 rintro nI R1 Φ st ⟨rfl,rfl,rfl⟩
 have NQ:(if c1.slot=1 then 2 else 1)=1\/(if c1.slot=1 then 2 else 1)=2:=by split;exact .inr rfl;exact .inl rfl
 generalize (if c1.slot=1 then 2 else 1)=sl at hk NQ
 have hs3:sl<3:=by omega
 have aG2:RT Φ (q.mv u) d1:=hkp.of hkeep u
 unfold sD at hk
 have hkw:=lS d1 c1.file (eX sl) s
 refine ⟨_,Φ,inferInstance,λw G cx=>cx,⟨by omega,by omega⟩,(eX sl:Int),λw G cx=>⟨_,by rw [Int.toNat_natCast,Nat.zero_add];exact a3Q (hoff _ _ cx.gW) hs3,rfl⟩,some ⟨q.db,0,none⟩,λw G cx=>⟨_,cx.get 0 rfl rfl,rfl⟩,c1.file,λw G cx=>⟨_,cx.get 0 rfl rfl,rfl⟩,λw G cx=>?_⟩
 refine ZI (q:=q.mv u) (S:=l8 cb q c1 :: (S++G)) hq1 aG2 (by omega) (VC cx) λu w gG cx=>?_
 generalize aY d1 c1.file (eX sl:Int) s=r at hk gG cx hkw
 obtain ⟨d2,e2⟩:=r
 simp only at hk gG cx hkw
 refine ⟨e2,rfl,l8 cb q c1 :: (cJ (q.mv u) d2++S),Φ,inferInstance,ND cx,Br.intro (λh3=>λw G cx=>?_) (λh3=>?_)⟩
 ·rw [if_pos (of_decide_eq_true h3)] at hk
  exact hk u w gG cx.left
 rw [if_neg (of_decide_eq_false h3)] at hk
 have b26:RT Φ (q.mv u) d2:=hkp.of (hkw.trans hkeep) u
 have hks:=jC d2 c1.file
 refine ⟨_,Φ,inferInstance,λw G cx=>cx,some ⟨q.db,0,none⟩,λw G cx=>⟨_,cx.get 0 rfl rfl,rfl⟩,c1.file,λw G cx=>⟨_,cx.get 0 rfl rfl,rfl⟩,λw G cx=>?_⟩
 refine NA (q:=q.mv u) (S:=l8 cb q c1 :: (S++G)) gG b26 (VC cx) λu w RY cx=>?_
 generalize bQ d2 c1.file=r at hk RY cx hks
 obtain ⟨d3,e3⟩:=r
 simp only at hk RY cx hks
 refine ⟨e3,rfl,l8 cb q c1 :: (cJ (q.mv u) d3++S),Φ,inferInstance,ND cx,Br.intro (λh4=>λw G cx=>?_) (λh4=>?_)⟩
 ·rw [if_pos (of_decide_eq_true h4)] at hk
  exact hk u w RY cx.left
 rw [if_neg (of_decide_eq_false h4)] at hk
 have b27:RT Φ (q.mv u) d3:=hkp.of (hks.trans (hkw.trans hkeep)) u
 have aMa:=lS d3 c1.file 0 (gZ sl s.length)
 refine ⟨_,Φ,inferInstance,λw G cx=>cx,some ⟨q.db,0,none⟩,λw G cx=>⟨_,cx.get 0 rfl rfl,rfl⟩,c1.file,λw G cx=>⟨_,cx.get 0 rfl rfl,rfl⟩,λw G cx=>?_⟩
 refine a5Y (S:=(l8 cb q c1 :: (cJ (q.mv u) d3++S))++G) (by omega) cx λw cx=>⟨_,rfl,l8 cb q c1 :: (cJ (q.mv u) d3++S),Φ,inferInstance,cx,λw G cx=>cx,λw G cx=>?_⟩
 refine ZI (q:=q.mv u) (S:=l8 cb q c1 :: (S++G)) RY b27 (by show 5<=_;omega) (VC cx) λu w hq4 cx=>?_
 generalize aY d3 c1.file 0 (gZ sl s.length)=r at hk hq4 cx aMa
 obtain ⟨d4,e4⟩:=r
 simp only at hk hq4 cx aMa
 refine ⟨e4,rfl,l8 cb q c1 :: (cJ (q.mv u) d4++S),Φ,inferInstance,ND cx,Br.intro (λh5=>λw G cx=>?_) (λh5=>λw G cx=>⟨cx.can 0 rfl (by show 2+1<=5;omega),λw' hw'=>?_⟩)⟩
 ·rw [if_pos (of_decide_eq_true h5)] at hk
  exact hk u w hq4 cx.left
 rw [if_neg (of_decide_eq_false h5)] at hk
 have b28:RT Φ (q.mv u) d4:=hkp.of (aMa.trans (hks.trans (hkw.trans hkeep))) u
 refine ⟨l8 cb q { c1 with slot:=sl } :: (cJ (q.mv u) d4++S),Φ,inferInstance,cx.put 0 hw' rfl,λw G cx=>⟨cx.can 0 rfl (by show 3+1<=5;omega),λw' hw'=>?_⟩⟩
 refine ⟨l8 cb q { c1 with slot:=sl,value:=s } :: (cJ (q.mv u) d4++S),Φ,inferInstance,cx.put 0 hw' rfl,λw G cx=>⟨cx.can 0 rfl (by show 4+1<=5;omega),λw' hw'=>?_⟩⟩
 refine ⟨l8 cb q ⟨c1.file,sl,s,false⟩ :: (cJ (q.mv u) d4++S),Φ,inferInstance,cx.put 0 hw' rfl,?_⟩
 refine ⟨_,Φ,inferInstance,λw G cx=>cx,some ⟨q.db,0,none⟩,λw G cx=>⟨_,cx.get 0 rfl rfl,rfl⟩,c1.file,λw G cx=>⟨_,cx.get 0 rfl rfl,rfl⟩,λw G cx=>?_⟩
 refine NA (q:=q.mv u) (S:=l8 cb q ⟨c1.file,sl,s,false⟩ :: (S++G)) hq4 b28 (VC cx) λu w hq5 cx=>?_
 generalize bQ d4 c1.file=r at hk hq5 cx
 obtain ⟨d5,e5⟩:=r
 simp only at hk hq5 cx
 refine ⟨e5,rfl,l8 cb q ⟨c1.file,sl,s,false⟩ :: (cJ (q.mv u) d5++S),Φ,inferInstance,ND cx,λw G cx=>⟨cx.can 0 rfl (by show 4+1<=5;omega),λw' hw'=>?_⟩⟩
 exact ⟨l8 cb q ⟨c1.file,sl,s,decide (e5=0)⟩ :: (cJ (q.mv u) d5++S),Φ,inferInstance,cx.put 0 hw' rfl,λw G cx=>hk u w hq5 cx.left⟩
end
end Go.Proofs.YtfccagphnfceiaaGreatDoor
end

section
namespace Go.Proofs.YtfccagphnfceiaaGreatDoor
open Go.Vc
structure StF (x:rI):Prop where
 ints:aR x.last/\aR x.phase/\aR x.batch/\aR x.mark
 check:x.check.size<=1000000000
 next:x.next.size<=1000000000
 line:∀ y∈x.lines,wI y
 few:x.lines.length<=1000000
theorem S7.f {x:rI} (h:S7 x):StF x:=⟨⟨h.last.2,by have:=h.phase;unfold aR;omega,h.ints.1,h.ints.2⟩,by have:=h.check;omega,by have:=h.next;omega,λy hy=>(h.line y hy).1,by have:=h.few;omega⟩
abbrev stV (x:rI) (p:Option Addr) (c:Nat):Value:=.agg #[.int .i64 x.last,.int .i64 x.phase,.string x.check,.int .i64 x.batch,.int .i64 x.mark,.string x.next,.slice p x.lines.length c]
abbrev aG3 (x:rI) (p:Option Addr) (c:Nat):List Value:=[.int .i64 x.last,.int .i64 x.phase,.string x.check,.int .i64 x.batch,.int .i64 x.mark,.string x.next,.slice p x.lines.length c]
theorem a54 (a b:List aM):aX (a++b)=aX a++aX b:=by simp [aX]
theorem a55 (x:aM):aX [x]=(tE x).data.toList:=by simp [aX]
section
variable {W w:World} {S R G:List Own} {Φ:PW} {p:Option Addr} {cap:Nat}
set_option maxHeartbeats 2000000 in
theorem aDR [aA Φ] [hT:Has Φ RI] {x:rI} {cs:List Value} (src:Src [] Φ p x.lines cs) (hc:YU cs x.lines) (h:StF x):aU Φ Tryz.prog F.iB #[stV x p cap] (.string (bs (kY x))):=by
 refine dS (DC x.last x.phase x.check x.batch x.mark x.next p x.lines.length cap) λW R=>λ_ b=>?_
 have n0:=cT h.ints.1
 have n1:=cT h.ints.2.1
 have n2:=cT h.ints.2.2.1
 have n3:=cT h.ints.2.2.2
 have hck:=h.check
 have hnx:=h.next
 have n4:=nZ (s:=x.check) (by omega)
 have n5:=nZ (s:=x.next) (by omega)
 have hl:=h.few
 have n6:=OK (n:=(x.lines.length:Int)) (by unfold aR;omega)
 refine ⟨.blk b [.pointer none,.slice none 0 0] 165 :: R,Φ,inferInstance,λw G cx=>cx,λw G cx=>?_⟩
 refine (vM (.inl ⟨hT.go,h.ints.1⟩)).TV cx ⟨λw G cx=>cx,λw G cx=>(vM (.inl ⟨hT.go,h.ints.2.1⟩)).TV cx ⟨λw G cx=>cx,by show (cH x.last).size+(cH x.phase).size<=_;omega,λw G cx=>(S5 (.inl ⟨hT.go,by unfold aR;omega⟩) (by omega)).TV cx ⟨λw G cx=>cx,by show (cH x.last++cH x.phase).size+(gM x.check).size<=_;rw [aZ];omega,λw G cx=>?_⟩⟩⟩
 have e1:(cH x.last++cH x.phase++gM x.check).data.toList=DU x:=by simp [DU,ByteArray.data_append]
 have l1:(DU x).length<=1000000100:=by rw [<-e1,fB,aZ,aZ];omega
 refine mD (cH x.last++cH x.phase++gM x.check) Bd.nil (Bd.fresh cx) (by rw [aZ,aZ];simp only [List.length_nil];omega) λR1 w hB cx=>⟨_,_,rfl,R1++R,Φ,inferInstance,by rw [List.append_assoc];exact cx,?_⟩
 clear cx
 rw [List.nil_append,e1] at hB
 refine Br.intro (λh0=>λw G cx=>?_) (λh0=>?_)
 ·refine K6 hB (cx.re (List.append_assoc _ _ _)) λw cx=>⟨_,rfl,R,Φ,inferInstance,cx,λw G cx=>⟨?_,cx.left⟩⟩
  unfold kY
  rw [if_pos (of_decide_eq_true h0)]
  rfl
 have h0:=of_decide_eq_false h0
 refine ⟨R1++R,Φ,inferInstance,λw G cx=>cx,λw G cx=>?_⟩
 refine (vM (.inl ⟨hT.go,h.ints.2.2.1⟩)).TV cx ⟨λw G cx=>cx,λw G cx=>(vM (.inl ⟨hT.go,h.ints.2.2.2⟩)).TV cx ⟨λw G cx=>cx,by show (cH x.batch).size+(cH x.mark).size<=_;omega,λw G cx=>(S5 (.inl ⟨hT.go,by unfold aR;omega⟩) (by omega)).TV cx ⟨λw G cx=>cx,by show (cH x.batch++cH x.mark).size+(gM x.next).size<=_;rw [aZ];omega,λw G cx=>(aBD (.inl ⟨hT.go,by unfold aR;omega⟩)).TV cx ⟨λw G cx=>cx,by show (cH x.batch++cH x.mark++gM x.next).size+(AO (x.lines.length:Int)).size<=_;rw [aZ,aZ];omega,λw G cx=>?_⟩⟩⟩⟩
 refine mD (cH x.batch++cH x.mark++gM x.next++AO (x.lines.length:Int)) hB (cx.re (List.append_assoc _ _ _)) (by rw [aZ,aZ,aZ];omega) λR2 w hB cx=>⟨_,_,rfl,R2++R,Φ,inferInstance,by rw [List.append_assoc];exact cx,?_⟩
 clear cx
 obtain ⟨pre,hpre⟩:∃ pre,DU x++(cH x.batch++cH x.mark++gM x.next++AO (x.lines.length:Int)).data.toList=pre:=⟨_,rfl⟩
 have b55:pre.length<=2000000300:=by rw [<-hpre,List.length_append,fB,aZ,aZ,aZ];omega
 have hform:kY x=pre++aX x.lines:=by
  unfold kY a3g
  rw [if_neg h0,<-hpre]
  simp [ByteArray.data_append]
 rw [hpre] at hB
 refine bY (λiI R' aF k=>∃ (i:Nat) (B:List Own),iI=i/\i<=x.lines.length/\BdT b (pre++aX (x.lines.take i)) B/\R'=B++R/\aF=Φ/\k=x.lines.length - i) ⟨⟨_,_,_,inferInstance,λw G cx=>cx,0,R2,rfl,Nat.zero_le _,by rw [List.take_zero,show aX []=[] from rfl,List.append_nil];exact hB,rfl,rfl,rfl⟩,?_⟩
 clear hB
 rintro iI R3 pI k _ ⟨i,B,rfl,hi',hB,rfl,rfl,rfl⟩
 have hpl:=V2 (l:=x.lines.take i) λy hy=>h.line y (List.mem_of_mem_take hy)
 rw [List.length_take] at hpl
 refine Br.intro (λhlt=>?_) (λhge=>λw G cx=>?_)
 ·have hlt:i<x.lines.length:=by have:=of_decide_eq_true hlt;omega
  obtain ⟨bb,oo,hp⟩:=src.ptr (by omega)
  obtain ⟨r,rc,he,k1,k2,k3⟩:=hc i hlt
  obtain ⟨y,hy⟩:∃ y,x.lines[i]=y:=⟨_,rfl⟩
  have hlw:=h.line x.lines[i] (List.getElem_mem _)
  have hrs:=KD hlw.row hlw.val
  have s0:=cT hlw.NR.no
  have s1:=cT hlw.NR.time
  have s2:=cT hlw.NR.n
  have s3:=cT hlw.NR.iR
  have s4:=cT hlw.NR.why
  have s5:=nZ (s:=D0 x.lines[i].row) (by omega)
  have hlB:=US (a1c hlw)
  have hstep:aX (x.lines.take (i+1))=aX (x.lines.take i)++(tE x.lines[i]).data.toList:=by rw [List.take_succ_eq_append_getElem hlt,a54,a55]
  refine ⟨by omega,aJ bb oo hp λw G cx=>⟨x.lines[i].no,x.lines[i].batch,x.lines[i].time,r,x.lines[i].row.length,rc,x.lines[i].n,x.lines[i].iR,x.lines[i].why,by rw [Int.toNat_natCast];exact OQ (S:=[]) (G:=R++G) src hp ((Ctx.aOE cx).re rfl) he,λ_=>⟨B++R,pI,inferInstance,λw G cx=>cx,λw G cx=>?_⟩⟩⟩
  refine (vM (.inl ⟨hT.go,hlw.NR.no⟩)).TV cx ⟨λw G cx=>cx,λw G cx=>(vM (.inl ⟨hT.go,hlw.NR.time⟩)).TV cx ⟨λw G cx=>cx,by show (cH x.lines[i].no).size+(cH x.lines[i].time).size<=_;omega,λw G cx=>(a2F r rc x.lines[i].row hT.go (λM w h=>UO src hlt he h) (by have:=hlw.row;omega) (λv hv=>by have:=(hlw.val v hv).2;omega)).TV cx ⟨λw G cx=>cx,λw G cx=>(S5 (.inl ⟨hT.go,by unfold aR;omega⟩) (by omega)).TV cx ⟨λw G cx=>cx,by show (cH x.lines[i].no++cH x.lines[i].time).size+(gM (D0 x.lines[i].row)).size<=_;rw [aZ];omega,λw G cx=>(vM (.inl ⟨hT.go,hlw.NR.n⟩)).TV cx ⟨λw G cx=>cx,by show (cH x.lines[i].no++cH x.lines[i].time++gM (D0 x.lines[i].row)).size+(cH x.lines[i].n).size<=_;rw [aZ,aZ];omega,λw G cx=>(vM (.inl ⟨hT.go,hlw.NR.iR⟩)).TV cx ⟨λw G cx=>cx,by show (cH x.lines[i].no++cH x.lines[i].time++gM (D0 x.lines[i].row)++cH x.lines[i].n).size+(cH x.lines[i].iR).size<=_;rw [aZ,aZ,aZ];omega,λw G cx=>(vM (.inl ⟨hT.go,hlw.NR.why⟩)).TV cx ⟨λw G cx=>cx,by show (cH x.lines[i].no++cH x.lines[i].time++gM (D0 x.lines[i].row)++cH x.lines[i].n++cH x.lines[i].iR).size+(cH x.lines[i].why).size<=_;rw [aZ,aZ,aZ,aZ];omega,λw G cx=>?_⟩⟩⟩⟩⟩⟩⟩
  have hlB:(tE x.lines[i]).size<=3330:=hlB
  refine mD (tE x.lines[i]) hB (cx.re (List.append_assoc _ _ _)) (by rw [List.length_append];omega) λB2 w hB2 cx=>⟨_,_,rfl,B2++R,pI,inferInstance,by rw [List.append_assoc];exact cx,by unfold aR;omega,_,pI,x.lines.length - (i+1),inferInstance,λw G cx=>cx,⟨i+1,B2,by omega,hlt,?_,rfl,rfl,rfl⟩,by omega⟩
  rw [hstep,<-List.append_assoc];exact hB2
 ·have hge:i=x.lines.length:=by have:=of_decide_eq_false hge;omega
  subst hge
  rw [List.take_length] at hB
  refine K6 hB (cx.re (List.append_assoc _ _ _)) λw cx=>⟨_,rfl,R,pI,inferInstance,cx,λw G cx=>⟨?_,cx.left⟩⟩
  rw [hform]
  rfl
theorem a3T [aA Φ] [hT:Has Φ RI] {x:rI} (hL:∀ M w,Φ M w->Sl M w p x.lines) (h:StF x):aU Φ Tryz.prog F.iB #[stV x p cap] (.string (bs (kY x))) :=
 ⟨λW w S c=>by
  have K4:=(hL _ _ c.gW).there
  obtain ⟨cs,c1⟩:=QC c (hL _ _ c.gW)
  exact aU.use (aDR (Φ:=λM w=>Φ M w/\yV p x.lines cs M w) (uU (Φ:=λM w=>Φ M w/\yV p x.lines cs M w) K4 (λM w h=>h.2)) (a2U c1.gW.2.2) h) c1 λw' c=>⟨rfl,c.fst⟩⟩
end
end Go.Proofs.YtfccagphnfceiaaGreatDoor
end

