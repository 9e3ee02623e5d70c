/-
 Putting bytes into a string;writing into a file: walked.
-/
import Derived.Test.YtnlkemjhgdbfkaaGreatDoorCu8
import Derived.Laws.IdiomRangeMap
import Derived.Laws.Bits128
import Derived.Test.YtnlkemjhgdbfkaaGreatDoorCu5
import Derived.Test.YtnlkemjhgdbfkaaGreatDoorCu7
open Go.Proofs.Tryz
set_option linter.unusedVariables false
set_option linter.unusedSimpArgs false
section
namespace Go.Proofs.YtnlkemjhgdbfkaaGreatDoor
open Go.Vc
theorem QU{l:Bs}:(bs l=ByteArray.mk #[]) ↔ l=[]:=(a35 (b:=[]))
abbrev bB(l:Bs):List Value:=l.map λx=>Value.int .u8 (x.toNat:Int)
theorem IJ(l):(bB l).length=l.length:=by simp [bB]
theorem aDv{s t:Bs}{a}(h:t≠[]):mS (mS (List.replicate (max s.length (a+t.length)) (Value.int .u8 0)) 0 (bB s)) a (bB t)=bB (iM s a t):=by
 have e1:mS (List.replicate (max s.length (a+t.length)) (Value.int .u8 0)) 0 (bB s)=bB (s++List.replicate (max s.length (a+t.length) - s.length) 0):=by
  rw [JU _ _ _ (by rw [IJ,List.length_replicate];omega),IJ,List.take_zero,List.nil_append,Nat.zero_add,List.drop_replicate];unfold bB;rw [List.map_append,List.map_replicate];rfl
 rw [e1,JU _ _ _ (by rw [IJ,IJ,List.length_append,List.length_replicate];omega),IJ];unfold bB;rw [<-List.map_take,<-List.map_drop,<-List.map_append,<-List.map_append,QJ h]
 congr 1
 rw [List.take_append,List.drop_append,List.take_replicate,List.drop_replicate,show min (a - s.length) (max s.length (a+t.length) - s.length)=a - s.length by omega,show max s.length (a+t.length) - s.length - (a+t.length - s.length)=0 by omega,List.replicate_zero,List.append_nil]
section
variable {W w:World}{S G:List Own}{Φ:PW}
theorem a66{w S}[aB Φ]{b o n c cs}{t:Bs}(cx:Ctx W w (.blk b cs 5 :: S) Φ)(h:t.length<=n)(hc:o+t.length<=cs.length):
  Sem.run prog (builtin Builtin.copy #[205,9] 3 #[false,false] #[.slice (some ⟨b,o,none⟩) n c,.string (bs t)]) w=.ok (.value (.int .i64 t.length)) (w.setCells b o (bB t))/\Ctx W (w.setCells b o (bB t)) (.blk b (mS cs o (bB t)) 5 :: S) Φ:=by
 have hcan:aH w b o t.length:=cx.can 0 rfl hc;refine ⟨?_,cx.FR 0 rfl rfl⟩;refine a4g ?_;have:=run_copy_string (P:=prog) w 205 9 3 5 b o n c (bs t) underlying205 (λw=>by kernel_rfl) (by rw [bK];exact h) (λj hj=>(hcan j (by rw [bK] at hj;exact hj)).1) (λj hj=>(hcan j (by rw [bK] at hj;exact hj)).2);rw [bK] at this;exact this
theorem aBN[aB Φ](cx:Ctx W w S Φ){s t:Bs}{a}(ha:a+t.length<=16777216)(hs:s.length<=16777216){K}(hk:∀ w',Ctx W w' S Φ->K (.returned (.string (bs (iM s a t)))) w'):aG F.OQ #[.string (bs s),.int .i64 (a:Int),.string (bs t)] w K:=by
 refine iO (a1d (bs s) (a:Int) (bs t) (J:=K∘.returned) cx ?_);refine Br.intro (λh=>λw G cx=>?_) (λh=>?_)
 .rw [QU.1 (fV h),QI] at hk;exact hk w cx.left
 have hne:t≠[]:=λe=>by rw [e] at h;exact absurd h (by decide)
 have hlen:0<t.length:=List.length_pos_iff.2 hne;rw [bK,bK,show max (s.length:Int) ((a:Int)+(t.length:Int))=((max s.length (a+t.length):Nat):Int) by omega];generalize hN:max s.length (a+t.length)=N;have hN2:a+t.length<=N/\s.length<=N/\N<=16777216:=by omega
 rw [Int.toNat_natCast];refine ⟨by unfold bE;omega,by omega,λk2 w G cx=>?_⟩;have cx:Ctx W w (.blk k2 (List.replicate N (Value.int .u8 0)) 5 :: (S++G)) Φ:=cx;obtain ⟨h1,c1⟩:=a66 (t:=s) (o:=0) (n:=N) (c:=N) cx hN2.2.1 (by rw [List.length_replicate];omega);refine ⟨_,_,h1,.blk k2 (mS (List.replicate N (Value.int .u8 0)) 0 (bB s)) 5 :: S,Φ,aR,c1,⟨by omega,by omega,by omega⟩,λw G cx=>?_⟩;have cx:Ctx W w (.blk k2 (mS (List.replicate N (Value.int .u8 0)) 0 (bB s)) 5 :: (S++G)) Φ:=cx
 rw [Int.toNat_natCast,a2x _ _ _ _ (by omega),Nat.mul_one];obtain ⟨h2,c2⟩:=a66 (t:=t) (o:=a) (n:=N - a) (c:=N - a) cx (by omega) (by rw [JU _ _ _ (by rw [IJ,List.length_replicate];omega)];simp only [List.length_append,List.length_take,List.length_drop,List.length_replicate,IJ];omega);rw [<-hN,aDv hne] at c2;refine ⟨_,_,h2,.blk k2 (bB (iM s a t)) 5 :: S,Φ,aR,c2,λw G cx=>?_⟩;have cx:Ctx W w (.blk k2 (bB (iM s a t)) 5 :: (S++G)) Φ:=cx
 have hb:Lib.Bytes w k2 0 (bs (iM s a t)):=λi hi=>by
  have:=cx.get 0 rfl (b:=k2) (i:=i) (v:=.int .u8 ((iM s a t)[i]'(by rw [bK] at hi;exact hi)).toNat) (by rw [List.getElem?_map,List.getElem?_eq_getElem (by rw [bK] at hi;exact hi)];rfl);rw [Nat.zero_add];exact this
 have hc:=Lib.run_convert_whole (P:=prog) w 205 5 9 underlying205 underlying5 underlying9 k2 0 _ hb N;rw [bK,I3 hne,hN] at hc;exact ⟨_,_,hc,.blk k2 (bB (iM s a t)) 5 :: S,Φ,aR,cx,λw G cx=>hk w (Ctx.left (Ctx.drop1 (S:=S++G) cx))⟩
end
abbrev aHD(f n:Int):List Value:=[.int .i64 f,.int .i64 n]
structure DkU where
 fm:Nat
 A9:List (bV Int vQ)
 dI:Nat
 sm:Nat
 LM:List (bV (Int × Int) Bool)
 mA:Nat
 qp:Option Addr
 qc:Nat
def DkP.mv(q:DkP)(u:DkU):DkP:=⟨q.db,u.fm,u.A9,u.dI,u.sm,u.LM,u.mA,u.qp,u.qc,q.kp,q.kc⟩
def DkP.un(q:DkP):DkU:=⟨q.fm,q.A9,q.dI,q.sm,q.LM,q.mA,q.qp,q.qc⟩
theorem aHE(a n):LG a n=(List.range' 0 ((a+n - 1) / 64+1 - a / 64)).map λi=>((a / 64+i:Nat):Int):=by
 unfold LG;rw [List.range_eq_range']
theorem aHF(l p):sF (l++[p])=sF l++[.int .i64 p.1,.int .i64 p.2]:=by
 show List.flatMap _ (l++[p])=_;rw [List.flatMap_append];rfl
section
variable {W w:World}{S G:List Own}{Φ:PW}
theorem aVZ{X Y}{F:List Own}(h:X.Sublist Y):(X++F).Sublist (Y++F):=h.append (List.Sublist.refl _)
abbrev tru:PW:=λ_ _=>True
theorem dM[aB Φ]{X Y F}(c:Ctx W w (Y++F) Φ)(h:X.Sublist Y):Ctx W w (X++F) tru:=(c.sub (aVZ h)).weak λ_ _ _=>trivial
theorem a9I[aB Φ]{q d}(hq:rW q d){f a s}(hs:s.length<=9223372036854775807)(cx:Ctx W w (bQ q d++S) Φ){K}(hk:∀ u w',rW (q.mv u) (eC d f a s).1->Ctx W w' (bQ (q.mv u) (eC d f a s).1++S) Φ->K (.returned (.int .i64 (eC d f a s).2)) w'):aG F.vG #[.pointer (some ⟨q.db,0,none⟩),.int .i64 f,.int .i64 a,.string (bs s)] w K:=by
 have hsame:∀ {e:Int} {w':World} {G:List Own},eC d f a s=(d,e)->Ctx W w' ((bQ q d++S)++G) Φ->K (.returned (.int .i64 e)) w':=by
  intro e w' G he cx;rw [he] at hk;exact hk q.un w' hq cx.left
 refine iO (H7 q.db 0 f a (bs s) (J:=K∘.returned) cx λw G cx=>a4k (S:=S++G) (cx.re (bM _ _ _)) λw cx=>⟨_,rfl,bQ q d++S,Φ,aR,cx.re (bM _ _ _).symm,Br.intro (λh=>λw G cx=>?_) (λh=>Br.intro (λh2=>λw G cx=>?_) (λh2=>λw G cx=>?_))⟩)
 .exact hsame (by unfold eC;rw [if_pos (fV h)]) cx
 .exact hsame (by unfold eC;rw [if_neg (eV h),if_pos (fV h2)]) cx
 have h:=eV h;have h2:=eV h2;obtain ⟨a,rfl⟩:∃ n:Nat,a=n:=⟨a.toNat,by omega⟩;rw [bK];refine ⟨λh3=>(λ(h3:¬ (16777216:Int)<(a:Int))=>by unfold bE;omega) (by simpa using h3),Br.intro (λh3=>λw G cx=>?_) (λh3=>Br.intro (λh4=>λw G cx=>?_) (λh4=>λw G cx=>?_))⟩
 .have h3:(16777216:Int)<(a:Int)\/16777216 - (a:Int)<(s.length:Int):=by simpa using h3
  exact hsame (by unfold eC;rw [if_neg h,if_neg h2,if_pos h3]) cx
 all_goals have h3:¬ ((16777216:Int)<(a:Int)\/16777216 - (a:Int)<(s.length:Int)):=by simpa using h3
 .exact hsame (by unfold eC;rw [if_neg h,if_neg h2,if_neg h3,if_pos (QU.1 (fV h4))]) cx
 have h4:s≠[]:=λe=>eV h4 (by rw [e];rfl);have hpos:0<s.length:=List.length_pos_iff.2 h4;have hlen:a+s.length<=16777216:=by omega
 have hfl:0<=f/\f<16:=by
  have h':sD d f=0:=by omega
  unfold sD at h';split at h'
  .cases h'
  .split at h'
   .cases h'
   .omega
 have hd1:eC d f a s=({ d.set f ⟨iM (d.files f).now a s,(d.files f).last⟩ with queue:=VU f (LG a s.length) d.queue },0):=by
  unfold eC;rw [if_neg h,if_neg h2,if_neg h3,if_neg h4];rfl
 rw [hd1] at hk;generalize hD:d.set f ⟨iM (d.files f).now a s,(d.files f).last⟩=d1 at hk;refine ⟨some q.fm,oU cx.left rfl,λw G cx=>⟨bs (d.files f).now,bs (d.files f).last,λw2 EP=>?_,λb w G cx=>?_⟩⟩
 .have hr:=uU (P:=prog) QT (w:=w2) (by rw [EP];exact a63 cx.left) f;rw [hq.a4j f] at hr;exact hr
 refine aBN (S:=(bQ q d++S)++G) cx hlen (hq.size f).1 λw cx=>⟨_,rfl,bQ q d++S,Φ,aR,cx,λw G cx=>⟨some q.fm,oU cx.left rfl,λw G cx=>?_⟩⟩;obtain ⟨fP,nY,hr,TC,hg1⟩:=IG (P:=prog) QT hq.fok (a63 cx.left) f ⟨iM (d.files f).now a s,(d.files f).last⟩;have cx:Ctx W w (.blk q.db (CK q d) 256 :: .obj q.fm (cK (Value.int .i64) iY q.A9 q.dI) :: .obj q.sm (cK kS Value.bool q.LM q.mA) :: .buf q.qp d.queue.length q.qc (sF d.queue) 325 2 :: (S++G)) Φ:=cx
 have c1:=cx.putObj 1 (cK (Value.int .i64) iY fP nY) rfl;have hq1:rW (q.mv ⟨q.fm,fP,nY,q.sm,q.LM,q.mA,q.qp,q.qc⟩) d1:=by
  subst hD;refine ⟨TC,hq.sok,λk=>?_,hq.aDt,hq.nodup,hq.range,λk=>?_,hq.lost,hq.fD⟩
  .have:=hg1 k;rw [hq.a4j k] at this;exact this
  .show (if k=f then _ else d.files k).now.length<=_/\(if k=f then _ else d.files k).last.length<=_;have h1:=hq.size f;by_cases e:k=f
   .rw [if_pos e,I3 h4];exact ⟨by omega,h1.2⟩
   .rw [if_neg e];exact hq.size k
 have hqu:d.queue=d1.queue:=by rw [<-hD];rfl
 have hkp:d.keep.length=d1.keep.length:=by rw [<-hD];rfl
 have e3:CK q d=CK (q.mv ⟨q.fm,fP,nY,q.sm,q.LM,q.mA,q.qp,q.qc⟩) d1:=by rw [<-hD];rfl
 rw [e3,hqu] at c1;refine ⟨_,hr,bQ (q.mv ⟨q.fm,fP,nY,q.sm,q.LM,q.mA,q.qp,q.qc⟩) d1++S,Φ,aR,c1,by decide,?_,?_⟩
 .unfold bE;rw [Int.tdiv_eq_ediv_of_nonneg (by omega)];omega
 rw [hqu] at hk;clear cx c1 e3 hr hg1 TC;generalize hm:(a+s.length - 1) / 64+1 - a / 64=m;have hm2:a / 64+m=(a+s.length - 1) / 64+1/\(a+s.length - 1) / 64<262144:=by omega
 refine ⟨λn R' aX k=>∃ (i:Nat) (u:DkU) (qu:List (Int × Int)),n=((a / 64+i:Nat):Int)/\i+k=m/\R'=bQ (q.mv u) { d1 with queue:=qu }++S/\aX=Φ/\rW (q.mv u) { d1 with queue:=qu }/\VU f ((List.range' i k).map λi=>((a / 64+i:Nat):Int)) qu=VU f (LG a s.length) d1.queue,⟨_,Φ,m,aR,λw G cx=>cx,0,_,d1.queue,by rw [Int.tdiv_eq_ediv_of_nonneg (by omega)];omega,by omega,rfl,rfl,hq1,by rw [aHE,hm]⟩,?_⟩;rintro n R' Φ k st ⟨i,u,qu,rfl,hik,rfl,rfl,qZ,aPS⟩
 have hbd:((a:Int)+(s.length:Int) - 1).tdiv 64=(((a+s.length - 1) / 64:Nat):Int):=by rw [Int.tdiv_eq_ediv_of_nonneg (by omega)];omega
 rw [hbd];refine ⟨by unfold bE;omega,by unfold bE;omega,by decide,by unfold bE;omega,Br.intro (λhlt=>?_) (λhge=>λw G cx=>?_)⟩
 .have hlt:=fV hlt;obtain ⟨k,rfl⟩:∃ k',k=k'+1:=⟨k - 1,by omega⟩;intro b w G cx;have c1:∀ w',w'=w.setCells b 0 [.int .i64 f,.int .i64 ((a / 64+i:Nat):Int)]->Ctx W w' (.blk b [.int .i64 f,.int .i64 ((a / 64+i:Nat):Int)] 325 :: (bQ (q.mv u) { d1 with queue:=qu }++S)++G) Φ:=λw' hw'=>cx.FR 0 hw' rfl;refine ⟨cx.can 0 rfl (by decide),λw' hw'=>⟨_,Φ,aR,c1 w' hw',λw G cx=>⟨some u.sm,oU (q:=q.mv u) (d:={ d1 with queue:=qu }) cx.drop1.left rfl,f,((a / 64+i:Nat):Int),cx.EO 0 rfl,decide ((f,((a / 64+i:Nat):Int))∈qu),λw2 EP=>?_,Br.intro (λhin=>?_) (λhin=>?_)⟩⟩⟩
  .have hr:=uU (P:=prog) aBL (w:=w2) (by rw [EP];exact aVY (q:=q.mv u) (d:={ d1 with queue:=qu }) cx.drop1.left) (f,((a / 64+i:Nat):Int));rw [qZ.aDt] at hr;exact hr
  .have hin:(f,((a / 64+i:Nat):Int)) ∉ qu:=by simpa using hin
   have aV0:VU f ((List.range' (i+1) k).map λi=>((a / 64+i:Nat):Int)) (qu++[(f,((a / 64+i:Nat):Int))])=VU f (LG a s.length) d1.queue:=by
    rw [<-aPS,List.range'_succ,List.map_cons];show _=VU f _ (if _ then _ else _);rw [if_neg hin]
   generalize hn:((a / 64+i:Nat):Int)=n at *;refine ⟨[.blk b [.int .i64 f,.int .i64 n] 325],tru,aR,λw G cx=>dM cx (.cons_cons _ (List.nil_sublist _)),[.blk b [.int .i64 f,.int .i64 n] 325,.blk q.db (CK (q.mv u) { d1 with queue:=qu }) 256],tru,aR,λw G cx=>dM cx (.cons_cons _ (.cons_cons _ (List.nil_sublist _))),
    f,n,λw G cx=>⟨f,n,cx.EO 0 rfl,rfl⟩,f,n,λw G cx=>⟨f,n,cx.EO 0 rfl,rfl⟩,some u.sm,λw G cx=>⟨some u.sm,cx.get 1 rfl rfl,rfl⟩,u.qp,qu.length,u.qc,λw G cx=>⟨_,_,_,cx.get 1 rfl rfl,rfl⟩,λg=>⟨λw G cx=>dM cx (.cons _ (.cons_cons _ (List.nil_sublist _))),λw G cx=>dM cx (.cons _ (.cons_cons _ (.cons_cons _ (List.nil_sublist _)))),λw G cx=>?_⟩⟩
   have cx:Ctx W w ([.blk g [.int .i64 f,.int .i64 n] 325,.blk b [.int .i64 f,.int .i64 n] 325,.blk q.db (CK (q.mv u) { d1 with queue:=qu }) 256,.obj u.fm (cK (Value.int .i64) iY u.A9 u.dI),.obj u.sm (cK kS Value.bool u.LM u.mA)]++.buf u.qp qu.length u.qc (sF qu) 325 2 :: (S++G)) Φ:=cx;have cx:=cx.perm (List.Perm.cons _ (List.perm_middle (l₁:=[Own.blk b [.int .i64 f,.int .i64 n] 325,.blk q.db (CK (q.mv u) { d1 with queue:=qu }) 256,.obj u.fm (cK (Value.int .i64) iY u.A9 u.dI),.obj u.sm (cK kS Value.bool u.LM u.mA)])))
   obtain ⟨p',cap',w',hr,_,c2⟩:=cx.YQ (ts:=254) (ty:=254) (kb:=#[false,false]) (bytes:=16) (by kernel_rfl) (by decide) rfl rfl (by have:=qZ.aLu;show qu.length<_;exact Nat.lt_of_le_of_lt this (by decide)) (by decide);refine ⟨p',qu.length+1,cap',w',hr,.buf p' (qu.length+1) cap' (sF qu++aHD f n) 325 2 :: .blk b [.int .i64 f,.int .i64 n] 325 :: .blk q.db (CK (q.mv u) { d1 with queue:=qu }) 256 :: .obj u.fm (cK (Value.int .i64) iY u.A9 u.dI) :: .obj u.sm (cK kS Value.bool u.LM u.mA) :: S,Φ,aR,c2,λw G cx=>dM cx (.cons _ (.cons_cons _ (List.nil_sublist _))),λw G cx=>dM cx (.cons _ (.cons_cons _ (.cons_cons _ (List.nil_sublist _)))),λw G cx=>⟨cx.can 2 rfl (by show 0+1+1<=7;omega),λw' hw'=>?_⟩⟩
   have c3:=cx.put 2 hw' rfl;refine ⟨.buf p' (qu.length+1) cap' (sF qu++aHD f n) 325 2 :: .blk b [.int .i64 f,.int .i64 n] 325 :: .blk q.db ((CK (q.mv u) { d1 with queue:=qu }).set 1 (.slice p' (qu.length+1) cap')) 256 :: .obj u.fm (cK (Value.int .i64) iY u.A9 u.dI) :: .obj u.sm (cK kS Value.bool u.LM u.mA) :: S,Φ,aR,c3,λw G cx=>dM cx (.cons _ (.cons_cons _ (List.nil_sublist _))),trivial,λw G cx=>?_⟩
   obtain ⟨fP,nY,sn,HP,TC,hg1,hx1⟩:=a9F (P:=prog) aBL qZ.sok (cx.own (.obj u.sm (cK kS Value.bool u.LM u.mA)) (by simp)) (f,n);have c4:=cx.putObj 4 (cK kS Value.bool fP nY) rfl;refine ⟨_,_,_,HP,.buf p' (qu.length+1) cap' (sF qu++aHD f n) 325 2 :: .blk b [.int .i64 f,.int .i64 n] 325 :: .blk q.db ((CK (q.mv u) { d1 with queue:=qu }).set 1 (.slice p' (qu.length+1) cap')) 256 :: .obj u.fm (cK (Value.int .i64) iY u.A9 u.dI) :: .obj u.sm (cK kS Value.bool fP nY) :: S,Φ,aR,c4,λw G cx=>dM cx (.cons _ (.cons_cons _ (List.nil_sublist _))),trivial,λw G cx=>?_⟩
   obtain ⟨QV,hr2,ok2,hg2⟩:=a9G (P:=prog) (z:=false) 253 TC hx1 (cx.own (.obj u.sm (cK kS Value.bool fP nY)) (by simp)) true;have c5:=cx.putObj 4 (cK kS Value.bool QV nY) rfl;refine ⟨_,hr2,.buf p' (qu.length+1) cap' (sF qu++aHD f n) 325 2 :: .blk b [.int .i64 f,.int .i64 n] 325 :: .blk q.db ((CK (q.mv u) { d1 with queue:=qu }).set 1 (.slice p' (qu.length+1) cap')) 256 :: .obj u.fm (cK (Value.int .i64) iY u.A9 u.dI) :: .obj u.sm (cK kS Value.bool QV nY) :: S,Φ,aR,c5,λw G cx=>dM cx (.cons _ (.cons_cons _ (List.nil_sublist _))),trivial,by unfold bE;omega,bQ (q.mv { u with qp:=p',qc:=cap',LM:=QV,mA:=nY }) { d1 with queue:=qu++[(f,n)] }++S,Φ,k,aR,λw G cx=>?_,⟨i+1,_,_,by omega,by omega,rfl,rfl,⟨qZ.fok,ok2,qZ.a4j,λp=>?_,?_,λp hp=>?_,qZ.size,qZ.lost,qZ.fD⟩,aV0⟩,Nat.lt_succ_self _⟩
   .have c6:Ctx W w (.buf p' (qu.length+1) cap' (sF qu++aHD f n) 325 2 :: ([.blk q.db ((CK (q.mv u) { d1 with queue:=qu }).set 1 (.slice p' (qu.length+1) cap')) 256,.obj u.fm (cK (Value.int .i64) iY u.A9 u.dI),.obj u.sm (cK kS Value.bool QV nY)]++(S++G))) Φ:=cx.sub (.cons_cons _ (.cons _ (List.Sublist.refl _)));have c7:=c6.perm List.perm_middle.symm;show Ctx W w (.blk q.db _ 256 :: .obj u.fm _ :: .obj u.sm _ :: .buf p' (qu++[(f,n)]).length cap' (sF (qu++[(f,n)])) 325 2 :: (S++G)) Φ
    rw [aHF,List.length_append];have e4:CK (q.mv { u with qp:=p',qc:=cap',LM:=QV,mA:=nY }) { d1 with queue:=qu++[(f,n)] }=(CK (q.mv u) { d1 with queue:=qu }).set 1 (.slice p' (qu.length+1) cap'):=by
     show [_,Value.slice p' (qu++[(f,n)]).length cap',_,_,_,_,_]=_;rw [List.length_append];rfl
    rw [e4];exact c7
   .show gT false QV p=decide (p∈qu++[(f,n)]);rw [hg2 p,hg1 p];have:=qZ.aDt p;by_cases e:p=(f,n)
    .rw [if_pos e,e];simp
    .rw [if_neg e];refine this.trans (decide_eq_decide.2 ?_);simp [e]
   .show (qu++[(f,n)]).Nodup;refine List.nodup_append.2 ⟨qZ.nodup,by simp,λx hx y hy e=>?_⟩;rw [List.mem_singleton.1 hy] at e;exact hin (by rw [<-e];exact hx)
   .rcases List.mem_append.1 hp with hp|hp
    .exact qZ.range p hp
    .rw [List.mem_singleton.1 hp];exact ⟨hfl,by show 0<=n;omega,by show n<262145;omega⟩
  .have hin:(f,((a / 64+i:Nat):Int))∈qu:=by simpa using hin
   refine ⟨by unfold bE;omega,bQ (q.mv u) { d1 with queue:=qu }++S,Φ,k,aR,λw G cx=>cx.drop1,⟨i+1,u,qu,by omega,by omega,rfl,rfl,qZ,?_⟩,Nat.lt_succ_self _⟩;rw [<-aPS,List.range'_succ,List.map_cons];show _=VU f _ (if _ then _ else _);rw [if_pos hin]
 .have hge:=eV hge;have hk0:k=0:=by omega
  subst hk0;have:VU f (LG a s.length) d1.queue=qu:=aPS.symm;rw [this] at hk;exact hk u w qZ cx.left
end
abbrev nZ(p:Option Addr)(cap:Nat)(l:List (Int × Int)):Own:=.buf p l.length cap (sF l) 325 2
theorem a2z:∀ (l:List (Int × Int)) (k:Nat),(sF l).take (k*2)=sF (l.take k)
 | l,0=>by simp
 | [],k+1=>by simp
 | x :: l,k+1=>by
  rw [show (k+1)*2=k*2+1+1 by omega,List.take_succ_cons];show (Value.int .i64 x.1 :: .int .i64 x.2 :: sF l).take (k*2+1+1)=.int .i64 x.1 :: .int .i64 x.2 :: sF (l.take k);rw [List.take_succ_cons,List.take_succ_cons,a2z l k]
theorem aHG{l i}(h:i<l.length)(x):mS (sF l) (i*2) [.int .i64 x.1,.int .i64 x.2]=sF (l.set i x):=by
 induction l generalizing i with
 | nil=>simp at h
 | cons y l ih =>
  cases i with
  | zero=>rfl
  | succ i =>
   have:=ih (i:=i) (by simpa using h);rw [List.set_cons_succ];show mS (Value.int .i64 y.1 :: .int .i64 y.2 :: sF l) ((i+1)*2) [.int .i64 x.1,.int .i64 x.2]=Value.int .i64 y.1 :: .int .i64 y.2 :: sF (l.set i x);rw [<-this];apply List.ext_getElem?;intro k;have hlen:(sF l).length=l.length*2:=CL l;have hi:i<l.length:=by simpa using h
   generalize sF l=cs at hlen this;by_cases hk:k<2
   .rw [rK _ _ _ _ (by omega)]
    match k,hk with
    | 0,_=>rfl
    | 1,_=>rfl
   .obtain ⟨m,rfl⟩:∃ m,k=m+2:=⟨k - 2,by omega⟩;simp only [List.getElem?_cons_succ];by_cases h1:m<i*2\/i*2+2<=m
    .rw [rK _ _ _ _ (by simp;omega),rK _ _ _ _ (by simp;omega)];simp only [List.getElem?_cons_succ]
    .obtain ⟨q,rfl⟩:∃ q,m=i*2+q:=⟨m - i*2,by omega⟩;rw [Q4 _ _ _ _ (by simp;omega) (by simp;omega),show i*2+q+2=(i+1)*2+q by omega,Q4 _ _ _ _ (by simp;omega) (by simp;omega)]
theorem aHH{W w S}{Φ:PW}{p cap l}(cx:Ctx W w (nZ p cap l :: S) Φ)(h:0<l.length):∃ g,p=some ⟨g,0,none⟩:=by
 obtain ⟨g,hg,_⟩:=cx.nU 0 rfl (by rw [CL];omega);exact ⟨g,hg⟩
theorem aHI{W w S}{Φ:PW}{g cap l}(cx:Ctx W w (nZ (some ⟨g,0,none⟩) cap l :: S) Φ){i X}(hX:l[i]? = some X):bT w g (i*2) [.int .i64 X.1,.int .i64 X.2]:=by
 obtain ⟨hi,rfl⟩:=List.getElem?_eq_some_iff.1 hX;exact cx.a9m 0 rfl rfl (zT (aBM hi))
theorem aPU{W w S}{Φ:PW}{g cap l}(cx:Ctx W w (nZ (some ⟨g,0,none⟩) cap l :: S) Φ){i}(hi:i<l.length):aH w g (i*2) 2 :=
 cx.a9n 0 rfl rfl (by rw [CL];omega)
theorem aPV{W w w' S}{Φ:PW}[aB Φ]{g cap l}(cx:Ctx W w (nZ (some ⟨g,0,none⟩) cap l :: S) Φ){i}(hi:i<l.length)(x)(e:w'=w.setCells g (i*2) [.int .i64 x.1,.int .i64 x.2]):
  Ctx W w' (nZ (some ⟨g,0,none⟩) cap (l.set i x) :: S) Φ:=by
 have h:=cx.W5 0 rfl rfl (by rw [CL];omega) (by rw [CL];simp only [List.length_cons,List.length_nil];omega) e;rw [aHG hi] at h;have hl:(l.set i x).length=l.length:=by simp
 show Ctx W w' (.buf (some ⟨g,0,none⟩) (l.set i x).length cap (sF (l.set i x)) 325 2 :: S) Φ;rw [hl];exact h
def a4l(f:Int × Int->Bool)(l:List (Int × Int)):Int:=if l.findIdx f<l.length then (l.findIdx f:Int) else -1
structure aHJ(Z:List Own)(Φ:PW)(df:FuncId)(dc:Array Value)(f:Int × Int->Bool):Prop where
 ok:sI prog df=true
 go:∀ (x:Int × Int) {W w:World} {S:List Own},Ctx W w (Z++S) Φ->∀ {K:EkV},(∀ w',Ctx W w' (Z++S) Φ->K (.returned (.bool (f x))) w')->Calls prog df (Array.mk (kS x :: dc.toList)) w K
theorem re3{W w}{Φ:PW}{o Z S G}(cx:Ctx W w ((o :: (Z++S))++G) Φ):Ctx W w (o :: (Z++(S++G))) Φ:=by
 rw [<-bM];exact cx
theorem re4{W w}{Φ:PW}{o Z S G}(cx:Ctx W w (o :: (Z++(S++G))) Φ):Ctx W w ((o :: (Z++S))++G) Φ:=by
 rw [<-bM] at cx;exact cx
theorem aHJ.use{Z}{Φ:PW}[aB Φ]{df dc f}(h:aHJ Z Φ df dc f)(x){W w S G o}(cx:Ctx W w ((o :: (Z++S))++G) Φ){K}(hk:∀ w',Ctx W w' ((o :: (Z++S))++G) Φ->K (.returned (.bool (f x))) w'):Calls prog df (Array.mk (kS x :: dc.toList)) w K :=
 h.go x (S:=o :: (S++G)) ((re3 cx).perm (List.perm_middle (l₁:=Z) (l₂:=S++G)).symm) λw' cx=>hk w' (re4 (cx.perm List.perm_middle))
theorem a1r{W w S}{Φ:PW}[aB Φ]{df dc f Z}(hf:aHJ Z Φ df dc f){p cap}(es)(hl:es.length<=100000000)(cx:Ctx W w (nZ p cap es :: (Z++S)) Φ){K}(hK:∀ w',Ctx W w' (nZ p cap es :: (Z++S)) Φ->K (.returned (.int .i64 (a4l f es))) w'):
  aG F.eB #[.slice p es.length cap,.func (.func df) #[] dc] w K:=by
 refine iO (jR p es.length cap df dc (J:=K∘.returned) cx ?_);have hp:0<es.length->∃ g,p=some ⟨g,0,none⟩:=λh=>aHH cx h;refine dS (λiI R' aX n=>∃ i:Nat,iI=i/\i<=es.length/\(∀ q (h:q<es.length),q<i->f es[q]=false)/\R'=nZ p cap es :: (Z++S)/\aX=Φ/\n=es.length - i) ⟨⟨_,Φ,_,aR,λw G cx=>cx,0,rfl,Nat.zero_le _,λq h h2=>by omega,rfl,rfl,rfl⟩,?_⟩;clear cx;rintro iI R1 cL n _ ⟨i,rfl,hi,h1,rfl,rfl,rfl⟩;refine Br.intro (λhlt=>?_) (λhge=>λw G cx=>?_)
 .have hlt:i<es.length:=by have:=fV hlt;omega
  obtain ⟨g,hg⟩:=hp (by omega);subst hg;refine ⟨⟨by omega,by omega⟩,bF g 0 rfl λw G cx=>⟨es[i].1,es[i].2,by rw [Nat.zero_add,Int.toNat_natCast];exact aHI cx (List.getElem?_eq_getElem hlt),λw G cx=>⟨hf.ok,hf.use es[i] cx λw cx=>⟨_,rfl,nZ (some ⟨g,0,none⟩) cap es :: (Z++S),cL,aR,cx,Br.intro (λhc=>λw G cx=>?_) (λhc=>?_)⟩⟩⟩⟩
  .have e:es.findIdx f=i:=List.findIdx_eq hlt |>.2 ⟨hc,λq hq=>by rw [h1 q (by omega) hq]⟩;have:=hK w cx.left;unfold a4l at this;rw [e,if_pos hlt] at this;exact this
  .exact ⟨by unfold bE;omega,_,cL,es.length - (i+1),aR,λw G cx=>cx,⟨i+1,by omega,by omega,λq h hq=>by
    by_cases e:q=i
    .subst e;exact hc
    .exact h1 q h (by omega),rfl,rfl,rfl⟩,by omega⟩
 .have hge:es.length<=i:=by have:=eV hge;omega
  have e:¬ es.findIdx f<es.length:=λh=>by
   have h2:=List.findIdx_getElem (w:=h);rw [h1 _ h (by omega)] at h2;cases h2
  have:=hK w cx.left;unfold a4l at this;rw [if_neg e] at this;exact this
set_option maxHeartbeats 2000000 in
theorem a9J{W w S}{Φ:PW}[aB Φ]{df dc f Z}(hdf:aHJ Z Φ df dc f){p cap}(es)(hl:es.length<=100000000)(cx:Ctx W w (nZ p cap es :: (Z++S)) Φ){K}(hK:∀ w',Ctx W w' (nZ p cap (es.filter λx => !f x) :: (Z++S)) Φ->K (.returned (.slice p (es.filter λx => !f x).length cap)) w'):
  aG F.dW #[.slice p es.length cap,.func (.func df) #[] dc] w K:=by
 refine iO (jM p es.length cap df dc (J:=K∘.returned) cx ?_);have hp:0<es.length->∃ g,p=some ⟨g,0,none⟩:=λh=>aHH cx h;obtain ⟨_,hnc,hcm⟩:=cx.sU 0 rfl;clear cx;refine λw G cx=>a1r hdf es hl (S:=S++G) (re3 cx) λw cx=>⟨_,rfl,nZ p cap es :: (Z++S),Φ,aR,re4 cx,?_⟩;clear cx;unfold a4l;by_cases hf:es.findIdx f<es.length
 case neg =>
  rw [if_neg hf];refine Br.intro (λ_=>λw G cx=>?_) (λh=>absurd rfl (eV h));have e:es.filter (λx => !f x)=es:=List.filter_eq_self.2 λx hx=>by
   cases h:f x with
   | false=>rfl
   | true=>exact absurd (List.findIdx_lt_length.2 ⟨x,hx,h⟩) hf
  rw [e] at hK;exact hK w cx.left
 rw [if_pos hf];obtain ⟨g,hg⟩:=hp (by omega);subst hg;obtain ⟨i0,hi0⟩:∃ i0,es.findIdx f=i0:=⟨_,rfl⟩;have hg0:f (es[i0]'(by omega))=true:=by
  have:=List.findIdx_getElem (w:=hf);simp only [hi0] at this;exact this
 have hb0:∀ q (h:q<es.length),q<i0->f es[q]=false:=λq h hq=>by
  have:=List.not_of_lt_findIdx (p:=f) (xs:=es) (i:=q) (by omega);simpa using this
 rw [hi0] at hf ⊢;have hstart:es.take i0=(es.take (i0+1)).filter λx => !f x:=by
  rw [List.take_succ_eq_append_getElem hf,List.filter_append,List.filter_cons_of_neg (by rw [hg0];simp),List.filter_nil,List.append_nil];refine (List.filter_eq_self.2 λx hx=>?_).symm;obtain ⟨q,hq,rfl⟩:=List.getElem_of_mem hx;rw [List.length_take] at hq;rw [List.getElem_take,hb0 q (by omega) (by omega)];rfl
 refine Br.intro (λh=>absurd (fV h) (by omega)) (λ_=>⟨by unfold bE;omega,?_⟩);refine dS (λaI bI R' aX n=>∃ (i j:Nat) (cur:List (Int × Int)),aI=i/\bI=j/\i<j/\j<=es.length/\cur.length=es.length/\cur.take i=(es.take j).filter (λx => !f x)/\cur.drop j=es.drop j/\R'=nZ (some ⟨g,0,none⟩) cap cur :: (Z++S)/\aX=Φ/\n=es.length - j)
  ⟨⟨_,Φ,_,aR,λw G cx=>cx,i0,i0+1,es,rfl,by omega,by omega,hf,rfl,hstart,rfl,rfl,rfl,rfl⟩,?_⟩
 rintro aI bI R1 cL n _ ⟨i,j,cur,rfl,rfl,hij,hj,uK,htk,hdr,rfl,rfl,rfl⟩;refine Br.intro (λhlt=>?_) (λhge=>?_)
 .have hlt:j<es.length:=by have:=fV hlt;omega
  have hcj:cur[j]'(by omega)=es[j]:=by
   have h:=congrArg (λl=>l[0]?) hdr;simp only [List.getElem?_drop,Nat.add_zero] at h;rw [List.getElem?_eq_getElem (by omega),List.getElem?_eq_getElem hlt] at h;exact Option.some.inj h
  have htj:es.take (j+1)=es.take j++[es[j]]:=List.take_succ_eq_append_getElem hlt;have hdj:cur.drop (j+1)=es.drop (j+1):=by rw [<-List.drop_drop,<-List.drop_drop,hdr]
  refine ⟨⟨by omega,by omega⟩,bF g 0 rfl λw G cx=>⟨(cur[j]'(by omega)).1,(cur[j]'(by omega)).2,by rw [Nat.zero_add,Int.toNat_natCast];exact aHI cx (List.getElem?_eq_getElem (by omega)),λb w G cx=>⟨hdf.ok,hdf.use (cur[j]'(by omega)) cx λw cx=>⟨_,rfl,nZ (some ⟨g,0,none⟩) cap cur :: (Z++S),cL,aR,cx,Br.intro (λhc=>?_) (λhc=>?_)⟩⟩⟩⟩
  .have hk:f es[j]=false:=by rw [hcj] at hc;simpa using hc
   refine ⟨⟨by omega,by omega⟩,bF g 0 rfl λw G cx=>⟨by rw [Nat.zero_add,Int.toNat_natCast];exact aPU cx (i:=i) (by omega),λw' hw'=>?_⟩⟩;rw [Nat.zero_add,Int.toNat_natCast] at hw';have x9:=aPV cx (i:=i) (by omega) (cur[j]'(by omega)) hw';refine ⟨nZ (some ⟨g,0,none⟩) cap (cur.set i (cur[j]'(by omega))) :: (Z++S),cL,aR,x9,by unfold bE;omega,by unfold bE;omega,_,cL,es.length - (j+1),aR,λw G cx=>cx,⟨i+1,j+1,cur.set i (cur[j]'(by omega)),by omega,by omega,by omega,by omega,by rw [List.length_set];exact uK,?_,?_,rfl,rfl,rfl⟩,by omega⟩
   .rw [List.take_succ_eq_append_getElem (by rw [List.length_set];omega),List.take_set_of_le (Nat.le_refl _),List.getElem_set_self,htk,htj,List.filter_append,List.filter_cons_of_pos (by rw [hk];rfl),List.filter_nil,hcj]
   .rw [List.drop_set_of_lt (by omega)];exact hdj
  .have hk:f es[j]=true:=by rw [hcj] at hc;simpa using hc
   refine ⟨by unfold bE;omega,_,cL,es.length - (j+1),aR,λw G cx=>cx,⟨i,j+1,cur,rfl,by omega,by omega,by omega,uK,?_,hdj,rfl,rfl,rfl⟩,by omega⟩;rw [htj,List.filter_append,List.filter_cons_of_neg (by rw [hk];simp),List.filter_nil,List.append_nil,htk]
 .have hge:j=es.length:=by have:=eV hge;omega
  subst hge;rw [List.take_length] at htk;have hil:(es.filter λx => !f x).length=i:=by rw [<-htk,List.length_take];omega
  refine ⟨⟨by omega,by omega,hnc⟩,λw G cx=>?_⟩;have jE:Ctx W w (nZ (some ⟨g,0,none⟩) cap cur :: ((Z++S)++G)) cL:=cx;obtain ⟨w',hr,x9⟩:=jE.aPR rfl (ts:=254) (ty:=0) (kb:=#[false]) (k:=i) (bytes:=16) (by kernel_rfl) (by kernel_rfl) (by omega) (by omega);rw [uK] at hr;rw [a2z,htk] at x9;refine ⟨w',by rw [Int.toNat_natCast];exact hr,nZ (some ⟨g,0,none⟩) cap (es.filter λx => !f x) :: (Z++S),cL,aR,by show Ctx W w' (.buf _ (es.filter _).length cap (sF _) 325 2 :: _) _;rw [hil];exact x9,⟨by omega,by omega⟩,λw G cx=>?_⟩
  have:=hK w cx.left;rw [hil] at this;rw [II,Int.toNat_natCast];exact this
theorem a9K{Φ:PW}[aB Φ]{kb f}:aHJ [.blk kb [.int .i64 f] 3] Φ F.xQ #[.pointer (some ⟨kb,0,none⟩)] (λp=>decide (p.1=f)):=⟨by kernel_rfl,λx W w S cx K hk=>by
 refine iO (BT x.1 x.2 kb 0 (J:=K∘.returned) cx ?_);exact λb w G cx=>⟨f,cx.get 0 rfl rfl,λw G cx=>hk w cx.left⟩⟩
structure aV1(Z:List Own)(Φ:PW)(df:FuncId)(dc:Array Value)(f:Int × Int->Bool):Prop where
 ok:sI prog df=true
 go:∀ (x:Int × Int) (b:Bool) {W w:World} {S:List Own},Ctx W w (Z++S) Φ->∀ {K:EkV},(∀ w',Ctx W w' (Z++S) Φ->K (.returned (.bool (f x))) w')->Calls prog df (Array.mk (kS x :: .bool b :: dc.toList)) w K
theorem a9L{Φ:PW}[aB Φ]{kb f}:aV1 [.blk kb [.int .i64 f] 3] Φ F.xR #[.pointer (some ⟨kb,0,none⟩)] (λp=>decide (p.1=f)):=⟨by kernel_rfl,λx b W w S cx K hk=>by
 refine iO (BU x.1 x.2 b kb 0 (J:=K∘.returned) cx ?_);exact λb w G cx=>⟨f,cx.get 0 rfl rfl,λw G cx=>hk w cx.left⟩⟩
theorem a2A(A Z S G:List Own):(A++(Z++(S++G))).Perm (Z++(A++(S++G))):=by
 rw [<-bM A,<-bM Z];exact List.perm_append_comm.append_right _
abbrev wX(b:Nat)(es:List (bV (Int × Int) Bool))(wY:Nat):Own:=.obj b (cK kS Value.bool es wY)
theorem a9M{W w Z S}{Φ:PW}[aB Φ]{df dc f}(hdf:aV1 Z Φ df dc f){b es wY}(ok:GOk es wY)(cx:Ctx W w (wX b es wY :: (Z++S)) Φ){K}(hK:∀ fP w',GOk fP wY->(∀ y,gT false fP y=if f y=true then false else gT false es y)->Ctx W w' (wX b fP wY :: (Z++S)) Φ->K (.returned (.tuple #[])) w'):
  aG F.cQ #[.map (some b),.func (.func df) #[] dc] w K:=by
 refine iO (gJ (some b) df dc (J:=K∘.returned) cx ?_);intro w G cx;have hb:=cx.own (wX b es wY) (by simp);refine ⟨_,_,run_range_map (P:=prog) w 253 325 4 b _ wY aBL.map hb,.obj w.heap.size (.mapIter (some b) wY #[] wY) :: wX b es wY :: (Z++S),Φ,aR,cx.newObj rfl,?_⟩;clear hb cx;generalize w.heap.size=r;refine dS (λR' aX k=>∃ (seen:Array Nat) (fP:List (bV (Int × Int) Bool)),R'=.obj r (.mapIter (some b) wY seen wY) :: wX b fP wY :: (Z++S)/\aX=Φ/\k=QS seen.toList fP/\GOk fP wY/\(∀ e∈fP,e.born∈seen.toList->f e.key=false)/\(∀ y,f y=false->gT false fP y=gT false es y))
  ⟨⟨_,Φ,_,aR,λw G cx=>cx,#[],es,rfl,rfl,rfl,ok,λe he hs=>by simp at hs,λy _=>rfl⟩,?_⟩
 rintro R1 Φ n _ ⟨seen,fP,rfl,rfl,rfl,TC,aHK,N8⟩;intro w G cx;have hr:=cx.own (.obj r (.mapIter (some b) wY seen wY)) (by simp);have hb:=cx.own (wX b fP wY) (by simp);rcases aHB (P:=prog) 0 hr hb TC.lt (Nat.le_refl _) with ⟨hall,hrun⟩|⟨a,ha,hns,w1,hw1,hrun⟩
 .refine .inl ⟨w,hrun,.obj r (.mapIter (some b) wY seen wY) :: wX b fP wY :: (Z++S),Φ,aR,cx,λw G cx=>?_⟩;refine hK fP w TC (λy=>?_) (Ctx.left (Ctx.drop1 cx));cases hy:f y with
  | false=>rw [if_neg (by simp)];exact N8 y hy
  | true =>
   rw [if_pos rfl];exact qO λe he e2=>by
    have:=aHK e he (hall e he);rw [e2,hy] at this;cases this
 .have c1:Ctx W w1 ((.obj r (.mapIter (some b) wY seen wY) :: wX b fP wY :: (Z++S))++G) Φ:=by
   rcases hw1 with rfl|rfl
   .exact cx
   .exact cx.draw 1
  have c2:=c1.putObj 0 (.mapIter (some b) wY (seen.push a.born) wY) rfl;refine .inr ⟨_,_,_,hrun,.obj r (.mapIter (some b) wY (seen.push a.born) wY) :: wX b fP wY :: (Z++S),Φ,aR,c2,λw G cx=>?_⟩;refine ⟨a.key.1,a.key.2,a.val,w,aBK TC (cx.own (.obj r (.mapIter (some b) wY (seen.push a.born) wY)) (by simp)) (cx.own (wX b fP wY) (by simp)) ha,.obj r (.mapIter (some b) wY (seen.push a.born) wY) :: wX b fP wY :: (Z++S),Φ,aR,cx,λb0 w G cx=>⟨hdf.ok,?_⟩⟩
  have cx:Ctx W w ([Own.obj r (.mapIter (some b) wY (seen.push a.born) wY),wX b fP wY]++(Z++(S++G))) Φ:=by
   rw [<-bM Z];exact cx
  have cz:Ctx W w (Z++([Own.obj r (.mapIter (some b) wY (seen.push a.born) wY),wX b fP wY]++(S++G))) Φ:=cx.perm (a2A _ _ _ _);refine hdf.go a.key a.val cz λw cz=>⟨_,rfl,.obj r (.mapIter (some b) wY (seen.push a.born) wY) :: wX b fP wY :: (Z++S),Φ,aR,?_,Br.intro (λhc=>λw G cx=>?_) (λhc=>?_)⟩
  .have:=cz.perm (a2A _ _ _ _).symm;rw [<-bM Z] at this;exact this
  .obtain ⟨QV,aV2,ok2,hg2,hsub,hne⟩:=a60 (P:=prog) aBL TC (cx.own (wX b fP wY) (by simp)) a.key 325 0 #[false,false];have c3:=cx.putObj 1 (cK kS Value.bool QV wY) rfl;refine ⟨_,aV2,.obj r (.mapIter (some b) wY (seen.push a.born) wY) :: wX b QV wY :: (Z++S),Φ,aR,c3,_,Φ,QS (seen.push a.born).toList QV,aR,λw G cx=>cx,⟨_,QV,rfl,rfl,rfl,ok2,λe he hs=>?_,λy hy=>?_⟩,?_⟩
   .rw [Array.toList_push] at hs;rcases List.mem_append.1 hs with hs|hs
    .exact aHK e (hsub.subset he) hs
    .have hb2:=List.mem_singleton.1 hs;have:e=a:=pM TC.sQ (hsub.subset he) ha hb2;exact absurd (by rw [this]) (hne e he)
   .rw [hg2 y,if_neg (λe=>by rw [e,hc] at hy;cases hy)];exact N8 y hy
   .rw [Array.toList_push];exact NK (hsub.map _) ha hns (List.nodup_iff_pairwise_ne.2 (List.pairwise_map.2 TC.sQ))
  .refine ⟨_,Φ,QS (seen.push a.born).toList fP,aR,λw G cx=>cx,⟨_,fP,rfl,rfl,rfl,TC,λe he hs=>?_,N8⟩,?_⟩
   .rw [Array.toList_push] at hs;rcases List.mem_append.1 hs with hs|hs
    .exact aHK e he hs
    .have:e=a:=pM TC.sQ he ha (List.mem_singleton.1 hs);rw [this];exact hc
   .rw [Array.toList_push];exact NK (List.Sublist.refl _) ha hns (List.nodup_iff_pairwise_ne.2 (List.pairwise_map.2 TC.sQ))
theorem a9N{W w S}{Φ:PW}[aB Φ]{q d}(hq:rW q d){f s}(hs:s.length<=16777216)(cx:Ctx W w (bQ q d++S) Φ){K}(hk:∀ u w',rW (q.mv u) (E2 d f s)->Ctx W w' (bQ (q.mv u) (E2 d f s)++S) Φ->K (.returned (.tuple #[])) w'):aG F.tH #[.pointer (some ⟨q.db,0,none⟩),.int .i64 f,.string (bs s)] w K:=by
 refine iO (F4 q.db 0 f (bs s) (J:=K∘.returned) cx λkb w G cx=>⟨f,cx.get 0 rfl rfl,λw G cx=>⟨some q.fm,oU (d:=d) cx.drop1.left rfl,λw G cx=>?_⟩⟩);obtain ⟨fP,nY,hr,TC,hg1⟩:=IG (P:=prog) QT hq.fok (a63 (d:=d) cx.drop1.left) f ⟨s,s⟩;have cx:Ctx W w (.blk kb [.int .i64 f] 3 :: .blk q.db (CK q d) 256 :: .obj q.fm (cK (Value.int .i64) iY q.A9 q.dI) :: .obj q.sm (cK kS Value.bool q.LM q.mA) :: nZ q.qp q.qc d.queue :: (S++G)) Φ:=cx
 have c1:=(cx.putObj 2 (cK (Value.int .i64) iY fP nY) rfl).perm (List.perm_middle (l₁:=[Own.blk kb [.int .i64 f] 3,.blk q.db (CK q d) 256,.obj q.fm (cK (Value.int .i64) iY fP nY),.obj q.sm (cK kS Value.bool q.LM q.mA)]));refine ⟨_,hr,nZ q.qp q.qc d.queue :: .blk kb [.int .i64 f] 3 :: .blk q.db (CK q d) 256 :: .obj q.fm (cK (Value.int .i64) iY fP nY) :: .obj q.sm (cK kS Value.bool q.LM q.mA) :: S,Φ,aR,c1,λw G cx=>⟨q.qp,_,q.qc,cx.get 2 rfl rfl,λw G cx=>?_⟩⟩
 have hle:=hq.aLu;refine a9J (Z:=[.blk kb [.int .i64 f] 3]) a9K d.queue (by omega) (S:=.blk q.db (CK q d) 256 :: .obj q.fm (cK (Value.int .i64) iY fP nY) :: .obj q.sm (cK kS Value.bool q.LM q.mA) :: (S++G)) cx λw cx=>?_;have ef:(d.queue.filter λp => !(decide (p.1=f)))=d.queue.filter λp=>decide (p.1≠f):=by
  refine congrArg (λg=>d.queue.filter g) (funext λp=>?_);by_cases h:p.1=f<;>simp [h]
 rw [ef] at cx ⊢;generalize hqu:(d.queue.filter λp=>decide (p.1≠f))=qu at cx ⊢;refine ⟨_,_,_,rfl,nZ q.qp q.qc qu :: .blk kb [.int .i64 f] 3 :: .blk q.db (CK q d) 256 :: .obj q.fm (cK (Value.int .i64) iY fP nY) :: .obj q.sm (cK kS Value.bool q.LM q.mA) :: S,Φ,aR,cx,λw G cx=>⟨cx.can 2 rfl (by show 0+1+1<=7;omega),λw' hw'=>?_⟩⟩;have c2:=(cx.put 2 hw' rfl);refine ⟨nZ q.qp q.qc qu :: .blk kb [.int .i64 f] 3 :: .blk q.db ((CK q d).set 1 (.slice q.qp qu.length q.qc)) 256 :: .obj q.fm (cK (Value.int .i64) iY fP nY) :: .obj q.sm (cK kS Value.bool q.LM q.mA) :: S,Φ,aR,c2,λw G cx=>⟨some q.sm,cx.get 2 rfl rfl,λw G cx=>?_⟩⟩
 have cx:Ctx W w ([nZ q.qp q.qc qu,.blk kb [.int .i64 f] 3,.blk q.db ((CK q d).set 1 (.slice q.qp qu.length q.qc)) 256,.obj q.fm (cK (Value.int .i64) iY fP nY)]++wX q.sm q.LM q.mA :: (S++G)) Φ:=cx;have cx:=cx.perm List.perm_middle;have cx:Ctx W w (wX q.sm q.LM q.mA :: ([nZ q.qp q.qc qu]++.blk kb [.int .i64 f] 3 :: (.blk q.db ((CK q d).set 1 (.slice q.qp qu.length q.qc)) 256 :: .obj q.fm (cK (Value.int .i64) iY fP nY) :: (S++G)))) Φ:=cx
 have cx:=cx.perm (List.Perm.cons _ List.perm_middle);refine a9M (Z:=[.blk kb [.int .i64 f] 3]) a9L hq.sok cx λQV w ok2 hg2 cx=>?_;have cx:Ctx W w ([wX q.sm QV q.mA,.blk kb [.int .i64 f] 3,nZ q.qp q.qc qu]++.blk q.db ((CK q d).set 1 (.slice q.qp qu.length q.qc)) 256 :: .obj q.fm (cK (Value.int .i64) iY fP nY) :: (S++G)) Φ:=cx;refine ⟨rfl,[wX q.sm QV q.mA,.blk kb [.int .i64 f] 3,nZ q.qp q.qc qu]++.blk q.db ((CK q d).set 1 (.slice q.qp qu.length q.qc)) 256 :: .obj q.fm (cK (Value.int .i64) iY fP nY) :: S,Φ,aR,cx,λw G cx=>?_⟩
 have hd:E2 d f s={ d.set f ⟨s,s⟩ with queue:=qu }:=by unfold E2;rw [hqu]
 refine hk ⟨q.fm,fP,nY,q.sm,QV,q.mA,q.qp,q.qc⟩ w ?_ ?_
 .rw [hd];have hsub:qu.Sublist d.queue:=by rw [<-hqu];exact List.filter_sublist
  refine ⟨TC,ok2,λk=>?_,λp=>?_,hq.nodup.sublist hsub,λp hp=>hq.range p (hsub.subset hp),λk=>?_,hq.lost,hq.fD⟩
  .have:=hg1 k;rw [hq.a4j k] at this;exact this
  .show gT false QV p=decide (p∈qu);rw [hg2 p,hq.aDt p,<-hqu];by_cases e:p.1=f
   .rw [if_pos (by simpa using e)];symm;exact decide_eq_false λh=>by
     have:=(List.mem_filter.1 h).2;simp [e] at this
   .rw [if_neg (by simpa using e)];refine decide_eq_decide.2 ⟨λh=>List.mem_filter.2 ⟨h,by simpa using e⟩,λh=>(List.mem_filter.1 h).1⟩
  .show (if k=f then _ else d.files k).now.length<=_/\(if k=f then _ else d.files k).last.length<=_;by_cases e:k=f
   .rw [if_pos e];exact ⟨hs,hs⟩
   .rw [if_neg e];exact hq.size k
 .rw [hd];have c3:Ctx W w (wX q.sm QV q.mA :: nZ q.qp q.qc qu :: .blk q.db ((CK q d).set 1 (.slice q.qp qu.length q.qc)) 256 :: .obj q.fm (cK (Value.int .i64) iY fP nY) :: S) Φ:=(Ctx.left (S:=[wX q.sm QV q.mA,.blk kb [.int .i64 f] 3,nZ q.qp q.qc qu]++.blk q.db ((CK q d).set 1 (.slice q.qp qu.length q.qc)) 256 :: .obj q.fm (cK (Value.int .i64) iY fP nY) :: S) cx).sub (.cons_cons _ (.cons _ (List.Sublist.refl _)))
  have c4:=c3.perm (show ([wX q.sm QV q.mA,nZ q.qp q.qc qu]++([Own.blk q.db ((CK q d).set 1 (.slice q.qp qu.length q.qc)) 256,.obj q.fm (cK (Value.int .i64) iY fP nY)]++S)).Perm ([Own.blk q.db ((CK q d).set 1 (.slice q.qp qu.length q.qc)) 256,.obj q.fm (cK (Value.int .i64) iY fP nY)]++([wX q.sm QV q.mA,nZ q.qp q.qc qu]++S)) from a2A _ _ [] S);exact c4
theorem aHL(n):bits .and .i64 n 1=n % 2:=by
 have h15:(BitVec.ofInt 64 1).toNat=2 ^ 1 - 1:=by decide
 have key:(BitVec.ofInt 64 n &&& BitVec.ofInt 64 1).toNat=(n % ((2 ^ 64:Nat):Int)).toNat % 2 ^ 1:=by
  rw [BitVec.toNat_and,BitVec.toNat_ofInt,h15,Nat.and_two_pow_sub_one_eq_mod]
 show IntKind.i64.wrap ((BitVec.ofInt 64 n &&& BitVec.ofInt 64 1).toNat:Nat)=n % 2;rw [key,IntKind.wrap_i64];omega
theorem ZM{P t}(n w):Sem.run P (binOp .and t (.int .i64 n) (.int .i64 1)) w=.ok (.int .i64 (n % 2)) w:=by
 rw [binOp_and,intBits_and,aHL];rfl
theorem aLv{M w b o l}(h:Sl M w (some ⟨b,o,none⟩) l){i}(hi:i<l.length):w.cell? ⟨b,o+i,none⟩=some (.int .i64 l[i]):=by
 obtain ⟨b',o',cs,e,_,h3,rfl,_⟩:=h i hi;cases e;have:=h3 0 (by simp);simpa [show (Gv.ty Int).size=1 from rfl] using this
theorem a67{κ ν}[DecidableEq κ]{z}:∀ {es:List (bV κ ν)},es.Pairwise (λa b=>a.key≠b.key)->∀ a∈es,gT z es a.key=a.val
 | [],_,a,ha=>by cases ha
 | e :: es,hp,a,ha=>by
  obtain ⟨h1,h2⟩:=List.pairwise_cons.1 hp;show (if a.key=e.key then e.val else gT z es a.key)=a.val;rcases List.mem_cons.1 ha with rfl|ha
  .rw [if_pos rfl]
  .rw [if_neg (λh=>h1 a ha h.symm)];exact a67 h2 a ha
theorem aLw{κ ν}{es fP:List (bV κ ν)}(hk:fP.map bV.key=es.map bV.key)(hb:fP.map bV.born=es.map bV.born){e}(he:e∈fP):∃ e'∈es,e'.key=e.key/\e'.born=e.born:=by
 obtain ⟨i,hi,rfl⟩:=List.getElem_of_mem he;have hl:i<es.length:=by have:=congrArg List.length hk;simp at this;omega
 have h1:(fP.map bV.key)[i]? = (es.map bV.key)[i]? := by rw [hk]
 have h2:(fP.map bV.born)[i]? = (es.map bV.born)[i]? := by rw [hb]
 rw [List.getElem?_map,List.getElem?_map,List.getElem?_eq_getElem hi,List.getElem?_eq_getElem hl] at h1 h2;exact ⟨es[i],List.getElem_mem hl,(Option.some.inj h1).symm,(Option.some.inj h2).symm⟩
section
variable {W w:World}{S G:List Own}{Φ:PW}
end
theorem aDx{keep i p fs}(h:keep=[]\/keep.getD (i % keep.length) 0 % 2=0\/((fs p.1).now.length:Int)<=p.2*64):KO keep i p fs=fs:=by
 unfold KO;rw [if_pos h]
theorem aHM{keep i p fs}(h:¬ (keep=[]\/keep.getD (i % keep.length) 0 % 2=0\/((fs p.1).now.length:Int)<=p.2*64)):
  KO keep i p fs=λk=>if k=p.1 then ⟨(fs p.1).now,iM (fs p.1).last (p.2*64).toNat (((fs p.1).now.drop (p.2*64).toNat).take 64)⟩ else fs k:=by
 unfold KO;rw [if_neg h]
section
variable {W w:World}{S G:List Own}{Φ:PW}
theorem aDy{keep:List Int}{p}(hkp:0<keep.length->∃ g o,p=some ⟨g,o,none⟩){K}(hk:∀ b o,(keep≠[]->p=some ⟨b,o,none⟩)->K b o):vX (some !decide ((keep.length:Int)=0)) p K:=by
 by_cases h:keep=[]
 .subst h;exact aFc rfl λb o=>hk b o λh=>absurd rfl h
 .obtain ⟨g,o,e⟩:=hkp (List.length_pos_iff.2 h);exact bF g o e (hk g o λ_=>e)
structure CrI(q:DkP)(d:iH)(keep:List Int)(i:Nat)(A9:List (bV Int vQ))(dI:Nat)(fs:Int->vQ):Prop where
 ok:GOk A9 dI
 get:∀ k,gT a4i A9 k=fs k
 size:∀ k,(fs k).now.length<=16777216/\(fs k).last.length<=16777216
 rest:zY keep i (d.queue.drop i) fs=zY keep 0 d.queue d.files
abbrev dkC(q:DkP)(d:iH)(A9:List (bV Int vQ))(dI:Nat):List Own:=[.blk q.db (CK q { d with down:=true,fD:=0 }) 256,.obj q.fm (cK (Value.int .i64) iY A9 dI),.obj q.sm (cK kS Value.bool q.LM q.mA),nZ q.qp q.qc d.queue]
theorem a2B[aB Φ]{q d}(hq:rW q d){p cap keep}(hl:keep.length<=1000000)(qU:∀ M w,Φ M w->Sl M w p keep)(cx:Ctx W w (bQ q d++S) Φ){K}(hk:∀ u w',rW (q.mv u) (eP d keep)->Ctx W w' (bQ (q.mv u) (eP d keep)++S) Φ->K (.returned (.tuple #[])) w'):aG F.pR #[.pointer (some ⟨q.db,0,none⟩),.slice p keep.length cap] w K:=by
 have hqp:0<d.queue.length->∃ g,q.qp=some ⟨g,0,none⟩:=λh=>by
  obtain ⟨g,hg,_⟩:=cx.nU 3 rfl (by rw [CL];omega);exact ⟨g,hg⟩
 have hkp:0<keep.length->∃ g o,p=some ⟨g,o,none⟩:=λh=>by
  obtain ⟨b,o,cs,e,_⟩:=qU _ _ cx.yK 0 h;exact ⟨b,o,e⟩
 refine iO (GU q.db 0 p keep.length cap (J:=K∘.returned) cx λw G cx=>⟨d.down,oU cx.left rfl,Br.intro (λh=>λw G cx=>?_) (λh=>λw G cx=>⟨cx.can 0 rfl (by show 0+4+1<=7;omega),λw' hw'=>?_⟩)⟩)
 .have e:eP d keep=d:=by unfold eP;rw [if_pos h]
  rw [e] at hk;exact hk q.un w hq cx.left
 have c1:=cx.put 0 hw' rfl;refine ⟨.blk q.db ((CK q d).set 4 (.bool true)) 256 :: .obj q.fm (cK (Value.int .i64) iY q.A9 q.dI) :: .obj q.sm (cK kS Value.bool q.LM q.mA) :: nZ q.qp q.qc d.queue :: S,Φ,aR,c1,λw G cx=>⟨cx.can 0 rfl (by show 0+5+1<=7;omega),λw' hw'=>?_⟩⟩;have c2:=cx.put 0 hw' rfl;refine ⟨dkC q d q.A9 q.dI++S,Φ,aR,c2,λw G cx=>⟨q.qp,d.queue.length,q.qc,cx.get 0 rfl rfl,?_⟩⟩;refine dS (λiI R' aX n=>∃ (i:Nat) (A9:List (bV Int vQ)) (dI:Nat) (fs:Int->vQ),iI=i/\i+n=d.queue.length/\R'=dkC q d A9 dI++S/\aX=Φ/\CrI q d keep i A9 dI fs) ⟨⟨_,Φ,d.queue.length,aR,λw G cx=>cx,0,q.A9,q.dI,d.files,rfl,by omega,rfl,rfl,⟨hq.fok,hq.a4j,hq.size,rfl⟩⟩,?_⟩
 rintro iI R1 Φ n st ⟨i,A9,dI,fs,rfl,hin,rfl,rfl,hI⟩;refine Br.intro (λhlt=>?_) (λhge=>λw G cx=>?_)
 .have hlt:i<d.queue.length:=by have:=fV hlt;omega
  obtain ⟨n,rfl⟩:∃ m,n=m+1:=⟨n - 1,by omega⟩;have aV3:d.queue.drop i=d.queue[i] :: d.queue.drop (i+1):=List.drop_eq_getElem_cons hlt;have hrg:=hq.range _ (List.getElem_mem hlt);have eF:=hI.rest;rw [aV3] at eF;have eF:zY keep (i+1) (d.queue.drop (i+1)) (KO keep i d.queue[i] fs)=zY keep 0 d.queue d.files:=eF;generalize hp:d.queue[i]=P at eF hrg;obtain ⟨F,n0⟩:=P;obtain ⟨m,rfl⟩:∃ m:Nat,n0=m:=⟨n0.toNat,by have:=hrg.2.1;simp only at this;omega⟩
  have hm:m<262145:=by have:=hrg.2.2;simp only at this;omega
  have b1b:bE ((m:Int)*64):=by unfold bE;omega
  obtain ⟨g,hg⟩:=hqp (by omega);refine ⟨⟨by omega,by omega⟩,bF g 0 hg λw G cx=>⟨F,m,?_,λb=>⟨dkC q d A9 dI++S,Φ,aR,λw G cx=>cx,b1b,some q.fm,λw G cx=>⟨some q.fm,cx.get 0 rfl rfl,rfl⟩,bs (fs F).now,bs (fs F).last,λw G cx=>⟨bs (fs F).now,bs (fs F).last,λw2 EP=>?_,rfl⟩,λkb=>⟨λw G cx=>cx.drop1,λw G cx=>⟨cx.can 0 rfl (by decide),λw' hw'=>?_⟩⟩⟩⟩⟩
  .rw [Nat.zero_add,Int.toNat_natCast];have:bT w g (i*2) [.int .i64 d.queue[i].1,.int .i64 d.queue[i].2]:=cx.a9m 3 rfl hg (zT (aBM hlt));rw [hp] at this;exact this
  .have hr:=uU (P:=prog) QT (w:=w2) (by rw [EP];exact cx.own (.obj q.fm (cK (Value.int .i64) iY A9 dI)) (by simp)) F;rw [hI.get] at hr;exact hr
  have c1:=cx.FR 0 hw' rfl;refine ⟨.blk kb [.string (bs (fs F).now),.string (bs (fs F).last)] 322 :: (dkC q d A9 dI++S),Φ,aR,c1,λw G cx=>cx.drop1,λw G cx=>?_⟩;have IB:w.cell? ⟨kb,0,none⟩=some (.string (bs (fs F).now)):=cx.get 0 rfl rfl;refine ⟨λh=>by simpa using h,λh=>?_,?_⟩
  .have:(keep.length:Int)≠0:=by simpa using h
   rw [Int.tmod_eq_emod_of_nonneg (by omega)];exact ⟨Int.emod_nonneg _ (by omega),Int.emod_lt_of_pos _ (by omega)⟩
  refine aDy hkp λb2 o2 hpk=>⟨keep.getD (i % keep.length) 0,λh=>?_,keep.getD (i % keep.length) 0 % 2,λ_ w=>ZM _ w,bs (fs F).now,λ_=>IB,Br.intro (λhc=>?_) (λhc=>?_)⟩
  .have hne:keep≠[]:=λe=>by rw [e] at h;simp at h
   have hpos:=List.length_pos_iff.2 hne;have hmod:i % keep.length<keep.length:=Nat.mod_lt _ hpos;have hs:=qU _ _ cx.yK;rw [hpk hne] at hs;have:=aLv hs hmod;rw [Int.tmod_eq_emod_of_nonneg (by omega),show ((i:Int) % (keep.length:Int)).toNat=i % keep.length by omega,this,List.getD_eq_getElem?_getD,List.getElem?_eq_getElem hmod];rfl
  .have hc:keep=[]\/keep.getD (i % keep.length) 0 % 2=0\/((fs F).now.length:Int)<=(m:Int)*64:=by
    rw [bK] at hc;simp only [Bool.or_eq_true,decide_eq_true_eq] at hc;rcases hc with (hc|hc)|hc
    .exact .inl (List.eq_nil_of_length_eq_zero (by omega))
    .exact .inr (.inl hc)
    .exact .inr (.inr hc)
   rw [aDx (p:=(F,(m:Int))) hc] at eF;exact ⟨by unfold bE;have:=hq.aLu;omega,dkC q d A9 dI++S,Φ,n,aR,λw G cx=>cx.drop1,⟨i+1,A9,dI,fs,by omega,by omega,rfl,rfl,hI.ok,hI.get,hI.size,eF⟩,Nat.lt_succ_self _⟩
  .have hc:¬ (keep=[]\/keep.getD (i % keep.length) 0 % 2=0\/((fs F).now.length:Int)<=(m:Int)*64):=by
    rw [bK] at hc;simp only [Bool.or_eq_false_iff,decide_eq_false_iff_not] at hc;rintro (h|h|h)
    .exact hc.1.1 (by rw [h];rfl)
    .exact hc.1.2 h
    .exact hc.2 h
   rw [aHM (p:=(F,(m:Int))) hc] at eF;have aLb:m*64<(fs F).now.length:=by
    have:¬ ((fs F).now.length:Int)<=(m:Int)*64:=λh=>hc (.inr (.inr h));omega
   have hsz:=hI.size F;have hrow:∀ {w:World} {G:List Own},Ctx W w ([Own.blk kb [.string (bs (fs F).now),.string (bs (fs F).last)] 322]++G) tru->w.cell? ⟨kb,0,none⟩=some (.string (bs (fs F).now))/\w.cell? ⟨kb,1,none⟩=some (.string (bs (fs F).last)):=λcx=>⟨cx.get 0 rfl rfl,cx.get 0 rfl rfl⟩;rw [show (((m:Int)*64).toNat)=m*64 by omega] at eF;refine ⟨[.blk kb [.string (bs (fs F).now),.string (bs (fs F).last)] 322],tru,aR,λw G cx=>dM cx (.cons_cons _ (List.nil_sublist _)),bs (fs F).last,λw G cx=>⟨_,(hrow cx).2,rfl⟩,bs (fs F).now,λw G cx=>⟨_,(hrow cx).1,rfl⟩,by unfold bE;omega,bs (fs F).now,λw G cx=>⟨_,(hrow cx).1,rfl⟩,⟨by omega,by rw [bK];omega,by rw [bK];omega⟩,λw G cx=>?_⟩
   have ech:(bs (fs F).now).extract ((m:Int)*64).toNat (min ((m:Int)*64+64) ((bs (fs F).now).size:Int)).toNat=bs (((fs F).now.drop (m*64)).take 64):=by
    rw [E4,bK,show ((m:Int)*64).toNat=m*64 by omega];refine congrArg bs ?_;by_cases h:m*64+64<=(fs F).now.length
    .rw [show (min ((m:Int)*64+64) ((fs F).now.length:Int)).toNat - m*64=64 by omega]
    .rw [List.take_of_length_le (by rw [List.length_drop];omega),List.take_of_length_le (by rw [List.length_drop];omega)]
   rw [ech,show (m:Int)*64=((m*64:Nat):Int) by omega];generalize hch:((fs F).now.drop (m*64)).take 64=ch at eF;have b1c:m*64+ch.length<=(fs F).now.length/\ch≠[]:=by
    rw [<-hch];refine ⟨by rw [List.length_take,List.length_drop];omega,λe=>?_⟩;have:=congrArg List.length e;rw [List.length_take,List.length_drop] at this;simp at this;omega
   refine aBN (S:=(.blk kb [.string (bs (fs F).now),.string (bs (fs F).last)] 322 :: (dkC q d A9 dI++S))++G) cx (by omega) hsz.2 λw cx=>⟨_,rfl,.blk kb [.string (bs (fs F).now),.string (bs (fs F).last)] 322 :: (dkC q d A9 dI++S),Φ,aR,cx,λw G cx=>⟨cx.can 0 rfl (by show 1+1<=2;omega),λw' hw'=>?_⟩⟩;have c2:=cx.put 0 hw' rfl;refine ⟨.blk kb [.string (bs (fs F).now),.string (bs (iM (fs F).last (m*64) ch))] 322 :: (dkC q d A9 dI++S),Φ,aR,c2,λw G cx=>⟨_,_,cx.EO 0 rfl,λw G cx=>⟨some q.fm,cx.get 1 rfl rfl,λw G cx=>?_⟩⟩⟩
   obtain ⟨fP,nY,hr,TC,hg1⟩:=IG (P:=prog) QT hI.ok (cx.own (.obj q.fm (cK (Value.int .i64) iY A9 dI)) (by simp)) F ⟨(fs F).now,iM (fs F).last (m*64) ch⟩;have c3:=cx.putObj 2 (cK (Value.int .i64) iY fP nY) rfl;refine ⟨_,hr,.blk kb [.string (bs (fs F).now),.string (bs (iM (fs F).last (m*64) ch))] 322 :: (dkC q d fP nY++S),Φ,aR,c3,by unfold bE;have:=hq.aLu;omega,dkC q d fP nY++S,Φ,n,aR,λw G cx=>cx.drop1,⟨i+1,fP,nY,_,by omega,by omega,rfl,rfl,TC,λk=>?_,λk=>?_,eF⟩,Nat.lt_succ_self _⟩
   .rw [hg1 k,hI.get k]
   .show (if k=F then _ else fs k).now.length<=_/\(if k=F then _ else fs k).last.length<=_;by_cases e:k=F
    .rw [if_pos e];refine ⟨hsz.1,?_⟩;show (iM (fs F).last (m*64) ch).length<=_;rw [I3 b1c.2];omega
    .rw [if_neg e];exact hI.size k
 .have hge:=eV hge;have hfs:fs=zY keep 0 d.queue d.files:=by
   have:=hI.rest;rw [List.drop_eq_nil_of_le (by omega)] at this;exact this
  refine ⟨some q.fm,cx.get 0 rfl rfl,λw G cx=>?_⟩;have hb:=cx.own (.obj q.fm (cK (Value.int .i64) iY A9 dI)) (by simp);refine ⟨_,_,run_range_map (P:=prog) w 252 3 322 q.fm _ dI QT.map hb,.obj w.heap.size (.mapIter (some q.fm) dI #[] dI) :: (dkC q d A9 dI++S),Φ,aR,cx.newObj rfl,?_⟩;generalize w.heap.size=r;refine dS (λR' aX k=>∃ (seen:Array Nat) (fP:List (bV Int vQ)),R'=.obj r (.mapIter (some q.fm) dI seen dI) :: (dkC q d fP dI++S)/\aX=Φ/\k=QS seen.toList fP/\GOk fP dI/\fP.map bV.key=A9.map bV.key/\(∀ e∈fP,gT a4i fP e.key=if e.born∈seen.toList then ⟨(fs e.key).last,(fs e.key).last⟩ else fs e.key))
   ⟨⟨_,Φ,_,aR,λw G cx=>cx,#[],A9,rfl,rfl,rfl,hI.ok,rfl,λe he=>by simp [hI.get]⟩,?_⟩
  rintro R1 Φ n _ ⟨seen,fP,rfl,rfl,rfl,TC,hkey,N8⟩;intro w G cx;have hr:=cx.own (.obj r (.mapIter (some q.fm) dI seen dI)) (by simp);have hb:=cx.own (.obj q.fm (cK (Value.int .i64) iY fP dI)) (by simp);rcases aHB (P:=prog) 0 hr hb TC.lt (Nat.le_refl _) with ⟨hall,hrun⟩|⟨a,ha,hns,w1,hw1,hrun⟩
  .refine .inl ⟨w,hrun,.obj r (.mapIter (some q.fm) dI seen dI) :: (dkC q d fP dI++S),Φ,aR,cx,λsm w G cx=>⟨cx.can 2 rfl (by show 0+1+1<=7;omega),λw' hw'=>?_⟩⟩;have c1:=cx.put 2 hw' rfl;refine ⟨.obj sm (Obj.map #[] 0) :: .obj r (.mapIter (some q.fm) dI seen dI) :: .blk q.db ((CK q { d with down:=true,fD:=0 }).set 1 (.slice none 0 0)) 256 :: .obj q.fm (cK (Value.int .i64) iY fP dI) :: .obj q.sm (cK kS Value.bool q.LM q.mA) :: nZ q.qp q.qc d.queue :: S,Φ,aR,c1,λw G cx=>⟨cx.can 2 rfl (by show 0+2+1<=7;omega),λw' hw'=>?_⟩⟩
   have c2:=cx.put 2 hw' rfl;refine ⟨.obj sm (Obj.map #[] 0) :: .obj r (.mapIter (some q.fm) dI seen dI) :: .blk q.db (((CK q { d with down:=true,fD:=0 }).set 1 (.slice none 0 0)).set 2 (.map (some sm))) 256 :: .obj q.fm (cK (Value.int .i64) iY fP dI) :: .obj q.sm (cK kS Value.bool q.LM q.mA) :: nZ q.qp q.qc d.queue :: S,Φ,aR,c2,λw G cx=>?_⟩;have hd:eP d keep={ d with down:=true,fD:=0,queue:=[],files:=λk=>⟨(fs k).last,(fs k).last⟩ }:=by
    unfold eP;rw [if_neg (by rw [h];simp),hfs]
   refine hk ⟨q.fm,fP,dI,sm,[],0,none,0⟩ w ?_ ?_
   .rw [hd];refine ⟨TC,⟨.nil,.nil,λe he=>(by cases he)⟩,λk=>?_,λp=>rfl,List.nodup_nil,λp hp=>(by cases hp),λk=>⟨(hI.size k).2,(hI.size k).2⟩,hq.lost,⟨Int.le_refl 0,by show (0:Int)<=_;omega⟩⟩;show gT a4i fP k=⟨(fs k).last,(fs k).last⟩;by_cases hex:∃ e∈fP,e.key=k
    .obtain ⟨e,he,rfl⟩:=hex;rw [N8 e he,if_pos (hall e he)]
    .have h1:gT a4i fP k=a4i:=qO λe he h=>hex ⟨e,he,h⟩;have h2:gT a4i A9 k=a4i:=qO λe he h=>hex (by
      have:k∈A9.map bV.key:=List.mem_map.2 ⟨e,he,h⟩;rw [<-hkey] at this;obtain ⟨e',he',h'⟩:=List.mem_map.1 this;exact ⟨e',he',h'⟩)
     rw [hI.get] at h2;rw [h1,h2]
   .rw [hd];have c3:Ctx W w (.obj sm (Obj.map #[] 0) :: .blk q.db (((CK q { d with down:=true,fD:=0 }).set 1 (.slice none 0 0)).set 2 (.map (some sm))) 256 :: .obj q.fm (cK (Value.int .i64) iY fP dI) :: S) Φ:=(Ctx.left (S:=.obj sm (Obj.map #[] 0) :: .obj r (.mapIter (some q.fm) dI seen dI) :: .blk q.db (((CK q { d with down:=true,fD:=0 }).set 1 (.slice none 0 0)).set 2 (.map (some sm))) 256 :: .obj q.fm (cK (Value.int .i64) iY fP dI) :: .obj q.sm (cK kS Value.bool q.LM q.mA) :: nZ q.qp q.qc d.queue :: S) cx).sub (.cons_cons _ (.cons _ (.cons_cons _ (.cons_cons _ (.cons _ (.cons _ (List.Sublist.refl _)))))))
    have c4:=c3.Q3 325 2;have c5:=c4.perm (show ([Own.buf none 0 0 [] 325 2,.obj sm (Obj.map #[] 0)]++([Own.blk q.db (((CK q { d with down:=true,fD:=0 }).set 1 (.slice none 0 0)).set 2 (.map (some sm))) 256,.obj q.fm (cK (Value.int .i64) iY fP dI)]++S)).Perm ([Own.blk q.db (((CK q { d with down:=true,fD:=0 }).set 1 (.slice none 0 0)).set 2 (.map (some sm))) 256,.obj q.fm (cK (Value.int .i64) iY fP dI)]++([Own.buf none 0 0 [] 325 2,.obj sm (Obj.map #[] 0)]++S)) from a2A _ _ [] S)
    have c6:=c5.perm (show ([Own.blk q.db (((CK q { d with down:=true,fD:=0 }).set 1 (.slice none 0 0)).set 2 (.map (some sm))) 256,.obj q.fm (cK (Value.int .i64) iY fP dI)]++(Own.buf none 0 0 [] 325 2 :: .obj sm (Obj.map #[] 0) :: S)).Perm ([Own.blk q.db (((CK q { d with down:=true,fD:=0 }).set 1 (.slice none 0 0)).set 2 (.map (some sm))) 256,.obj q.fm (cK (Value.int .i64) iY fP dI)]++(.obj sm (Obj.map #[] 0) :: Own.buf none 0 0 [] 325 2 :: S)) from (List.Perm.swap _ _ _).append_left _)
    exact c6
  .have c1:Ctx W w1 ((.obj r (.mapIter (some q.fm) dI seen dI) :: (dkC q d fP dI++S))++G) Φ:=by
    rcases hw1 with rfl|rfl
    .exact cx
    .exact cx.draw 1
   have c2:=c1.putObj 0 (.mapIter (some q.fm) dI (seen.push a.born) dI) rfl;refine .inr ⟨_,_,_,hrun,.obj r (.mapIter (some q.fm) dI (seen.push a.born) dI) :: (dkC q d fP dI++S),Φ,aR,c2,λw G cx=>?_⟩;refine ⟨a.key,bs a.val.now,bs a.val.last,w,aBK TC (cx.own (.obj r (.mapIter (some q.fm) dI (seen.push a.born) dI)) (by simp)) (cx.own (.obj q.fm (cK (Value.int .i64) iY fP dI)) (by simp)) ha,.obj r (.mapIter (some q.fm) dI (seen.push a.born) dI) :: (dkC q d fP dI++S),Φ,aR,cx,λb0 w G cx=>⟨some q.fm,cx.get 1 rfl rfl,λw G cx=>?_⟩⟩
   obtain ⟨QV,hr2,ok2,hg2,hk2,hb2⟩:=a61 (P:=prog) QT TC (cx.own (.obj q.fm (cK (Value.int .i64) iY fP dI)) (by simp)) a.key ⟨a.val.last,a.val.last⟩ ⟨a,ha,rfl⟩;have c3:=cx.putObj 2 (cK (Value.int .i64) iY QV dI) rfl;have hval:a.val=fs a.key:=by
    have h1:=N8 a ha;rw [a67 TC.keys a ha,if_neg hns] at h1;exact h1
   refine ⟨_,hr2,.obj r (.mapIter (some q.fm) dI (seen.push a.born) dI) :: (dkC q d QV dI++S),Φ,aR,c3,_,Φ,QS (seen.push a.born).toList QV,aR,λw G cx=>cx,⟨_,QV,rfl,rfl,rfl,ok2,hk2.trans hkey,λe he=>?_⟩,?_⟩
   .obtain ⟨e',he',h1,h2⟩:=aLw hk2 hb2 he;rw [hg2 e.key,Array.toList_push,<-h1,<-h2];by_cases hea:e'.key=a.key
    .have:e'=a:=pM TC.keys he' ha hea;rw [if_pos hea,this,if_pos (by simp),hval]
    .rw [if_neg hea,N8 e' he'];have hne:e'.born≠a.born:=λh=>hea (by rw [pM TC.sQ he' ha h]);have:e'.born∈seen.toList++[a.born] ↔ e'.born∈seen.toList:=⟨λh=>by
      rcases List.mem_append.1 h with h|h
      .exact h
      .exact absurd (List.mem_singleton.1 h) hne,λh=>List.mem_append_left _ h⟩
     by_cases hs:e'.born∈seen.toList
     .rw [if_pos hs,if_pos (this.2 hs)]
     .rw [if_neg hs,if_neg λh=>hs (this.1 h)]
   .rw [Array.toList_push];exact NK (by rw [hb2];exact List.Sublist.refl _) ha hns (List.nodup_iff_pairwise_ne.2 (List.pairwise_map.2 TC.sQ))
end
theorem xA(d):(fZ d).keep=d.keep:=by
 unfold fZ;split<;>rfl
theorem IK(d f a s):(eC d f a s).1.keep=d.keep:=by
 unfold eC
 repeat' split
 all_goals rfl
theorem ZN(d l):(eP d l).keep=d.keep:=by
 unfold eP;split<;>rfl
theorem aDz(d):(mR d).keep=d.keep:=by
 unfold mR;split
 .rw [ZN,xA]
 .exact xA d
theorem tW(d f a s):(cD d f a s).1.keep=d.keep:=by
 unfold cD;split
 .show (eP _ _).keep=_;rw [ZN,IK,xA]
 .rw [IK,xA]
theorem o8(d f):(bR d f).1.keep=d.keep:=by
 unfold bR LH
 repeat' split
 all_goals exact aDz d
section
variable {W w:World}{S G:List Own}{Φ:PW}
structure LN(Φ:PW)(q:DkP)(d:iH):Prop where
 le:d.keep.length<=1000000
 sl:∀ M w,Φ M w->Sl M w q.kp d.keep
theorem LN.of{q d d'}(h:LN Φ q d)(e:d'.keep=d.keep)(u):LN Φ (q.mv u) d':=⟨by rw [e];exact h.le,λM w hp=>by rw [e];exact h.sl M w hp⟩
theorem LN.weak{q d}(h:LN Φ q d){Ψ}(e:∀ M w,Ψ M w->Φ M w):LN Ψ q d:=⟨h.le,λM w hp=>h.sl M w (e M w hp)⟩
theorem TD[aB Φ]{q d}(hq:rW q d)(hkp:LN Φ q d){f a s}(hs:s.length<=9223372036854775807)(cx:Ctx W w (bQ q d++S) Φ){K}(hk:∀ u w',rW (q.mv u) (cD d f a s).1->Ctx W w' (bQ (q.mv u) (cD d f a s).1++S) Φ->K (.returned (.int .i64 (cD d f a s).2)) w'):aG F.lV #[.pointer (some ⟨q.db,0,none⟩),.int .i64 f,.int .i64 a,.string (bs s)] w K:=by
 refine iO (H6 q.db 0 f a (bs s) (J:=K∘.returned) cx λw G cx=>a65 (S:=S++G) hq (cx.re (bM _ _ _)) λw hq1 cx=>⟨_,rfl,bQ q (fZ d)++S,Φ,aR,cx.re (bM _ _ _).symm,λw G cx=>a9I (S:=S++G) hq1 hs (cx.re (bM _ _ _)) λu w qZ cx=>⟨_,rfl,bQ (q.mv u) (eC (fZ d) f a s).1++S,Φ,aR,cx.re (bM _ _ _).symm,Br.intro (λhc=>λw G cx=>?_) (λhc=>λw G cx=>?_)⟩⟩)
 .have e:cD d f a s=(eP (eC (fZ d) f a s).1 d.keep,9):=by unfold cD;rw [if_pos hc]
  have ek:(eC (fZ d) f a s).1.keep=d.keep:=by rw [IK,xA]
  rw [e] at hk;refine ⟨q.kp,(eC (fZ d) f a s).1.keep.length,q.kc,oU (q:=q.mv u) cx.left rfl,λw G cx=>?_⟩;rw [ek];exact a2B (S:=S++G) qZ hkp.le hkp.sl (cx.re (bM _ _ _)) λu2 w hq3 cx=>⟨rfl,bQ (q.mv u2) (eP (eC (fZ d) f a s).1 d.keep)++S,Φ,aR,cx.re (bM _ _ _).symm,λw G cx=>hk u2 w hq3 cx.left⟩
 .have e:cD d f a s=eC (fZ d) f a s:=by unfold cD;rw [if_neg (by rw [hc];simp)]
  rw [e] at hk;exact hk u w qZ cx.left
theorem CN[aB Φ]{q d}(hq:rW q d)(hkp:LN Φ q d){f}(cx:Ctx W w (bQ q d++S) Φ){K}(hk:∀ u w',rW (q.mv u) (bR d f).1->Ctx W w' (bQ (q.mv u) (bR d f).1++S) Φ->K (.returned (.int .i64 (bR d f).2)) w'):aG F.gP #[.pointer (some ⟨q.db,0,none⟩),.int .i64 f] w K:=by
 refine iO (KB q.db 0 f (J:=K∘.returned) cx (dS (λR' aX=>∃ u,R'=bQ (q.mv u) (mR d)++S/\aX=Φ/\rW (q.mv u) (mR d)) ⟨λw G cx=>a65 (S:=S++G) hq (cx.re (bM _ _ _)) λw hq1 cx=>⟨_,rfl,bQ q (fZ d)++S,Φ,aR,cx.re (bM _ _ _).symm,Br.intro (λhc=>λw G cx=>?_) (λhc=>?_)⟩,?_⟩))
 .have e:mR d=eP (fZ d) d.keep:=by unfold mR;rw [if_pos hc]
  refine ⟨q.kp,(fZ d).keep.length,q.kc,oU (q:=q) cx.left rfl,λw G cx=>?_⟩;rw [xA];refine a2B (S:=S++G) hq1 hkp.le hkp.sl (cx.re (bM _ _ _)) λu2 w hq3 cx=>⟨rfl,bQ (q.mv u2) (eP (fZ d) d.keep)++S,Φ,aR,cx.re (bM _ _ _).symm,_,Φ,aR,λw G cx=>cx,u2,by rw [e],rfl,by rw [e];exact hq3⟩
 .have e:mR d=fZ d:=by unfold mR;rw [if_neg (by rw [hc];simp)]
  exact ⟨_,Φ,aR,λw G cx=>cx,q.un,by rw [e];rfl,rfl,by rw [e];exact hq1⟩
 .rintro R1 Φ st ⟨u,rfl,rfl,hq1⟩;have es:bR d f=LH (mR d) f:=rfl;rw [es] at hk;generalize mR d=d1 at hk hq1;intro w G cx;refine a4k (S:=S++G) (q:=q.mv u) (cx.re (bM _ _ _)) λw cx=>⟨_,rfl,bQ (q.mv u) d1++S,Φ,aR,cx.re (bM _ _ _).symm,Br.intro (λh=>λw G cx=>?_) (λh=>λw G cx=>⟨d1.lost,oU (q:=q.mv u) cx.left rfl,Br.intro (λh2=>λw G cx=>⟨d1.lost,oU (q:=q.mv u) cx.left rfl,?_,λw G cx=>⟨cx.can 0 rfl (by show 0+3+1<=7;omega),λw' hw'=>?_⟩⟩) (λh2=>λw G cx=>?_)⟩)⟩
  .have e:LH d1 f=(d1,sD d1 f):=by unfold LH;rw [if_pos (fV h)]
   rw [e] at hk;exact hk u w hq1 cx.left
  .have:=hq1.lost;unfold bE;omega
  .have e:LH d1 f=({ d1 with lost:=d1.lost - 1 },10):=by unfold LH;rw [if_neg (eV h),if_pos (fV h2)]
   have hl:=hq1.lost;have h2:=fV h2;rw [e] at hk;have c1:=cx.put 0 hw' rfl;exact ⟨bQ (q.mv u) { d1 with lost:=d1.lost - 1 }++S,Φ,aR,c1,λw G cx=>hk u w ⟨hq1.fok,hq1.sok,hq1.a4j,hq1.aDt,hq1.nodup,hq1.range,hq1.size,⟨by show 0<=d1.lost - 1;omega,by show d1.lost - 1<=_;omega⟩,hq1.fD⟩ cx.left⟩
  .have e:LH d1 f=(E2 d1 f (d1.files f).now,0):=by unfold LH;rw [if_neg (eV h),if_neg (eV h2)]
   rw [e] at hk;refine ⟨some u.fm,oU (q:=q.mv u) cx.left rfl,λw G cx=>⟨bs (d1.files f).now,bs (d1.files f).last,λw2 EP=>?_,λw G cx=>?_⟩⟩
   .have hr:=uU (P:=prog) QT (w:=w2) (by rw [EP];exact a63 (q:=q.mv u) cx.left) f;rw [hq1.a4j f] at hr;exact hr
   .exact a9N (S:=S++G) (q:=q.mv u) hq1 (hq1.size f).1 (cx.re (bM _ _ _)) λu2 w qZ cx=>⟨rfl,bQ (q.mv u2) (E2 d1 f (d1.files f).now)++S,Φ,aR,cx.re (bM _ _ _).symm,λw G cx=>hk u2 w qZ cx.left⟩
end
theorem b1d(n:Nat)(w):Sem.run prog (binOp BinOp.shr 3 (.int .i64 (n:Int)) (.int .u64 8)) w=.ok (.int .i64 ((n / 256:Nat):Int)) w:=by
 show Sem.run prog (Op.shift .shr .i64 (n:Int) .u64 8) w=_;unfold Op.shift;simp [Sem.run_pure];show (n:Int).fdiv 256=_;rw [Int.fdiv_eq_ediv_of_nonneg _ (by decide)]
theorem b1e(n:Nat)(h:n<16777216)(w):Sem.run prog (binOp BinOp.shl 3 (.int .i64 (n:Int)) (.int .u64 8)) w=.ok (.int .i64 ((n*256:Nat):Int)) w:=by
 show Sem.run prog (Op.shift .shl .i64 (n:Int) .u64 8) w=_;unfold Op.shift;simp [Sem.run_pure];rw [show (2:Int) ^ min 8 IntKind.i64.bits=256 from rfl,IntKind.wrap_i64];omega
theorem or8(m b:Nat)(hm:m<16777216)(hb:b<256)(w):Sem.run prog (binOp BinOp.or 3 (.int .i64 ((m*256:Nat):Int)) (.int .i64 (b:Int))) w=.ok (.int .i64 ((m*256+b:Nat):Int)) w:=by
 rw [binOp_or];show Sem.run prog (Op.intBits .or .i64 _ _) w=_;have:bits .or .i64 ((m*256:Nat):Int) (b:Int)=((m*256+b:Nat):Int):=by
  show IntKind.i64.wrap ((BitVec.ofInt 64 ((m*256:Nat):Int) ||| BitVec.ofInt 64 (b:Int)).toNat:Nat)=_;have e1:(BitVec.ofInt 64 ((m*256:Nat):Int) ||| BitVec.ofInt 64 (b:Int)).toNat=m*256+b:=by
   rw [BitVec.toNat_or,BitVec.toNat_ofInt,BitVec.toNat_ofInt];have h1:(((m*256:Nat):Int) % ((2 ^ 64:Nat):Int)).toNat=2 ^ 8*m:=by omega
   have h2:((b:Int) % ((2 ^ 64:Nat):Int)).toNat=b:=by omega
   rw [h1,h2,<-Nat.two_pow_add_eq_or_of_lt (by omega:b<2 ^ 8)];omega
  rw [e1,IntKind.wrap_i64];omega
 rw [intBits_or,this];rfl
theorem a69(k:Nat):IntKind.u8.wrap (k:Int)=((k.toUInt8.toNat:Nat):Int):=by
 have:k.toUInt8.toNat=k % 256:=by simp
 rw [this];simp [IntKind.wrap,IntKind.signed,IntKind.bits]
theorem ZO(u:UInt8):IntKind.i64.wrap (u.toNat:Int)=(u.toNat:Int):=by
 rw [IntKind.wrap_i64];have:=u.toNat_lt;omega
def UR(h:Bs):Nat->Nat
 | 0=>0
 | k+1=>UR h k*256+(h.getD (4 - k) 0).toNat
theorem a7a(h):∀ k,UR h k<256 ^ k
 | 0=>by show 0<1;omega
 | k+1=>by
  have h1:=a7a h k;have h2:=(h.getD (4 - k) 0).toNat_lt;show UR h k*256+_<256 ^ (k+1);rw [Nat.pow_succ];omega
theorem a9O(h):UR h 4=QH h:=by
 unfold QH;simp only [UR,Nat.zero_mul,Nat.zero_add,Nat.sub_zero]
section
variable {W w:World}{S G:List Own}{Φ:PW}
theorem aDA[aB Φ]{p cap g l x}(hl:l.length<100000000)(cx:Ctx W w (.blk g [.int .u8 (x.toNat:Int)] 5 :: .buf p l.length cap (bB l) 5 1 :: S) Φ):
  ∃ p' cap' w',Sem.run prog (builtin Builtin.append #[205,205] 205 #[false,false] #[.slice p l.length cap,.slice (some ⟨g,0,none⟩) 1 1]) w=.ok (.value (.slice p' (l.length+1) cap')) w'/\Ctx W w' (.buf p' (l.length+1) cap' (bB (l++[x])) 5 1 :: S) Φ:=by
 obtain ⟨p',cap',w',hr,_,c2⟩:=cx.YQ (ts:=205) (ty:=205) (kb:=#[false,false]) (bytes:=1) (by kernel_rfl) (by decide) rfl rfl hl (by decide);refine ⟨p',cap',w',hr,?_⟩;have:bB (l++[x])=bB l++[.int .u8 (x.toNat:Int)]:=by simp [bB]
 rw [this];exact c2
theorem aHN[aB Φ]{b n cap l}(cx:Ctx W w (.buf (some ⟨b,0,none⟩) n cap (bB l) 5 1 :: S) Φ):Lib.Bytes w b 0 (bs l):=λi hi=>by
 have hi':i<l.length:=by rw [bK] at hi;exact hi
 have:=cx.aGY 0 rfl (b:=b) (i:=i) (v:=.int .u8 (l[i].toNat:Int)) rfl (by rw [List.getElem?_map,List.getElem?_eq_getElem hi'];rfl);rw [Nat.zero_add];exact this
theorem a9P[aB Φ]{p cap l}(h:0<l.length)(cx:Ctx W w (.buf p l.length cap (bB l) 5 1 :: S) Φ):Sem.run prog (convert 205 9 (.slice p l.length cap)) w=.ok (.string (bs l)) w:=by
 obtain ⟨b,hb,_⟩:=cx.nU 0 rfl (by rw [IJ];exact h);subst hb;have hc:=Lib.run_convert_whole (P:=prog) w 205 5 9 underlying205 underlying5 underlying9 b 0 _ (aHN cx) cap;rw [bK] at hc;exact hc
theorem a9Q[aB Φ]{slot}{s:Bs}(hs:s.length<=65536)(cx:Ctx W w S Φ){K:EkV}(hk:∀ w',Ctx W w' S Φ->K (.returned (.string (bs (jG slot s.length)))) w'):aG F.FX #[.int .i64 (slot:Int),.string (bs s)] w K:=by
 refine iO (SS (slot:Int) (bs s) (J:=K∘.returned) cx λk0=>dS (λp n cap nI R' aX k=>∃ j:Nat,j+k=4/\n=((jG slot s.length).take (j+1)).length/\nI=((s.length / 256 ^ j:Nat):Int)/\R'=.buf p n cap (bB ((jG slot s.length).take (j+1))) 5 1 :: S/\aX=Φ)
  ⟨⟨_,Φ,4,aR,λw G cx=>?_,0,rfl,rfl,by rw [bK];simp,rfl,rfl⟩,?_⟩)
 .rw [a69] at cx;exact cx.aMH 0 1 1 rfl rfl (by simp [maxLen])
 rintro p n cap nI R1 Φ k st ⟨j,hjk,rfl,rfl,rfl,rfl⟩;have hl5:(jG slot s.length).length=5:=rfl;have hlen:((jG slot s.length).take (j+1)).length=j+1:=by rw [List.length_take,hl5];omega
 refine Br.intro (λhlt=>?_) (λhge=>λw G cx=>?_)
 .have hlt:=fV hlt;rw [hlen] at hlt;obtain ⟨k,rfl⟩:∃ m,k=m+1:=⟨k - 1,by omega⟩;intro g w G cx;rw [a69] at cx;obtain ⟨p',cap',w',hr,c2⟩:=aDA (S:=S++G) (by rw [hlen];omega) cx;have e:(jG slot s.length).take (j+1)++[(s.length / 256 ^ j).toUInt8]=(jG slot s.length).take (j+1+1):=by
   have:(jG slot s.length)[j+1]? = some (s.length / 256 ^ j).toUInt8:=by
    have hj:j=0\/j=1\/j=2\/j=3:=by omega
    rcases hj with rfl|rfl|rfl|rfl<;>simp [jG]
   rw [List.take_add_one (i:=j+1),this];rfl
  have aV4:((jG slot s.length).take (j+1+1)).length=((jG slot s.length).take (j+1)).length+1:=by rw [<-e,List.length_append];rfl
  rw [e] at c2;refine ⟨p',_,cap',w',hr,.buf p' (((jG slot s.length).take (j+1)).length+1) cap' (bB ((jG slot s.length).take (j+1+1))) 5 1 :: S,Φ,aR,c2,_,λw=>b1d _ w,_,Φ,k,aR,λw G cx=>cx,⟨j+1,by omega,aV4.symm,?_,rfl,rfl⟩,Nat.lt_succ_self _⟩;rw [Nat.pow_succ,Nat.div_div_eq_div_mul]
 .have hge:=eV hge;rw [hlen] at hge;have hj:j=4:=by omega
  subst hj;have he:(jG slot s.length).take (4+1)=jG slot s.length:=rfl;rw [he] at cx ⊢;refine ⟨_,w,a9P (S:=S++G) (by rw [hl5];omega) cx,S,Φ,aR,cx.drop1,λw G cx=>hk w cx.left⟩
end
theorem aV5:∀ (l:List UInt8) (i:Nat),l.get?Internal i=l[i]?
 | [],_=>rfl
 | _ :: _,0=>rfl
 | x :: l,i+1=>by
  show l.get?Internal i=(x :: l)[i+1]?;rw [aV5 l i];rfl
def E5(st:FF):Prop:=st.2=true->st.1=[]
theorem aV6(l):E5 (l,false):=λh=>by cases h
theorem aBP:E5 ([],true):=λ_=>rfl
theorem a7b(e least):HU e least []=none:=by
 unfold HU;simp [Lib.indexByte]
theorem ZP{e least st}(h:E5 st):E5 (gE e least st).2:=by
 unfold gE;cases hn:HU e least st.1 with
 | none=>exact aBP
 | some x =>
  obtain ⟨n,r⟩:=x;intro hb;have hb:st.2=true:=hb;rw [h hb,a7b] at hn;cases hn
theorem aHO{c st}(h:E5 st):E5 (HV c st):=by
 obtain ⟨l,b⟩:=st;cases l with
 | nil=>exact aBP
 | cons x r =>
  unfold HV;simp only;split
  .intro hb;have:=h hb;cases this
  .exact aBP
theorem aHP{st}(h:E5 st):E5 (eJ st).2:=ZP h
theorem aHQ{st}(h:E5 st):E5 (lY st).2:=ZP h
theorem a7c{st}(h:E5 st):E5 (stepT st).2:=by
 unfold stepT;simp only;split
 .exact aBP
 .refine aHO λhb=>?_;have:=ZP (e:=58) (least:=0) h hb;simp only;rw [this,List.drop_nil]
theorem wrap_i64(x):bE (IntKind.i64.wrap x):=by
 unfold bE;simp [IntKind.wrap,IntKind.signed,IntKind.bits];split<;>omega
section
variable {W w:World}{R G S:List Own}{Φ:PW}{b:Nat}{st:FF}
end
theorem a9R(a b):bs a++b=bs (a++b.data.toList):=by
 apply ByteArray.ext;apply Array.toList_inj.1;rw [ByteArray.data_append,Array.toList_append];rfl
theorem ZQ{x}(h:bE x.term)(h2:x.data.size<=200000000000000):(vP x).length<=x.data.size+43:=by
 have h1:=fU h;have h3:=E1 (s:=x.data) (by omega);unfold vP;rw [fT,rM];omega
theorem a2C:∀ {l:List bH},(∀ x∈l,bE x.term/\x.data.size<=1000000)->(kW l).length<=l.length*1000043
 | [],_=>by simp [kW]
 | x :: l,h=>by
  have hx:=h x (by simp);have h1:=ZQ hx.1 (by omega);have h2:=a2C (l:=l) λy hy=>h y (by simp [hy]);rw [ND,List.length_append,List.length_cons];omega
theorem TE:∀ {l:List Int},(∀ n∈l,bE n)->(oG l).length<=l.length*21
 | [],_=>by simp [oG]
 | n :: l,h=>by
  have h1:=fU (h n (by simp));have h2:=TE (l:=l) λy hy=>h y (by simp [hy]);rw [NF,List.length_append,List.length_cons,fT];omega
theorem aDB{l:List bH}(h:∀ x∈l,bE x.term/\x.data.size<=1000000)(hl:l.length<=1000000)(i):(kW (l.take i)).length<=1000043000000:=by
 have h1:=a2C (l:=l.take i) λy hy=>h y (List.mem_of_mem_take hy);rw [List.length_take] at h1;omega
theorem aDC{m}(h:T7 m)(hl:m.aE.length<=1000000):(EK m).length<=1000:=by
 have h1:=TE h.ints;have h2:=T0 (n:=m.aE.length) (by unfold bE;omega);have e8:(pL m).length=8:=rfl;unfold EK;rw [List.length_append,fT];omega
abbrev bH.v(x:bH):Value:=.agg #[.int .i64 x.term,.string x.data]
section
variable {Φ:PW}
theorem US[aB Φ](hT:∀ M w,Φ M w->yB M w){x}(h:bE x.term)(h2:x.data.size<=200000000000000):dF Φ prog F.jZ #[x.v] (.string (bs (vP x))):=by
 have h1:=fU h;have h3:=E1 (s:=x.data) (by omega);refine kE (F3 x.term x.data) λW R=>λ_=>⟨[],λ_ _=>True,aR,λw G cx=>(Ctx.right cx).weak λ_ _ _=>trivial,λw G cx=>?_⟩;refine (NA (.inl ⟨hT,h⟩)).toS cx ⟨λw G cx=>(Ctx.right cx).weak λ_ _ _=>trivial,λw G cx=>(aBC (.inl ⟨hT,by unfold bE;omega⟩) (by omega)).toS cx ⟨by show (oS x.term).size+(oF x.data).size<=_;omega,λw G cx=>⟨rfl,cx.left⟩⟩⟩
def aV7:Option bH->Value
 | some x=>.tuple #[x.v,.bool true]
 | none=>.tuple #[.agg #[.int .i64 0,.string (ByteArray.mk #[])],.bool false]
theorem a9S[aB Φ](hN:∀ M w,Φ M w->wU M w)(l)(hl:l.length<=900000000000000):dF Φ prog F.vF #[.string (bs l)] (aV7 (UM l)):=by
 have h1:(eJ (l,false)).2.1.length<=l.length:=qK 59 (-9223372036854775808) (l,false);refine kE (GR (bs l)) λW R=>λ_ w G cx=>HX l cx λb w cx=>⟨_,rfl,rd b (l,false) :: R,Φ,aR,cx,λw G cx=>?_⟩;refine QF hN (by show l.length<=_;omega) cx λw G cx=>a4a hN (by omega) cx λ_ w G cx=>?_;have e:(stepT (eJ (l,false)).2).2=(NB (l,false)).2:=rfl;rw [e] at cx;refine W8 cx (Br.intro (λhd=>λw G cx=>⟨?_,(Ctx.drop1 cx).left⟩) (λhd=>λw G cx=>⟨?_,(Ctx.drop1 cx).left⟩))
 .have hd:rN (NB (l,false)).2=false:=by rw [Bool.not_eq_true'] at hd;exact hd
  unfold UM;rw [if_neg (by rw [hd];simp)];rfl
 .have hd:rN (NB (l,false)).2=true:=by rw [Bool.not_eq_false'] at hd;exact hd
  unfold UM;rw [if_pos hd];rfl
set_option maxHeartbeats 1000000 in
theorem a7d[aB Φ](hT:∀ M w,Φ M w->yB M w){m p c}(oX:∀ M w,Φ M w->Sl M w p m.aE)(hm:T7 m)(hl:m.aE.length<=1000000):dF Φ prog F.pH #[m.v p c] (.string (bs (rZ m))):=by
 have hhd:=aDC hm hl;have hpre:=aDB hm.aE hl;have hn1:=T0 (n:=m.aE.length) (by unfold bE;omega);have e8:(pL m).length=8:=rfl;refine .there (λM w h=>(oX M w h).there) λhth=>?_;refine kE (MQ m.kind m.src m.to m.term m.index m.prev m.aD m.yes p m.aE.length c) λW R=>λ_=>Br.intro (λhy=>?_) (λhy=>?_);all_goals
  refine dS (λst nI R' aX k=>∃ i:Nat,nI=i/\i<=8/\st=bs (oG ((pL m).take i))/\R'=R/\aX=Φ/\k=8 - i) ⟨⟨R,Φ,_,aR,λw G cx=>cx,0,rfl,by omega,rfl,rfl,rfl,rfl⟩,?_⟩;rintro st nI R1 cL k _ ⟨i,rfl,hi,rfl,rfl,rfl,rfl⟩;have hpl:=TE (l:=(pL m).take i) λy hy=>hm.ints y (List.mem_of_mem_take hy);rw [List.length_take] at hpl;refine Br.intro (λhlt=>?_) (λhge=>λw G cx=>?_)
  .have hlt:i<8:=by have:=fV hlt;omega
   have hIn:bE ((pL m)[i]'(by omega)):=hm.ints _ (List.getElem_mem _);have hs1:=fU hIn;have hst:bs (oG ((pL m).take i))++oS ((pL m)[i]'(by omega))=bs (oG ((pL m).take (i+1))):=by
    rw [a9R,List.take_succ_eq_append_getElem (by omega),aDm,aDn]
   refine ⟨(pL m)[i]'(by omega),⟨by omega,by omega,?_⟩,λw G cx=>(NA (.inl ⟨hT,hIn⟩)).toS cx ⟨by show (bs (oG ((pL m).take i))).size+(oS ((pL m)[i]'(by omega))).size<=_;rw [bK];omega,by unfold bE;omega,R1,cL,8 - (i+1),aR,λw G cx=>cx,⟨i+1,by omega,by omega,hst,rfl,rfl,rfl⟩,by omega⟩⟩;have h8:i=0\/i=1\/i=2\/i=3\/i=4\/i=5\/i=6\/i=7:=by omega
   rcases h8 with rfl|rfl|rfl|rfl|rfl|rfl|rfl|rfl<;>first|rfl|(show _=some (Value.int .i64 (if m.yes=true then 1 else 0));rw [hy];rfl)
  .have hge:i=8:=by have:=eV hge;omega
   subst hge;have htk:(pL m).take 8=pL m:=List.take_of_length_le (by omega);rw [htk] at hpl ⊢;refine (aPJ (.inl ⟨hT,by unfold bE;omega⟩)).toS cx ⟨by show (bs (oG (pL m))).size+(SZ (m.aE.length:Int)).size<=_;rw [bK];omega,?_⟩;have eh:bs (oG (pL m))++SZ (m.aE.length:Int)=bs (EK m++kW (m.aE.take 0)):=by
    rw [a9R,List.take_zero,show kW []=[] from rfl,List.append_nil];rfl
   rw [eh];clear cx;refine dS (λst nI R' aX k=>∃ j:Nat,nI=j/\j<=m.aE.length/\st=bs (EK m++kW (m.aE.take j))/\R'=R1/\aX=cL/\k=m.aE.length - j) ⟨⟨R1,cL,_,aR,λw G cx=>cx,0,rfl,Nat.zero_le _,rfl,rfl,rfl,rfl⟩,?_⟩;rintro st nI R2 JG k _ ⟨j,rfl,hj,rfl,rfl,rfl,rfl⟩;have hp1:=hpre j;have hbs:(bs (EK m++kW (m.aE.take j))).size=(EK m).length+(kW (m.aE.take j)).length:=by rw [bK,List.length_append]
   refine Br.intro (λhlt=>?_) (λhge=>λw G cx=>⟨?_,cx.left⟩)
   .have hlt:j<m.aE.length:=by have:=fV hlt;omega
    obtain ⟨g,o,rfl⟩:=hth (by omega);have hx:=hm.aE _ (List.getElem_mem hlt);have hrl:=ZQ hx.1 (by omega);have hst:bs (EK m++kW (m.aE.take j))++bs (vP m.aE[j])=bs (EK m++kW (m.aE.take (j+1))):=by
     rw [a9R,pT,List.take_succ_eq_append_getElem hlt,aDk,aDl,bM]
    refine ⟨⟨by omega,by omega⟩,bF g o rfl λw G cx=>⟨m.aE[j].term,m.aE[j].data,by rw [Int.toNat_natCast];exact N4 (oX _ _ cx.yK) hlt,λ_ w G cx=>?_⟩⟩;refine (US hT hx.1 (by omega)).toS cx ⟨by show (bs (EK m++kW (m.aE.take j))).size+(bs (vP m.aE[j])).size<=_;rw [bK (vP m.aE[j])];omega,by unfold bE;omega,R2,JG,m.aE.length - (j+1),aR,λw G cx=>cx,⟨j+1,by omega,by omega,hst,rfl,rfl,rfl⟩,by omega⟩
   .have hge:j=m.aE.length:=by have:=eV hge;omega
    subst hge;rw [List.take_length];rfl
end
section
variable {W w:World}{S G:List Own}{Φ:PW}{b:Nat}{st:FF}
theorem AA[aB Φ](oX:∀ M w,Φ M w->wU M w){n s}(e:eJ st=(n,s))(hl:st.1.length<=1000000)(c:Ctx W w (rd b st :: S++G) Φ){K:Int->List Own->PW->Prop}(hk:K n (rd b s :: S) Φ):
  aG F.cH #[.pointer (some ⟨b,0,none⟩)] w λe w'=>∃ n,e=.returned (.int .i64 n)/\∃ R' aX,aB aX/\Ctx W w' (R'++G) aX/\K n R' aX :=
 QF oX (by omega) c (by rw [e];exact hk)
theorem aLx[aB Φ](oX:∀ M w,Φ M w->wU M w){n s}(e:lY st=(n,s))(hl:st.1.length<=1000000)(c:Ctx W w (rd b st :: S++G) Φ){K:Int->List Own->PW->Prop}(hk:K n (rd b s :: S) Φ):
  aG F.j5 #[.pointer (some ⟨b,0,none⟩)] w λe w'=>∃ n,e=.returned (.int .i64 n)/\∃ R' aX,aB aX/\Ctx W w' (R'++G) aX/\K n R' aX :=
 a36 oX (by omega) c (by rw [e];exact hk)
end
theorem uV(st):∃ n s,eJ st=(n,s)/\bE n/\s.1.length<=st.1.length/\(E5 st->E5 s):=by
 have h1:=a2n st;have h2:(eJ st).2.1.length<=st.1.length:=qK 59 (-9223372036854775808) st;have h3:=λh=>aHP (st:=st) h;exact ⟨(eJ st).1,(eJ st).2,rfl,h1,h2,h3⟩
theorem aHR(st):∃ n s,lY st=(n,s)/\s.1.length<=st.1.length/\(E5 st->E5 s):=by
 have h2:(lY st).2.1.length<=st.1.length:=qK 59 0 st;have h3:=λh=>aHQ (st:=st) h;exact ⟨(lY st).1,(lY st).2,rfl,h2,h3⟩
structure Head(l:List UInt8)(n0 n1 n2 n3 n4 n5 n6 n7 N:Int)(s0 s1 s2 s3 s4 s5 s6 s7 sN:FF):Prop where
 e0:eJ (l,false)=(n0,s0)
 e1:eJ s0=(n1,s1)
 e2:eJ s1=(n2,s2)
 e3:eJ s2=(n3,s3)
 e4:eJ s3=(n4,s4)
 e5:eJ s4=(n5,s5)
 e6:eJ s5=(n6,s6)
 e7:eJ s6=(n7,s7)
 eN:lY s7=(N,sN)
 i:(bE n0/\bE n1/\bE n2/\bE n3)/\bE n4/\bE n5/\bE n6
 len:(s0.1.length<=l.length/\s1.1.length<=l.length/\s2.1.length<=l.length/\s3.1.length<=l.length)/\s4.1.length<=l.length/\s5.1.length<=l.length/\s6.1.length<=l.length/\s7.1.length<=l.length/\sN.1.length<=l.length
 ok:E5 sN
theorem aLy(l):∃ n0 n1 n2 n3 n4 n5 n6 n7 N s0 s1 s2 s3 s4 s5 s6 s7 sN,Head l n0 n1 n2 n3 n4 n5 n6 n7 N s0 s1 s2 s3 s4 s5 s6 s7 sN:=by
 obtain ⟨n0,s0,e0,i0,l0,o0⟩:=uV (l,false);obtain ⟨n1,s1,e1,i1,l1,o1⟩:=uV s0;obtain ⟨n2,s2,e2,i2,l2,o2⟩:=uV s1;obtain ⟨n3,s3,e3,i3,l3,o3⟩:=uV s2;obtain ⟨n4,s4,e4,i4,l4,o4⟩:=uV s3;obtain ⟨n5,s5,e5,i5,l5,o5⟩:=uV s4;obtain ⟨n6,s6,e6,i6,l6,o6⟩:=uV s5;obtain ⟨n7,s7,e7,i7,l7,o7⟩:=uV s6;obtain ⟨N,sN,eN,lN,oN⟩:=aHR s7;have l0:s0.1.length<=l.length:=l0;exact ⟨n0,n1,n2,n3,n4,n5,n6,n7,N,s0,s1,s2,s3,s4,s5,s6,s7,sN,e0,e1,e2,e3,e4,e5,e6,e7,eN,⟨⟨i0,i1,i2,i3⟩,i4,i5,i6⟩,⟨⟨l0,by omega,by omega,by omega⟩,by omega,by omega,by omega,by omega,by omega⟩,oN (o7 (o6 (o5 (o4 (o3 (o2 (o1 (o0 (aV6 l))))))))) ⟩
section
variable {l:List UInt8}{n0 n1 n2 n3 n4 n5 n6 n7 N:Int}{s0 s1 s2 s3 s4 s5 s6 s7 sN:FF}
theorem Head.read(h:Head l n0 n1 n2 n3 n4 n5 n6 n7 N s0 s1 s2 s3 s4 s5 s6 s7 sN){acc st}(hr:HY N.toNat sN []=(acc,st)):
  zX l=if rN st=true/\rZ ⟨n0,n1,n2,n3,n4,n5,n6,decide (n7=1),acc⟩=l then some ⟨n0,n1,n2,n3,n4,n5,n6,decide (n7=1),acc⟩ else none:=by
 have e:UK 8 (l,false)=([n0,n1,n2,n3,n4,n5,n6,n7],s7):=by
  simp only [UK,h.e0,h.e1,h.e2,h.e3,h.e4,h.e5,h.e6,h.e7]
 unfold zX;rw [e];unfold aHj;simp only;rw [h.eN];simp only;rw [hr];rfl
theorem Head.msg(h:Head l n0 n1 n2 n3 n4 n5 n6 n7 N s0 s1 s2 s3 s4 s5 s6 s7 sN){acc}(ha:∀ x∈acc,bE x.term/\x.data.size<=1000000):T7 ⟨n0,n1,n2,n3,n4,n5,n6,decide (n7=1),acc⟩:=by
 obtain ⟨⟨i0,i1,i2,i3⟩,i4,i5,i6⟩:=h.i;refine ⟨λn hn=>?_,ha⟩;have hn:n∈[n0,n1,n2,n3,n4,n5,n6,if decide (n7=1)=true then 1 else 0]:=hn;simp only [List.mem_cons,List.not_mem_nil,or_false] at hn;rcases hn with rfl|rfl|rfl|rfl|rfl|rfl|rfl|rfl;all_goals first|assumption|(split<;>(unfold bE;omega))
end
theorem aBQ{W w S}{Φ:PW}[aB Φ]{p c k acc x}(hl:acc.length<10000000)(cx:Ctx W w (.blk k [.int .i64 x.term,.string x.data] 216 :: .buf p acc.length c (bD acc) 216 2 :: S) Φ):
  ∃ p' c' w',Sem.run prog (builtin Builtin.append #[99,99] 99 #[false,false] #[.slice p acc.length c,.slice (some ⟨k,0,none⟩) 1 1]) w=.ok (.value (.slice p' (acc++[x]).length c')) w'/\Ctx W w' (.buf p' (acc++[x]).length c' (bD (acc++[x])) 216 2 :: S) Φ:=by
 obtain ⟨p',c',w',hr,_,QA⟩:=cx.YQ (ts:=99) (ty:=99) (kb:=#[false,false]) (bytes:=24) (P:=prog) (by kernel_rfl) (by omega) rfl rfl (by omega) (by omega);have ea:(acc++[x]).length=acc.length+1:=by rw [List.length_append];rfl
 have eb:bD acc++[Value.int .i64 x.term,Value.string x.data]=bD (acc++[x]):=by rw [Q6];rfl
 refine ⟨p',c',w',by rw [ea];exact hr,?_⟩;rw [eb,<-ea] at QA;exact QA
set_option maxHeartbeats 4000000 in
theorem aDD{W w S}{Φ:PW}[aB Φ](hN:∀ M w,Φ M w->wU M w)(l)(hl:l.length<=1000000)(cx:Ctx W w S Φ){K}(h0:∀ w',zX l=none->Ctx W w' S Φ->K (.returned (.tuple #[UL.v none 0,.bool false])) w')(h1:∀ m p c w',zX l=some m->T7 m->m.aE.length<=l.length->m.aE.length<=c->c<=maxLen->Ctx W w' S (λM w=>Φ M w/\Sl M w p m.aE)->K (.returned (.tuple #[m.v p c,.bool true])) w'):
  aG F.DF #[.string (bs l)] w K:=by
 obtain ⟨n0,n1,n2,n3,n4,n5,n6,n7,N,s0,s1,s2,s3,s4,s5,s6,s7,sN,H⟩:=aLy l;obtain ⟨⟨l0,l1,l2,l3⟩,l4,l5,l6,l7,lN⟩:=H.len;refine iO (PD (bs l) (J:=K∘.returned) cx ?_);clear cx;refine λ_ w G cx=>HX l cx λb w cx=>⟨_,rfl,rd b (l,false) :: S,Φ,aR,cx,λw G cx=>AA hN H.e0 (by show l.length<=_;omega) cx λw G cx=>AA hN H.e1 (by omega) cx λw G cx=>AA hN H.e2 (by omega) cx λw G cx=>AA hN H.e3 (by omega) cx λw G cx=>AA hN H.e4 (by omega) cx λw G cx=>AA hN H.e5 (by omega) cx λw G cx=>AA hN H.e6 (by omega) cx λw G cx=>AA hN H.e7 (by omega) cx λ_ w G cx=>aLx hN H.eN (by omega) cx ?_⟩
 clear cx;refine dS (λa0 a1 a2 a3 a4 a5 a6 y p n c R' aX k=>∃ (acc:List bH) (st:FF),((n0=a0/\n1=a1/\n2=a2/\n3=a3)/\n4=a4/\n5=a5/\n6=a6/\decide (n7=1)=y)/\n=acc.length/\HY (N.toNat - acc.length) st acc=HY N.toNat sN []/\acc.length<=N.toNat/\acc.length+st.1.length<=l.length/\(∀ x∈acc,bE x.term/\x.data.size<=l.length)/\R'=rd b st :: .buf p n c (bD acc) 216 2 :: S/\aX=Φ/\k=st.1.length)
  ⟨⟨rd b sN :: .buf none 0 0 [] 216 2 :: S,Φ,_,aR,λw G cx=>(Ctx.Q3 cx 216 2).swap,[],sN,⟨⟨rfl,rfl,rfl,rfl⟩,rfl,rfl,rfl,rfl⟩,rfl,by rw [List.length_nil,Nat.sub_zero],by simp,by simp only [List.length_nil];omega,λx hx=>(by cases hx),rfl,rfl,rfl⟩,?_⟩
 rintro a0 a1 a2 a3 a4 a5 a6 y p n c R1 cL k _ ⟨acc,st,⟨⟨rfl,rfl,rfl,rfl⟩,rfl,rfl,rfl,rfl⟩,rfl,hK,hle,hlen,hsz,rfl,rfl,rfl⟩;refine Br.intro (λhlt=>λw G cx=>a38 cx (Br.intro (λhpos=>?body) (λhnot=>?b1g))) (λhge=>?b1h)
 case body =>
  have hlt:acc.length<N.toNat:=by have:=fV hlt;omega
  have hne:st.1≠[]:=λh=>by rw [h] at hpos;have:=fV hpos;simp at this
  obtain ⟨m,hm⟩:∃ m,N.toNat - acc.length=m+1:=⟨N.toNat - acc.length - 1,by omega⟩;rw [hm,NC,if_neg hne] at hK;have he:=aDh hne;have hd:=aDi st;have ht:=aDj st;have ha:(eJ st).2.1.length<=st.1.length:=qK 59 (-9223372036854775808) st;have any:∀ {w:World} {R G:List Own} {Ψ:PW} [aB Ψ],Ctx W w (R++G) Ψ->Ctx W w ([]++G) (λ_ _=>True):=λcx=>(Ctx.right cx).weak λ_ _ _=>trivial;refine ⟨[],λ_ _=>True,aR,λw G cx=>any cx,λw G cx=>QF hN (by omega) cx ⟨λw G cx=>any cx,λw G cx=>a4a hN (by omega) cx ⟨λw G cx=>any cx,λk=>⟨λw G cx=>any cx,λw G cx=>?_⟩⟩⟩⟩
  obtain ⟨x,s',hx⟩:∃ x s',NB st=(x,s'):=⟨_,_,rfl⟩;rw [hx] at he hd ht hK;have e1:(eJ st).1=x.term:=by have:=congrArg (λz=>z.1.term) hx;exact this
  have e2:(stepT (eJ st).2).1=x.data:=by have:=congrArg (λz=>z.1.data) hx;exact this
  have e3:(stepT (eJ st).2).2=s':=by have:=congrArg (λz=>z.2) hx;exact this
  simp only at he hd ht hK;rw [e1,e2,e3] at cx;have x9:Ctx W w (.blk k [.int .i64 x.term,.string x.data] 216 :: .buf p acc.length c (bD acc) 216 2 :: rd b s' :: (S++G)) cL:=Ctx.perm cx (List.Perm.cons _ (List.Perm.swap _ _ _));obtain ⟨p',c',w',hr,QA⟩:=aBQ (by omega) x9;have ea:(acc++[x]).length=acc.length+1:=by rw [List.length_append];rfl
  exact ⟨p',_,c',w',hr,rd b s' :: .buf p' (acc++[x]).length c' (bD (acc++[x])) 216 2 :: S,cL,aR,QA.swap,_,cL,s'.1.length,aR,λw G cx=>cx,⟨acc++[x],s',⟨⟨rfl,rfl,rfl,rfl⟩,rfl,rfl,rfl,rfl⟩,rfl,by rw [ea,show N.toNat - (acc.length+1)=m by omega];exact hK,by omega,by omega,λz hz=>by
   rcases List.mem_append.1 hz with hz|hz
   .exact hsz z hz
   .rw [List.mem_singleton.1 hz];exact ⟨ht,by omega⟩,rfl,rfl,rfl⟩,he⟩
 case' b1g =>
  have hrr:HY N.toNat sN []=(acc,st):=by
   rw [<-hK];exact aDg _ _ _ (List.eq_nil_of_length_eq_zero (by have:=eV hnot;omega))
  clear hnot hlt cx w G
 case' b1h =>
  have hrr:HY N.toNat sN []=(acc,st):=by
   rw [<-hK,show N.toNat - acc.length=0 by have:=eV hge;omega];rfl
  clear hge
 all_goals
  have hrd:=H.read hrr;have hmw:=H.msg (acc:=acc) λx hx=>⟨(hsz x hx).1,by have:=(hsz x hx).2;omega⟩;refine λw G cx=>W8 cx (Br.intro (λhd=>λw G cx=>?_) (λhd=>λw G cx=>?_))
  .have x9:Ctx W w (S++G) cL:=cx.drop1.drop1;refine h0 w ?_ x9.left;rw [hrd,if_neg λh=>by rw [h.1] at hd;cases hd]
  .have hd:rN st=true:=by rw [Bool.not_eq_false'] at hd;exact hd
   rw [hd] at hrd;obtain ⟨c4,hs,hna,hca,hcm⟩:=Ctx.freeze (α:=bH) (l:=acc) (S:=rd b st :: (S++G)) cx.swap (tO λx hx=>⟨(hsz x hx).1,by have:=(hsz x hx).2;unfold maxLen;omega⟩);have x9:Ctx W w (rd b st :: S++G) (λM w=>cL M w/\Sl M w p acc):=c4.add hs;have st2:aB (λM w=>cL M w/\Sl M w p acc):=dD cL (λM w=>Sl M w p acc);refine (a7d (Φ:=λM w=>cL M w/\Sl M w p acc) (m:=⟨n0,n1,n2,n3,n4,n5,n6,decide (n7=1),acc⟩) (c:=c) (λM w h=>(hN M w h.1).1) (λM w h=>h.2) hmw (by show acc.length<=_;omega)).toS x9 (Br.intro (λhne=>λw G cx=>?_) (λheq=>λw G cx=>?_))
   .have hne:¬ rZ ⟨n0,n1,n2,n3,n4,n5,n6,decide (n7=1),acc⟩=l:=λh=>fV hne (by rw [h]);have QA:Ctx W w (S++G) (λM w=>cL M w/\Sl M w p acc):=cx.drop1;exact h0 w (by rw [hrd,if_neg λh=>hne h.2]) (QA.left.weak λM w h=>h.1)
   .have heq:rZ ⟨n0,n1,n2,n3,n4,n5,n6,decide (n7=1),acc⟩=l:=a35.1 (Decidable.not_not.1 (eV heq));have QA:Ctx W w (S++G) (λM w=>cL M w/\Sl M w p acc):=cx.drop1;exact h1 ⟨n0,n1,n2,n3,n4,n5,n6,decide (n7=1),acc⟩ p c w (by rw [hrd,if_pos ⟨rfl,heq⟩]) hmw (by show acc.length<=_;omega) (by show acc.length<=c;omega) hcm QA.left
abbrev uW:PW:=Tab prog "errata/cell.offsets" .i64 [0,64,131072]
theorem a7f{M w}(h:uW M w){n}(hn:n<3):w.cell? ⟨0,n,none⟩=some (.int .i64 (iQ n:Int)):=by
 have:=Lib.TabIs.cell h.1 (g:=0) (by kernel_rfl) n hn;rw [this];have hj:n=0\/n=1\/n=2:=by omega
 rcases hj with rfl|rfl|rfl<;>rfl
abbrev clB(q:DkP)(c:HZ):List Value:=[.pointer (some ⟨q.db,0,none⟩),.int .i64 c.file,.int .i64 (c.slot:Int),.string (bs c.value),.bool c.sure]
abbrev fN(cb:Nat)(q:DkP)(c:HZ):Own:=.blk cb (clB q c) 367
theorem ZR{d q}(hq:rW q d)(f a n):(cZ d f a n).1.length<=16777216:=by
 unfold cZ;split
 .exact Nat.zero_le _
 .split
  .exact Nat.zero_le _
  .show (((d.files f).now.drop a.toNat).take n.toNat).length<=_;have:=(hq.size f).1;rw [List.length_take,List.length_drop];omega
section
variable {W w:World}{S G:List Own}{Φ:PW}
theorem a7g[aB Φ]{cb q c}(cx:Ctx W w (fN cb q c :: S) Φ){K}(hk:∀ w',Ctx W w' (fN cb q c :: S) Φ->K (.returned (.tuple #[.string (bs c.value),.bool (decide (0<c.slot))])) w'):aG F.uE #[.pointer (some ⟨cb,0,none⟩)] w K:=by
 refine iO (MT cb 0 (J:=K∘.returned) cx λw G cx=>⟨_,cx.get 0 rfl rfl,_,cx.get 0 rfl rfl,λw G cx=>?_⟩);have:decide ((0:Int)<(c.slot:Int))=decide (0<c.slot):=decide_eq_decide.2 (by omega);rw [this];exact hk w cx.left
theorem a2D[aB Φ]{q d}(hq:rW q d)(hoff:∀ M w,Φ M w->uW M w){file}(cx:Ctx W w (bQ q d++S) Φ){K}(hn:∀ e w',uS d file=(none,e)->Ctx W w' (bQ q d++S) Φ->K (.returned (.tuple #[.pointer none,.int .i64 e])) w')(hs:∀ c cb w',uS d file=(some c,0)->Ctx W w' (fN cb q c :: (bQ q d++S)) Φ->K (.returned (.tuple #[.pointer (some ⟨cb,0,none⟩),.int .i64 0])) w'):
  aG F.JK #[.pointer (some ⟨q.db,0,none⟩),.int .i64 file] w K:=by
 refine iO (YD q.db 0 file (J:=K∘.returned) cx λcb w G cx=>?_);have cx:Ctx W w (fN cb q ⟨file,0,[],false⟩ :: (bQ q d++(S++G))) Φ:=by
  have:fN cb q ⟨file,0,[],false⟩ :: (bQ q d++(S++G))=(fN cb q ⟨file,0,[],false⟩ :: (bQ q d++S))++G:=by rw [<-bM];rfl
  rw [this];exact cx
 refine TB (S:=fN cb q ⟨file,0,[],false⟩ :: (S++G)) hq (cx.perm List.perm_middle.symm) λw cx=>?_;have hO:uS d file=uS d file:=rfl;unfold uS at hn hs;generalize hr:cZ d file 0 5=r at hn hs;obtain ⟨h,e⟩:=r;simp only at hn hs;have cx:Ctx W w ((fN cb q ⟨file,0,[],false⟩ :: (bQ q d++S))++G) Φ:=by
  have:(fN cb q ⟨file,0,[],false⟩ :: (bQ q d++S))++G=fN cb q ⟨file,0,[],false⟩ :: (bQ q d++(S++G)):=by rw [<-bM];rfl
  rw [this];exact cx.perm List.perm_middle
 have hhl:h.length<=5:=by
  have:h=(cZ d file 0 5).1:=by rw [hr]
  rw [this];unfold cZ;split
  .exact Nat.zero_le _
  .split
   .exact Nat.zero_le _
   .show (List.take 5 _).length<=5;rw [List.length_take];omega
 have N8:∀ i,i<h.length->(bs h).data.toList.get?Internal i=some (h.getD i 0):=λi hi=>by
  rw [pT,aV5,List.getD_eq_getElem?_getD,List.getElem?_eq_getElem hi];rfl
 refine ⟨_,_,rfl,fN cb q ⟨file,0,[],false⟩ :: (bQ q d++S),Φ,aR,cx,Br.intro (λhe=>λw G cx=>?_) (λhe=>λw G cx=>⟨h.getD 0 0,λh0=>⟨Int.le_refl 0,N8 0 ?_⟩,Br.intro (λh1=>λw G cx=>?_) (λh1=>λw G cx=>?_)⟩)⟩
 .rw [if_pos (fV he)] at hn;exact hn e w rfl cx.drop1.left
 .exact List.length_pos_iff.2 λe=>by rw [e] at h0;simp [QU] at h0
 .have he:=eV he;have h1:h=[]\/h.getD 0 0=0:=by
   simp only [Bool.or_eq_true,decide_eq_true_eq,QU] at h1;rcases h1 with h1|h1
   .exact .inl h1
   .exact .inr (UInt8.toNat_inj.1 (by simpa using h1))
  rw [if_neg he,if_pos h1] at hs;exact hs _ cb w rfl cx.left
 .have he:=eV he;have h1:¬ (h=[]\/h.getD 0 0=0):=λh'=>by
   simp only [Bool.or_eq_false_iff,decide_eq_false_iff_not,QU] at h1;rcases h' with h'|h'
   .exact h1.1 h'
   .exact h1.2 (by rw [h'];rfl)
  have h0:0<h.length:=List.length_pos_iff.2 λe=>h1 (.inl e);have hne:∀ n:UInt8,(h.getD 0 0≠n) ↔ ¬ ((h.getD 0 0).toNat:Int)=(n.toNat:Int):=λn=>not_congr ⟨λe=>by rw [e],λe=>UInt8.toNat_inj.1 (by omega)⟩;rw [if_neg he,if_neg h1] at hn hs;refine ⟨h.getD 0 0,λ_=>⟨Int.le_refl 0,N8 0 h0⟩,h.getD 0 0,λ_=>⟨Int.le_refl 0,N8 0 h0⟩,Br.intro (λh2=>λw G cx=>?_) (λh2=>?_)⟩
  .have h2:h.length<5\/h.getD 0 0≠1/\h.getD 0 0≠2:=by
    rw [bK] at h2;simp only [Bool.or_eq_true,Bool.and_eq_true,decide_eq_true_eq] at h2;rcases h2 with h2|h2
    .exact .inl (by omega)
    .exact .inr ⟨(hne 1).2 h2.1,(hne 2).2 h2.2⟩
   rw [if_pos h2] at hn;exact hn 2 w rfl cx.drop1.left
  have h2:¬ (h.length<5\/h.getD 0 0≠1/\h.getD 0 0≠2):=λh'=>by
   rw [bK] at h2;simp only [Bool.or_eq_false_iff,Bool.and_eq_false_iff,decide_eq_false_iff_not] at h2;rcases h' with h'|h'
   .exact h2.1 (by omega)
   .rcases h2.2 with h3|h3
    .exact h3 ((hne 1).1 h'.1)
    .exact h3 ((hne 2).1 h'.2)
  have hl5:h.length=5:=by omega
  have QO:(h.getD 0 0).toNat=1\/(h.getD 0 0).toNat=2:=by
   by_cases e1:h.getD 0 0=1
   .left;rw [e1];rfl
   .by_cases e2:h.getD 0 0=2
    .right;rw [e2];rfl
    .exact absurd (.inr ⟨e1,e2⟩) h2
  rw [if_neg h2] at hn hs;refine dS (λn28 n29 R' aX k=>∃ j:Nat,j+k=4/\n29=(k:Int)/\n28=(UR h j:Int)/\R'=fN cb q ⟨file,0,[],false⟩ :: (bQ q d++S)/\aX=Φ) ⟨⟨_,Φ,4,aR,λw G cx=>cx,0,rfl,rfl,rfl,rfl,rfl⟩,?_⟩;rintro n28 n29 R1 Φ k st ⟨j,hjk,rfl,rfl,rfl,rfl⟩;refine Br.intro (λhlt=>?_) (λhge=>?_)
  .have hlt:=fV hlt;obtain ⟨k,rfl⟩:∃ m,k=m+1:=⟨k - 1,by omega⟩;have hp:=a7a h j;have hp:UR h j<16777216:=Nat.lt_of_lt_of_le hp (by
    have:(256:Nat) ^ j<=256 ^ 3:=Nat.pow_le_pow_right (by decide) (by omega);exact this)
   have hb:=(h.getD (k+1) 0).toNat_lt;refine ⟨_,λw=>b1e _ hp w,h.getD (k+1) 0,⟨by omega,by rw [Int.toNat_natCast];exact N8 (k+1) (by omega)⟩,_,λw=>(by rw [ZO];exact or8 _ _ hp (by omega) w),by unfold bE;omega,_,Φ,k,aR,λw G cx=>cx,⟨j+1,by omega,by omega,?_,rfl,rfl⟩,Nat.lt_succ_self _⟩;show _=((UR h j*256+(h.getD (4 - j) 0).toNat:Nat):Int);rw [show 4 - j=k+1 by omega]
  .have hge:=eV hge;have hj:j=4:=by omega
   subst hj;rw [a9O];refine Br.intro (λh3=>λw G cx=>?_) (λh3=>⟨h.getD 0 0,⟨Int.le_refl 0,N8 0 h0⟩,λw G cx=>⟨cx.can 0 rfl (by show 2+1<=5;omega),λw' hw'=>?_⟩⟩)
   .have h3:65536<QH h:=by have:=fV h3;omega
    rw [if_pos h3] at hn;exact hn 2 w rfl cx.drop1.left
   have h3:¬ 65536<QH h:=by have:=eV h3;omega
   rw [if_neg h3] at hn hs;rw [ZO] at hw';have c1:=cx.put 0 hw' rfl;have hs3:(h.getD 0 0).toNat<3:=by omega
   refine ⟨fN cb q ⟨file,(h.getD 0 0).toNat,[],false⟩ :: (bQ q d++S),Φ,aR,c1,λw G cx=>⟨((h.getD 0 0).toNat:Int),cx.get 0 rfl rfl,⟨by omega,by omega⟩,λw G cx=>⟨(iQ (h.getD 0 0).toNat:Int),by rw [Int.toNat_natCast,Nat.zero_add];exact a7f (hoff _ _ cx.yK) hs3,λw G cx=>?_⟩⟩⟩;have cx:Ctx W w (fN cb q ⟨file,(h.getD 0 0).toNat,[],false⟩ :: (bQ q d++(S++G))) Φ:=by
    have:fN cb q ⟨file,(h.getD 0 0).toNat,[],false⟩ :: (bQ q d++(S++G))=(fN cb q ⟨file,(h.getD 0 0).toNat,[],false⟩ :: (bQ q d++S))++G:=by rw [<-bM];rfl
    rw [this];exact cx
   have hlr:=ZR hq file (iQ (h.getD 0 0).toNat:Int) (QH h:Int);refine TB (S:=fN cb q ⟨file,(h.getD 0 0).toNat,[],false⟩ :: (S++G)) hq (cx.perm List.perm_middle.symm) λw cx=>?_;generalize cZ d file (iQ (h.getD 0 0).toNat:Int) (QH h:Int)=r2 at hn hs hlr;obtain ⟨v,e2⟩:=r2;simp only at hn hs hlr;have cx:Ctx W w ((fN cb q ⟨file,(h.getD 0 0).toNat,[],false⟩ :: (bQ q d++S))++G) Φ:=by
    have:(fN cb q ⟨file,(h.getD 0 0).toNat,[],false⟩ :: (bQ q d++S))++G=fN cb q ⟨file,(h.getD 0 0).toNat,[],false⟩ :: (bQ q d++(S++G)):=by rw [<-bM];rfl
    rw [this];exact cx.perm List.perm_middle
   refine ⟨bs v,e2,rfl,_,Φ,aR,cx,λw G cx=>⟨cx.can 0 rfl (by show 3+1<=5;omega),λw' hw'=>?_⟩⟩;have c2:=cx.put 0 hw' rfl;refine ⟨fN cb q ⟨file,(h.getD 0 0).toNat,v,false⟩ :: (bQ q d++S),Φ,aR,c2,λw G cx=>⟨bs v,λ_=>cx.get 0 rfl rfl,Br.intro (λh4=>λw G cx=>?_) (λh4=>Br.intro (λh5=>λw G cx=>?_) (λh5=>λw G cx=>?_))⟩⟩
   .rw [bK] at h4;simp only [Bool.and_eq_true,decide_eq_true_eq] at h4;rw [if_neg (by omega),if_pos (by omega)] at hn;exact hn 2 w rfl cx.drop1.left
   .have h5:=fV h5;rw [if_pos h5] at hn;exact hn e2 w rfl cx.drop1.left
   .have h5:=eV h5;rw [bK] at h4;simp only [Bool.and_eq_false_iff,decide_eq_false_iff_not] at h4;rw [if_neg h5,if_neg (by omega)] at hs;exact hs _ cb w rfl cx.left
end
section
variable {W w:World}{S G:List Own}{Φ:PW}
theorem NL[aB Φ]{o X S G}(cx:Ctx W w ((o :: (X++S))++G) Φ):Ctx W w (X++(o :: (S++G))) Φ:=(re3 cx).perm List.perm_middle.symm
theorem E6[aB Φ]{o X S G}(cx:Ctx W w (X++(o :: (S++G))) Φ):Ctx W w ((o :: (X++S))++G) Φ:=re4 (cx.perm List.perm_middle)
theorem aDE{d c s}(h:¬ 65536<s.length)(h2:¬ (c.sure=false/\0<c.slot)):wW d c s=LJ d c s (if c.slot=1 then 2 else 1):=by
 unfold wW;rw [if_neg h,if_neg h2]
theorem a7h[aB Φ]{cb q d c s}(hq:rW q d)(hkp:LN Φ q d)(hoff:∀ M w,Φ M w->uW M w)(cx:Ctx W w (fN cb q c :: (bQ q d++S)) Φ){K}(hk:∀ u w',rW (q.mv u) (wW d c s).1->Ctx W w' (fN cb q (wW d c s).2.1 :: (bQ (q.mv u) (wW d c s).1++S)) Φ->K (.returned (.int .i64 (wW d c s).2.2)) w'):aG F.uF #[.pointer (some ⟨cb,0,none⟩),.string (bs s)] w K:=by
 refine iO (MU cb 0 (bs s) (J:=K∘.returned) cx (Br.intro (λh=>λw G cx=>?_) (λh=>dS (λR' aX=>∃ u d1 c1,R'=fN cb q c1 :: (bQ (q.mv u) d1++S)/\aX=Φ/\rW (q.mv u) d1/\d1.keep=d.keep/\wW d c s=LJ d1 c1 s (if c1.slot=1 then 2 else 1)) ⟨λw G cx=>⟨_,cx.get 0 rfl rfl,_,λ_=>cx.get 0 rfl rfl,Br.intro (λh2=>?_) (λh2=>?_)⟩,?_⟩)))
 .have h:65536<s.length:=by have:=fV h;rw [bK] at this;omega
  have e:wW d c s=(d,c,6):=by unfold wW;rw [if_pos h]
  rw [e] at hk;exact hk q.un w hq cx.left
 all_goals have h:¬ 65536<s.length:=by have:=eV h;rw [bK] at this;omega
 .have h2:c.sure=false/\0<c.slot:=by
   simp only [Bool.and_eq_true,decide_eq_true_eq,Bool.not_eq_true'] at h2;exact ⟨h2.1,by omega⟩
  refine ⟨_,Φ,aR,λw G cx=>cx,some ⟨q.db,0,none⟩,λw G cx=>⟨_,cx.get 0 rfl rfl,rfl⟩,c.file,λw G cx=>⟨_,cx.get 0 rfl rfl,rfl⟩,λw G cx=>?_⟩;have ec:wW d c s=if (bR d c.file).2≠0 then ((bR d c.file).1,c,(bR d c.file).2) else LJ (bR d c.file).1 { c with sure:=true } s (if c.slot=1 then 2 else 1):=by
   unfold wW;rw [if_neg h,if_pos h2]
  have hkeep:=o8 d c.file;refine CN (S:=fN cb q c :: (S++G)) hq hkp (NL cx) λu w hq1 cx=>?_;rw [ec] at hk ⊢;generalize bR d c.file=r at hk hq1 cx hkeep;obtain ⟨d1,e1⟩:=r;simp only at hk hq1 cx hkeep;refine ⟨e1,rfl,fN cb q c :: (bQ (q.mv u) d1++S),Φ,aR,E6 cx,Br.intro (λh3=>λw G cx=>?_) (λh3=>λw G cx=>⟨cx.can 0 rfl (by show 4+1<=5;omega),λw' hw'=>?_⟩)⟩
  .rw [if_pos (fV h3)] at hk;exact hk u w hq1 cx.left
  .have c1:=cx.put 0 hw' rfl;refine ⟨fN cb q { c with sure:=true } :: (bQ (q.mv u) d1++S),Φ,aR,c1,_,Φ,aR,λw G cx=>cx,u,d1,{ c with sure:=true },rfl,rfl,hq1,hkeep,?_⟩;rw [if_neg (eV h3)]
 .have h2:¬ (c.sure=false/\0<c.slot):=λh3=>by
   simp only [Bool.and_eq_false_iff,decide_eq_false_iff_not,Bool.not_eq_false'] at h2;rcases h2 with h2|h2
   .rw [h3.1] at h2;cases h2
   .omega
  exact ⟨_,Φ,aR,λw G cx=>cx,q.un,d,c,rfl,rfl,hq,rfl,aDE h h2⟩
 rintro R1 Φ st ⟨u,d1,c1,rfl,rfl,hq1,hkeep,aPX⟩;rw [aPX] at hk;refine dS (λnI R' aX=>nI=(((if c1.slot=1 then 2 else 1):Nat):Int)/\R'=fN cb q c1 :: (bQ (q.mv u) d1++S)/\aX=Φ) ⟨λw G cx=>⟨(c1.slot:Int),cx.get 0 rfl rfl,Br.intro (λh3=>⟨_,Φ,aR,λw G cx=>cx,by rw [if_pos (by have:=fV h3;omega)];rfl,rfl,rfl⟩) (λh3=>⟨_,Φ,aR,λw G cx=>cx,by rw [if_neg (by have:=eV h3;omega)];rfl,rfl,rfl⟩)⟩,?_⟩;rintro nI R1 Φ st ⟨rfl,rfl,rfl⟩
 have qU:(if c1.slot=1 then 2 else 1)=1\/(if c1.slot=1 then 2 else 1)=2:=by split;exact .inr rfl;exact .inl rfl
 generalize (if c1.slot=1 then 2 else 1)=sl at hk qU;have hs3:sl<3:=by omega
 have aPY:LN Φ (q.mv u) d1:=hkp.of hkeep u;unfold LJ at hk;have hkw:=tW d1 c1.file (iQ sl) s;refine ⟨_,Φ,aR,λw G cx=>cx,⟨by omega,by omega⟩,(iQ sl:Int),λw G cx=>⟨_,by rw [Int.toNat_natCast,Nat.zero_add];exact a7f (hoff _ _ cx.yK) hs3,rfl⟩,some ⟨q.db,0,none⟩,λw G cx=>⟨_,cx.get 0 rfl rfl,rfl⟩,c1.file,λw G cx=>⟨_,cx.get 0 rfl rfl,rfl⟩,λw G cx=>?_⟩;refine TD (q:=q.mv u) (S:=fN cb q c1 :: (S++G)) hq1 aPY (by omega) (NL cx) λu w qZ cx=>?_
 generalize cD d1 c1.file (iQ sl:Int) s=r at hk qZ cx hkw;obtain ⟨d2,e2⟩:=r;simp only at hk qZ cx hkw;refine ⟨e2,rfl,fN cb q c1 :: (bQ (q.mv u) d2++S),Φ,aR,E6 cx,Br.intro (λh3=>λw G cx=>?_) (λh3=>?_)⟩
 .rw [if_pos (fV h3)] at hk;exact hk u w qZ cx.left
 rw [if_neg (eV h3)] at hk;have b1i:LN Φ (q.mv u) d2:=hkp.of (hkw.trans hkeep) u;have hks:=o8 d2 c1.file;refine ⟨_,Φ,aR,λw G cx=>cx,some ⟨q.db,0,none⟩,λw G cx=>⟨_,cx.get 0 rfl rfl,rfl⟩,c1.file,λw G cx=>⟨_,cx.get 0 rfl rfl,rfl⟩,λw G cx=>?_⟩;refine CN (q:=q.mv u) (S:=fN cb q c1 :: (S++G)) qZ b1i (NL cx) λu w hq3 cx=>?_;generalize bR d2 c1.file=r at hk hq3 cx hks;obtain ⟨d3,e3⟩:=r;simp only at hk hq3 cx hks
 refine ⟨e3,rfl,fN cb q c1 :: (bQ (q.mv u) d3++S),Φ,aR,E6 cx,Br.intro (λh4=>λw G cx=>?_) (λh4=>?_)⟩
 .rw [if_pos (fV h4)] at hk;exact hk u w hq3 cx.left
 rw [if_neg (eV h4)] at hk;have b1j:LN Φ (q.mv u) d3:=hkp.of (hks.trans (hkw.trans hkeep)) u;have aPZ:=tW d3 c1.file 0 (jG sl s.length);refine ⟨_,Φ,aR,λw G cx=>cx,some ⟨q.db,0,none⟩,λw G cx=>⟨_,cx.get 0 rfl rfl,rfl⟩,c1.file,λw G cx=>⟨_,cx.get 0 rfl rfl,rfl⟩,λw G cx=>?_⟩;refine a9Q (S:=(fN cb q c1 :: (bQ (q.mv u) d3++S))++G) (by omega) cx λw cx=>⟨_,rfl,fN cb q c1 :: (bQ (q.mv u) d3++S),Φ,aR,cx,λw G cx=>cx,λw G cx=>?_⟩
 refine TD (q:=q.mv u) (S:=fN cb q c1 :: (S++G)) hq3 b1j (by show 5<=_;omega) (NL cx) λu w hq4 cx=>?_;generalize cD d3 c1.file 0 (jG sl s.length)=r at hk hq4 cx aPZ;obtain ⟨d4,e4⟩:=r;simp only at hk hq4 cx aPZ;refine ⟨e4,rfl,fN cb q c1 :: (bQ (q.mv u) d4++S),Φ,aR,E6 cx,Br.intro (λh5=>λw G cx=>?_) (λh5=>λw G cx=>⟨cx.can 0 rfl (by show 2+1<=5;omega),λw' hw'=>?_⟩)⟩
 .rw [if_pos (fV h5)] at hk;exact hk u w hq4 cx.left
 rw [if_neg (eV h5)] at hk;have b1k:LN Φ (q.mv u) d4:=hkp.of (aPZ.trans (hks.trans (hkw.trans hkeep))) u;refine ⟨fN cb q { c1 with slot:=sl } :: (bQ (q.mv u) d4++S),Φ,aR,cx.put 0 hw' rfl,λw G cx=>⟨cx.can 0 rfl (by show 3+1<=5;omega),λw' hw'=>?_⟩⟩;refine ⟨fN cb q { c1 with slot:=sl,value:=s } :: (bQ (q.mv u) d4++S),Φ,aR,cx.put 0 hw' rfl,λw G cx=>⟨cx.can 0 rfl (by show 4+1<=5;omega),λw' hw'=>?_⟩⟩;refine ⟨fN cb q ⟨c1.file,sl,s,false⟩ :: (bQ (q.mv u) d4++S),Φ,aR,cx.put 0 hw' rfl,?_⟩
 refine ⟨_,Φ,aR,λw G cx=>cx,some ⟨q.db,0,none⟩,λw G cx=>⟨_,cx.get 0 rfl rfl,rfl⟩,c1.file,λw G cx=>⟨_,cx.get 0 rfl rfl,rfl⟩,λw G cx=>?_⟩;refine CN (q:=q.mv u) (S:=fN cb q ⟨c1.file,sl,s,false⟩ :: (S++G)) hq4 b1k (NL cx) λu w hq5 cx=>?_;generalize bR d4 c1.file=r at hk hq5 cx;obtain ⟨d5,e5⟩:=r;simp only at hk hq5 cx;refine ⟨e5,rfl,fN cb q ⟨c1.file,sl,s,false⟩ :: (bQ (q.mv u) d5++S),Φ,aR,E6 cx,λw G cx=>⟨cx.can 0 rfl (by show 4+1<=5;omega),λw' hw'=>?_⟩⟩
 exact ⟨fN cb q ⟨c1.file,sl,s,decide (e5=0)⟩ :: (bQ (q.mv u) d5++S),Φ,aR,cx.put 0 hw' rfl,λw G cx=>hk u w hq5 cx.left⟩
end
abbrev cW(l:List ByteArray):List Value:=l.map Value.string
theorem fM(l):(cW l).length=l.length:=by simp
theorem a7i(M w cs)(x:ByteArray)(h:Gv.rep M w cs x):(cs.all λu=>oY u)=true:=by
 obtain ⟨rfl,_⟩:=h;rfl
theorem tX{M w l}(h:∀ x∈l,x.size<=maxLen):dR M w (cW l) l:=by
 refine ⟨by rw [fM];exact (Nat.mul_one _).symm,λj hj=>⟨?_,h _ (List.getElem_mem hj)⟩⟩;show ((cW l).drop (j*1)).take 1=[.string l[j]];rw [Nat.mul_one,List.drop_eq_getElem_cons (by rw [fM];exact hj),List.take_succ_cons,List.take_zero,List.getElem_map]
theorem NM{M w cs l}(h:dR M w cs l):cs=cW l:=by
 have h1:cs.length=l.length:=by have:=h.1;rw [this];exact Nat.mul_one _
 apply List.ext_getElem (by rw [h1,fM]);intro i h2 h3;rw [fM] at h3;have:=(h.2 i h3).1;rw [show (Gv.ty ByteArray).size=1 from rfl,Nat.mul_one,List.drop_eq_getElem_cons h2,List.take_succ_cons,List.take_zero] at this;rw [List.getElem_map];exact (List.cons.inj this).1
theorem a9T{M w b o l}(h:Sl M w (some ⟨b,o,none⟩) l){i}(hi:i<l.length):w.cell? ⟨b,o+i,none⟩=some (.string l[i]):=by
 obtain ⟨b',o',cs,e,_,h3,rfl,_⟩:=h i hi;cases e;have:=h3 0 (by simp);simpa [show (Gv.ty ByteArray).size=1 from rfl] using this
theorem aLz{M w p}{l:List ByteArray}(h:Sl M w p l)(k):Sl M w p (l.take k):=λj hj=>by
 have hj2:j<l.length:=by rw [List.length_take] at hj;omega
 have:=h j hj2;rw [List.getElem_take];exact this
theorem aHS{W w M b rest t l}(h:y4 W (.blk b (cW l++rest) t) M w)(hs:∀ x∈l,x.size<=maxLen):Sl M w (some ⟨b,0,none⟩) l:=λj hj=>by
 have hr:=h.aVD (o:=j) (vs:=[.string l[j]]) λi hi=>by
  have hi:i=0:=by simp at hi;omega
  subst hi;rw [Nat.add_zero,List.getElem?_append_left (by rw [fM];exact hj),List.getElem?_map,List.getElem?_eq_getElem hj];rfl
 refine ⟨b,0,[.string l[j]],rfl,hr.1,?_,rfl,hs _ (List.getElem_mem hj)⟩;rw [show (Gv.ty ByteArray).size=1 from rfl,Nat.zero_add,Nat.mul_one];exact hr.2.1
inductive SB:Option Addr->Nat->List ByteArray->Own->Prop
 | buf (p:Option Addr) (cap:Nat) (l:List ByteArray):SB p cap l (.buf p l.length cap (cW l) 9 1)
 | cut (g:Nat) (l:List ByteArray) (cs:List Value):SB (some ⟨g,0,none⟩) l.length l (.blk g (cW l++cs) 9)
section
variable {W w:World}{S G:List Own}{Φ:PW}{p:Option Addr}{cap:Nat}{l:List ByteArray}{o:Own}
theorem SB.sl[aB Φ](h:SB p cap l o){M}(hs:∀ x∈l,x.size<=maxLen)(ha:Go.Vc.iT W [o] Φ M w):Sl M w p l:=by
 have hp:=ha.parked (o:=o) (by simp);cases h with
 | buf=>exact hp.sl (D:=[]) (tX hs)
 | cut g l cs=>exact aHS hp hs
theorem SB.get(h:SB p cap l o)(cx:Ctx W w (o :: S) Φ){i}(hi:i<l.length):∃ g,p=some ⟨g,0,none⟩/\w.cell? ⟨g,i,none⟩=some (.string l[i]):=by
 cases h with
 | buf =>
  obtain ⟨g,hg,_,h2⟩:=cx.nU 0 rfl (by rw [fM];omega);exact ⟨g,hg,(h2 i _ (by rw [List.getElem?_map,List.getElem?_eq_getElem hi];rfl)).1⟩
 | cut g l cs=>exact ⟨g,rfl,cx.get 0 rfl (by rw [List.getElem?_append_left (by rw [fM];exact hi),List.getElem?_map,List.getElem?_eq_getElem hi];rfl)⟩
theorem SB.cutAt[aB Φ](h:SB p cap l o)(cx:Ctx W w (o :: S) Φ){k}(hk:k<l.length):∃ g o',p=some ⟨g,0,none⟩/\k<=cap/\SB p k (l.take k) o'/\Ctx W w (o' :: S) Φ:=by
 have hlen:(l.take k).length=k:=by rw [List.length_take];omega
 cases h with
 | buf =>
  obtain ⟨b,cur,h1,hb,uL,hnc,hcm,uK,hl⟩:=cx.aGU 0 rfl (by rw [fM];omega);have e:cur=cW (l.take k)++cur.drop k:=by
   conv=>lhs;rw [<-List.take_append_drop k cur]
   congr 1
   have:(cur.take (l.length*1)).take k=(cW l).take k:=by rw [uL]
   rw [Nat.mul_one,List.take_take,Nat.min_eq_left (by omega)] at this;rw [this,<-List.map_take]
  have hsb:=SB.cut b (l.take k) (cur.drop k);rw [hlen,<-e] at hsb;subst h1;exact ⟨b,_,rfl,by omega,hsb,cx.upd (k:=0) (o':=.blk b cur 9) rfl (kT.refl _ _) (λx hx=>.inl hx) (Own.nodup _) hb⟩
 | cut g l cs =>
  have hsb:=SB.cut g (l.take k) (cW (l.drop k)++cs);rw [hlen,<-bM,<-List.map_append,List.take_append_drop] at hsb;exact ⟨g,_,rfl,by omega,hsb,cx⟩
theorem SB.app[aB Φ](h:SB p cap l o)(cx:Ctx W w (o :: S) Φ){q c2 l2}(qU:∀ M w,Φ M w->Sl M w q l2)(h0:0<l2.length)(hlen:l.length+l2.length<100000000):
  ∃ p' cap' w' o',Sem.run prog (builtin Builtin.append #[40,40] 40 #[false,false] #[.slice p l.length cap,.slice q l2.length c2]) w=.ok (.value (.slice p' (l.length+l2.length) cap')) w'/\SB p' cap' (l++l2) o'/\Ctx W w' (o' :: S) Φ:=by
 cases h with
 | buf =>
  obtain ⟨p',cap',w',news,hr,_,c'⟩:=cx.aGV (P:=prog) (ts:=40) (ty:=40) (kb:=#[false,false]) (bytes:=16) (c2:=c2) (by kernel_rfl) a7i qU h0 hlen (by omega);have e:=NM c'.yK.2;subst e;have hsb:=SB.buf p' cap' (l++l2);rw [List.length_append] at hsb;refine ⟨p',cap',w',_,hr,hsb,?_⟩;rw [show cW (l++l2)=cW l++cW l2 from List.map_append];exact c'.weak λ_ _ h=>h.1
 | cut g l cs =>
  obtain ⟨i,z,e1,e2,e3,e4,e5,e6⟩:=y5 (P:=prog) (ts:=40) (t:=9) (size:=1) (bytes:=16) (by kernel_rfl);obtain ⟨b2,o2,news,hp,g1,g2,g3,g4⟩:=(qU _ _ cx.yK).cells a7i h0;have e:=NM g3;subst e;subst hp;have holds:∀ j u,(cW l)[j]? = some u->w.cell? ((⟨g,0,none⟩:Addr).add j)=some u:=by
   intro j u hj;rw [addr_add,Nat.zero_add];exact cx.get 0 rfl (by rw [List.getElem?_append_left (List.getElem?_eq_some_iff.1 hj).1];exact hj)
  have hr:=run_append_grow (P:=prog) w 40 40 9 i z e1 e2 e3 ⟨g,0,none⟩ l.length l.length (cW l) (by rw [e4,fM,Nat.mul_one]) holds ⟨b2,o2,none⟩ l2.length c2 (cW l2) (by rw [e4,fM,Nat.mul_one]) (λj u hj=>by rw [addr_add];exact g2 j u hj) (by omega) (by omega) (growslice_fits (by omega) (by rw [e6];omega));have hge:=grownCap_ge w (l.length+l2.length) l.length 9;have hcm:grownCap w (l.length+l2.length) l.length 9<=maxLen:=grownCap_le_maxLen w (l.length+l2.length) l.length 9 (by simp only [maxLen];omega)
  have hsb:=SB.buf (some ⟨w.heap.size,0,none⟩) (grownCap w (l.length+l2.length) l.length 9) (l++l2);refine ⟨_,_,_,_,wQ hr,hsb,?_⟩;refine Ctx.new' (cx.drop1.draw 1) _ _ (by simp [Own.dom]) ⟨by rw [fM,Nat.mul_one],.inr ⟨w.heap.size,_,_,by rw [List.length_append],Nat.zero_le _,wD w.drew _,by rw [List.length_append];exact hge,hcm,?_,?_⟩⟩
  .simp only [Array.size_append,List.size_toArray,size_zeroCells,fM,e5];omega
  .simp only [Array.toList_append,bM];rw [<-bM,show cW (l++l2)=cW l++cW l2 from List.map_append,show (l++l2).length*1=(cW l++cW l2).length by rw [List.length_append,List.length_append,fM,fM,Nat.mul_one]];exact List.take_left
end
def EL:Nat->FF->Int->List ByteArray->List ByteArray × FF
 | 0,st,n,acc=>(acc,st)
 | k+1,st,n,acc=>if (acc.length:Int)<n/\st.1≠[] then EL k (stepT st).2 n (acc++[(stepT st).1]) else (acc,st)
theorem a2E{st}(h:st.1=[]):(stepT st).2=([],true):=by
 obtain ⟨l,b⟩:=st;simp only at h;subst h;unfold stepT;rw [Z6 (a7b _ _)];rfl
theorem aHT{st}(hok:E5 st)(h:st.1≠[]):(stepT st).2.1.length<st.1.length:=by
 have hpos:0<st.1.length:=List.length_pos_iff.2 h;cases hb:(stepT st).2.2 with
 | true =>
  have:=a7c hok hb;rw [this,List.length_nil];exact hpos
 | false =>
  have h1:=(a4b hb).2;have h2:=congrArg List.length h1;rw [List.length_append,tT,List.length_append,List.length_cons,List.length_append,List.length_singleton] at h2;omega
theorem loops:∀ (k:Nat) (st:FF) (n:Int) (acc:List ByteArray),E5 st->st.1.length<k ->
  (oH k st n acc).1=(EL k st n acc).1/\(((EL k st n acc).1.length:Int)=n->oH k st n acc=EL k st n acc)/\(((EL k st n acc).1.length:Int)<n->rN (oH k st n acc).2=false)
 | 0,st,n,acc,_,h=>by omega
 | k+1,st,n,acc,hok,h=>by
  by_cases hn:(acc.length:Int)<n
  .by_cases h0:st.1=[]
   .have e1:oH (k+1) st n acc=(acc,(stepT st).2):=by unfold oH;rw [if_pos hn,if_pos (.inr h0)]
    have e2:EL (k+1) st n acc=(acc,st):=by unfold EL;rw [if_neg λh=>h.2 h0]
    rw [e1,e2,a2E h0];exact ⟨rfl,λh=>by simp only at h;omega,λ_=>rfl⟩
   .have hlt:=aHT hok h0;have hno:¬ (st.1.length<=(stepT st).2.1.length\/st.1=[]):=λh=>h.elim (λh=>by omega) h0;have e1:oH (k+1) st n acc=oH k (stepT st).2 n (acc++[(stepT st).1]):=by
     conv=>lhs;unfold oH
     rw [if_pos hn,if_neg hno]
    have e2:EL (k+1) st n acc=EL k (stepT st).2 n (acc++[(stepT st).1]):=by
     conv=>lhs;unfold EL
     rw [if_pos ⟨hn,h0⟩]
    rw [e1,e2];exact loops k _ n _ (a7c hok) (by omega)
  .have e1:oH (k+1) st n acc=(acc,st):=by unfold oH;rw [if_neg hn]
   have e2:EL (k+1) st n acc=(acc,st):=by unfold EL;rw [if_neg λh=>hn h.1]
   rw [e1,e2];exact ⟨rfl,λ_=>rfl,λh=>absurd h hn⟩
section
variable {W w:World}{S G:List Own}{Φ:PW}{p:Option Addr}{cap:Nat}{l:List ByteArray}{o:Own}
theorem a4m[aB Φ](hT:∀ M w,Φ M w->yB M w)(qU:∀ M w,Φ M w->Sl M w p l)(hlen:(aM l).length<=1000000000):dF Φ prog F.jC #[.slice p l.length cap] (.string (bs (aM l))):=by
 refine .there (λM w h=>(qU M w h).there) λhth=>?_;have hn:=CG (l:=l) λx hx=>Nat.le_trans (nP hx) (by omega);refine kE (PN p l.length cap) λW R=>λb=>?_;refine dS (λiI R' aX k=>∃ (i:Nat) (Q:List Own),iI=i/\i+k=l.length/\BdT b (aM (l.take i)) Q/\R'=Q++R/\aX=Φ) ⟨?_,?_⟩
 .refine ⟨_,Φ,l.length,aR,λw G cx=>?_,0,[.blk b [.pointer none,.slice none 0 0] 207,.buf none 0 0 (Lib.byteCells []) 5 1],rfl,by omega,Bd.nil,rfl,rfl⟩;exact Bd.fresh cx
 rintro iI R2 Φ k _ ⟨i,Q,rfl,hik,hQ,rfl,rfl⟩;refine Br.intro (λhlt=>?_) (λhge=>λw G cx=>?_)
 .have hlt:i<l.length:=by have:=fV hlt;omega
  obtain ⟨k,rfl⟩:∃ m,k=m+1:=⟨k - 1,by omega⟩;obtain ⟨g,o,rfl⟩:=hth (by omega);have hsz:=nP (List.getElem_mem hlt);have hstep:aM (l.take (i+1))=aM (l.take i)++(oF l[i]).data.toList:=by
   rw [List.take_succ_eq_append_getElem hlt,mD];simp [aM]
  have hle:(aM (l.take (i+1))).length<=(aM l).length:=by
   have e:aM l=aM (l.take (i+1))++aM (l.drop (i+1)):=by rw [<-mD,List.take_append_drop]
   rw [e,List.length_append];omega
  refine ⟨⟨by omega,by omega⟩,bF g o rfl λw G cx=>⟨l[i],by rw [Int.toNat_natCast];exact a9T (qU _ _ cx.yK) hlt,λw G cx=>(aBC (Φ:=Φ) (.inl ⟨hT,by unfold bE;omega⟩) (by omega)).use cx λw cx=>⟨_,rfl,Q++R,Φ,aR,cx,λw G cx=>?_⟩⟩⟩;refine VS (oF l[i]) hQ (cx.re (bM _ _ _)) (by rw [hstep,List.length_append,fT] at hle;omega) λQ' w hQ' cx=>⟨_,_,rfl,Q'++R,Φ,aR,by rw [bM];exact cx,by unfold bE;omega,_,Φ,k,aR,λw G cx=>cx,⟨i+1,Q',by omega,by omega,?_,rfl,rfl⟩,Nat.lt_succ_self _⟩
  rw [hstep];exact hQ'
 .have hge:i=l.length:=by have:=eV hge;omega
  subst hge;rw [List.take_length] at hQ;exact a9p hQ (cx.re (bM _ _ _)) λw cx=>⟨_,rfl,R,Φ,aR,cx,λw G cx=>⟨rfl,cx.left⟩⟩
theorem a7j[aB Φ](hN:∀ M w,Φ M w->wU M w){cb q c}(hl:c.value.length<=1000000000)(cx:Ctx W w (fN cb q c :: S) Φ){K}(hk:∀ w',Ctx W w' (fN cb q c :: S) Φ->K (.returned (.tuple #[.int .i64 (qM c).1,.int .i64 (qM c).2.1,.bool (qM c).2.2])) w'):aG F.vE #[.pointer (some ⟨cb,0,none⟩)] w K:=by
 refine iO (GV cb 0 (J:=K∘.returned) cx λw G cx=>a7g (S:=S++G) cx λw cx=>⟨_,_,rfl,fN cb q c :: S,Φ,aR,cx,Br.intro (λh=>λw G cx=>?_) (λh=>λw G cx=>?_)⟩)
 .have h:c.slot=0:=by
   have:¬ 0<c.slot:=by simpa using h
   omega
  have e:qM c=(0,0,true):=by unfold qM;rw [if_pos h]
  rw [e] at hk;exact hk w cx.left
 .have h:¬ c.slot=0:=by
   have:0<c.slot:=by simpa using h
   omega
  have e:qM c=((lY (c.value,false)).1,(lY (lY (c.value,false)).2).1,rN (lY (lY (c.value,false)).2).2):=by unfold qM;rw [if_neg h]
  rw [e] at hk;have hlen:(lY (c.value,false)).2.1.length<=c.value.length:=qK 59 0 (c.value,false);refine HX c.value cx λb w cx=>⟨_,rfl,rd b (c.value,false) :: fN cb q c :: S,Φ,aR,cx,λw G cx=>a36 (S:=fN cb q c :: S) hN (by show c.value.length<=_;omega) cx (λw G cx=>a36 (S:=fN cb q c :: S) hN (by omega) cx (λw G cx=>W8 (S:=fN cb q c :: S) cx (λw G cx=>hk w (Ctx.left (Ctx.drop1 cx)))))⟩
theorem aHU[aB Φ](hT:∀ M w,Φ M w->yB M w){s}(hs:s.length<=16777216){n b}{st:FF}(hform:st.2=false->aM l++st.1=s)(cx:Ctx W w ((.buf p l.length cap (cW l) 9 1 :: rd b st :: S)++G) Φ){K:EkV}(h0:∀ w',a1p s n (l,st)=none->Ctx W w' S Φ->K (.returned (.tuple #[.slice p l.length cap,.bool false])) w')(h1:∀ w',a1p s n (l,st)=some l->Ctx W w' (.buf p l.length cap (cW l) 9 1 :: S) Φ->K (.returned (.tuple #[.slice p l.length cap,.bool true])) w'):
  aG F.dY #[.pointer (some ⟨b,0,none⟩)] w λe w'=>∃ c,e=.returned (.bool c)/\∃ R' aX,aB aX/\Ctx W w' (R'++G) aX /\
   Br c (Br (decide ((l.length:Int)=n)) (∀ w G,Ctx W w (R'++G) aX->aG F.jC #[.slice p l.length cap] w λe w'=>∃ s1,e=.returned (.string s1)/\∃ R2 JG,aB JG/\Ctx W w' (R2++G) JG/\∀ w G,Ctx W w (R2++G) JG->K (.returned (.tuple #[.slice p l.length cap,.bool (decide (s1=bs s))])) w)
    (∀ w G,Ctx W w (R'++G) aX->K (.returned (.tuple #[.slice p l.length cap,.bool false])) w)) (∀ w G,Ctx W w (R'++G) aX->K (.returned (.tuple #[.slice p l.length cap,.bool false])) w):=by
 refine W8 (S:=.buf p l.length cap (cW l) 9 1 :: S) cx.swap (Br.intro (λhd=>Br.intro (λhn=>λw G cx=>?_) (λhn=>λw G cx=>?_)) (λhd=>λw G cx=>?_))
 .have hst:=aLe hd;subst hst;have hf:=hform rfl;rw [List.append_nil] at hf;have he:a1p s n (l,([],false))=some l:=by unfold a1p;exact if_pos ⟨hd,fV hn,hf⟩
  have hlen:(aM l).length<=16777216:=by rw [hf];exact hs
  have hsz:∀ x∈l,x.size<=maxLen:=λx hx=>Nat.le_trans (nP hx) (by unfold maxLen;omega);have c2:Ctx W w ([Own.buf p l.length cap (cW l) 9 1]++(rd b ([],false) :: (S++G))) Φ:=Ctx.swap (S:=S++G) cx;have c3:=c2.aside;refine (a4m (Φ:=Go.Vc.iT W [.buf p l.length cap (cW l) 9 1] Φ) (λM w h=>hT M w h.less) (λM w h=>(SB.buf p cap l).sl hsz h) (by omega)).use c3 λw c4=>⟨_,rfl,.buf p l.length cap (cW l) 9 1 :: rd b ([],false) :: S,Φ,aR,c4.zU,λw G cx=>?_⟩
  rw [hf,decide_eq_true (rfl:bs s=bs s)];exact h1 w he (Ctx.drop1 (Ctx.swap (Ctx.left (S:=.buf p l.length cap (cW l) 9 1 :: rd b ([],false) :: S) cx)))
 .have he:a1p s n (l,st)=none:=by unfold a1p;exact if_neg λh=>eV hn h.2.1
  exact h0 w he (Ctx.drop1 (Ctx.drop1 (Ctx.left cx)))
 .have he:a1p s n (l,st)=none:=by unfold a1p;exact if_neg λh=>by rw [h.1] at hd;cases hd
  exact h0 w he (Ctx.drop1 (Ctx.drop1 (Ctx.left cx)))
theorem aHV[aB Φ](hN:∀ M w,Φ M w->wU M w){s}(hs:s.length<=16777216){n}(cx:Ctx W w S Φ){K}(h0:∀ p k c w',a2s s n=none->Ctx W w' S Φ->K (.returned (.tuple #[.slice p k c,.bool false])) w')(h1:∀ p cap l o w',a2s s n=some l->SB p cap l o->Ctx W w' (o :: S) Φ->K (.returned (.tuple #[.slice p l.length cap,.bool true])) w'):
  aG F.DH #[.string (bs s),.int .i64 n] w K:=by
 have hT:∀ M w,Φ M w->yB M w:=λM w h=>(hN M w h).1;refine iO (PK (bs s) n (J:=K∘.returned) cx λw G cx=>HX s cx λb w cx=>⟨_,rfl,rd b (s,false) :: S,Φ,aR,cx,?_⟩);refine dS (λp k c R' aX m=>∃ (st:FF) (acc:List ByteArray),k=acc.length/\R'=.buf p acc.length c (cW acc) 9 1 :: rd b st :: S/\aX=Φ/\st.1.length<m/\acc.length+st.1.length<=s.length/\(st.2=false->aM acc++st.1=s)/\a2s s n=a1p s n (oH m st n acc))
  ⟨⟨.buf none 0 0 (cW []) 9 1 :: rd b (s,false) :: S,Φ,s.length+1,aR,λw G cx=>cx.Q3 9 1,(s,false),[],rfl,rfl,rfl,Nat.lt_succ_self _,by simp,λ_=>rfl,rfl⟩,?_⟩
 rintro p k c R1 Φ m st ⟨rs,acc,rfl,rfl,rfl,hm,hal,hform,hread⟩;obtain ⟨m,rfl⟩:∃ x,m=x+1:=⟨m - 1,by omega⟩;have z7:∀ st',(st'.2=false->aM acc++st'.1=s)->oH (m+1) rs n acc=(acc,st')->∀ {w:World} {G:List Own},Ctx W w ((.buf p acc.length c (cW acc) 9 1 :: rd b st' :: S)++G) Φ->_:=λst' hf hlp {w G} cx =>
  aHU (S:=S) (G:=G) (K:=K) (n:=n) hT hs hf cx (λw he cx=>h0 p acc.length c w (by rw [hread,hlp];exact he) cx) (λw he cx=>h1 p c acc _ w (by rw [hread,hlp];exact he) (SB.buf p c acc) cx)
 refine Br.intro (λhlt=>λw G cx=>?_) (λhge=>λw G cx=>?_)
 .have hlt:=fV hlt;have e:oH (m+1) rs n acc=if rs.1.length<=(stepT rs).2.1.length\/rs.1=[] then (acc,(stepT rs).2) else oH m (stepT rs).2 n (acc++[(stepT rs).1]):=by
   conv=>lhs;unfold oH
   rw [if_pos hlt]
  have hf2:(stepT rs).2.2=false->aM acc++((oF (stepT rs).1).data.toList++(stepT rs).2.1)=s:=λhb=>by
   obtain ⟨h1,h2⟩:=a4b hb;rw [<-h2];exact hform h1
  refine a38 (S:=.buf p acc.length c (cW acc) 9 1 :: S) cx.swap (λw G cx=>a4a (S:=.buf p acc.length c (cW acc) 9 1 :: S) hN (by omega) cx (λw G cx=>a38 (S:=.buf p acc.length c (cW acc) 9 1 :: S) cx (Br.intro (λh2=>λw G cx=>?_) (λh2=>Br.intro (λh3=>λw G cx=>?_) (λh3=>λk w G cx=>?_)))))
  .rw [if_pos (.inl (by have:=fV h2;omega))] at e;exact z7 (stepT rs).2 (λhb=>by obtain ⟨h1,h2⟩:=a4b hb;exact absurd h1 (by
    intro h3;have:=hf2 hb;have e2:=congrArg List.length h2;rw [List.length_append,tT,List.length_append,List.length_cons,List.length_append,List.length_singleton] at e2;have:=fV ‹_›;omega)) e cx.swap
  .rw [if_pos (.inr (List.eq_nil_of_length_eq_zero (by have:=fV h3;omega)))] at e;have h0:rs.1=[]:=List.eq_nil_of_length_eq_zero (by have:=fV h3;omega);exact z7 (stepT rs).2 (λhb=>by rw [a2E h0] at hb;cases hb) e cx.swap
  .have h2:=eV h2;have h3:=eV h3;have hc:¬ (rs.1.length<=(stepT rs).2.1.length\/rs.1=[]):=λh=>h.elim (λh=>h2 (by omega)) (λh=>h3 (by rw [h];rfl));rw [if_neg hc] at e;have cx:Ctx W w (.blk k [.string (stepT rs).1] 9 :: .buf p acc.length c (cW acc) 9 1 :: rd b (stepT rs).2 :: (S++G)) Φ:=cx.perm (List.Perm.cons _ (List.Perm.swap _ _ _));obtain ⟨p',cap',w',hr,_,c2⟩:=cx.YQ (ts:=40) (ty:=40) (kb:=#[false,false]) (bytes:=16) (by kernel_rfl) (by decide) rfl rfl (by omega) (by decide)
   have es:cW acc++[.string (stepT rs).1]=cW (acc++[(stepT rs).1]):=by
    show _=List.map Value.string (acc++[(stepT rs).1]);rw [List.map_append];rfl
   have el:acc.length+1=(acc++[(stepT rs).1]).length:=by rw [List.length_append];rfl
   rw [es,el] at c2;rw [el] at hr;refine ⟨p',_,cap',w',hr,.buf p' (acc++[(stepT rs).1]).length cap' (cW (acc++[(stepT rs).1])) 9 1 :: rd b (stepT rs).2 :: S,Φ,aR,c2,_,Φ,m,aR,λw G cx=>cx,⟨_,acc++[(stepT rs).1],rfl,rfl,rfl,by omega,by rw [<-el];omega,λhb=>?_,by rw [hread,e]⟩,Nat.lt_succ_self _⟩;have:=hf2 hb;rw [mD,bM,show aM [(stepT rs).1]=(oF (stepT rs).1).data.toList by simp [aM]];exact this
 .have e:oH (m+1) rs n acc=(acc,rs):=by unfold oH;rw [if_neg (eV hge)]
  exact z7 rs hform e cx
end
structure JoP where
 jb:Nat
 cb:Nat
 p:Option Addr
 cap:Nat
 o:Own
abbrev joB(x:JoP)(q:DkP)(j:sE):List Value:=[.pointer (some ⟨q.db,0,none⟩),.int .i64 j.base,.pointer (some ⟨x.cb,0,none⟩),.slice x.p j.list.length x.cap,.int .i64 (j.bytes:Int),.bool j.broken]
abbrev fG(x:JoP)(q:DkP)(j:sE):List Own:=[x.o,.blk x.jb (joB x q j) 335,fN x.cb q j.cell]
def JoP.mv(x:JoP)(p:Option Addr)(cap:Nat)(o:Own):JoP:=⟨x.jb,x.cb,p,cap,o⟩
section
variable {W w:World}{S G:List Own}{Φ:PW}
theorem IL[aB Φ]{A X S G}(cx:Ctx W w ((A++(X++S))++G) Φ):Ctx W w (X++(A++(S++G))) Φ:=by
 rw [bM,bM] at cx;exact cx.perm (a2A _ _ _ _)
theorem tY[aB Φ]{A X S G}(cx:Ctx W w (X++(A++(S++G))) Φ):Ctx W w ((A++(X++S))++G) Φ:=by
 rw [bM,bM];exact cx.perm (a2A _ _ _ _)
theorem aV9[aB Φ]{a b c X S G}(cx:Ctx W w (([a,b,c]++(X++S))++G) Φ):Ctx W w (c :: (X++(a :: b :: (S++G)))) Φ :=
 IL (A:=[a,b]) (X:=c :: X) cx
theorem aP0[aB Φ]{a b c X S G}(cx:Ctx W w (c :: (X++(a :: b :: (S++G)))) Φ):Ctx W w (([a,b,c]++(X++S))++G) Φ :=
 tY (A:=[a,b]) (X:=c :: X) cx
theorem a7k[aB Φ]{q d}(hq:rW q d)(hkp:LN Φ q d)(hoff:∀ M w,Φ M w->uW M w)(hT:∀ M w,Φ M w->yB M w){x j b n}(hb:b<=1099511627776)(hn:n<=1099511627776)(cx:Ctx W w (fG x q j++(bQ q d++S)) Φ){K}(hk:∀ u w',rW (q.mv u) (sM d j b n).1->Ctx W w' (fG x q (sM d j b n).2.1++(bQ (q.mv u) (sM d j b n).1++S)) Φ->K (.returned (.int .i64 (sM d j b n).2.2)) w'):
  aG F.jD #[.pointer (some ⟨x.jb,0,none⟩),.int .i64 (b:Int),.int .i64 (n:Int)] w K:=by
 have h1:=fU (n:=(b:Int)) (by unfold bE;omega);have h2:=fU (n:=(n:Int)) (by unfold bE;omega);refine iO (yW x.jb 0 (b:Int) (n:Int) (J:=K∘.returned) cx ⟨_,Φ,aR,λw G cx=>cx,some ⟨x.cb,0,none⟩,λw G cx=>⟨_,cx.get 1 rfl rfl,rfl⟩,λw G cx=>(NA (Φ:=Φ) (.inl ⟨hT,by unfold bE;omega⟩)).use cx λw cx=>⟨_,rfl,_,Φ,aR,cx,λw G cx=>cx,λw G cx=>(NA (Φ:=Φ) (.inl ⟨hT,by unfold bE;omega⟩)).use cx λw cx=>⟨_,rfl,_,Φ,aR,cx,λw G cx=>cx,by show (oS (b:Int)).size+(oS (n:Int)).size<=_;omega,λw G cx=>?_⟩⟩⟩)
 have e:oS (b:Int)++oS (n:Int)=bs (NH b n):=by
  apply ByteArray.ext;apply Array.toList_inj.1;simp [NH,bs]
 rw [e];unfold sM at hk;refine a7h (S:=x.o :: .blk x.jb (joB x q j) 335 :: (S++G)) hq hkp hoff (aV9 cx) λu w hq1 cx=>?_;generalize wW d j.cell (NH b n)=r at hk hq1 cx;obtain ⟨d1,c1,e1⟩:=r;simp only at hk hq1 cx;refine ⟨e1,rfl,[x.o,.blk x.jb (joB x q j) 335,fN x.cb q c1]++(bQ (q.mv u) d1++S),Φ,aR,aP0 cx,λw G cx=>⟨cx.can 1 rfl (by show 5+1<=6;omega),λw' hw'=>?_⟩⟩;exact ⟨_,Φ,aR,cx.put 1 hw' rfl,λw G cx=>hk u w hq1 (Ctx.left cx)⟩
end
theorem ZS(d j l):(KP d j l).1.keep=d.keep:=by
 unfold KP;split
 .rw [o8,tW]
 .exact tW _ _ _ _
theorem a9U(d c s n):(LJ d c s n).1.keep=d.keep:=by
 unfold LJ
 repeat' split
 all_goals simp only [o8,tW]
theorem a2G(d c s):(wW d c s).1.keep=d.keep:=by
 unfold wW
 repeat' split
 all_goals simp only [o8,a9U]
theorem JV(d j b n):(sM d j b n).1.keep=d.keep:=a2G _ _ _
section
variable {W w:World}{S G:List Own}{Φ:PW}
theorem a9V[aB Φ]{q d}(hq:rW q d)(hkp:LN Φ q d)(hoff:∀ M w,Φ M w->uW M w)(hT:∀ M w,Φ M w->yB M w){x j}(hsb:SB x.p x.cap j.list x.o){lp lc l}(qU:∀ M w,Φ M w->Sl M w lp l)(hf:(aM l).length<=1000000000)(hb:j.bytes<=1000000000)(hn:j.list.length+l.length<100000000)(cx:Ctx W w (fG x q j++(bQ q d++S)) Φ){K}(hk:∀ u p c o w',SB p c (dX d j l).2.1.list o->rW (q.mv u) (dX d j l).1->Ctx W w' (fG (x.mv p c o) q (dX d j l).2.1++(bQ (q.mv u) (dX d j l).1++S)) Φ->K (.returned (.int .i64 (dX d j l).2.2)) w'):
  aG F.lG #[.pointer (some ⟨x.jb,0,none⟩),.slice lp l.length lc] w K:=by
 have hsame:∀ {e:Int} {w':World} {G:List Own},dX d j l=(d,j,e)->Ctx W w' ((fG x q j++(bQ q d++S))++G) Φ->K (.returned (.int .i64 e)) w':=by
  intro e w' G he cx;rw [he] at hk;exact hk q.un x.p x.cap x.o w' hsb hq (Ctx.left cx)
 refine iO (wN x.jb 0 lp l.length lc (J:=K∘.returned) cx λw G cx=>(a4m (Φ:=Φ) hT qU hf).use cx λw cx=>⟨_,rfl,_,Φ,aR,cx,λw G cx=>⟨_,cx.get 1 rfl rfl,Br.intro (λh=>λw G cx=>?_) (λh=>Br.intro (λh2=>λw G cx=>?_) (λh2=>λw G cx=>⟨(j.bytes:Int),cx.get 1 rfl rfl,?_,Br.intro (λh3=>λw G cx=>?_) (λh3=>?_)⟩))⟩⟩)
 .exact hsame (by unfold dX;rw [if_pos h]) cx
 .exact hsame (by unfold dX;rw [if_neg (by rw [h];simp),if_pos (List.eq_nil_of_length_eq_zero (by have:=fV h2;omega))]) cx
 .rw [bK];unfold bE;omega
 all_goals rw [bK] at *
 all_goals have h:¬ j.broken=true:=by rw [h];simp
 all_goals have h2:¬ l=[]:=λe=>eV h2 (by rw [e];rfl)
 .exact hsame (by unfold dX;rw [if_neg h,if_neg h2,if_pos (by have:=fV h3;omega)]) cx
 have h3:¬ 1048576<j.bytes+(aM l).length:=by have:=eV h3;omega
 have aWa:dX d j l=if (KP d j l).2≠0 then ((KP d j l).1,{ j with broken:=true },(KP d j l).2) else IC j (j.list++l) (j.bytes+(aM l).length) (sM (KP d j l).1 j (j.bytes+(aM l).length) (j.list.length+l.length)):=by
  unfold dX;rw [if_neg h,if_neg h2,if_neg h3]
 rw [aWa] at hk;have hlk:=ZS d j l;have nQ:KP d j l=if (cD d j.base j.bytes (aM l)).2=0 then bR (cD d j.base j.bytes (aM l)).1 j.base else cD d j.base j.bytes (aM l):=rfl
 clear aWa hsame;refine ⟨_,Φ,aR,λw G cx=>cx,some ⟨q.db,0,none⟩,λw G cx=>⟨_,cx.get 1 rfl rfl,rfl⟩,j.base,λw G cx=>⟨_,cx.get 1 rfl rfl,rfl⟩,(j.bytes:Int),λw G cx=>⟨_,cx.get 1 rfl rfl,rfl⟩,λw G cx=>?_⟩;have hwk:=tW d j.base j.bytes (aM l);refine TD (S:=fG x q j++(S++G)) hq hkp (by omega) (IL cx) λu w hq1 cx=>?_;generalize cD d j.base j.bytes (aM l)=r at nQ hq1 cx hwk;obtain ⟨d1,e1⟩:=r;simp only at nQ hq1 cx hwk
 refine ⟨e1,rfl,fG x q j++(bQ (q.mv u) d1++S),Φ,aR,tY cx,?_⟩;refine dS (λn R' aX=>∃ u,n=(KP d j l).2/\R'=fG x q j++(bQ (q.mv u) (KP d j l).1++S)/\aX=Φ/\rW (q.mv u) (KP d j l).1) ⟨Br.intro (λh4=>?_) (λh4=>?_),?_⟩
 .rw [if_pos (fV h4)] at nQ;refine ⟨_,Φ,aR,λw G cx=>cx,some ⟨q.db,0,none⟩,λw G cx=>⟨_,cx.get 1 rfl rfl,rfl⟩,j.base,λw G cx=>⟨_,cx.get 1 rfl rfl,rfl⟩,λw G cx=>?_⟩;refine CN (q:=q.mv u) (S:=fG x q j++(S++G)) hq1 (hkp.of hwk u) (IL cx) λu w qZ cx=>⟨_,rfl,fG x q j++(bQ (q.mv u) (bR d1 j.base).1++S),Φ,aR,tY cx,_,Φ,aR,λw G cx=>cx,u,by rw [nQ],by rw [nQ],rfl,by rw [nQ];exact qZ⟩
 .rw [if_neg (eV h4)] at nQ;exact ⟨_,Φ,aR,λw G cx=>cx,u,by rw [nQ],by rw [nQ],rfl,by rw [nQ];exact hq1⟩
 clear nQ hq1 cx hwk;rintro n R1 Φ st ⟨u,rfl,rfl,rfl,hq1⟩;generalize KP d j l=r at hk hq1 hlk;obtain ⟨d1,e1⟩:=r;simp only at hk hq1 hlk ⊢;refine Br.intro (λh4=>λw G cx=>⟨cx.can 1 rfl (by show 5+1<=6;omega),λw' hw'=>?_⟩) (λh4=>?_)
 .rw [if_pos (fV h4)] at hk;exact ⟨fG x q { j with broken:=true }++(bQ (q.mv u) d1++S),Φ,aR,cx.put 1 hw' rfl,λw G cx=>hk u x.p x.cap x.o w hsb hq1 (Ctx.left cx)⟩
 rw [if_neg (eV h4)] at hk;refine ⟨_,Φ,aR,λw G cx=>cx,(j.bytes:Int),λw G cx=>⟨_,cx.get 1 rfl rfl,rfl⟩,x.p,j.list.length,x.cap,λw G cx=>⟨_,_,_,cx.get 1 rfl rfl,rfl⟩,by unfold bE;omega,by unfold bE;omega,λw G cx=>?_⟩;rw [<-Int.natCast_add,<-Int.natCast_add];have hnk:=JV d1 j (j.bytes+(aM l).length) (j.list.length+l.length);refine a7k (S:=S++G) (q:=q.mv u) hq1 (hkp.of hlk u) hoff hT (by omega) (by omega) (by rw [<-bM (bQ _ _),<-bM];exact cx) λu w qZ cx=>?_
 have hnl:(sM d1 j (j.bytes+(aM l).length) (j.list.length+l.length)).2.1.list=j.list:=rfl;have hnb:(sM d1 j (j.bytes+(aM l).length) (j.list.length+l.length)).2.1.bytes=j.bytes:=rfl;generalize sM d1 j (j.bytes+(aM l).length) (j.list.length+l.length)=r at hk qZ cx hnk hnl hnb;obtain ⟨d2,j2,e2⟩:=r;simp only at hk qZ cx hnk hnl hnb;refine ⟨e2,rfl,fG x q j2++(bQ (q.mv u) d2++S),Φ,aR,by rw [<-bM (bQ _ _),<-bM] at cx;exact cx,Br.intro (λh5=>λw G cx=>?_) (λh5=>?_)⟩
 .have e:IC j (j.list++l) (j.bytes+(aM l).length) (d2,j2,e2)=(d2,j2,e2):=by unfold IC;rw [if_pos (fV h5)]
  rw [e] at hk;exact hk u x.p x.cap x.o w (by rw [hnl];exact hsb) qZ (Ctx.left cx)
 have e:IC j (j.list++l) (j.bytes+(aM l).length) (d2,j2,e2)=(d2,{ j2 with list:=j.list++l,bytes:=j.bytes+(aM l).length },0):=by unfold IC;rw [if_neg (eV h5)]
 rw [e] at hk;have hsub:∀ {o1 o2 o3:Own} {X:List Own},[o2].Sublist ([o1,o2,o3]++X):=fun {o1 o2 o3 X}=>.cons _ (.cons_cons _ (List.nil_sublist _));refine ⟨[],tru,aR,λw G cx=>dM cx (List.nil_sublist _),[.blk x.jb (joB x q j2) 335],tru,aR,λw G cx=>dM cx hsub,λw G cx=>⟨_,_,_,cx.get 1 rfl rfl,(j.bytes:Int),λw G cx=>⟨(j2.bytes:Int),cx.get 0 rfl rfl,by rw [hnb]⟩,by unfold bE;omega,λw G cx=>?_⟩⟩;rw [hnl];obtain ⟨p',cap',w',o',hr,b1m,c2⟩:=hsb.app (c2:=lc) (S:=.blk x.jb (joB x q j2) 335 :: fN x.cb q j2.cell :: ((bQ (q.mv u) d2++S)++G)) cx qU (List.length_pos_iff.2 h2) hn
 refine ⟨p',_,cap',w',hr,[o',.blk x.jb (joB x q j2) 335,fN x.cb q j2.cell]++(bQ (q.mv u) d2++S),Φ,aR,c2,λw G cx=>dM cx (List.nil_sublist _),λw G cx=>dM cx hsub,λw G cx=>⟨cx.can 1 rfl (by show 3+1<=6;omega),λw' hw'=>?_⟩⟩;refine ⟨[o',.blk x.jb ((joB x q j2).set 3 (.slice p' (j.list.length+l.length) cap')) 335,fN x.cb q j2.cell]++(bQ (q.mv u) d2++S),Φ,aR,cx.put 1 hw' rfl,λw G cx=>dM cx (List.nil_sublist _),trivial,λw G cx=>⟨cx.can 1 rfl (by show 4+1<=6;omega),λw' hw'=>?_⟩⟩
 rw [<-Int.natCast_add] at hw';refine ⟨[o',.blk x.jb (((joB x q j2).set 3 (.slice p' (j.list.length+l.length) cap')).set 4 (.int .i64 ((j.bytes+(aM l).length:Nat):Int))) 335,fN x.cb q j2.cell]++(bQ (q.mv u) d2++S),Φ,aR,cx.put 1 hw' rfl,λw G cx=>dM cx (List.nil_sublist _),trivial,λw G cx=>?_⟩;refine hk u p' cap' o' w b1m qZ ?_;have e3:joB (x.mv p' cap' o') q { j2 with list:=j.list++l,bytes:=j.bytes+(aM l).length }=((joB x q j2).set 3 (.slice p' (j.list.length+l.length) cap')).set 4 (.int .i64 ((j.bytes+(aM l).length:Nat):Int)):=by
  show [_,_,_,Value.slice p' (j.list++l).length cap',_,_]=_;rw [List.length_append];rfl
 show Ctx W w (o' :: .blk x.jb (joB (x.mv p' cap' o') q { j2 with list:=j.list++l,bytes:=j.bytes+(aM l).length }) 335 :: _) Φ;rw [e3];exact Ctx.left cx
end
end Go.Proofs.YtnlkemjhgdbfkaaGreatDoor
end

