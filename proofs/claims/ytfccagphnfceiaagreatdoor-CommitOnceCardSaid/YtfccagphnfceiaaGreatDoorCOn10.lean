/-
  A copy of lines;the reading of a state: walked.
-/
import Derived.Test.YtfccagphnfceiaaGreatDoorCOn9
import Derived.Test.YtfccagphnfceiaaGreatDoorCOn7
import Derived.Test.YtfccagphnfceiaaGreatDoorCOn6
import Derived.Test.YtfccagphnfceiaaGreatDoorCOn8
import Derived.Test.YtfccagphnfceiaaGreatDoorCOn5

set_option linter.unusedVariables false
set_option linter.unusedSimpArgs false
section
namespace Go.Proofs.YtfccagphnfceiaaGreatDoor
open Go.Vc
theorem loopC_z {b:Int} {st:RdS} {acc:List LineD}:loopC b 0 st acc=some (acc,st):=rfl
theorem loopC_nil {b:Int} {k:Nat} {st:RdS} {acc:List LineD} (h:st.1=[]):loopC b k st acc=some (acc,st):=by
  cases k with
  | zero=>rfl
  | succ k=>unfold loopC;rw [if_pos h]
theorem loopC_none {b:Int} {k:Nat} {st:RdS} {acc:List LineD} (h:st.1≠[]) (hl:lineR (rdInt st).1 b (rdInt st).2=none):loopC b (k+1) st acc=none:=by
  unfold loopC;rw [if_neg h,hl];rfl
theorem loopC_bad {b:Int} {k:Nat} {st:RdS} {acc:List LineD} {y:LineD × RdS} (h:st.1≠[]) (hl:lineR (rdInt st).1 b (rdInt st).2=some y) (hr:rightR y.1.row=false):loopC b (k+1) st acc=none:=by
  unfold loopC;rw [if_neg h,hl];simp only [Option.bind];rw [if_neg (by rw [hr];simp)]
theorem loopC_step {b:Int} {k:Nat} {st:RdS} {acc:List LineD} {y:LineD × RdS} (h:st.1≠[]) (hl:lineR (rdInt st).1 b (rdInt st).2=some y) (hr:rightR y.1.row=true):loopC b (k+1) st acc=loopC b k y.2 (acc++[y.1]):=by
  rw [loopC,if_neg h,hl];simp only [Option.bind];rw [if_pos hr]
theorem endC_of {s:Bs} {x:StC} {st:RdS}:endC s x st=if fineC x st=true∧formC x=s then some x else none:=by
  unfold endC
  simp only [Bool.and_eq_true,decide_eq_true_eq]
section
variable {W w:World} {S R G:List Own} {Φ:PW} {p:Option Addr} {cap b:Nat} {l:List LineD} {cs:List Value} {st:RdS}
set_option maxHeartbeats 1000000 in
theorem Cloned_new [Stable Φ] (src:Src S Φ p l cs) (hlen:l.length≤1000000) (hrow:∀ x∈l,x.row.length≤1000000) (c:Ctx W w S Φ) :
    Calls Tryz.prog F.commit_cloned #[.slice p l.length cap] w fun e w'=>∃ p' c' cs',e=.returned (.slice p' l.length c')∧Ctx W w' (bufL p' l.length c' cs' :: S) (fun M w=>Φ M w∧Elems M w cs' l):=by
  refine (Bcommit_cloned_run p l.length cap (J:=fun v w'=>∃ p' c' cs',v=.slice p' l.length c'∧Ctx W w' (bufL p' l.length c' cs' :: S) (fun M w=>Φ M w∧Elems M w cs' l)) c ?_).mono fun e w' ⟨v,he,p',c',cs',hv,rest⟩=>⟨p',c',cs',by rw [he,hv],rest⟩
  clear c
  refine fun w G c=>(CloneL_new (S:=S++G) src.app hlen c).mono fun e w' ⟨p1,c1,cs1,he,cx⟩=>⟨p1,l.length,c1,he,bufL p1 l.length c1 cs1 :: S,(fun M w=>Φ M w∧Elems M w cs1 l),inferInstance,cx,?_⟩
  clear c
  have hel:=cx.phi.2
  have hpt:0<l.length→∃ g,p1=some ⟨g,0,none⟩:=fun h0=>l_ptr cx (by rw [elems_len7 hel];omega)
  clear cx hel
  refine exI_mk (fun iI R' Φ' m=>∃ i cs2,iI=(i:Nat)∧i≤l.length∧R'=bufL p1 l.length c1 cs2 :: S∧Φ'=(fun M w=>Φ M w∧Elems M w cs2 l)∧m=l.length - i) ⟨⟨_,_,_,instStableAnd Φ (fun M w=>Elems M w cs1 l),fun w G cx=>cx,0,cs1,rfl,Nat.zero_le _,rfl,rfl,rfl⟩,?_⟩
  rintro iI R1 Φ1 m _ ⟨i,cs2,rfl,hi,rfl,rfl,rfl⟩
  refine Br.intro (fun hlt=>?_) (fun hge=>fun w G cx=>⟨p1,c1,cs2,rfl,cx.left⟩)
  have hlt:i<l.length:=by have:=of_decide_eq_true hlt;omega
  obtain ⟨g,rfl⟩:=hpt (by omega)
  have hst:Stable (fun M w=>Φ M w∧Elems M w cs2 l):=instStableAnd Φ (fun M w=>Elems M w cs2 l)
  refine ⟨by omega,ptrK_intro g 0 rfl fun w G cx=>?_⟩
  obtain ⟨p0,c0,hp,_,_,_,_⟩:=lrow cx.phi.2 hlt
  refine ⟨p0,l[i].row.length,c0,?_,fun w G cx=>?_⟩
  · have:=l_at (W:=W) (w:=w) (Φ:=fun M w=>Φ M w∧Elems M w cs2 l) (S:=S++G) cx hp
    rw [show 0+(i:Int).toNat*7+3=i*7+3 by omega]
    exact this 3 (by show 3<7;decide)
  have hrd:∀ M w,(Φ M w∧Elems M w cs2 l)→Sl M w p0 l[i].row:=fun M w h=>by
    have:=h.2.2 i hlt
    rw [show (Gv.ty LineD).size=7 from rfl,hp] at this
    exact line_row this
  have hh:Has (fun M w=>Φ M w∧Elems M w cs2 l) (fun M w=>Sl M w p0 l[i].row):=⟨hrd⟩
  refine (CloneV_sl (r:=l[i].row) (hrow _ (List.getElem_mem _))).to cx fun p3 c3 f1 f2 st3=>?_
  clear cx
  refine ⟨by omega,ptrK_intro g 0 rfl fun w G cx=>⟨?_,fun w2 hw2=>?_⟩⟩
  · have hl:=elems_len7 cx.phi.1.2
    exact l_can (S:=S++G) cx (by omega)
  · have cx2:Ctx W w (bufL (some ⟨g,0,none⟩) l.length c1 cs2 :: (S++G)) (fun M w=>(Φ M w∧Sl M w p3 l[i].row)∧Elems M w cs2 l):=cx.weak fun M w h=>⟨⟨h.1.1,h.2⟩,h.1.2⟩
    have st5:Stable (fun M w=>Sl M w p3 l[i].row):=instStableSl p3 l[i].row
    have st4:Stable (fun M w=>Φ M w∧Sl M w p3 l[i].row):=@instStableAnd Φ (fun M w=>Sl M w p3 l[i].row) _ st5
    obtain ⟨cs3,cx3⟩:=l_row (w':=w2) (Φ:=fun M w=>Φ M w∧Sl M w p3 l[i].row) cx2 hlt f1 f2 (fun M w h=>h.2) (by rw [hw2];congr 2;omega)
    exact ⟨bufL (some ⟨g,0,none⟩) l.length c1 cs3 :: S,_,instStableAnd Φ (fun M w=>Elems M w cs3 l),cx3.weak fun M w h=>⟨h.1.1,h.2⟩,by unfold I64;omega,_,_,l.length - (i+1),instStableAnd Φ (fun M w=>Elems M w cs3 l),fun w G cx=>cx,⟨i+1,cs3,rfl,hlt,rfl,rfl,rfl⟩,by omega⟩
theorem Cloned_sl [Stable Φ] [hΦ:Has Φ (fun M w=>Sl M w p l)] (hlen:l.length≤1000000) (hrow:∀ x∈l,x.row.length≤1000000):GivesSl Φ Tryz.prog F.commit_cloned #[.slice p l.length cap] l id :=
  .there (fun M w h=>(hΦ.go M w h).there) fun hth=>⟨fun W w S c=>by
    obtain ⟨cs,c1⟩:=srcOf c (hΦ.go _ _ c.phi)
    refine (Cloned_new (S:=S) (Φ:=fun M w=>Φ M w∧SrcF p l cs M w) (src_fact (Φ:=fun M w=>Φ M w∧SrcF p l cs M w) hth (fun M w h=>h.2)).app hlen hrow c1).mono fun e w' ⟨p',c',cs',he,cx⟩=>?_
    obtain ⟨c2,hs,_,h2,h3⟩:=Ctx.freeze (α:=LineD) cx cx.phi.2
    exact ⟨p',c',he,h2,h3,(c2.add hs).weak fun M w h=>⟨h.1.1.1,h.2⟩⟩⟩
theorem RNum_toE [Stable Φ] (hΦ:∀ M w,Φ M w→NumI M w) (hl:st.1.length≤1000000000) {n:Int} {s1:RdS} (e:rdNat st=(n,s1)) (c:Ctx W w (rd b st :: S++G) Φ) {K:Int→List Own→PW→Prop}
    (hk:K n (rd b s1 :: S) Φ) :
    Calls Tryz.prog F.wire_Reader_Num #[.pointer (some ⟨b,0,none⟩)] w fun e w'=>∃ n,e=.returned (.int .i64 n)∧∃ R' Φ',Stable Φ'∧Ctx W w' (R'++G) Φ'∧K n R' Φ' :=
  RNum_to hΦ (by omega) c (by rw [e];exact hk)
theorem Text_toE [Stable Φ] (hΦ:∀ M w,Φ M w→NumI M w) (hl:st.1.length≤1000000000) {n:ByteArray} {s1:RdS} (e:stepT st=(n,s1)) (c:Ctx W w (rd b st :: S++G) Φ) {K:ByteArray→List Own→PW→Prop}
    (hk:K n (rd b s1 :: S) Φ) :
    Calls Tryz.prog F.wire_Reader_Text #[.pointer (some ⟨b,0,none⟩)] w fun e w'=>∃ n,e=.returned (.string n)∧∃ R' Φ',Stable Φ'∧Ctx W w' (R'++G) Φ'∧K n R' Φ' :=
  Text_to hΦ (by omega) c (by rw [e];exact hk)
theorem fill4 [Stable Φ] {o:Own} {kb:Nat} {a0 a1 a2 b3 b4 b5 b6 v3 v4 v5 v6:Value} {K:List Own→PW→Prop} (cx:Ctx W w ((o :: .blk kb [a0,a1,a2,b3,b4,b5,b6] 31 :: R)++G) Φ) (hk:K (o :: .blk kb [a0,a1,a2,v3,v4,v5,v6] 31 :: R) Φ) :
    CanWrite w kb (0+3) 1∧∀ w',w'=w.setCell ⟨kb,0+3,none⟩ v3→∃ R1 Φ1,Stable Φ1∧Ctx W w' (R1++G) Φ1∧∀ w G,Ctx W w (R1++G) Φ1 →
      CanWrite w kb (0+4) 1∧∀ w',w'=w.setCell ⟨kb,0+4,none⟩ v4→∃ R2 Φ2,Stable Φ2∧Ctx W w' (R2++G) Φ2∧∀ w G,Ctx W w (R2++G) Φ2 →
        CanWrite w kb (0+5) 1∧∀ w',w'=w.setCell ⟨kb,0+5,none⟩ v5→∃ R3 Φ3,Stable Φ3∧Ctx W w' (R3++G) Φ3∧∀ w G,Ctx W w (R3++G) Φ3 →
          CanWrite w kb (0+6) 1∧∀ w',w'=w.setCell ⟨kb,0+6,none⟩ v6→∃ R4 Φ4,Stable Φ4∧Ctx W w' (R4++G) Φ4∧K R4 Φ4 :=
  ⟨cx.can 1 rfl (by simp),fun w1 h1=>⟨o :: .blk kb [a0,a1,a2,v3,b4,b5,b6] 31 :: R,Φ,inferInstance,cx.put 1 h1 rfl,fun w G cx =>
    ⟨cx.can 1 rfl (by simp),fun w1 h1=>⟨o :: .blk kb [a0,a1,a2,v3,v4,b5,b6] 31 :: R,Φ,inferInstance,cx.put 1 h1 rfl,fun w G cx =>
      ⟨cx.can 1 rfl (by simp),fun w1 h1=>⟨o :: .blk kb [a0,a1,a2,v3,v4,v5,b6] 31 :: R,Φ,inferInstance,cx.put 1 h1 rfl,fun w G cx =>
        ⟨cx.can 1 rfl (by simp),fun w1 h1=>⟨o :: .blk kb [a0,a1,a2,v3,v4,v5,v6] 31 :: R,Φ,inferInstance,cx.put 1 h1 rfl,hk⟩⟩⟩⟩⟩⟩⟩⟩
abbrev stZ (k:Nat):Own:=.blk k (stCells stC0 none 0) 100
set_option maxHeartbeats 4000000 in
theorem ReadC_use [Stable Φ] (hN:∀ M w,Φ M w→NumI M w) {s:Bs} (hs:s.length≤1000000) (cx:Ctx W w S Φ) {K:Ending→World→Prop}
    (h0:∀ (y:StC) (p:Option Addr) (n c:Nat) w',readC s=none→Ctx W w' S Φ→K (.returned (.tuple #[.agg #[.int .i64 y.last,.int .i64 y.phase,.string y.check,.int .i64 y.batch,.int .i64 y.mark,.string y.next,.slice p n c],.bool false])) w')
    (h1:∀ x p c w',readC s=some x→StF x→(∀ y∈x.lines,y.batch=x.batch∧rightR y.row=true)→x.lines.length≤s.length→x.lines.length≤c→c≤maxLen→Ctx W w' S (fun M w=>Φ M w∧Sl M w p x.lines)→K (.returned (.tuple #[stV x p c,.bool true])) w') :
    Calls Tryz.prog F.commit_read #[.string (bs s)] w K:=by
  have hT:∀ M w,Φ M w→TabI M w:=fun M w h=>(hN M w h).1
  refine (Bcommit_read_run (bs s) (J:=fun u w'=>K (.returned u) w') cx fun k0 w G cx=>?_).mono fun e w' ⟨v,he,hj⟩=>by rw [he];exact hj
  refine Open_use s cx fun b w cx=>⟨_,rfl,rd b (s,false) :: (stZ k0 :: S),Φ,inferInstance,cx,fun w G cx=>?_⟩
  obtain ⟨⟨n1,s1⟩,e1⟩:∃ x,rdInt (s,false)=x:=⟨_,rfl⟩
  obtain ⟨⟨n2,s2⟩,e2⟩:∃ x,rdInt s1=x:=⟨_,rfl⟩
  obtain ⟨⟨t3,s3⟩,e3⟩:∃ x,stepT s2=x:=⟨_,rfl⟩
  have hread:readC s=if n2=0 then endC s ⟨n1,n2,t3,0,0,.empty,[]⟩ s3 else readC2 s n1 n2 t3 s3:=by
    unfold readC
    rw [e1];simp only
    rw [e2];simp only
    rw [e3]
  have l1:=rdInt_len (s,false)
  have l2:=rdInt_len s1
  obtain ⟨l3,l3t⟩:=stepT_len s2
  have i1:=rdInt_i64 (s,false)
  have i2:=rdInt_i64 s1
  rw [e1] at l1 i1
  rw [e2] at l2 i2
  rw [e3] at l3 l3t
  simp only at l1 l2 l3 l3t i1 i2
  refine RInt_toE (S:=stZ k0 :: S) hN (by show s.length≤_;omega) e1 cx (fun w G cx=>RInt_toE (S:=stZ k0 :: S) hN (by omega) e2 cx (fun w G cx=>Text_toE (S:=stZ k0 :: S) hN (by omega) e3 cx (fun _=>?_)))
  clear cx
  refine exI_mk (fun last phase check batch mark next p k c R' Φ'=>∃ (st:RdS) (acc:List LineD) (ds:List Value),k=acc.length∧R'=bufL p acc.length c ds :: rd b st :: (stZ k0 :: S)∧Φ'=(fun M w=>Φ M w∧Elems M w ds acc)∧readC s=endC s ⟨last,phase,check,batch,mark,next,acc⟩ st∧acc.length≤s.length∧(∀ x∈acc,x.batch=batch∧rightR x.row=true)∧(I64 last∧I64 phase∧I64 batch∧I64 mark)∧check.size≤s.length∧next.size≤s.length) ⟨Br.intro (fun hp=>?_) (fun hp=>?_),?_⟩
  · -- a batch
    have hp:n2≠0:=of_decide_eq_true hp
    rw [if_neg hp] at hread
    obtain ⟨⟨n4,s4⟩,e4⟩:∃ x,rdInt s3=x:=⟨_,rfl⟩
    obtain ⟨⟨n5,s5⟩,e5⟩:∃ x,rdInt s4=x:=⟨_,rfl⟩
    obtain ⟨⟨t6,s6⟩,e6⟩:∃ x,stepT s5=x:=⟨_,rfl⟩
    obtain ⟨⟨n7,s7⟩,e7⟩:∃ x,rdNat s6=x:=⟨_,rfl⟩
    have hread:readC s=(loopC n4 n7.toNat s7 []).bind fun y=>endC s ⟨n1,n2,t3,n4,n5,t6,y.1⟩ y.2:=by
      rw [hread]
      unfold readC2
      rw [e4];simp only
      rw [e5];simp only
      rw [e6];simp only
      rw [e7]
    have l4:=rdInt_len s3
    have l5:=rdInt_len s4
    obtain ⟨l6,l6t⟩:=stepT_len s5
    have l7:(rdNat s6).2.1.length≤s6.1.length:=stepN_len 59 0 s6
    have i4:=rdInt_i64 s3
    have i5:=rdInt_i64 s4
    have i7:0≤(rdNat s6).1∧(rdNat s6).1≤9223372036854775807:=stepN_nonneg (e:=59) (.inr (.inl rfl)) s6
    rw [e4] at l4 i4
    rw [e5] at l5 i5
    rw [e6] at l6 l6t
    rw [e7] at l7 i7
    simp only at l4 l5 l6 l6t l7 i4 i5 i7
    refine fun w G cx=>RInt_toE (S:=stZ k0 :: S) hN (by omega) e4 cx (fun w G cx=>RInt_toE (S:=stZ k0 :: S) hN (by omega) e5 cx (fun w G cx=>Text_toE (S:=stZ k0 :: S) hN (by omega) e6 cx (fun w G cx=>RNum_toE (S:=stZ k0 :: S) hN (by omega) e7 cx ?_)))
    clear cx
    refine exI_mk (fun n last phase check batch mark next p k c R' Φ' m=>∃ (sl:RdS) (acc:List LineD) (ds:List Value),(last=n1∧phase=n2∧check=t3∧batch=n4∧mark=n5∧next=t6)∧k=acc.length∧R'=bufL p acc.length c ds :: rd b sl :: (stZ k0 :: S)∧Φ'=(fun M w=>Φ M w∧Elems M w ds acc)∧m=n.toNat∧acc.length*7+sl.1.length≤s.length∧(∀ x∈acc,x.batch=n4∧rightR x.row=true)∧(0≤n∧n≤9223372036854775807)∧loopC n4 n7.toNat s7 []=loopC n4 n.toNat sl acc)
      ⟨⟨bufL none 0 0 [] :: rd b s7 :: (stZ k0 :: S),fun M w=>Φ M w∧Elems M w [] ([]:List LineD),n7.toNat,inferInstance,fun w G cx=>(cx.nobuf 31 7).weak fun M w h=>⟨h,Elems.nil⟩,s7,[],[],⟨rfl,rfl,rfl,rfl,rfl,rfl⟩,rfl,rfl,rfl,rfl,by simp only [List.length_nil];omega,by simp,i7,rfl⟩,?_⟩
    rintro n last phase check batch mark next p k c R1 Φ1 m _ ⟨sl,acc,ds,⟨rfl,rfl,rfl,rfl,rfl,rfl⟩,rfl,rfl,rfl,rfl,hal,har,hn,hlr⟩
    have hst1:Stable (fun M w=>Φ M w∧Elems M w ds acc):=inferInstance
    have hT1:∀ M w,(Φ M w∧Elems M w ds acc)→NumI M w:=fun M w h=>hN M w h.1
    have done:loopC batch n.toNat sl acc=some (acc,sl)→readC s=endC s ⟨last,phase,check,batch,mark,next,acc⟩ sl:=fun h=>by rw [hread,hlr,h];rfl
    refine Br.intro (fun hpos=>fun w G cx=>?_) (fun hneg=>?_)
    rotate_left 1
    · have hneg:=of_decide_eq_false hneg
      exact ⟨_,_,hst1,fun w G cx=>cx,sl,acc,ds,rfl,rfl,rfl,done (by rw [show n.toNat=0 by omega];exact loopC_z),by omega,har,⟨i1,i2,i4,i5⟩,by omega,by omega⟩
    have hpos:=of_decide_eq_true hpos
    refine Left_to (S:=bufL p acc.length c ds :: (stZ k0 :: S)) cx.swap (Br.intro (fun hl=>?_) (fun hl=>?_))
    rotate_left 1
    · have hl:sl.1=[]:=List.eq_nil_of_length_eq_zero (by have:=of_decide_eq_false hl;omega)
      exact ⟨bufL p acc.length c ds :: rd b sl :: (stZ k0 :: S),_,hst1,fun w G cx=>cx.swap,sl,acc,ds,rfl,rfl,rfl,done (loopC_nil hl),by omega,har,⟨i1,i2,i4,i5⟩,by omega,by omega⟩
    have hl:sl.1≠[]:=fun e=>by have:=of_decide_eq_true hl;rw [e] at this;simp at this
    clear cx
    obtain ⟨⟨m1,u1⟩,f1⟩:∃ x,rdInt sl=x:=⟨_,rfl⟩
    obtain ⟨⟨m2,u2⟩,f2⟩:∃ x,rdInt u1=x:=⟨_,rfl⟩
    obtain ⟨⟨t4,u3⟩,f3⟩:∃ x,stepT u2=x:=⟨_,rfl⟩
    obtain ⟨⟨m5,u4⟩,f4⟩:∃ x,rdInt u3=x:=⟨_,rfl⟩
    obtain ⟨⟨m6,u5⟩,f5⟩:∃ x,rdInt u4=x:=⟨_,rfl⟩
    obtain ⟨⟨m7,u6⟩,f6⟩:∃ x,rdInt u5=x:=⟨_,rfl⟩
    have q0:=rdInt_len sl
    have q1:=rdInt_len u1
    obtain ⟨q2,q3⟩:=stepT_len u2
    have q4:=rdInt_len u3
    have q5:=rdInt_len u4
    have q6:=rdInt_len u5
    have j1:=rdInt_i64 sl
    rw [f1] at q0 j1
    rw [f2] at q1
    rw [f3] at q2 q3
    rw [f4] at q4
    rw [f5] at q5
    rw [f6] at q6
    simp only at q0 q1 q2 q3 q4 q5 q6 j1
    have hkk:n.toNat=(n - 1).toNat+1:=by omega
    have hlin:∀ {r:List ValD},readRowP t4.data.toList=some r→lineR (rdInt sl).1 batch (rdInt sl).2=some (⟨m1,batch,m2,r,m5,m6,m7⟩,u6):=fun {r} hr=>by
      rw [f1]
      simp only
      rw [lineR_some (r:=r) (by rw [f2];simp only;rw [f3];exact hr)]
      unfold rdL
      rw [f2];simp only
      rw [f3];simp only
      rw [f4];simp only
      rw [f5];simp only
      rw [f6]
    refine exI_mk (fun kb ko R' Φ'=>ko=0∧R'=.blk kb [.int .i64 m1,.int .i64 batch,.int .i64 m2,.slice none 0 0,.int .i64 0,.int .i64 0,.int .i64 0] 31 :: rd b u2 :: (bufL p acc.length c ds :: (stZ k0 :: S))∧Φ'=(fun M w=>Φ M w∧Elems M w ds acc)) ⟨⟨[],tru,inferInstance,fun w G cx=>cut_to cx (List.nil_sublist _),?_,?_,trivial⟩,?_⟩
    · refine fun w G cx=>RInt_toE (S:=bufL p acc.length c ds :: (stZ k0 :: S)) hT1 (by omega) f1 cx ⟨fun w G cx=>cut_to cx (List.nil_sublist _),?_,?_,trivial⟩
      · refine fun w G cx=>RInt_toE (S:=bufL p acc.length c ds :: (stZ k0 :: S)) hT1 (by omega) f2 cx ⟨fun w G cx=>cut_to cx (List.nil_sublist _),?_,trivial⟩
        refine fun kb=>⟨fun w G cx=>cut_to cx (List.nil_sublist _),fun w G cx=>⟨cx.can 0 rfl (by simp),fun w' hw'=>⟨.blk kb [.int .i64 m1,.int .i64 batch,.int .i64 m2,.slice none 0 0,.int .i64 0,.int .i64 0,.int .i64 0] 31 :: rd b u2 :: (bufL p acc.length c ds :: (stZ k0 :: S)),_,hst1,cx.puts 0 hw' rfl,.blk kb [.int .i64 m1,.int .i64 batch,.int .i64 m2,.slice none 0 0,.int .i64 0,.int .i64 0,.int .i64 0] 31 :: rd b u2 :: (bufL p acc.length c ds :: (stZ k0 :: S)),_,hst1,fun w G cx=>cx,rfl,rfl,rfl⟩⟩⟩
      · refine fun kb=>⟨fun w G cx=>cut_to cx (List.nil_sublist _),fun w G cx=>?_,trivial⟩
        refine RInt_toE (S:=.blk kb [.int .i64 0,.int .i64 0,.int .i64 0,.slice none 0 0,.int .i64 0,.int .i64 0,.int .i64 0] 31 :: bufL p acc.length c ds :: (stZ k0 :: S)) hT1 (by omega) f2 cx.swap ⟨fun w G cx=>cut_to cx (List.nil_sublist _),fun w G cx=>⟨cx.can 1 rfl (by simp),fun w' hw'=>⟨rd b u2 :: .blk kb [.int .i64 m1,.int .i64 batch,.int .i64 m2,.slice none 0 0,.int .i64 0,.int .i64 0,.int .i64 0] 31 :: (bufL p acc.length c ds :: (stZ k0 :: S)),_,hst1,cx.puts 1 hw' rfl,.blk kb [.int .i64 m1,.int .i64 batch,.int .i64 m2,.slice none 0 0,.int .i64 0,.int .i64 0,.int .i64 0] 31 :: rd b u2 :: (bufL p acc.length c ds :: (stZ k0 :: S)),_,hst1,fun w G cx=>cx.swap,rfl,rfl,rfl⟩⟩⟩
    · refine fun kb=>⟨fun w G cx=>cut_to cx (List.nil_sublist _),fun w G cx=>?_,trivial⟩
      refine RInt_toE (S:=.blk kb [.int .i64 0,.int .i64 0,.int .i64 0,.slice none 0 0,.int .i64 0,.int .i64 0,.int .i64 0] 31 :: bufL p acc.length c ds :: (stZ k0 :: S)) hT1 (by omega) f1 cx.swap ⟨fun w G cx=>cut_to cx (List.nil_sublist _),fun w G cx=>?_,trivial⟩
      refine RInt_toE (S:=.blk kb [.int .i64 0,.int .i64 0,.int .i64 0,.slice none 0 0,.int .i64 0,.int .i64 0,.int .i64 0] 31 :: bufL p acc.length c ds :: (stZ k0 :: S)) hT1 (by omega) f2 cx ⟨fun w G cx=>cut_to cx (List.nil_sublist _),fun w G cx=>⟨cx.can 1 rfl (by simp),fun w' hw'=>⟨rd b u2 :: .blk kb [.int .i64 m1,.int .i64 batch,.int .i64 m2,.slice none 0 0,.int .i64 0,.int .i64 0,.int .i64 0] 31 :: (bufL p acc.length c ds :: (stZ k0 :: S)),_,hst1,cx.puts 1 hw' rfl,.blk kb [.int .i64 m1,.int .i64 batch,.int .i64 m2,.slice none 0 0,.int .i64 0,.int .i64 0,.int .i64 0] 31 :: rd b u2 :: (bufL p acc.length c ds :: (stZ k0 :: S)),_,hst1,fun w G cx=>cx.swap,rfl,rfl,rfl⟩⟩⟩
    rintro kb ko R1 Φ1 _ ⟨rfl,rfl,rfl⟩
    have bad:loopC batch n.toNat sl acc=none→readC s=none:=fun h=>by rw [hread,hlr,h];rfl
    refine fun w G cx=>Text_toE (S:=.blk kb [.int .i64 m1,.int .i64 batch,.int .i64 m2,.slice none 0 0,.int .i64 0,.int .i64 0,.int .i64 0] 31 :: (bufL p acc.length c ds :: (stZ k0 :: S))) hT1 (by omega) f3 cx.swap ?_
    clear cx
    refine fun w G cx=>ReadRowS_to (R:=rd b u3 :: .blk kb [.int .i64 m1,.int .i64 batch,.int .i64 m2,.slice none 0 0,.int .i64 0,.int .i64 0,.int .i64 0] 31 :: (bufL p acc.length c ds :: (stZ k0 :: S))) hT1 t4 (by omega) cx (fun hn=>?_) (fun r rp rc hr g1 g2 hst6=>?_)
    · clear cx
      refine fun w G cx=>RInt_toE (S:=.blk kb [.int .i64 m1,.int .i64 batch,.int .i64 m2,.slice none 0 0,.int .i64 0,.int .i64 0,.int .i64 0] 31 :: (bufL p acc.length c ds :: (stZ k0 :: S))) hT1 (by omega) f4 cx (fun w G cx=>RInt_toE (S:=.blk kb [.int .i64 m1,.int .i64 batch,.int .i64 m2,.slice none 0 0,.int .i64 0,.int .i64 0,.int .i64 0] 31 :: (bufL p acc.length c ds :: (stZ k0 :: S))) hT1 (by omega) f5 cx (fun w G cx=>RInt_toE (S:=.blk kb [.int .i64 m1,.int .i64 batch,.int .i64 m2,.slice none 0 0,.int .i64 0,.int .i64 0,.int .i64 0] 31 :: (bufL p acc.length c ds :: (stZ k0 :: S))) hT1 (by omega) f6 cx (fun w G cx=>?_)))
      refine fill4 cx (Br.intro (fun _=>fun w G cx=>⟨cx.can 3 rfl (by simp),fun w' hw'=>⟨rd b u6 :: .blk kb [.int .i64 m1,.int .i64 batch,.int .i64 m2,.slice none 0 0,.int .i64 m5,.int .i64 m6,.int .i64 m7] 31 :: (bufL p acc.length c ds :: (stZ k0 :: S)),_,hst1,cx.puts 3 hw' rfl,fun w G cx=>⟨_,_,_,_,_,_,_,_,_,cx.row0 3 rfl,fun w G cx=>?_⟩⟩⟩) (fun h=>by cases h))
      refine h0 stC0 none 0 0 w (bad (by rw [hkk];exact loopC_none hl (by rw [f1];exact lineR_none (by rw [f2];simp only;rw [f3];exact hn)))) ?_
      exact ((((cx.drop1).drop1).drop1).drop1).left.weak fun M w h=>h.1
    · clear cx
      have hT6:∀ M w,((Φ M w∧Elems M w ds acc)∧Sl M w rp r)→NumI M w:=fun M w h=>hN M w h.1.1
      refine fun w G cx=>RInt_toE (S:=.blk kb [.int .i64 m1,.int .i64 batch,.int .i64 m2,.slice none 0 0,.int .i64 0,.int .i64 0,.int .i64 0] 31 :: (bufL p acc.length c ds :: (stZ k0 :: S))) hT6 (by omega) f4 cx (fun w G cx=>RInt_toE (S:=.blk kb [.int .i64 m1,.int .i64 batch,.int .i64 m2,.slice none 0 0,.int .i64 0,.int .i64 0,.int .i64 0] 31 :: (bufL p acc.length c ds :: (stZ k0 :: S))) hT6 (by omega) f5 cx (fun w G cx=>RInt_toE (S:=.blk kb [.int .i64 m1,.int .i64 batch,.int .i64 m2,.slice none 0 0,.int .i64 0,.int .i64 0,.int .i64 0] 31 :: (bufL p acc.length c ds :: (stZ k0 :: S))) hT6 (by omega) f6 cx (fun w G cx=>?_)))
      obtain ⟨y,hy⟩:∃ y:LineD,(⟨m1,batch,m2,r,m5,m6,m7⟩:LineD)=y:=⟨_,rfl⟩
      have hyc:y.cells rp rc=[.int .i64 m1,.int .i64 batch,.int .i64 m2,.slice rp r.length rc,.int .i64 m5,.int .i64 m6,.int .i64 m7]:=by rw [←hy]
      have hyr:y.row=r:=by rw [←hy]
      have hyb:y.batch=batch:=by rw [←hy]
      have hli:=hlin hr
      rw [hy] at hli
      obtain ⟨z1,z2,z3,z4,z5,z6,z7,z8,z9⟩:=line_eats (by rw [f1] at hli;exact hli)
      have z1:u6.1.length+7≤u1.1.length:=z1
      have hin:y.In:=⟨by rw [z8];exact j1,by rw [hyb];exact i4,z4,z5,z6,z7⟩
      have q7:u6.1.length+7≤sl.1.length:=by omega
      refine fill4 cx (Br.intro (fun h=>by cases h) (fun _=>fun w G cx=>?_))
      rw [←hyc] at cx
      have hh:Has (fun M w=>(Φ M w∧Elems M w ds acc)∧Sl M w rp r) (fun M w=>Sl M w rp r):=⟨fun M w h=>h.2⟩
      refine (RightRow_in (r:=r)).toB cx (Br.intro (fun hb=>fun w G cx=>?_) (fun hb=>fun w G cx=>?_))
      · refine ⟨cx.can 3 rfl (by simp),fun w' hw'=>⟨rd b u6 :: .blk kb (y.cells rp rc) 31 :: (bufL p acc.length c ds :: (stZ k0 :: S)),_,hst6,cx.puts 3 hw' rfl,fun w G cx=>⟨_,_,_,_,_,_,_,_,_,cx.row0 3 rfl,fun w G cx=>?_⟩⟩⟩
        refine h0 stC0 none 0 0 w (bad (by rw [hkk];exact loopC_bad hl hli (by rw [hyr];simpa using hb))) ?_
        exact ((((cx.drop1).drop1).drop1).drop1).left.weak fun M w h=>h.1.1
      have hb:rightR r=true:=by simpa using hb
      refine ⟨m1,batch,m2,rp,r.length,rc,m5,m6,m7,by rw [←hyc];exact cx.row0 1 rfl,fun kb2 w G cx=>?_⟩
      rw [←hyc] at cx
      have cx1:Ctx W w (.blk kb2 (y.cells rp rc) 31 :: .buf p acc.length c ds 31 7 :: (rd b u6 :: .blk kb (y.cells rp rc) 31 :: (stZ k0 :: S))++G) (fun M w=>(Φ M w∧Sl M w rp r)∧Elems M w ds acc):=(cx.perm (List.Perm.cons _ (by
        show (rd b u6 :: Own.blk kb (y.cells rp rc) 31 :: bufL p acc.length c ds :: ((stZ k0 :: S)++G)).Perm (bufL p acc.length c ds :: rd b u6 :: Own.blk kb (y.cells rp rc) 31 :: ((stZ k0 :: S)++G))
        exact ((List.Perm.swap _ _ _).cons _).trans (List.Perm.swap _ _ _)))).weak fun M w h=>⟨⟨h.1.1,h.2⟩,h.1.2⟩
      obtain ⟨p',c',w',hrun,cx'⟩:=pushK (PS:=fun M w=>Φ M w∧Sl M w rp r) (fun M w h=>rep_line (by rw [hyr];exact g1) g2 hin (by rw [hyr];exact h.2)) (by omega) cx1
      have hst8:Stable (fun M w=>Φ M w∧Elems M w (ds++y.cells rp rc) (acc++[y])):=inferInstance
      refine ⟨p',_,c',w',hrun,bufL p' (acc++[y]).length c' (ds++y.cells rp rc) :: rd b u6 :: .blk kb (y.cells rp rc) 31 :: (stZ k0 :: S),_,hst8,cx'.weak fun M w h=>⟨h.1.1,h.2⟩,by unfold I64;omega,bufL p' (acc++[y]).length c' (ds++y.cells rp rc) :: rd b u6 :: (stZ k0 :: S),_,(n - 1).toNat,hst8,fun w G cx=>cx.sub ((((List.sublist_cons_self _ _).cons_cons _).cons_cons _)),⟨u6,acc++[y],ds++y.cells rp rc,⟨rfl,rfl,rfl,rfl,rfl,rfl⟩,rfl,rfl,rfl,rfl,by rw [List.length_append,List.length_singleton];omega,fun z hz=>?_,⟨by omega,by omega⟩,by rw [hlr,hkk];exact loopC_step hl hli (by rw [hyr];exact hb)⟩,by omega⟩
      rcases List.mem_append.1 hz with hz|hz
      · exact har z hz
      · rw [List.mem_singleton.1 hz];exact ⟨hyb,by rw [hyr];exact hb⟩
  · -- no batch
    have hp:n2=0:=Decidable.not_not.1 (of_decide_eq_false hp)
    rw [if_pos hp] at hread
    exact ⟨bufL none 0 0 [] :: rd b s3 :: (stZ k0 :: S),fun M w=>Φ M w∧Elems M w [] ([]:List LineD),inferInstance,fun w G cx=>(cx.nobuf 31 7).weak fun M w h=>⟨h,Elems.nil⟩,s3,[],[],rfl,rfl,rfl,hread,Nat.zero_le _,(fun x hx=>by cases hx),⟨i1,i2,by unfold I64;decide,by unfold I64;decide⟩,by omega,Nat.zero_le _⟩
  clear hread
  rintro last phase check batch mark next p k c R1 Φ1 _ ⟨st,acc,ds,rfl,rfl,rfl,hread,hal,har,hi,hck,hnx⟩
  have hst1:Stable (fun M w=>Φ M w∧Elems M w ds acc):=inferInstance
  obtain ⟨x,hx⟩:∃ x:StC,(⟨last,phase,check,batch,mark,next,acc⟩:StC)=x:=⟨_,rfl⟩
  rw [hx] at hread
  have hfine:fineC x st=(rdDone st&&(decide (0≤last)&&(decide (0≤phase)&&(decide (phase≤2)&&(decide (phase=0)||decide (last<batch)))))):=by rw [←hx];rfl
  refine exI_mk (fun cc R' Φ'=>cc=fineC x st∧R'=rd b st :: bufL p acc.length c ds :: (stZ k0 :: S)∧Φ'=(fun M w=>Φ M w∧Elems M w ds acc)) ⟨fun w G cx=>?_,?_⟩
  · refine Done_to (S:=bufL p acc.length c ds :: (stZ k0 :: S)) cx.swap (Br.intro (fun a1=>Br.intro (fun a2=>Br.intro (fun a3=>Br.intro (fun a4=>Br.intro (fun a5=>?_) (fun a5=>?_)) (fun a4=>?_)) (fun a3=>?_)) (fun a2=>?_)) (fun a1=>?_))
    all_goals refine ⟨_,_,hst1,fun w G cx=>cx,?_,rfl,rfl⟩
    all_goals rw [hfine]
    · rw [a1,a2,a3,a4,a5];rfl
    · rw [a1,a2,a3,a4,a5];rfl
    · rw [a1,a2,a3,a4];rfl
    · rw [a1,a2,a3];rfl
    · rw [a1,a2];rfl
    · rw [a1];rfl
  rintro cc R1 Φ1 _ ⟨rfl,rfl,rfl⟩
  refine ⟨[],tru,inferInstance,fun w G cx=>cut_to cx (List.nil_sublist _),Br.intro (fun hf=>fun w G cx=>?_) (fun hf=>fun w G cx=>?_)⟩
  · have hlw:=lines_wE cx.phi.2 fun y hy=>(har y hy).2
    have hF:StF x:=by rw [←hx];exact ⟨hi,by show check.size≤_;omega,by show next.size≤_;omega,hlw,by show acc.length≤_;omega⟩
    have hbl:=cx.bufLen 1 rfl
    obtain ⟨c2,hsl,_,hcap,hmx⟩:=Ctx.freeze (α:=LineD) cx.swap cx.swap.phi.2
    have c3:=(c2.add hsl).weak (Ψ:=fun M w=>Φ M w∧Sl M w p acc) fun M w h=>⟨h.1.1,h.2⟩
    have hst2:Stable (fun M w=>Φ M w∧Sl M w p acc):=inferInstance
    have hTa:Has (fun M w=>Φ M w∧Sl M w p acc) TabI:=⟨fun M w h=>hT M w h.1⟩
    have hxl:x.lines=acc:=by rw [←hx]
    have hv:stV x p c=.agg #[.int .i64 last,.int .i64 phase,.string check,.int .i64 batch,.int .i64 mark,.string next,.slice p acc.length c]:=by rw [←hx]
    have hfo:=form_inC (Φ:=fun M w=>Φ M w∧Sl M w p acc) (p:=p) (cap:=c) (x:=x) (fun M w h=>by rw [hxl];exact h.2) hF
    rw [hv] at hfo
    refine hfo.use c3 fun w cx=>⟨_,rfl,rd b st :: (stZ k0 :: S),_,hst2,cx,fun w G cx=>cut_to cx (List.nil_sublist _),fun w G cx=>⟨cx.can 1 rfl (by simp),fun w' hw'=>⟨rd b st :: .blk k0 [.int .i64 last,.int .i64 phase,.string check,.int .i64 batch,.int .i64 mark,.string next,.slice p acc.length c] 100 :: S,_,hst2,cx.puts 1 hw' rfl,fun w G cx=>cut_to cx (List.nil_sublist _),fun w G cx=>⟨last,phase,check,batch,mark,next,p,acc.length,c,cx.row0 1 rfl,fun w G cx=>?_⟩⟩⟩⟩
    have cE:Ctx W w S (fun M w=>Φ M w∧Sl M w p acc):=(cx.drop1.drop1).left
    by_cases hfm:formC x=s
    · rw [decide_eq_true (by rw [hfm])]
      have hr:readC s=some x:=by rw [hread,endC_of,if_pos ⟨hf,hfm⟩]
      have:=h1 x p c w hr hF (by rw [←hx];exact har) (by rw [hxl];exact hal) (by rw [hxl];exact hbl.2.1) hbl.2.2 (by rw [hxl];exact cE)
      rw [hv] at this
      exact this
    · rw [decide_eq_false (fun e=>hfm (bs_inj.1 e))]
      have hr:readC s=none:=by rw [hread,endC_of,if_neg fun h=>hfm h.2]
      exact h0 ⟨last,phase,check,batch,mark,next,acc⟩ p acc.length c w hr (cE.weak fun M w h=>h.1)
  · refine ⟨cx.can 2 rfl (by simp),fun w' hw'=>⟨rd b st :: bufL p acc.length c ds :: .blk k0 [.int .i64 last,.int .i64 phase,.string check,.int .i64 batch,.int .i64 mark,.string next,.slice p acc.length c] 100 :: S,_,hst1,cx.puts 2 hw' rfl,fun w G cx=>cut_to cx (List.nil_sublist _),fun w G cx=>⟨last,phase,check,batch,mark,next,p,acc.length,c,cx.row0 2 rfl,fun w G cx=>?_⟩⟩⟩
    have hr:readC s=none:=by rw [hread,endC_of,if_neg fun h=>by rw [h.1] at hf;cases hf]
    exact h0 ⟨last,phase,check,batch,mark,next,acc⟩ p acc.length c w hr ((cx.drop1.drop1.drop1).left.weak fun M w h=>h.1)
end
end Go.Proofs.YtfccagphnfceiaaGreatDoor
end

section
namespace Go.Proofs.YtfccagphnfceiaaGreatDoor
open Go.Vc
structure CoP where
  cb:Nat
  kb:Nat
  lp:Option Addr
  lc:Nat
abbrev coB (p:CoP) (c:CoS):List Value:=[.pointer (some ⟨p.kb,0,none⟩),.int .i64 c.now.last,.int .i64 c.now.phase,.string c.now.check,.int .i64 c.now.batch,.int .i64 c.now.mark,.string c.now.next,.slice p.lp c.now.lines.length p.lc,.bool c.prep,.bool c.stop]
abbrev CoO (p:CoP) (q:DkP) (c:CoS):List Own:=[.blk p.cb (coB p c) 102,clO p.kb q c.cell]
abbrev CoF (p:CoP) (c:CoS):PW:=fun M w=>Sl M w p.lp c.now.lines
structure CE (Φ:PW):Prop where
  num:∀ M w,Φ M w→NumI M w
  off:∀ M w,Φ M w→OffI M w
theorem CE.weak {Φ Ψ:PW} (h:CE Φ) (e:∀ M w,Ψ M w→Φ M w):CE Ψ:=⟨fun M w hp=>h.num M w (e M w hp),fun M w hp=>h.off M w (e M w hp)⟩
theorem CE.tab {Φ:PW} (h:CE Φ):∀ M w,Φ M w→TabI M w:=fun M w hp=>(h.num M w hp).1
abbrev notP (p:CoP) (lp:Option Addr) (lc:Nat) (e:Int):CoP:=if e=0 then ⟨p.cb,p.kb,lp,lc⟩ else p
section
variable {W w:World} {S R G:List Own} {Φ:PW}
theorem co_in [Stable Φ] {o k:Own} {X S G:List Own} (cx:Ctx W w ((o :: k :: (X++S))++G) Φ):Ctx W w (k :: (X++(o :: (S++G)))) Φ:=cx.perm (by
  show (o :: k :: ((X++S)++G)).Perm _
  rw [List.append_assoc]
  exact (List.Perm.swap _ _ _).trans (List.perm_middle.symm.cons _))
theorem co_out [Stable Φ] {o k:Own} {X S G:List Own} (cx:Ctx W w (k :: (X++(o :: (S++G)))) Φ):Ctx W w ((o :: k :: (X++S))++G) Φ:=cx.perm (by
  show List.Perm _ (o :: k :: ((X++S)++G))
  rw [List.append_assoc]
  exact (List.perm_middle.cons _).trans (List.Perm.swap _ _ _))
def DoPost (W:World) (p:CoP) (q:DkP) (d:DsS) (c:CoS) (G:List Own) (K:Ending→World→Prop) (e:Ending) (w':World):Prop :=
  ∃ (x:StC) (er:Int) (lp:Option Addr) (lc:Nat) (S':List Own) (Φ':PW),e=.returned (.tuple #[stV x lp lc,.int .i64 er])∧Stable Φ'∧Ctx W w' ((CoO p q c++(dkL q d++S'))++G) Φ' ∧
      (er≠0→∀ w,Ctx W w (CoO p q c++(dkL q d++S')) Φ'→K (.returned (.int .i64 er)) w) ∧
      (er=0→DkQ q d∧DkK Φ' q d∧CE Φ'∧StF x∧(∀ M w,Φ' M w→Sl M w lp x.lines) ∧
        ∀ u w,DkQ (q.mv u) (noteC d c x).1→Ctx W w (CoO (notP p lp lc (noteC d c x).2.2) q (noteC d c x).2.1++(dkL (q.mv u) (noteC d c x).1++S')) Φ'→K (.returned (.int .i64 (noteC d c x).2.2)) w)
def EndK (W:World) (G:List Own) (K:Ending→World→Prop) (e:Ending) (w':World):Prop :=
  ∃ n,e=.returned (.int .i64 n)∧∃ R Φ',Stable Φ'∧Ctx W w' (R++G) Φ'∧∀ w G',Ctx W w (R++G') Φ'→K (.returned (.int .i64 n)) w
set_option maxHeartbeats 2000000 in
theorem step_use [Stable Φ] {p:CoP} {q:DkP} {d:DsS} {c:CoS} {f:FuncId} {doC:Array Value} {phase:Int} (hf:okFun Tryz.prog f=true) (cx:Ctx W w (CoO p q c++(dkL q d++S)) Φ) {K:Ending→World→Prop}
    (hs:c.stop=true→∀ w,Ctx W w (CoO p q c++(dkL q d++S)) Φ→K (.returned (.int .i64 9)) w)
    (hp:c.stop=false→c.now.phase≠phase→∀ w,Ctx W w (CoO p q c++(dkL q d++S)) Φ→K (.returned (.int .i64 7)) w)
    (hdo:c.stop=false→c.now.phase=phase→∀ w G,Ctx W w ((CoO p q c++(dkL q d++S))++G) Φ→Calls Tryz.prog f (Array.mk doC.toList) w (DoPost W p q d c G K)) :
    Calls Tryz.prog F.commit_Coordinator_step #[.pointer (some ⟨p.cb,0,none⟩),.int .i64 phase,.func (.func f) #[] doC] w K:=by
  refine (Bcommit_Coordinator_step_run p.cb 0 phase f doC (J:=fun u w'=>K (.returned u) w') cx fun w G cx=>⟨c.stop,cx.get 0 rfl rfl,Br.intro (fun h=>fun w G cx=>hs h w cx.left) (fun h=>fun w G cx=>⟨c.now.phase,cx.get 0 rfl rfl,Br.intro (fun h2=>fun w G cx=>hp h (of_decide_eq_true h2) w cx.left) (fun h2=>fun w G cx=>⟨hf,?_⟩)⟩)⟩).mono fun e w' ⟨v,he,hj⟩=>by rw [he];exact hj
  refine (hdo h (Decidable.not_not.1 (of_decide_eq_false h2)) w G cx).mono fun e w' ⟨x,er,lp,lc,S',Φ',he,st,cx,h3,h4⟩=>⟨x.last,x.phase,x.check,x.batch,x.mark,x.next,lp,x.lines.length,lc,er,he,CoO p q c++(dkL q d++S'),Φ',st,cx,fun _=>Br.intro (fun h5=>fun w G cx=>h3 (of_decide_eq_true h5) w cx.left) (fun h5=>?_)⟩
  obtain ⟨hq,hk,hE,hF,hl,hK⟩:=h4 (Decidable.not_not.1 (of_decide_eq_false h5))
  have hT:Has Φ' TabI:=⟨hE.tab⟩
  refine ⟨CoO p q c++(dkL q d++S'),Φ',st,fun w G cx=>cx,some ⟨p.kb,0,none⟩,fun w G cx=>⟨_,cx.get 0 rfl rfl,rfl⟩,fun w G cx=>(form_inC (p:=lp) (cap:=lc) hl hF).use cx fun w cx=>⟨_,rfl,CoO p q c++(dkL q d++S'),Φ',st,cx,fun w G cx=>cx,fun w G cx=>?_⟩⟩
  refine CSet_use (S:=.blk p.cb (coB p c) 102 :: (S'++G)) hq hk hE.off (co_in cx) fun u w hq2 cx=>?_
  unfold noteC at hK
  obtain ⟨⟨d1,c1,e1⟩,hr⟩:∃ r,setC d c.cell (formC x)=r:=⟨_,rfl⟩
  rw [hr] at hq2 cx hK ⊢
  simp only at hq2 cx hK ⊢
  have hK:=hK u
  refine ⟨e1,rfl,.blk p.cb (coB p c) 102 :: clO p.kb q c1 :: (dkL (q.mv u) d1++S'),Φ',st,co_out cx,Br.intro (fun h6=>fun w G cx=>?_) (fun h6=>Br.intro (fun h7=>fun w G cx=>?_) (fun h7=>absurd (Decidable.not_not.1 (of_decide_eq_false h7)) (of_decide_eq_false h6)))⟩
  · have h6:=of_decide_eq_true h6
    rw [if_pos h6] at hK
    simp only at hK
    refine ⟨cx.can 0 rfl (by simp),fun w' hw'=>⟨.blk p.cb (coB ⟨p.cb,p.kb,lp,lc⟩ ⟨c1,x,c.prep,c.stop⟩) 102 :: clO p.kb q c1 :: (dkL (q.mv u) d1++S'),Φ',st,cx.puts 0 hw' rfl,fun w G cx=>⟨cx.can 0 rfl (by simp),fun w' hw'=>⟨.blk p.cb (coB ⟨p.cb,p.kb,lp,lc⟩ ⟨c1,x,false,c.stop⟩) 102 :: clO p.kb q c1 :: (dkL (q.mv u) d1++S'),Φ',st,cx.put 0 hw' rfl,Br.intro (fun h8=>absurd h6 (of_decide_eq_true h8)) (fun _=>fun w G cx=>⟨cx.can 0 rfl (by simp),fun w' hw'=>⟨.blk p.cb (coB ⟨p.cb,p.kb,lp,lc⟩ ⟨c1,x,false,false⟩) 102 :: clO p.kb q c1 :: (dkL (q.mv u) d1++S'),Φ',st,cx.put 0 hw' rfl,fun w G cx=>?_⟩⟩)⟩⟩⟩⟩
    rw [h6]
    exact hK w hq2 cx.left
  · have h7:=of_decide_eq_true h7
    rw [if_neg h7] at hK
    simp only at hK
    have e:notP p lp lc e1=p:=if_neg h7
    rw [e] at hK
    exact ⟨cx.can 0 rfl (by simp),fun w' hw'=>⟨.blk p.cb (coB p ⟨c1,c.now,c.prep,decide (e1≠6)⟩) 102 :: clO p.kb q c1 :: (dkL (q.mv u) d1++S'),Φ',st,cx.put 0 hw' rfl,fun w G cx=>hK w hq2 cx.left⟩⟩
theorem Phase_q [Stable Φ] {p:CoP} {q:DkP} {c:CoS}:GivesQ (CoO p q c) Φ Tryz.prog F.commit_Coordinator_Phase #[.pointer (some ⟨p.cb,0,none⟩)] (.int .i64 c.now.phase) :=
  gives_q (Bcommit_Coordinator_Phase_run p.cb 0) fun W R=>fun w G cx=>⟨_,cx.get 0 rfl rfl,fun w G cx=>⟨rfl,cx.left⟩⟩
theorem LastC_q [Stable Φ] {p:CoP} {q:DkP} {c:CoS}:GivesQ (CoO p q c) Φ Tryz.prog F.commit_Coordinator_Last #[.pointer (some ⟨p.cb,0,none⟩)] (.int .i64 c.now.last) :=
  gives_q (Bcommit_Coordinator_Last_run p.cb 0) fun W R=>fun w G cx=>⟨_,cx.get 0 rfl rfl,fun w G cx=>⟨rfl,cx.left⟩⟩
theorem Check_q [Stable Φ] {p:CoP} {q:DkP} {c:CoS}:GivesQ (CoO p q c) Φ Tryz.prog F.commit_Coordinator_Check #[.pointer (some ⟨p.cb,0,none⟩)] (.string (checkC c)):=by
  refine gives_q (Bcommit_Coordinator_Check_run p.cb 0) fun W R=>fun w G cx=>⟨_,cx.get 0 rfl rfl,Br.intro (fun h=>fun w G cx=>⟨_,cx.get 0 rfl rfl,fun w G cx=>⟨?_,cx.left⟩⟩) (fun h=>fun w G cx=>⟨_,cx.get 0 rfl rfl,fun w G cx=>⟨?_,cx.left⟩⟩)⟩
  · unfold checkC;rw [if_pos (of_decide_eq_true h)]
  · unfold checkC;rw [if_neg (of_decide_eq_false h)]
set_option maxHeartbeats 2000000 in
theorem OpenK_use [Stable Φ] (hE:CE Φ) {q:DkP} {d:DsS} (hq:DkQ q d) (hk:DkK Φ q d) (hlen:∀ k e,openC (syncS d 3).1 3=(some k,e)→k.value.length≤1000000) (cx:Ctx W w (dkL q d++S) Φ) {K:Ending→World→Prop}
    (hn:∀ u w',(openK d 3).2.1=none→DkQ (q.mv u) (openK d 3).1→Ctx W w' (dkL (q.mv u) (openK d 3).1++S) Φ→K (.returned (.tuple #[.pointer none,.int .i64 (openK d 3).2.2])) w')
    (hs:∀ u p c w',(openK d 3).2.1=some c→(openK d 3).2.2=0→DkQ (q.mv u) (openK d 3).1→c.now.lines.length≤p.lc∧p.lc≤maxLen→Ctx W w' (CoO p q c++(dkL (q.mv u) (openK d 3).1++S)) (fun M w=>Φ M w∧CoF p c M w)→K (.returned (.tuple #[.pointer (some ⟨p.cb,0,none⟩),.int .i64 0])) w') :
    Calls Tryz.prog F.commit_Open #[.pointer (some ⟨q.db,0,none⟩),.int .i64 3] w K:=by
  refine (Bcommit_Open_run q.db 0 3 (J:=fun u w'=>K (.returned u) w') cx fun w G cx=>?_).mono fun e w' ⟨v,he,hj⟩=>by rw [he];exact hj
  refine Sync_use (S:=S++G) hq hk (cx.re (List.append_assoc _ _ _)) fun u w hq1 cx=>?_
  have hkeep:=sync_keep d 3
  unfold openK at hn hs
  simp only at hn hs
  obtain ⟨⟨d1,e1⟩,hr⟩:∃ r,syncS d 3=r:=⟨_,rfl⟩
  rw [hr] at hq1 cx hn hs hkeep hlen ⊢
  simp only at hq1 cx hn hs hkeep hlen ⊢
  refine ⟨e1,rfl,dkL (q.mv u) d1++S,Φ,inferInstance,cx.re (List.append_assoc _ _ _).symm,Br.intro (fun h=>fun w G cx=>?_) (fun h=>fun w G cx=>?_)⟩
  · rw [if_pos (of_decide_eq_true h)] at hn
    exact hn u w rfl hq1 cx.left
  rw [if_neg (of_decide_eq_false h)] at hn hs
  simp only at hn hs
  refine COpen_use (S:=S++G) hq1 hE.off (cx.re (List.append_assoc _ _ _)) (fun e w ho cx=>?_) (fun k kb w ho cx=>?_)
  · have ho1:openC1 d1 3=(none,e):=by unfold openC1;rw [ho]
    rw [ho1] at hn
    refine ⟨none,e,rfl,dkL (q.mv u) d1++S,Φ,inferInstance,cx.re (List.append_assoc _ _ _).symm,Br.intro (fun h2=>fun w G cx=>hn u w rfl hq1 cx.left) (fun h2=>?_)⟩
    exfalso
    have h2:e=0:=Decidable.not_not.1 (of_decide_eq_false h2)
    rw [h2] at ho
    unfold openC at ho
    split at ho
    · rename_i h3
      injection ho with _ h4
      exact h3 h4
    split at ho
    · injection ho with h4;cases h4
    split at ho
    · injection ho with _ h4;cases h4
    split at ho
    · injection ho with _ h4;cases h4
    split at ho
    · rename_i h3
      injection ho with _ h4
      exact h3 h4
    split at ho
    · injection ho with _ h4;cases h4
    · injection ho with h4;cases h4
  have hkl:=hlen k 0 ho
  have ho1:openC1 d1 3=openC2 k:=by unfold openC1;rw [ho]
  rw [ho1] at hn hs
  refine ⟨some ⟨kb,0,none⟩,0,rfl,clO kb q k :: (dkL (q.mv u) d1++S),Φ,inferInstance,cx.re (congrArg (_ :: ·) (List.append_assoc _ _ _).symm),Br.intro (fun h=>by simp at h) (fun _=>fun cb w G cx=>?_)⟩
  refine CGet_use (S:=.blk cb (coB ⟨cb,kb,none,0⟩ ⟨k,stC0,false,false⟩) 102 :: ((dkL (q.mv u) d1++S)++G)) cx.swap fun w cx=>⟨_,_,rfl,clO kb q k :: .blk cb (coB ⟨cb,kb,none,0⟩ ⟨k,stC0,false,false⟩) 102 :: (dkL (q.mv u) d1++S),Φ,inferInstance,cx,Br.intro (fun h3=>fun w G cx=>?_) (fun h3=>fun w G cx=>?_)⟩
  · have h3 : ¬ k.slot = 0 := by have : 0 < k.slot := by simpa using h3
                                 omega
    unfold openC2 at hn hs
    rw [if_neg h3] at hn hs
    refine ReadC_use hE.num (by omega) cx (fun y lp n lc w hrd cx=>?_) (fun x lp lc w hrd hF hal hxl hc1 hc2 cx=>?_)
    · rw [hrd] at hn
      refine ⟨_,_,_,_,_,_,_,_,_,_,rfl,clO kb q k :: .blk cb (coB ⟨cb,kb,none,0⟩ ⟨k,stC0,false,false⟩) 102 :: (dkL (q.mv u) d1++S),Φ,inferInstance,cx,fun w G cx=>⟨cx.can 1 rfl (by simp),fun w' hw'=>⟨clO kb q k :: .blk cb [.pointer (some ⟨kb,0,none⟩),.int .i64 y.last,.int .i64 y.phase,.string y.check,.int .i64 y.batch,.int .i64 y.mark,.string y.next,.slice lp n lc,.bool false,.bool false] 102 :: (dkL (q.mv u) d1++S),Φ,inferInstance,cx.puts 1 hw' rfl,Br.intro (fun _=>fun w G cx=>hn u w rfl hq1 (Ctx.left (cx.drop1.drop1))) (fun h=>by cases h)⟩⟩⟩
    · rw [hrd] at hs
      have st2:Stable (fun M w=>Φ M w∧Sl M w lp x.lines):=inferInstance
      refine ⟨_,_,_,_,_,_,_,_,_,_,rfl,clO kb q k :: .blk cb (coB ⟨cb,kb,none,0⟩ ⟨k,stC0,false,false⟩) 102 :: (dkL (q.mv u) d1++S),_,st2,cx,fun w G cx=>⟨cx.can 1 rfl (by simp),fun w' hw'=>⟨clO kb q k :: .blk cb (coB ⟨cb,kb,lp,lc⟩ ⟨k,x,false,false⟩) 102 :: (dkL (q.mv u) d1++S),_,st2,cx.puts 1 hw' rfl,Br.intro (fun h=>by cases h) (fun _=>fun w G cx=>hs u ⟨cb,kb,lp,lc⟩ _ w rfl rfl hq1 ⟨hc1,hc2⟩ (Ctx.left cx).swap)⟩⟩⟩
  · have h3 : k.slot = 0 := by have : ¬ 0 < k.slot := by simpa using h3
                               omega
    unfold openC2 at hs
    rw [if_pos h3] at hs
    exact hs u ⟨cb,kb,none,0⟩ _ w rfl rfl hq1 ⟨Nat.le_refl _,Nat.zero_le _⟩ ((Ctx.left cx).swap.weak fun M w h=>⟨h,Sl.nil⟩)
end
end Go.Proofs.YtfccagphnfceiaaGreatDoor
end

section
namespace Go.Proofs.YtfccagphnfceiaaGreatDoor
open Go.Vc
section
variable {W w:World} {S R G:List Own} {Φ:PW}
theorem sk_in [Stable Φ] {A B X S G:List Own} (cx:Ctx W w ((A++(B++(X++S)))++G) Φ):Ctx W w ((X++(A++(B++S)))++G) Φ:=cx.perm (List.Perm.append_right G (by
  have:=(List.perm_append_comm (l₁:=A++B) (l₂:=X)).append_right S
  simpa [List.append_assoc] using this))
theorem sk_out [Stable Φ] {A B X S G:List Own} (cx:Ctx W w ((X++(A++(B++S)))++G) Φ):Ctx W w ((A++(B++(X++S)))++G) Φ:=cx.perm (List.Perm.append_right G (by
  have:=(List.perm_append_comm (l₁:=X) (l₂:=A++B)).append_right S
  simpa [List.append_assoc] using this))
theorem row_cell {Φ:PW} {b:Nat} {cs:List Value} {M:List Nat} {w:World} {i:Nat} {v:Value} (h:RowIn b 0 cs M w) (hv:cs[i]? = some v):w.cell? ⟨b,i,none⟩=some v:=by
  obtain ⟨hi,he⟩:=List.getElem?_eq_some_iff.1 hv
  have:=h.2.1 i hi
  rw [Nat.zero_add] at this
  rw [this,he]
theorem note_f {Ψ:PW} {p:CoP} {d:DsS} {c:CoS} {x:StC} {lp:Option Addr} {lc:Nat} (h1:∀ M w,Ψ M w→Sl M w lp x.lines) (h2:∀ M w,Ψ M w→CoF p c M w):∀ M w,Ψ M w→CoF (notP p lp lc (noteC d c x).2.2) (noteC d c x).2.1 M w:=fun M w h=>by
  unfold noteC
  simp only
  split
  · exact h1 M w h
  · rename_i hne
    exact h2 M w h
theorem wrapK {K:Ending→World→Prop} {A X S G:List Own} {er:Int} {Ψ:PW} [Stable Ψ] (cx:Ctx W w (A++(X++(S++G))) Ψ) (h:∀ w,Ctx W w (A++(X++S)) Ψ→K (.returned (.int .i64 er)) w) :
    EndK W G K (.returned (.int .i64 er)) w :=
  ⟨er,rfl,A++(X++S),Ψ,inferInstance,cx.re (by simp),fun w G' cx=>h w cx.left⟩
theorem notP_cb {p:CoP} {lp:Option Addr} {lc:Nat} {e:Int}:(notP p lp lc e).cb=p.cb∧(notP p lp lc e).kb=p.kb:=by unfold notP;split<;>exact ⟨rfl,rfl⟩
theorem IndexL_src [Stable Φ] {p:Option Addr} {cap:Nat} {L:List LineD} {cs:List Value} (src:Src [] Φ p L cs) (hc:Rows7 cs L) (f:FuncId) (cp:Array Value) (g:LineD→Bool) (hlen:L.length≤10000000) (hf:okFun Tryz.prog f=true)
    (hg:∀ (x:LineD) (r:Option Addr) (rc:Nat),x∈L→(∀ M w,Φ M w→Sl M w r x.row)→GivesIn Φ Tryz.prog f (Array.mk (x.v r rc :: cp.toList)) (.bool (g x))) :
    GivesIn Φ Tryz.prog F.slices_IndexFunc_api_Line_api_Line #[.slice p L.length cap,.func (.func f) #[] cp] (.int .i64 (findI g 0 L)):=by
  refine gives_in (Bslices_IndexFunc_api_Line_api_Line_run p L.length cap f cp) fun W R=>?_
  refine exI_mk (fun n R' Φ' k=>∃ i:Nat,n=i∧i≤L.length∧R'=R∧Φ'=Φ∧k=L.length - i∧findI g 0 L=findI g i (L.drop i)) ⟨⟨R,Φ,_,inferInstance,fun w F c=>c,0,rfl,Nat.zero_le _,rfl,rfl,rfl,rfl⟩,?_⟩
  rintro n R1 Φ1 k _ ⟨i,rfl,hi,rfl,rfl,rfl,hor⟩
  refine Br.intro (fun hlt=>?_) (fun hge=>fun w F cx=>⟨?_,cx.left⟩)
  · have hlt:i<L.length:=by have:=of_decide_eq_true hlt;omega
    rw [findI_drop g L i hlt] at hor
    obtain ⟨bb,oo,hp⟩:=src.ptr (by omega)
    obtain ⟨r,rc,he,k1,k2,k3⟩:=hc i hlt
    refine ⟨by omega,ptrK_intro bb oo hp fun w G cx=>⟨L[i].no,L[i].batch,L[i].time,r,L[i].row.length,rc,L[i].n,L[i].cause,L[i].why,by rw [Int.toNat_natCast];exact src_at (S:=[]) (G:=R1++G) src hp cx he,fun w G cx=>⟨hf,(hg L[i] r rc (List.getElem_mem _) (fun M w h=>src_sl src hlt he h)).use cx fun w cx=>⟨g L[i],rfl,R1,Φ1,inferInstance,cx,Br.intro (fun h=>fun w F cx=>⟨?_,cx.left⟩) (fun h=>⟨by unfold I64;omega,R1,Φ1,L.length - (i+1),inferInstance,fun w F c=>c,⟨i+1,rfl,hlt,rfl,rfl,rfl,?_⟩,by omega⟩)⟩⟩⟩⟩
    · rw [hor,if_pos h]
    · rw [hor,if_neg (by rw [h];simp)]
  · have hge:i=L.length:=by have:=of_decide_eq_false hge;omega
    rw [hor,hge,List.drop_length]
    rfl
theorem AnyL_in [Stable Φ] {p:Option Addr} {cap:Nat} {L:List LineD} (hL:∀ M w,Φ M w→Sl M w p L) (f:FuncId) (cp:Array Value) (g:LineD→Bool) (hlen:L.length≤10000000) (hf:okFun Tryz.prog f=true)
    (hg:∀ (Ψ:PW) [Stable Ψ],(∀ M w,Ψ M w→Φ M w)→∀ (x:LineD) (r:Option Addr) (rc:Nat),x∈L→(∀ M w,Ψ M w→Sl M w r x.row)→GivesIn Ψ Tryz.prog f (Array.mk (x.v r rc :: cp.toList)) (.bool (g x))) :
    GivesIn Φ Tryz.prog F.slices_ContainsFunc_api_Line_api_Line #[.slice p L.length cap,.func (.func f) #[] cp] (.bool (L.any g)) :=
  ⟨fun W w S c=>by
    have hth:=(hL _ _ c.phi).there
    obtain ⟨cs,c1⟩:=srcOf c (hL _ _ c.phi)
    exact GivesIn.use (gives_in (Bslices_ContainsFunc_api_Line_api_Line_run p L.length cap f cp) fun W R=>fun w G cx=>(IndexL_src (Φ:=fun M w=>Φ M w∧SrcF p L cs M w) (src_fact (Φ:=fun M w=>Φ M w∧SrcF p L cs M w) hth (fun M w h=>h.2)) (rows7 c1.phi.2.2) f cp g hlen hf (hg (fun M w=>Φ M w∧SrcF p L cs M w) fun M w h=>h.1)).toI cx fun w G cx=>⟨by rw [findI_any],cx.left⟩) c1 fun w' c=>⟨rfl,c.fst⟩⟩
theorem bad_in [Stable Φ] {kb:Nat} {batch:Int} {x:LineD} {r:Option Addr} {rc:Nat} (hb:∀ M w,Φ M w→RowIn kb 0 [.int .i64 batch] M w) (hr:∀ M w,Φ M w→Sl M w r x.row) :
    GivesIn Φ Tryz.prog F.commit_Coordinator_Begin_1_1 (Array.mk (x.v r rc :: [.pointer (some ⟨kb,0,none⟩)])) (.bool (badC batch x)):=by
  refine gives_in (Bcommit_Coordinator_Begin_1_1_run x.no x.batch x.time r x.row.length rc x.n x.cause x.why kb 0) fun W R=>fun _ w G cx=>⟨batch,row_cell (Φ:=Φ) (i:=0) (hb _ _ cx.phi) rfl,Br.intro (fun h=>fun w G cx=>⟨?_,cx.left⟩) (fun h=>fun w G cx=>?_)⟩
  · unfold badC
    rw [h];rfl
  · have hh:Has Φ (fun M w=>Sl M w r x.row):=⟨hr⟩
    refine (RightRow_in (r:=x.row)).toB cx fun w G cx=>⟨?_,cx.left⟩
    unfold badC
    rw [h];rfl
abbrev BegF (Φ:PW) (k0 k1 k2 k3 k4:Nat) (cb:Nat) (batch mark:Int) (lp:Option Addr) (ln lc:Nat) (next:ByteArray):PW :=
  fun M w=>((((Φ M w∧RowIn k4 0 [.string next] M w)∧RowIn k3 0 [.slice lp ln lc] M w)∧RowIn k2 0 [.int .i64 mark] M w)∧RowIn k1 0 [.int .i64 batch] M w)∧RowIn k0 0 [.pointer (some ⟨cb,0,none⟩)] M w
set_option maxHeartbeats 4000000 in
theorem Begin_use [Stable Φ] (hE:CE Φ) {p:CoP} {q:DkP} {d:DsS} {c:CoS} (hF:∀ M w,Φ M w→CoF p c M w) (hq:DkQ q d) (hk:DkK Φ q d) (hw:StW c.now) {batch mark:Int} {lp:Option Addr} {lc:Nat} {lines:List LineD} {next:ByteArray} (hL:∀ M w,Φ M w→Sl M w lp lines) (hlen:lines.length≤1000000)
    (hb:I64 batch) (hm:I64 mark) (hnx:next.size≤1000000000) (cx:Ctx W w (CoO p q c++(dkL q d++S)) Φ) {K:Ending→World→Prop}
    (hK:∀ u p' w',p'.cb=p.cb∧p'.kb=p.kb→DkQ (q.mv u) (beginC d c batch mark lines next).1→Ctx W w' (CoO p' q (beginC d c batch mark lines next).2.1++(dkL (q.mv u) (beginC d c batch mark lines next).1++S)) (fun M w=>Φ M w∧CoF p' (beginC d c batch mark lines next).2.1 M w)→K (.returned (.int .i64 (beginC d c batch mark lines next).2.2)) w') :
    Calls Tryz.prog F.commit_Coordinator_Begin #[.pointer (some ⟨p.cb,0,none⟩),.int .i64 batch,.int .i64 mark,.slice lp lines.length lc,.string next] w K:=by
  refine (Bcommit_Coordinator_Begin_run p.cb 0 batch mark lp lines.length lc next (J:=fun u w'=>K (.returned u) w') cx fun k0 k1 k2 k3 k4 w G cx=>⟨_,cx.get 4 rfl rfl,fun w G cx=>?_⟩).mono fun e w' ⟨v,he,hj⟩=>by rw [he];exact hj
  have c5:Ctx W w ((CoO p q c++(dkL q d++S))++G) (BegF Φ k0 k1 k2 k3 k4 p.cb batch mark lp lines.length lc next):=Ctx.rowIn (Ctx.rowIn (Ctx.rowIn (Ctx.rowIn (Ctx.rowIn cx))))
  obtain ⟨Ω,hΩ⟩:∃ Ω,BegF Φ k0 k1 k2 k3 k4 p.cb batch mark lp lines.length lc next=Ω:=⟨_,rfl⟩
  have stΩ:Stable Ω:=by rw [←hΩ];infer_instance
  rw [hΩ] at c5
  have f0:∀ M w,Ω M w→Φ M w:=by rw [←hΩ];exact fun M w h=>h.1.1.1.1.1
  have f4:∀ M w,Ω M w→RowIn k4 0 [.string next] M w:=by rw [←hΩ];exact fun M w h=>h.1.1.1.1.2
  have f3:∀ M w,Ω M w→RowIn k3 0 [.slice lp lines.length lc] M w:=by rw [←hΩ];exact fun M w h=>h.1.1.1.2
  have f2:∀ M w,Ω M w→RowIn k2 0 [.int .i64 mark] M w:=by rw [←hΩ];exact fun M w h=>h.1.1.2
  have f1:∀ M w,Ω M w→RowIn k1 0 [.int .i64 batch] M w:=by rw [←hΩ];exact fun M w h=>h.1.2
  have fc:∀ M w,Ω M w→RowIn k0 0 [.pointer (some ⟨p.cb,0,none⟩)] M w:=by rw [←hΩ];exact fun M w h=>h.2
  clear hΩ cx
  have err:∀ er,beginC d c batch mark lines next=(d,c,er)→∀ w,Ctx W w (CoO p q c++(dkL q d++(S++G))) Ω→EndK W G K (.returned (.int .i64 er)) w:=fun er he w cx=>wrapK cx fun w cx=>by
    have:=hK q.un p w ⟨rfl,rfl⟩
    rw [he] at this
    exact this hq (cx.weak fun M w h=>⟨f0 M w h,hF M w (f0 M w h)⟩)
  refine step_use (S:=S++G) (K:=EndK W G K) (by kernel_rfl) (c5.re (by simp)) (fun hs=>err 9 (by unfold beginC stepK;rw [if_pos hs])) (fun hs hp=>err 7 (by unfold beginC stepK;rw [if_neg (by rw [hs];simp),if_pos hp])) (fun hs hp w G2 cx=>?_)
  have e0:beginC d c batch mark lines next=if (beginR c batch mark lines next).2≠0 then (d,c,(beginR c batch mark lines next).2) else noteC d c (beginR c batch mark lines next).1:=by
    unfold beginC stepK
    rw [if_neg (by rw [hs];simp),if_neg (by simp [hp])]
  refine (Bcommit_Coordinator_Begin_1_run k1 0 k0 0 k3 0 k2 0 k4 0 (J:=fun v w'=>DoPost W p q d c G2 (EndK W G K) (.returned v) w') cx ?_).mono fun e w' ⟨v,he,hj⟩=>by rw [he];exact hj
  clear cx
  refine fun _ w G3 cx=>⟨batch,row_cell (Φ:=Ω) (i:=0) (f1 _ _ cx.phi) rfl,_,row_cell (Φ:=Ω) (i:=0) (fc _ _ cx.phi) rfl,ptrK_intro p.cb 0 rfl ⟨c.now.last,cx.get 0 rfl rfl,Br.intro (fun h=>fun w G3 cx=>?_) (fun h=>fun w G3 cx=>?_)⟩⟩
  · refine ⟨stC0,25,none,0,S++G,Ω,rfl,stΩ,cx.left,fun _=>err 25 (by rw [e0];unfold beginR;rw [if_pos (of_decide_eq_true h)];rfl),fun h=>by cases h⟩
  have h:=of_decide_eq_false h
  refine ⟨_,_,_,row_cell (Φ:=Ω) (i:=0) (f3 _ _ cx.phi) rfl,fun w G3 cx=>?_⟩
  have hLΩ:∀ M w,Ω M w→Sl M w lp lines:=fun M w h=>hL M w (f0 M w h)
  refine (AnyL_in hLΩ F.commit_Coordinator_Begin_1_1 #[.pointer (some ⟨k1,0,none⟩)] (badC batch) (by omega) (by kernel_rfl) (fun Ψ _ hΨ x r rc _ hr=>bad_in (Φ:=Ψ) (fun M w h=>f1 M w (hΨ M w h)) hr)).toB cx (Br.intro (fun h2=>fun w G3 cx=>?_) (fun h2=>?_))
  · refine ⟨stC0,1,none,0,S++G,Ω,rfl,stΩ,cx.left,fun _=>err 1 (by rw [e0];unfold beginR;rw [if_neg h,if_pos h2];rfl),fun h=>by cases h⟩
  have e1:beginC d c batch mark lines next=noteC d c ⟨c.now.last,1,c.now.check,batch,mark,next,lines⟩:=by
    have hb:beginR c batch mark lines next=(⟨c.now.last,1,c.now.check,batch,mark,next,lines⟩,0):=by unfold beginR;rw [if_neg h,if_neg (by rw [h2];simp)]
    rw [e0,hb];rfl
  have hright:∀ y∈lines,rightR y.row=true:=fun y hy=>by
    have:=List.any_eq_false.1 h2 y hy
    unfold badC at this
    simp only [Bool.or_eq_true,Bool.not_eq_true',not_or,Bool.not_eq_false] at this
    exact this.2
  have hline:∀ y∈lines,y.row.length≤1000000:=fun y hy=>by have:=right_len (hright y hy);omega
  refine ⟨_,Ω,stΩ,fun w G cx=>cx,some ⟨p.cb,0,none⟩,fun w G cx=>⟨_,row_cell (Φ:=Ω) (i:=0) (fc _ _ cx.phi) rfl,rfl⟩,some ⟨p.cb,0,none⟩,fun w G cx=>⟨_,row_cell (Φ:=Ω) (i:=0) (fc _ _ cx.phi) rfl,rfl⟩,batch,fun w G cx=>⟨_,row_cell (Φ:=Ω) (i:=0) (f1 _ _ cx.phi) rfl,rfl⟩,mark,fun w G cx=>⟨_,row_cell (Φ:=Ω) (i:=0) (f2 _ _ cx.phi) rfl,rfl⟩,next,fun w G cx=>⟨_,row_cell (Φ:=Ω) (i:=0) (f4 _ _ cx.phi) rfl,rfl⟩,fun w G3 cx=>⟨_,_,_,row_cell (Φ:=Ω) (i:=0) (f3 _ _ cx.phi) rfl,ptrK_intro p.cb 0 rfl (ptrK_intro p.cb 0 rfl ⟨c.now.last,fun w G cx=>⟨_,cx.get 0 rfl rfl,rfl⟩,c.now.check,fun w G cx=>⟨_,cx.get 0 rfl rfl,rfl⟩,fun w G3 cx=>?_⟩)⟩⟩
  have hwl:=lines_wS (hLΩ _ _ cx.phi) hright
  have hh:Has Ω (fun M w=>Sl M w lp lines):=⟨hLΩ⟩
  refine (Cloned_sl (l:=lines) hlen hline).to cx fun p1 c1 g1 g2 st1=>⟨fun w G cx=>cx.fst,fun w G cx=>cx.fst,fun w G3 cx=>?_⟩
  have hwn:=hw
  refine ⟨⟨c.now.last,1,c.now.check,batch,mark,next,lines⟩,0,p1,c1,S++G,_,rfl,st1,cx.left,fun h=>absurd rfl h,fun _=>⟨hq,hk.weak fun M w h=>f0 M w h.1,hE.weak fun M w h=>f0 M w h.1,⟨⟨hw.last.2,by show I64 1;unfold I64;decide,hb,hm⟩,by have:=hw.check;show c.now.check.size≤_;omega,hnx,hwl,hlen⟩,fun M w h=>h.2,fun u w hq2 cx=>?_⟩⟩
  refine wrapK (A:=CoO (notP p p1 c1 (noteC d c ⟨c.now.last,1,c.now.check,batch,mark,next,lines⟩).2.2) q (noteC d c ⟨c.now.last,1,c.now.check,batch,mark,next,lines⟩).2.1) (X:=dkL (q.mv u) (noteC d c ⟨c.now.last,1,c.now.check,batch,mark,next,lines⟩).1) cx fun w cx=>?_
  rw [←e1] at hq2 cx ⊢
  refine hK u _ w notP_cb hq2 (cx.weak fun M w h=>⟨f0 M w h.1,?_⟩)
  have:=note_f (p:=p) (d:=d) (c:=c) (x:=⟨c.now.last,1,c.now.check,batch,mark,next,lines⟩) (lp:=p1) (lc:=c1) (Ψ:=fun M w=>Ω M w∧Sl M w p1 lines) (fun M w h=>h.2) (fun M w h=>hF M w (f0 M w h.1)) M w h
  rw [←e1] at this
  exact this
end
end Go.Proofs.YtfccagphnfceiaaGreatDoor
end

section
namespace Go.Proofs.YtfccagphnfceiaaGreatDoor
open Go.Vc
section
variable {W w:World} {S R G:List Own} {Φ:PW} {k:KP} {s:SkD} {p:CoP} {q:DkP} {d:DsS} {c:CoS} {n:Nat}
theorem deliver_use [Stable Φ] [hF:Has Φ (SkF k s)] [hC:Has Φ (CoF p c)] (hq:SkQ k s) (hI:SkI s) (hs:SkS s n) (hn:n≤400000) (hlen:c.now.lines.length≤400000) (cx:Ctx W w ((SkO k s++(CoO p q c++R))++G) Φ) {K:Int→List Own→PW→Prop}
    (hk:∀ k':KP,k'.sb=k.sb→SkQ k' (delivK s c.now.batch c.now.lines).2→Stable (fun M w=>Φ M w∧SkF k' (delivK s c.now.batch c.now.lines).2 M w)→K (delivK s c.now.batch c.now.lines).1 (SkO k' (delivK s c.now.batch c.now.lines).2++(CoO p q c++R)) (fun M w=>Φ M w∧SkF k' (delivK s c.now.batch c.now.lines).2 M w)) :
    Calls Tryz.prog F.commit_Coordinator_deliver #[.pointer (some ⟨p.cb,0,none⟩),snk k] w fun e w'=>∃ n,e=.returned (.int .i64 n)∧∃ R' Φ',Stable Φ'∧Ctx W w' (R'++G) Φ'∧K n R' Φ':=by
  refine (Bcommit_Coordinator_deliver_run p.cb 0 k.sb 0 (R:=(SkO k s++(CoO p q c++R))++G) (J:=fun v w'=>∃ n,v=.int .i64 n∧∃ R' Φ',Stable Φ'∧Ctx W w' (R'++G) Φ'∧K n R' Φ') cx ?_).mono fun e w' ⟨v,he,n,hv,rest⟩=>⟨n,by rw [he,hv],rest⟩
  clear cx
  refine ⟨_,Φ,inferInstance,fun w G cx=>cx,c.now.batch,fun w G cx=>⟨_,cx.get 3 rfl rfl,rfl⟩,p.lp,c.now.lines.length,p.lc,fun w G cx=>⟨_,_,_,cx.get 3 rfl rfl,rfl⟩,fun w G2 cx=>?_⟩
  have hL:Has Φ (fun M w=>Sl M w p.lp c.now.lines):=⟨hC.go⟩
  exact Deliver_use (R:=(CoO p q c++R)++G) (L:=c.now.lines) (b:=c.now.batch) hq hI hs hn hlen (cx.re (by simp)) fun k' hsb hq' st2=>fun w G6 cx=>⟨_,rfl,SkO k' _++(CoO p q c++R),_,st2,cx.left.re (by simp),hk k' hsb hq' st2⟩
theorem comm_four {b:Int} (h:(commK s b).1=4):(commK s b).2=s:=by
  unfold commK at h ⊢
  split at h
  · cases h
  split at h
  · cases h
  split at h
  · rw [if_neg (by assumption),if_neg (by assumption),if_pos (by assumption)]
  · cases h
set_option maxHeartbeats 2000000 in
theorem commit_use [Stable Φ] [hF:Has Φ (SkF k s)] [hC:Has Φ (CoF p c)] (hq:SkQ k s) (hI:SkI s) (hs:SkS s n) (hn:n≤300000) (hlen:c.now.lines.length≤100000) (cx:Ctx W w ((SkO k s++(CoO p q c++R))++G) Φ) {K:Int→List Own→PW→Prop}
    (hk:∀ (k':KP) (Φ':PW),k'.sb=k.sb→SkQ k' (commitC s c.now.batch c.now.lines).2→Stable Φ'→(∀ M w,Φ' M w→Φ M w∧SkF k' (commitC s c.now.batch c.now.lines).2 M w)→K (commitC s c.now.batch c.now.lines).1 (SkO k' (commitC s c.now.batch c.now.lines).2++(CoO p q c++R)) Φ') :
    Calls Tryz.prog F.commit_Coordinator_commit #[.pointer (some ⟨p.cb,0,none⟩),snk k] w fun e w'=>∃ n,e=.returned (.int .i64 n)∧∃ R' Φ',Stable Φ'∧Ctx W w' (R'++G) Φ'∧K n R' Φ':=by
  refine (Bcommit_Coordinator_commit_run p.cb 0 k.sb 0 (R:=(SkO k s++(CoO p q c++R))++G) (J:=fun v w'=>∃ n,v=.int .i64 n∧∃ R' Φ',Stable Φ'∧Ctx W w' (R'++G) Φ'∧K n R' Φ') cx ?_).mono fun e w' ⟨v,he,n,hv,rest⟩=>⟨n,by rw [he,hv],rest⟩
  clear cx
  obtain ⟨b,hb⟩:∃ b,c.now.batch=b:=⟨_,rfl⟩
  obtain ⟨L,hL0⟩:∃ L,c.now.lines=L:=⟨_,rfl⟩
  have e0:commitC s b L=if (commK s b).1≠4 then commK s b else if (prepK s b L).1≠0 then prepK s b L else commK (prepK s b L).2 b:=rfl
  refine fun w G2 cx=>⟨c.now.batch,cx.get 3 rfl rfl,fun w G2 cx=>?_⟩
  refine Commit_use (R:=(CoO p q c++R)++G) (b:=c.now.batch) hq hI hs (by omega) (cx.re (by simp)) fun k1 hsb1 hq1 st1=>?_
  clear cx
  have h4:=comm_four (s:=s) (b:=b)
  rw [hb,hL0] at hk
  rw [hb] at hq1 st1 ⊢
  refine Br.intro (fun h=>fun w G2 cx=>?_) (fun h=>?_)
  · have h:=of_decide_eq_true h
    rw [e0,if_pos h] at hk
    exact ⟨_,rfl,SkO k1 _++(CoO p q c++R),_,st1,cx.left.re (by simp),hk k1 _ hsb1 hq1 st1 fun M w h=>h⟩
  have h:=Decidable.not_not.1 (of_decide_eq_false h)
  rw [h4 h] at hq1 st1 ⊢
  rw [e0,if_neg (by rw [h];simp)] at hk
  have hC1:Has (fun M w=>Φ M w∧SkF k1 s M w) (CoF p c):=⟨fun M w h=>hC.go M w h.1⟩
  have hF1:Has (fun M w=>Φ M w∧SkF k1 s M w) (SkF k1 s):=⟨fun M w h=>h.2⟩
  refine ⟨_,_,st1,fun w G cx=>cx,c.now.batch,fun w G cx=>⟨_,cx.get 3 rfl rfl,rfl⟩,p.lp,c.now.lines.length,p.lc,fun w G cx=>⟨_,_,_,cx.get 3 rfl rfl,rfl⟩,fun w G2 cx=>?_⟩
  have hL:Has (fun M w=>Φ M w∧SkF k1 s M w) (fun M w=>Sl M w p.lp c.now.lines):=⟨fun M w h=>hC.go M w h.1⟩
  have hps:=prep_s (b:=b) (L:=L) hs (show L.length≤100000 by rw [←hL0];exact hlen)
  have hpi:=prep_i hI (b:=b) (L:=L)
  rw [←hsb1]
  refine Prepare_use (R:=(CoO p q c++R)++G) (L:=c.now.lines) (b:=c.now.batch) hq1 hI hs (by omega) (by omega) cx fun k2 hsb2 hq2 st2=>?_
  clear cx
  rw [hb,hL0] at hq2 st2 ⊢
  refine Br.intro (fun h=>fun w G2 cx=>?_) (fun h=>?_)
  · have h:=of_decide_eq_true h
    rw [if_pos h] at hk
    exact ⟨_,rfl,SkO k2 _++(CoO p q c++R),_,st2,cx.left.re (by simp),hk k2 _ (hsb2.trans hsb1) hq2 st2 fun M w h=>⟨h.1.1,h.2⟩⟩
  rw [if_neg (of_decide_eq_false h)] at hk
  obtain ⟨s2,hs2⟩:∃ s2,(prepK s b L).2=s2:=⟨_,rfl⟩
  rw [hs2] at hq2 st2 hk hps hpi ⊢
  refine fun w G2 cx=>⟨c.now.batch,cx.get 3 rfl rfl,fun w G2 cx=>?_⟩
  have hF2:Has (fun M w=>(Φ M w∧SkF k1 s M w)∧SkF k2 s2 M w) (SkF k2 s2):=⟨fun M w h=>h.2⟩
  rw [←hsb2]
  refine Commit_use (R:=(CoO p q c++R)++G) (b:=c.now.batch) hq2 hpi hps (by omega) cx fun k3 hsb3 hq3 st3=>fun w G2 cx=>?_
  rw [hb] at hq3 st3 cx ⊢
  exact ⟨_,rfl,SkO k3 _++(CoO p q c++R),_,st3,cx.left.re (by simp),hk k3 _ (hsb3.trans (hsb2.trans hsb1)) hq3 st3 fun M w h=>⟨h.1.1.1,h.2⟩⟩
theorem Prep_use [Stable Φ] [hF:Has Φ (SkF k s)] [hC:Has Φ (CoF p c)] (hq:SkQ k s) (hI:SkI s) (hs:SkS s n) (hn:n≤400000) (hlen:c.now.lines.length≤400000) (cx:Ctx W w (SkO k s++(CoO p q c++S)) Φ) {K:Ending→World→Prop}
    (hk:∀ k' w' Φ',k'.sb=k.sb→SkQ k' (prepareC c s).2.1→Stable Φ'→(∀ M w,Φ' M w→Φ M w∧SkF k' (prepareC c s).2.1 M w)→Ctx W w' (SkO k' (prepareC c s).2.1++(CoO p q (prepareC c s).1++S)) Φ'→K (.returned (.int .i64 (prepareC c s).2.2)) w') :
    Calls Tryz.prog F.commit_Coordinator_Prepare #[.pointer (some ⟨p.cb,0,none⟩),snk k] w K:=by
  have same:∀ er,prepareC c s=(c,s,er)→∀ w,Ctx W w (SkO k s++(CoO p q c++S)) Φ→K (.returned (.int .i64 er)) w:=fun er he w cx=>by
    have:=hk k w (fun M w=>Φ M w∧SkF k s M w) rfl
    rw [he] at this
    exact this hq inferInstance (fun M w h=>h) (cx.weak fun M w h=>⟨h,hF.go M w h⟩)
  refine (Bcommit_Coordinator_Prepare_run p.cb 0 k.sb 0 (J:=fun u w'=>K (.returned u) w') cx fun w G cx=>⟨c.stop,cx.get 3 rfl rfl,Br.intro (fun h=>fun w G cx=>same 9 (by unfold prepareC;rw [if_pos h]) w cx.left) (fun h=>fun w G cx=>⟨c.now.phase,cx.get 3 rfl rfl,Br.intro (fun h2=>fun w G cx=>same 7 (by unfold prepareC;rw [if_neg (by rw [h];simp),if_pos (of_decide_eq_true h2)]) w cx.left) (fun h2=>fun w G cx=>?_)⟩)⟩).mono fun e w' ⟨v,he,hj⟩=>by rw [he];exact hj
  have e0:prepareC c s=({ c with prep:=c.prep||decide ((giveC c s).1=0) },(giveC c s).2,(giveC c s).1):=by
    unfold prepareC
    rw [if_neg (by rw [h];simp),if_neg (of_decide_eq_false h2)]
  rw [e0] at hk
  simp only at hk
  have flag:∀ {er:Int} {k':KP} {s':SkD} {A Rl:List Own} {Ψ:PW} [Stable Ψ],Rl.Perm (SkO k' s'++(CoO p q c++(A++S)))→giveC c s=(er,s')→k'.sb=k.sb→SkQ k' s'→(∀ M w,Ψ M w→Φ M w∧SkF k' s' M w)→∀ w G,Ctx W w (Rl++G) Ψ→∃ c42,w.cell? ⟨p.cb,0+8,none⟩=some (.bool c42)∧Br c42 (∀ w G,Ctx W w (Rl++G) Ψ→CanWrite w p.cb (0+8) 1∧∀ w',w'=w.setCell ⟨p.cb,0+8,none⟩ (.bool true)→∃ R1 Φ1,Stable Φ1∧Ctx W w' (R1++G) Φ1∧∀ w G,Ctx W w (R1++G) Φ1→K (.returned (.int .i64 er)) w)
      (∀ w G,Ctx W w (Rl++G) Ψ→CanWrite w p.cb (0+8) 1∧∀ w',w'=w.setCell ⟨p.cb,0+8,none⟩ (.bool (decide (er=0)))→∃ R1 Φ1,Stable Φ1∧Ctx W w' (R1++G) Φ1∧∀ w G,Ctx W w (R1++G) Φ1→K (.returned (.int .i64 er)) w):=fun {er k' s' A Rl Ψ} stΨ hpm hg hsb hq' hΨ w G cx=>by
    rw [hg] at hk
    simp only at hk
    have drop:∀ {c':CoS} {w:World} {G:List Own},Ctx W w ((SkO k' s'++(CoO p q c'++(A++S)))++G) Ψ→Ctx W w (SkO k' s'++(CoO p q c'++S)) Ψ:=fun cx=>cx.left.sub ((List.Sublist.refl _).append ((List.Sublist.refl _).append (List.sublist_append_right _ _)))
    have cx:=cx.perm (hpm.append_right G)
    refine ⟨c.prep,cx.get 3 rfl rfl,Br.intro (fun h=>fun w G cx=>?_) (fun h=>fun w G cx=>?_)⟩
    all_goals have cx:=cx.perm (hpm.append_right G)
    · refine ⟨cx.can 3 rfl (by simp),fun w' hw'=>⟨SkO k' s'++(CoO p q { c with prep:=true }++(A++S)),Ψ,stΨ,cx.put 3 hw' rfl,fun w G cx=>?_⟩⟩
      have:=hk k' w Ψ hsb hq' stΨ hΨ
      rw [h] at this
      exact this (drop cx)
    · refine ⟨cx.can 3 rfl (by simp),fun w' hw'=>⟨SkO k' s'++(CoO p q { c with prep:=decide (er=0) }++(A++S)),Ψ,stΨ,cx.put 3 hw' rfl,fun w G cx=>?_⟩⟩
      have:=hk k' w Ψ hsb hq' stΨ hΨ
      rw [h] at this
      exact this (drop cx)
  refine (Kind_q (st:=s) (q:=k)).toI cx ?_
  clear cx
  refine Br.intro (fun h3=>?_) (fun h3=>?_)
  · have h3:=of_decide_eq_true h3
    have eg:giveC c s=prepK s c.now.batch c.now.lines:=by unfold giveC;rw [if_pos h3]
    refine ⟨_,Φ,inferInstance,fun w G cx=>cx,c.now.batch,fun w G cx=>⟨_,cx.get 3 rfl rfl,rfl⟩,p.lp,c.now.lines.length,p.lc,fun w G cx=>⟨_,_,_,cx.get 3 rfl rfl,rfl⟩,fun w G2 cx=>?_⟩
    have hL:Has Φ (fun M w=>Sl M w p.lp c.now.lines):=⟨hC.go⟩
    refine Prepare_use (R:=CoO p q c++S) (L:=c.now.lines) (b:=c.now.batch) hq hI hs hn hlen cx fun k2 hsb2 hq2 st2=>?_
    exact flag (A:=[]) (Rl:=SkO k2 (prepK s c.now.batch c.now.lines).2++(CoO p q c++S)) (Ψ:=fun M w=>Φ M w∧SkF k2 (prepK s c.now.batch c.now.lines).2 M w) (List.Perm.refl _) eg hsb2 hq2 (fun M w h=>h)
  · have h3:=of_decide_eq_false h3
    have eg:giveC c s=((delivK s c.now.batch c.now.lines).1,s):=by unfold giveC;rw [if_neg h3]
    refine fun w G2 cx=>Copy_to (R:=CoO p q c++S) hq hs hn cx fun k2 hq2 st2=>fun w G2 cx=>?_
    have hC1:Has (fun M w=>Φ M w∧SkF k2 s M w) (CoF p c):=⟨fun M w h=>hC.go M w h.1⟩
    have hF1:Has (fun M w=>Φ M w∧SkF k2 s M w) (SkF k2 s):=⟨fun M w h=>h.2⟩
    have cx:Ctx W w ((SkO k2 s++(CoO p q c++(SkO k s++S)))++G2) (fun M w=>Φ M w∧SkF k2 s M w):=cx.perm (List.Perm.append_right G2 (List.Perm.append_left _ (by
      have:=(List.perm_append_comm (l₁:=SkO k s) (l₂:=CoO p q c)).append_right S
      simpa [List.append_assoc] using this)))
    refine deliver_use (R:=SkO k s++S) hq2 hI hs hn hlen cx fun k3 hsb3 hq3 st3=>?_
    clear cx
    obtain ⟨s3,hs3⟩:∃ s3,(delivK s c.now.batch c.now.lines).2=s3:=⟨_,rfl⟩
    rw [hs3] at hq3 st3 ⊢
    refine flag (A:=SkO k3 s3) (k':=k) (s':=s) (Ψ:=fun M w=>(Φ M w∧SkF k2 s M w)∧SkF k3 s3 M w) ?_ eg rfl hq (fun M w h=>⟨h.1.1,hF.go M w h.1.1⟩)
    have h1:=(List.perm_append_comm (l₁:=SkO k3 s3++CoO p q c) (l₂:=SkO k s)).append_right S
    have h2:(SkO k s++(SkO k3 s3++CoO p q c)++S).Perm (SkO k s++(CoO p q c++(SkO k3 s3++S))):=by
      have:=((List.perm_append_comm (l₁:=SkO k3 s3) (l₂:=CoO p q c)).append_right S).append_left (SkO k s)
      simpa [List.append_assoc] using this
    exact (show (SkO k3 s3++(CoO p q c++(SkO k s++S))).Perm _ by simpa [List.append_assoc] using h1).trans h2
end
end Go.Proofs.YtfccagphnfceiaaGreatDoor
end

section
namespace Go.Proofs.YtfccagphnfceiaaGreatDoor
open Go.Vc
theorem stI_f {last:Int} {check:ByteArray} (h2:I64 last) (h3:check.size≤1000000000):StF (stI last check):=⟨⟨h2,by show I64 0;unfold I64;decide,by show I64 0;unfold I64;decide,by show I64 0;unfold I64;decide⟩,h3,by show (0:Nat)≤_;decide,fun y hy=>(by cases hy),by show (0:Nat)≤_;decide⟩
section
variable {W w:World} {S R G:List Own} {Φ:PW} {k:KP} {s:SkD} {p:CoP} {q:DkP} {d:DsS} {c:CoS} {n:Nat}
set_option maxHeartbeats 2000000 in
theorem Decide_use [Stable Φ] (hE:CE Φ) (hF:∀ M w,Φ M w→CoF p c M w) (hq:DkQ q d) (hk:DkK Φ q d) (hw:StW c.now) (cx:Ctx W w (CoO p q c++(dkL q d++S)) Φ) {K:Ending→World→Prop}
    (hK:∀ u p' w',p'.cb=p.cb∧p'.kb=p.kb→DkQ (q.mv u) (decideC d c).1→Ctx W w' (CoO p' q (decideC d c).2.1++(dkL (q.mv u) (decideC d c).1++S)) (fun M w=>Φ M w∧CoF p' (decideC d c).2.1 M w)→K (.returned (.int .i64 (decideC d c).2.2)) w') :
    Calls Tryz.prog F.commit_Coordinator_Decide #[.pointer (some ⟨p.cb,0,none⟩)] w K:=by
  refine (Bcommit_Coordinator_Decide_run p.cb 0 (J:=fun u w'=>K (.returned u) w') cx fun k0 w G cx=>⟨_,cx.get 0 rfl rfl,fun w G cx=>?_⟩).mono fun e w' ⟨v,he,hj⟩=>by rw [he];exact hj
  have c5:Ctx W w ((CoO p q c++(dkL q d++S))++G) (fun M w=>Φ M w∧RowIn k0 0 [.pointer (some ⟨p.cb,0,none⟩)] M w):=Ctx.rowIn cx
  obtain ⟨Ω,hΩ⟩:∃ Ω:PW,(fun M w=>Φ M w∧RowIn k0 0 [.pointer (some ⟨p.cb,0,none⟩)] M w)=Ω:=⟨_,rfl⟩
  have stΩ:Stable Ω:=by rw [←hΩ];infer_instance
  rw [hΩ] at c5
  have f0:∀ M w,Ω M w→Φ M w:=by rw [←hΩ];exact fun M w h=>h.1
  have fc:∀ M w,Ω M w→RowIn k0 0 [.pointer (some ⟨p.cb,0,none⟩)] M w:=by rw [←hΩ];exact fun M w h=>h.2
  clear hΩ cx
  have err:∀ er,decideC d c=(d,c,er)→∀ w,Ctx W w (CoO p q c++(dkL q d++(S++G))) Ω→EndK W G K (.returned (.int .i64 er)) w:=fun er he w cx=>wrapK cx fun w cx=>by
    have:=hK q.un p w ⟨rfl,rfl⟩
    rw [he] at this
    exact this hq (cx.weak fun M w h=>⟨f0 M w h,hF M w (f0 M w h)⟩)
  refine step_use (S:=S++G) (K:=EndK W G K) (by kernel_rfl) (c5.re (by simp)) (fun hs=>err 9 (by unfold decideC stepK;rw [if_pos hs])) (fun hs hp=>err 7 (by unfold decideC stepK;rw [if_neg (by rw [hs];simp),if_pos hp])) (fun hs hp w G2 cx=>?_)
  have e0:decideC d c=if (decideR c).2≠0 then (d,c,(decideR c).2) else noteC d c (decideR c).1:=by
    unfold decideC stepK
    rw [if_neg (by rw [hs];simp),if_neg (by simp [hp])]
  refine (Bcommit_Coordinator_Decide_1_run k0 0 (J:=fun v w'=>DoPost W p q d c G2 (EndK W G K) (.returned v) w') cx ?_).mono fun e w' ⟨v,he,hj⟩=>by rw [he];exact hj
  clear cx
  refine fun _ w G3 cx=>⟨_,row_cell (Φ:=Ω) (i:=0) (fc _ _ cx.phi) rfl,ptrK_intro p.cb 0 rfl fun w G3 cx=>⟨c.prep,cx.get 0 rfl rfl,Br.intro (fun h=>fun w G3 cx=>?_) (fun h=>fun w G3 cx=>⟨_,row_cell (Φ:=Ω) (i:=0) (fc _ _ cx.phi) rfl,ptrK_intro p.cb 0 rfl fun w G3 cx=>⟨c.now.last,c.now.phase,c.now.check,c.now.batch,c.now.mark,c.now.next,p.lp,c.now.lines.length,p.lc,cx.row 0 rfl (fun j hj=>by rcases j with _|_|_|_|_|_|_|j<;>first|rfl|(simp at hj;omega)),fun _ w G3 cx=>?_⟩⟩)⟩⟩
  · have h:c.prep=false:=by simpa using h
    refine ⟨stC0,25,none,0,S++G,Ω,rfl,stΩ,cx.left,fun _=>err 25 (by rw [e0];unfold decideR;rw [if_pos h];rfl),fun h=>by cases h⟩
  have h:c.prep=true:=by simpa using h
  have e1:decideC d c=noteC d c { c.now with phase:=2 }:=by
    have hb:decideR c=({ c.now with phase:=2 },0):=by unfold decideR;rw [if_neg (by rw [h];simp)]
    rw [e0,hb];rfl
  have hwf:=hw.f
  refine ⟨{ c.now with phase:=2 },0,p.lp,p.lc,S++G,Ω,rfl,stΩ,cx.left,fun h=>absurd rfl h,fun _=>⟨hq,hk.weak f0,hE.weak f0,⟨⟨hwf.ints.1,by show I64 2;unfold I64;decide,hwf.ints.2.2.1,hwf.ints.2.2.2⟩,hwf.check,hwf.next,hwf.line,hwf.few⟩,fun M w h=>hF M w (f0 M w h),fun u w hq2 cx=>?_⟩⟩
  refine wrapK (A:=CoO (notP p p.lp p.lc (noteC d c { c.now with phase:=2 }).2.2) q (noteC d c { c.now with phase:=2 }).2.1) (X:=dkL (q.mv u) (noteC d c { c.now with phase:=2 }).1) cx fun w cx=>?_
  rw [←e1] at hq2 cx ⊢
  refine hK u _ w notP_cb hq2 (cx.weak fun M w h=>⟨f0 M w h,?_⟩)
  have:=note_f (p:=p) (d:=d) (c:=c) (x:={ c.now with phase:=2 }) (lp:=p.lp) (lc:=p.lc) (Ψ:=Ω) (fun M w h=>hF M w (f0 M w h)) (fun M w h=>hF M w (f0 M w h)) M w h
  rw [←e1] at this
  exact this
abbrev SinkK (W:World) (Φ:PW) (k:KP) (p:CoP) (q:DkP) (S:List Own) (K:Ending→World→Prop) (r:DsS × CoS × SkD × Int):Prop :=
  ∀ u p' k' w' Φ',p'.cb=p.cb∧p'.kb=p.kb→k'.sb=k.sb→DkQ (q.mv u) r.1→SkQ k' r.2.2.1→Stable Φ'→(∀ M w,Φ' M w→Φ M w∧(SkF k' r.2.2.1 M w∧CoF p' r.2.1 M w)) →
    Ctx W w' (CoO p' q r.2.1++(dkL (q.mv u) r.1++(SkO k' r.2.2.1++S))) Φ'→K (.returned (.int .i64 r.2.2.2)) w'
set_option maxHeartbeats 4000000 in
theorem Finish_use [Stable Φ] (hE:CE Φ) [hS:Has Φ (SkF k s)] [hC:Has Φ (CoF p c)] (hq:DkQ q d) (hk:DkK Φ q d) (hw:StW c.now) (hkq:SkQ k s) (hI:SkI s) (hs:SkS s n) (hn:n≤300000) (cx:Ctx W w (CoO p q c++(dkL q d++(SkO k s++S))) Φ) {K:Ending→World→Prop}
    (hK:SinkK W Φ k p q S K (finishC d c s)) :
    Calls Tryz.prog F.commit_Coordinator_Finish #[.pointer (some ⟨p.cb,0,none⟩),snk k] w K:=by
  refine (Bcommit_Coordinator_Finish_run p.cb 0 k.sb 0 (J:=fun u w'=>K (.returned u) w') cx fun k0 k1 w G cx=>⟨_,cx.get 1 rfl rfl,fun w G cx=>?_⟩).mono fun e w' ⟨v,he,hj⟩=>by rw [he];exact hj
  have c5:Ctx W w ((CoO p q c++(dkL q d++(SkO k s++S)))++G) (fun M w=>(Φ M w∧RowIn k1 0 [.pointer (some ⟨k.sb,0,none⟩)] M w)∧RowIn k0 0 [.pointer (some ⟨p.cb,0,none⟩)] M w):=Ctx.rowIn (Ctx.rowIn cx)
  obtain ⟨Ω,hΩ⟩:∃ Ω:PW,(fun M w=>(Φ M w∧RowIn k1 0 [.pointer (some ⟨k.sb,0,none⟩)] M w)∧RowIn k0 0 [.pointer (some ⟨p.cb,0,none⟩)] M w)=Ω:=⟨_,rfl⟩
  have stΩ:Stable Ω:=by rw [←hΩ];infer_instance
  rw [hΩ] at c5
  have f0:∀ M w,Ω M w→Φ M w:=by rw [←hΩ];exact fun M w h=>h.1.1
  have f1:∀ M w,Ω M w→RowIn k1 0 [.pointer (some ⟨k.sb,0,none⟩)] M w:=by rw [←hΩ];exact fun M w h=>h.1.2
  have fc:∀ M w,Ω M w→RowIn k0 0 [.pointer (some ⟨p.cb,0,none⟩)] M w:=by rw [←hΩ];exact fun M w h=>h.2
  clear hΩ cx
  have hSΩ:Has Ω (SkF k s):=⟨fun M w h=>hS.go M w (f0 M w h)⟩
  have hCΩ:Has Ω (CoF p c):=⟨fun M w h=>hC.go M w (f0 M w h)⟩
  have err:∀ er,finishC d c s=(d,c,s,er)→∀ w,Ctx W w (CoO p q c++(dkL q d++(SkO k s++(S++G)))) Ω→EndK W G K (.returned (.int .i64 er)) w:=fun er he w cx=>by
    refine wrapK (A:=CoO p q c) (X:=dkL q d) (S:=SkO k s++S) (cx.re (by simp)) fun w cx=>?_
    rw [he] at hK
    exact hK q.un p k w Ω ⟨rfl,rfl⟩ rfl hq hkq stΩ (fun M w h=>⟨f0 M w h,hSΩ.go M w h,hCΩ.go M w h⟩) cx
  refine step_use (S:=SkO k s++(S++G)) (K:=EndK W G K) (by kernel_rfl) (c5.re (by simp)) (fun hs=>err 9 (by unfold finishC;rw [if_pos hs])) (fun hs hp=>err 7 (by unfold finishC;rw [if_neg (by rw [hs];simp),if_pos hp])) (fun hst hp w G2 cx=>?_)
  have hlen:=hw.few
  have fin:∀ {k':KP} {Ψ:PW} [Stable Ψ],k'.sb=k.sb→SkQ k' (endR c s).2→(∀ M w,Ψ M w→Ω M w∧SkF k' (endR c s).2 M w)→∀ w,Ctx W w ((SkO k' (endR c s).2++(CoO p q c++(dkL q d++(S++G))))++G2) Ψ→DoPost W p q d c G2 (EndK W G K) (.returned (.tuple #[stV (stI c.now.batch c.now.next) none 0,.int .i64 (endR c s).1])) w:=fun {k' Ψ} stΨ hsb hkq' hΨ w cx=>by
    refine ⟨stI c.now.batch c.now.next,(endR c s).1,none,0,SkO k' (endR c s).2++(S++G),Ψ,rfl,stΨ,sk_out cx,fun he w cx=>?_,fun he=>⟨hq,hk.weak fun M w h=>f0 M w (hΨ M w h).1,hE.weak fun M w h=>f0 M w (hΨ M w h).1,stI_f hw.ints.1 (by have:=hw.next;omega),fun M w h=>Sl.nil,fun u w hq2 cx=>?_⟩⟩
    · have e:finishC d c s=(d,c,(endR c s).2,(endR c s).1):=by
        unfold finishC
        rw [if_neg (by rw [hst];simp),if_neg (by simp [hp])]
        simp only
        unfold stepK
        rw [if_neg (by rw [hst];simp),if_neg (by simp [hp]),if_pos he]
      rw [e] at hK
      refine wrapK (A:=CoO p q c) (X:=dkL q d) (S:=SkO k' (endR c s).2++S) (cx.re (by simp)) fun w cx=>?_
      exact hK q.un p k' w Ψ ⟨rfl,rfl⟩ hsb hq hkq' stΨ (fun M w h=>⟨f0 M w (hΨ M w h).1,(hΨ M w h).2,hCΩ.go M w (hΨ M w h).1⟩) cx
    · have e:finishC d c s=((noteC d c (stI c.now.batch c.now.next)).1,(noteC d c (stI c.now.batch c.now.next)).2.1,(endR c s).2,(noteC d c (stI c.now.batch c.now.next)).2.2):=by
        unfold finishC
        rw [if_neg (by rw [hst];simp),if_neg (by simp [hp])]
        simp only
        rw [stepK_out hst hp he]
      rw [e] at hK
      refine wrapK (A:=CoO (notP p none 0 (noteC d c (stI c.now.batch c.now.next)).2.2) q (noteC d c (stI c.now.batch c.now.next)).2.1) (X:=dkL (q.mv u) (noteC d c (stI c.now.batch c.now.next)).1) (S:=SkO k' (endR c s).2++S) (cx.re (by simp)) fun w cx=>?_
      exact hK u _ k' w Ψ notP_cb hsb hq2 hkq' stΨ (fun M w h=>⟨f0 M w (hΨ M w h).1,(hΨ M w h).2,note_f (Ψ:=Ψ) (fun M w h=>Sl.nil) (fun M w h=>hCΩ.go M w (hΨ M w h).1) M w h⟩) cx
  refine (Bcommit_Coordinator_Finish_1_run k1 0 k0 0 (J:=fun v w'=>DoPost W p q d c G2 (EndK W G K) (.returned v) w') (sk_in cx) ?_).mono fun e w' ⟨v,he,hj⟩=>by rw [he];exact hj
  clear cx
  refine fun _ w G3 cx=>⟨_,row_cell (Φ:=Ω) (i:=0) (f1 _ _ cx.phi) rfl,fun w G3 cx=>?_⟩
  refine (Kind_q (st:=s) (q:=k)).toI (R:=(CoO p q c++(dkL q d++(S++G)))++G2) (cx.re (by simp)) (Br.intro (fun h=>?_) (fun h=>?_))
  all_goals clear cx
  · have eR:endR c s=commitC s c.now.batch c.now.lines:=by unfold endR;rw [if_pos (of_decide_eq_true h)]
    refine fun w G3 cx=>⟨_,row_cell (Φ:=Ω) (i:=0) (fc _ _ cx.phi) rfl,fun w G3 cx=>⟨_,row_cell (Φ:=Ω) (i:=0) (f1 _ _ cx.phi) rfl,fun w G3 cx=>?_⟩⟩
    refine commit_use (p:=p) (q:=q) (c:=c) (R:=(dkL q d++(S++G))++G2) hkq hI hs hn (by omega) (cx.re (by simp)) fun k' Ψ hsb hkq' stΨ hΨ=>?_
    clear cx
    rw [←eR] at hkq' hΨ ⊢
    refine ⟨[],tru,inferInstance,fun w G cx=>cut_to cx (List.nil_sublist _),fun w G3 cx=>⟨_,row_cell (Φ:=Ψ) (i:=0) (fc _ _ (hΨ _ _ cx.phi).1) rfl,fun w G3 cx=>⟨_,row_cell (Φ:=Ψ) (i:=0) (fc _ _ (hΨ _ _ cx.phi).1) rfl,ptrK_intro p.cb 0 rfl (ptrK_intro p.cb 0 rfl fun w G3 cx=>⟨c.now.batch,cx.get 3 rfl rfl,fun w G3 cx=>⟨c.now.next,cx.get 3 rfl rfl,fun w G cx=>cut_to cx (List.nil_sublist _),fun w G3 cx=>?_⟩⟩)⟩⟩⟩
    exact fin hsb hkq' hΨ w (cx.left.re (by simp))
  · have eR:endR c s=delivK s c.now.batch c.now.lines:=by unfold endR;rw [if_neg (of_decide_eq_false h)]
    refine fun w G3 cx=>⟨_,row_cell (Φ:=Ω) (i:=0) (fc _ _ cx.phi) rfl,fun w G3 cx=>⟨_,row_cell (Φ:=Ω) (i:=0) (f1 _ _ cx.phi) rfl,fun w G3 cx=>?_⟩⟩
    refine deliver_use (p:=p) (q:=q) (c:=c) (R:=(dkL q d++(S++G))++G2) hkq hI hs (by omega) (by omega) (cx.re (by simp)) fun k' hsb hkq' stΨ=>?_
    clear cx
    rw [←eR] at hkq' stΨ ⊢
    refine ⟨[],tru,inferInstance,fun w G cx=>cut_to cx (List.nil_sublist _),fun w G3 cx=>⟨_,row_cell (Φ:=Ω) (i:=0) (fc _ _ cx.phi.1) rfl,fun w G3 cx=>⟨_,row_cell (Φ:=Ω) (i:=0) (fc _ _ cx.phi.1) rfl,ptrK_intro p.cb 0 rfl (ptrK_intro p.cb 0 rfl fun w G3 cx=>⟨c.now.batch,cx.get 3 rfl rfl,fun w G3 cx=>⟨c.now.next,cx.get 3 rfl rfl,fun w G cx=>cut_to cx (List.nil_sublist _),fun w G3 cx=>?_⟩⟩)⟩⟩⟩
    exact fin hsb hkq' (fun M w h=>h) w (cx.left.re (by simp))
set_option maxHeartbeats 4000000 in
theorem AbortC_use [Stable Φ] (hE:CE Φ) [hS:Has Φ (SkF k s)] [hC:Has Φ (CoF p c)] (hq:DkQ q d) (hk:DkK Φ q d) (hw:StW c.now) (hkq:SkQ k s) (hI:SkI s) (hs:SkS s n) (hn:n≤300000) (cx:Ctx W w (CoO p q c++(dkL q d++(SkO k s++S))) Φ) {K:Ending→World→Prop}
    (hK:SinkK W Φ k p q S K (abortC d c s)) :
    Calls Tryz.prog F.commit_Coordinator_Abort #[.pointer (some ⟨p.cb,0,none⟩),snk k] w K:=by
  refine (Bcommit_Coordinator_Abort_run p.cb 0 k.sb 0 (J:=fun u w'=>K (.returned u) w') cx fun k0 k1 w G cx=>⟨_,cx.get 1 rfl rfl,fun w G cx=>?_⟩).mono fun e w' ⟨v,he,hj⟩=>by rw [he];exact hj
  have c5:Ctx W w ((CoO p q c++(dkL q d++(SkO k s++S)))++G) (fun M w=>(Φ M w∧RowIn k1 0 [.pointer (some ⟨k.sb,0,none⟩)] M w)∧RowIn k0 0 [.pointer (some ⟨p.cb,0,none⟩)] M w):=Ctx.rowIn (Ctx.rowIn cx)
  obtain ⟨Ω,hΩ⟩:∃ Ω:PW,(fun M w=>(Φ M w∧RowIn k1 0 [.pointer (some ⟨k.sb,0,none⟩)] M w)∧RowIn k0 0 [.pointer (some ⟨p.cb,0,none⟩)] M w)=Ω:=⟨_,rfl⟩
  have stΩ:Stable Ω:=by rw [←hΩ];infer_instance
  rw [hΩ] at c5
  have f0:∀ M w,Ω M w→Φ M w:=by rw [←hΩ];exact fun M w h=>h.1.1
  have f1:∀ M w,Ω M w→RowIn k1 0 [.pointer (some ⟨k.sb,0,none⟩)] M w:=by rw [←hΩ];exact fun M w h=>h.1.2
  have fc:∀ M w,Ω M w→RowIn k0 0 [.pointer (some ⟨p.cb,0,none⟩)] M w:=by rw [←hΩ];exact fun M w h=>h.2
  clear hΩ cx
  have hSΩ:Has Ω (SkF k s):=⟨fun M w h=>hS.go M w (f0 M w h)⟩
  have hCΩ:Has Ω (CoF p c):=⟨fun M w h=>hC.go M w (f0 M w h)⟩
  have err:∀ er,abortC d c s=(d,c,s,er)→∀ w,Ctx W w (CoO p q c++(dkL q d++(SkO k s++(S++G)))) Ω→EndK W G K (.returned (.int .i64 er)) w:=fun er he w cx=>by
    refine wrapK (A:=CoO p q c) (X:=dkL q d) (S:=SkO k s++S) (cx.re (by simp)) fun w cx=>?_
    rw [he] at hK
    exact hK q.un p k w Ω ⟨rfl,rfl⟩ rfl hq hkq stΩ (fun M w h=>⟨f0 M w h,hSΩ.go M w h,hCΩ.go M w h⟩) cx
  refine step_use (S:=SkO k s++(S++G)) (K:=EndK W G K) (by kernel_rfl) (c5.re (by simp)) (fun hs=>err 9 (by unfold abortC;rw [if_pos hs])) (fun hs hp=>err 7 (by unfold abortC;rw [if_neg (by rw [hs];simp),if_pos hp])) (fun hst hp w G2 cx=>?_)
  have fin:∀ {k':KP} {Ψ:PW} [Stable Ψ],k'.sb=k.sb→SkQ k' (dropR c s)→(∀ M w,Ψ M w→Ω M w∧SkF k' (dropR c s) M w)→∀ w,Ctx W w ((SkO k' (dropR c s)++(CoO p q c++(dkL q d++(S++G))))++G2) Ψ→DoPost W p q d c G2 (EndK W G K) (.returned (.tuple #[stV (stI c.now.last c.now.check) none 0,.int .i64 0])) w:=fun {k' Ψ} stΨ hsb hkq' hΨ w cx=>by
    refine ⟨stI c.now.last c.now.check,0,none,0,SkO k' (dropR c s)++(S++G),Ψ,rfl,stΨ,sk_out cx,fun he=>absurd rfl he,fun he=>⟨hq,hk.weak fun M w h=>f0 M w (hΨ M w h).1,hE.weak fun M w h=>f0 M w (hΨ M w h).1,stI_f hw.last.2 (by have:=hw.check;omega),fun M w h=>Sl.nil,fun u w hq2 cx=>?_⟩⟩
    have e:abortC d c s=((noteC d c (stI c.now.last c.now.check)).1,(noteC d c (stI c.now.last c.now.check)).2.1,dropR c s,(noteC d c (stI c.now.last c.now.check)).2.2):=by
      unfold abortC
      rw [if_neg (by rw [hst];simp),if_neg (by simp [hp])]
      simp only
      rw [stepK_out hst hp rfl]
    rw [e] at hK
    refine wrapK (A:=CoO (notP p none 0 (noteC d c (stI c.now.last c.now.check)).2.2) q (noteC d c (stI c.now.last c.now.check)).2.1) (X:=dkL (q.mv u) (noteC d c (stI c.now.last c.now.check)).1) (S:=SkO k' (dropR c s)++S) (cx.re (by simp)) fun w cx=>?_
    exact hK u _ k' w Ψ notP_cb hsb hq2 hkq' stΨ (fun M w h=>⟨f0 M w (hΨ M w h).1,(hΨ M w h).2,note_f (Ψ:=Ψ) (fun M w h=>Sl.nil) (fun M w h=>hCΩ.go M w (hΨ M w h).1) M w h⟩) cx
  have stay:dropR c s=s→∀ w G3,Ctx W w ((SkO k s++((CoO p q c++(dkL q d++(S++G)))++G2))++G3) Ω→∃ p82,w.cell? ⟨k0,0,none⟩=some (.pointer p82)∧∀ w G3,Ctx W w ((SkO k s++((CoO p q c++(dkL q d++(S++G)))++G2))++G3) Ω→∃ p85,w.cell? ⟨k0,0,none⟩=some (.pointer p85)∧ptrK none p82 fun k86 k87=>ptrK none p85 fun k88 k89=>∀ w G3,Ctx W w ((SkO k s++((CoO p q c++(dkL q d++(S++G)))++G2))++G3) Ω→∃ n92,w.cell? ⟨k86,k87+1,none⟩=some (.int .i64 n92)∧∀ w G3,Ctx W w ((SkO k s++((CoO p q c++(dkL q d++(S++G)))++G2))++G3) Ω→∃ s95,w.cell? ⟨k88,k89+3,none⟩=some (.string s95)∧∀ w G3,Ctx W w ((SkO k s++((CoO p q c++(dkL q d++(S++G)))++G2))++G3) Ω→DoPost W p q d c G2 (EndK W G K) (.returned (.tuple #[.agg #[.int .i64 n92,.int .i64 0,.string s95,.int .i64 0,.int .i64 0,.string (ByteArray.mk #[]),.slice none 0 0],.int .i64 0])) w:=fun hd w G3 cx =>
    ⟨_,row_cell (Φ:=Ω) (i:=0) (fc _ _ cx.phi) rfl,fun w G3 cx=>⟨_,row_cell (Φ:=Ω) (i:=0) (fc _ _ cx.phi) rfl,ptrK_intro p.cb 0 rfl (ptrK_intro p.cb 0 rfl fun w G3 cx=>⟨c.now.last,cx.get 3 rfl rfl,fun w G3 cx=>⟨c.now.check,cx.get 3 rfl rfl,fun w G3 cx=>by
      have:=fin (k':=k) (Ψ:=Ω) rfl (by rw [hd];exact hkq) (fun M w h=>⟨h,by rw [hd];exact hSΩ.go M w h⟩) w (by rw [hd];exact cx.left.re (by simp))
      exact this⟩⟩)⟩⟩
  refine (Bcommit_Coordinator_Abort_1_run k1 0 k0 0 (J:=fun v w'=>DoPost W p q d c G2 (EndK W G K) (.returned v) w') (sk_in cx) ?_).mono fun e w' ⟨v,he,hj⟩=>by rw [he];exact hj
  clear cx
  refine fun _ w G3 cx=>⟨_,row_cell (Φ:=Ω) (i:=0) (f1 _ _ cx.phi) rfl,fun w G3 cx=>?_⟩
  refine (Kind_q (st:=s) (q:=k)).toI (R:=(CoO p q c++(dkL q d++(S++G)))++G2) (cx.re (by simp)) ⟨_,Ω,stΩ,fun w G cx=>cx,Br.intro (fun h=>?_) (fun h=>?_)⟩
  all_goals clear cx
  · have h:=of_decide_eq_true h
    refine ⟨some ⟨k.sb,0,none⟩,fun w G cx=>⟨_,row_cell (Φ:=Ω) (i:=0) (f1 _ _ cx.phi) rfl,rfl⟩,some ⟨p.cb,0,none⟩,fun w G cx=>⟨_,row_cell (Φ:=Ω) (i:=0) (fc _ _ cx.phi) rfl,rfl⟩,ptrK_intro p.cb 0 rfl ⟨c.now.batch,fun w G cx=>⟨_,cx.get 3 rfl rfl,rfl⟩,fun w G3 cx=>?_⟩⟩
    refine (Prepared_q (st:=s) (q:=k)).toI (R:=(CoO p q c++(dkL q d++(S++G)))++G2) cx ⟨fun w G cx=>cx,Br.intro (fun h2=>?_) (fun h2=>?_)⟩
    · have h2:=of_decide_eq_true h2
      have hd:dropR c s=(abortK s c.now.batch).2:=by unfold dropR;rw [if_pos ⟨h,h2⟩]
      refine ⟨_,Ω,stΩ,fun w G cx=>cx,some ⟨k.sb,0,none⟩,fun w G cx=>⟨_,row_cell (Φ:=Ω) (i:=0) (f1 _ _ cx.phi) rfl,rfl⟩,some ⟨p.cb,0,none⟩,fun w G cx=>⟨_,row_cell (Φ:=Ω) (i:=0) (fc _ _ cx.phi) rfl,rfl⟩,ptrK_intro p.cb 0 rfl ⟨c.now.batch,fun w G cx=>⟨_,cx.get 3 rfl rfl,rfl⟩,fun w G3 cx=>?_⟩⟩
      refine Abort_use (R:=(CoO p q c++(dkL q d++(S++G)))++G2) (b:=c.now.batch) hkq hI hs (by omega) cx fun k' hsb hkq' stΨ=>?_
      clear cx
      rw [←hd] at hkq' stΨ ⊢
      refine fun w G3 cx=>⟨_,row_cell (Φ:=Ω) (i:=0) (fc _ _ cx.phi.1) rfl,fun w G3 cx=>⟨_,row_cell (Φ:=Ω) (i:=0) (fc _ _ cx.phi.1) rfl,ptrK_intro p.cb 0 rfl (ptrK_intro p.cb 0 rfl fun w G3 cx=>⟨c.now.last,cx.get 3 rfl rfl,fun w G3 cx=>⟨c.now.check,cx.get 3 rfl rfl,fun w G3 cx=>?_⟩⟩)⟩⟩
      exact fin hsb hkq' (fun M w h=>h) w (cx.left.re (by simp))
    · exact stay (by unfold dropR;rw [if_neg fun h3=>of_decide_eq_false h2 h3.2])
  · exact stay (by unfold dropR;rw [if_neg fun h3=>of_decide_eq_false h h3.1])
theorem Recover_use [Stable Φ] (hE:CE Φ) [hS:Has Φ (SkF k s)] [hC:Has Φ (CoF p c)] (hq:DkQ q d) (hk:DkK Φ q d) (hw:StW c.now) (hkq:SkQ k s) (hI:SkI s) (hs:SkS s n) (hn:n≤300000) (cx:Ctx W w (CoO p q c++(dkL q d++(SkO k s++S))) Φ) {K:Ending→World→Prop}
    (hK:SinkK W Φ k p q S K (recoverC d c s)) :
    Calls Tryz.prog F.commit_Coordinator_Recover #[.pointer (some ⟨p.cb,0,none⟩),snk k] w K:=by
  have err:∀ er,recoverC d c s=(d,c,s,er)→∀ w,Ctx W w (CoO p q c++(dkL q d++(SkO k s++S))) Φ→K (.returned (.int .i64 er)) w:=fun er he w cx=>by
    rw [he] at hK
    exact hK q.un p k w Φ ⟨rfl,rfl⟩ rfl hq hkq inferInstance (fun M w h=>⟨h,hS.go M w h,hC.go M w h⟩) cx
  have pass:∀ {r:DsS × CoS × SkD × Int},recoverC d c s=r→∀ G,SinkK W Φ k p q (S++G) (EndK W G K) r:=fun {r} he G u p' k' w' Φ' h1 h2 h3 h4 h5 h6 cx=>by
    rw [he] at hK
    exact wrapK (A:=CoO p' q r.2.1) (X:=dkL (q.mv u) r.1) (S:=SkO k' r.2.2.1++S) (cx.re (by simp)) fun w cx=>hK u p' k' w Φ' h1 h2 h3 h4 h5 h6 cx
  refine (Bcommit_Coordinator_Recover_run p.cb 0 k.sb 0 (J:=fun u w'=>K (.returned u) w') cx fun w G cx=>⟨c.stop,cx.get 0 rfl rfl,Br.intro (fun h=>fun w G cx=>err 9 (by unfold recoverC;rw [if_pos h]) w cx.left) (fun h=>fun w G cx=>⟨c.now.phase,cx.get 0 rfl rfl,Br.intro (fun h2=>fun w G cx=>?_) (fun h2=>fun w G cx=>⟨c.now.phase,cx.get 0 rfl rfl,Br.intro (fun h3=>fun w G cx=>?_) (fun h3=>fun w G cx=>?_)⟩)⟩)⟩).mono fun e w' ⟨v,he,hj⟩=>by rw [he];exact hj
  · exact AbortC_use (S:=S++G) (K:=EndK W G K) hE hq hk hw hkq hI hs hn (cx.re (by simp)) (pass (by unfold recoverC;rw [if_neg (by rw [h];simp),if_pos (of_decide_eq_true h2)]) G)
  · exact Finish_use (S:=S++G) (K:=EndK W G K) hE hq hk hw hkq hI hs hn (cx.re (by simp)) (pass (by unfold recoverC;rw [if_neg (by rw [h];simp),if_neg (of_decide_eq_false h2),if_pos (of_decide_eq_true h3)]) G)
  · exact err 0 (by unfold recoverC;rw [if_neg (by rw [h];simp),if_neg (of_decide_eq_false h2),if_neg (of_decide_eq_false h3)]) w cx.left
end
end Go.Proofs.YtfccagphnfceiaaGreatDoor
end

section
namespace Go.Proofs.YtfccagphnfceiaaGreatDoor
open Go.Vc
structure OpC where
  kind:Int
  b:Int
  n:Int
  L:List LineD
  next:ByteArray
  keep:List Int
  fit:Bool
instance:Gv OpC:=Gv.via (β:=Int × Int × Int × List LineD × ByteArray × List Int × Bool) (fun x=>(x.kind,x.b,x.n,x.L,x.next,x.keep,x.fit)) (fun y=>⟨y.1,y.2.1,y.2.2.1,y.2.2.2.1,y.2.2.2.2.1,y.2.2.2.2.2.1,y.2.2.2.2.2.2⟩) (fun _=>rfl)
abbrev OpC.cells (x:OpC) (p:Option Addr) (c:Nat) (q:Option Addr) (e:Nat):List Value:=[.int .i64 x.kind,.int .i64 x.b,.int .i64 x.n,.slice p x.L.length c,.string x.next,.slice q x.keep.length e,.bool x.fit]
abbrev OpC.v (x:OpC) (p:Option Addr) (c:Nat) (q:Option Addr) (e:Nat):Value:=.agg #[.int .i64 x.kind,.int .i64 x.b,.int .i64 x.n,.slice p x.L.length c,.string x.next,.slice q x.keep.length e,.bool x.fit]
theorem opc_cells {M:List Nat} {w:World} {cs:List Value} {x:OpC} (h:Gv.rep M w cs x):∃ p c q e,cs=x.cells p c q e∧I64 x.kind∧I64 x.b∧I64 x.n∧x.L.length≤9223372036854775807∧x.keep.length≤9223372036854775807∧Sl M w p x.L∧Sl M w q x.keep:=by
  obtain ⟨c1,c2,rfl,⟨rfl,h1⟩,h2⟩:=h
  obtain ⟨c3,c4,rfl,⟨rfl,h3⟩,h4⟩:=h2
  obtain ⟨c5,c6,rfl,⟨rfl,h5⟩,h6⟩:=h4
  obtain ⟨c7,c8,rfl,h7,h8⟩:=h6
  obtain ⟨c9,c10,rfl,⟨rfl,_⟩,h9⟩:=h8
  obtain ⟨c11,c12,rfl,h11,h12⟩:=h9
  obtain ⟨p,c,rfl,g1,g2,g3⟩:=rep_list.1 h7
  obtain ⟨q,e,rfl,g4,g5,g6⟩:=rep_list.1 h11
  obtain rfl:=h12
  unfold maxLen at g2 g5
  have g1:x.L.length≤c:=g1
  have g4:x.keep.length≤e:=g4
  exact ⟨p,c,q,e,rfl,h1,h3,h5,by omega,by omega,g3,g6⟩
def batchC (o:OpC) (last:Int):Int :=
  if o.fit=false then o.b else if o.b.tmod 3<0 then IntKind.i64.wrap (IntKind.i64.wrap (last+1)+(o.b.tmod 3+3)) else IntKind.i64.wrap (IntKind.i64.wrap (last+1)+o.b.tmod 3)
def renB (b:Int):Int→List LineD→List LineD
  | _,[]=>[]
  | f,x :: l=>{ x with no:=f,batch:=b } :: renB b (f+1) l
def linesO (o:OpC) (batch first:Int):List LineD:=if o.fit=true then renB batch first o.L else o.L
theorem renB_len (b:Int):∀ (l:List LineD) (f:Int),(renB b f l).length=l.length
  | [],_=>rfl
  | x :: l,f=>congrArg (· + 1) (renB_len b l (f+1))
theorem linesO_len (o:OpC) (batch first:Int):(linesO o batch first).length=o.L.length:=by
  unfold linesO
  split
  · exact renB_len _ _ _
  · rfl
def opX (d:DsS) (c:CoS) (s:SkD) (o:OpC) (kind:Int):DsS × CoS × SkD × Int :=
  if kind=0 then
    let r:=beginC d c (batchC o c.now.last) o.n (linesO o (batchC o c.now.last) ((s.lines.length:Int)+1)) o.next
    (r.1,r.2.1,s,r.2.2)
  else if kind=1 then (d,(prepareC c s).1,(prepareC c s).2.1,(prepareC c s).2.2)
  else if kind=2 then ((decideC d c).1,(decideC d c).2.1,s,(decideC d c).2.2)
  else if kind=3 then finishC d c s
  else if kind=4 then abortC d c s
  else if kind=5 then recoverC d c s
  else (d,c,s,0)
theorem batchC_64 {o:OpC} {last:Int} (h:I64 o.b):I64 (batchC o last):=by
  unfold batchC
  split
  · exact h
  split
  · exact w64_in _
  · exact w64_in _
theorem opX_call {d:DsS} {c:CoS} {s:SkD} {x:StoS} {stopped:Bool} {o:OpC} {kind:Int} (h:CoJ d (some c) s x stopped) (hb:I64 o.b) (hm:I64 o.n) (hl:∀ y∈linesO o (batchC o c.now.last) ((s.lines.length:Int)+1),rightR y.row=true→LineW y) (h6:o.L.length≤6) (hn:o.next.size≤50) :
    CallC d s x kind (batchC o c.now.last) (linesO o (batchC o c.now.last) ((s.lines.length:Int)+1)) o.next stopped (opX d c s o kind):=by
  unfold opX
  split
  · rename_i hk
    rw [hk]
    exact begin_call h (batchC_64 hb) hm hl (by rw [linesO_len];exact h6) hn
  split
  · rename_i hk
    rw [hk]
    exact prepare_call h
  split
  · rename_i hk
    rw [hk]
    exact decide_call h
  split
  · rename_i hk
    rw [hk]
    exact finish_call (by decide) h
  split
  · rename_i hk
    rw [hk]
    exact abort_call (by decide) h
  split
  · rename_i hk
    rw [hk]
    exact recover_call h
  · exact CallC.same (e:=0) h (.inr (.inr ⟨by assumption,by assumption,rfl⟩))
theorem SkS.more {s:SkD} {n m:Nat} (h:SkS s n) (hm:n≤m):SkS s m:=⟨by have:=h.bats;omega,by have:=h.lines;omega,by have:=h.aside;omega,by have:=h.key;omega⟩
theorem take_s18 {s:SkD} {n:Nat} (h:SkS s n) {b:Int} {L:List LineD} (hL:L.length≤18):SkS (takeK s b L) (n+18) :=
  ⟨by have:=h.bats;unfold takeK;simp only [List.length_append,List.length_singleton];omega,by have:=h.lines;unfold takeK;simp only [List.length_append];omega,by have:=h.aside;show s.aside.length≤_;omega,by have:=h.key;show s.key.length≤_;omega⟩
theorem comm_s {s:SkD} {n:Nat} (h:SkS s n) (ha:s.aside.length≤18) {b:Int}:SkS (commK s b).2 (n+18):=by
  unfold commK
  split
  · exact h.more (by omega)
  split
  · exact h.more (by omega)
  split
  · exact h.more (by omega)
  · have:=take_s18 h (b:=b) ha
    exact ⟨this.bats,this.lines,Nat.zero_le _,this.key⟩
theorem deliv_s {s:SkD} {n:Nat} (h:SkS s n) {b:Int} {L:List LineD} (hL:L.length≤18):SkS (delivK s b L).2 (n+18):=by
  unfold delivK
  split
  · exact h.more (by omega)
  split
  · exact h.more (by omega)
  split
  · exact h.more (by omega)
  · exact take_s18 h hL
theorem prep_s18 {s:SkD} {n:Nat} (h:SkS s n) (hn:18≤n) {b:Int} {L:List LineD} (hL:L.length≤18):SkS (prepK s b L).2 n:=by
  unfold prepK
  split
  · exact h
  split
  · exact h
  split
  · exact h
  · exact ⟨h.bats,h.lines,by show L.length≤_;omega,h.key⟩
theorem prep_a {s:SkD} (ha:s.aside.length≤18) {b:Int} {L:List LineD} (hL:L.length≤18):(prepK s b L).2.aside.length≤18:=by
  unfold prepK
  split
  · exact ha
  split
  · exact ha
  split
  · exact ha
  · exact hL
theorem opX_s {d:DsS} {c:CoS} {s:SkD} {o:OpC} {kind:Int} {n:Nat} (h:SkS s n) (hn:18≤n) (ha:s.aside.length≤18) (hL:c.now.lines.length≤18):SkS (opX d c s o kind).2.2.1 (n+18):=by
  have fin:SkS (finishC d c s).2.2.1 (n+18):=by
    unfold finishC
    split
    · exact h.more (by omega)
    split
    · exact h.more (by omega)
    · show SkS (endR c s).2 (n+18)
      unfold endR
      split
      · unfold commitC
        split
        · exact comm_s h ha
        split
        · exact (prep_s18 h hn hL).more (by omega)
        · exact comm_s (prep_s18 h hn hL) (prep_a ha hL)
      · exact deliv_s h hL
  have abt:SkS (abortC d c s).2.2.1 (n+18):=by
    unfold abortC
    split
    · exact h.more (by omega)
    split
    · exact h.more (by omega)
    · show SkS (dropR c s) (n+18)
      unfold dropR
      split
      · exact (abort_s h).more (by omega)
      · exact h.more (by omega)
  unfold opX
  split
  · exact h.more (by omega)
  split
  · unfold prepareC
    split
    · exact h.more (by omega)
    split
    · exact h.more (by omega)
    · show SkS (giveC c s).2 (n+18)
      unfold giveC
      split
      · exact (prep_s18 h hn hL).more (by omega)
      · exact h.more (by omega)
  split
  · exact h.more (by omega)
  split
  · exact fin
  split
  · exact abt
  split
  · unfold recoverC
    split
    · exact h.more (by omega)
    split
    · exact abt
    split
    · exact fin
    · exact h.more (by omega)
  · exact h.more (by omega)
end Go.Proofs.YtfccagphnfceiaaGreatDoor
end

section
namespace Go.Proofs.YtfccagphnfceiaaGreatDoor
set_option maxRecDepth 100000
open Go.Vc
def Merratalaw44_CommitOnce (kind:Int) (lP:Option Addr) (lN lC:Nat) (keepP:Option Addr) (keepN keepC:Nat) (W:World) (R:List Own) (Φ:PW) (J:Value→World→Prop):Prop :=
  ∀ w0 R1,Ctx W w0 (R++R1) Φ→Calls Tryz.prog F.erratalaw44_small #[] w0 fun e2 w3=>∃ c4,e2=.returned (.bool c4)∧∃ R5 Φ6,Stable Φ6∧Ctx W w3 (R5++R1) Φ6∧∀ w7 R8,Ctx W w7 (R5++R8) Φ6→Calls Tryz.prog F.errataref44_Few #[.slice lP lN lC,.int .i64 40] w7 fun e9 w10=>∃ c11,e9=.returned (.bool c11)∧∃ R12 Φ13,Stable Φ13∧Ctx W w10 (R12++R8) Φ13∧Br (!c11) (∀ w14 R15,Ctx W w14 (R12++R15) Φ13→J (.bool c4) w14) (Br (decide (20<(↑keepN:Int))) (∀ w16 R17,Ctx W w16 (R12++R17) Φ13→J (.bool c4) w16) (∀ w18 R19,Ctx W w18 (R12++R19) Φ13→Calls Tryz.prog F.sink_New #[.int .i64 kind,.slice none 0 0] w18 fun e20 w21=>∃ p22,e20=.returned (.pointer p22)∧∃ R23 Φ24,Stable Φ24∧Ctx W w21 (R23++R19) Φ24∧∀ w25 R26,Ctx W w25 (R23++R26) Φ24→Calls Tryz.prog F.disk_New #[] w25 fun e27 w28=>∃ p29,e27=.returned (.pointer p29)∧∃ R30 Φ31,Stable
  Φ31∧Ctx W w28 (R30++R26) Φ31∧∀ w32 R33,Ctx W w32 (R30++R33) Φ31→Br (p22.isNone||p29.isNone) (∀ w34 R35,Ctx W w34 (R30++R35) Φ31→∀ w36 R37,Ctx W w36 (R30++R37) Φ31→J (.bool (c4 && !p29.isNone)) w36) (∀ w38 R39,Ctx W w38 (R30++R39) Φ31→Calls Tryz.prog F.commit_Open #[.pointer p29,.int .i64 3] w38 fun e40 w41=>∃ p42 n43,e40=.returned (Value.tuple #[.pointer p42,.int .i64 n43])∧∃ R44 Φ45,Stable Φ45∧Ctx W w41 (R44++R39) Φ45∧∀ (k46:Nat),exI fun (I47:Option Addr→Bool→Int→List Own→PW→Nat→Prop)=>(∃ R48 Φ49 k50,Stable Φ49∧Wk W (Own.blk k46 [Value.slice none 0 0,Value.int IntKind.i64 0,Value.string (ByteArray.mk #[]),Value.int IntKind.i64 0,Value.slice none 0 0,Value.string (ByteArray.mk #[]),Value.bool false,Value.bool false] 54 :: R44) Φ45 (R48) Φ49∧I47 p42 false 0 R48 Φ49 k50)∧∀ p53 c54 n55 R56 I57 k58,Stable I57 →
  I47 p53 c54 n55 R56 I57 k58→Br (decide (n55<(↑lN:Int))) ((0≤n55∧n55<(↑lN:Int))∧ptrK none lP fun k59 k60=>∀ w61 R62,Ctx W w61 (R56++R62) I57→∃ n63 n64 n65 p66 k67 k68 s69 p70 k71 k72 c73,RowAt w61 k59 (k60+n55.toNat*7) [.int .i64 n63,.int .i64 n64,.int .i64 n65,.slice p66 k67 k68,.string s69,.slice p70 k71 k72,.bool c73]∧∀ (b:Nat),exI fun (I74:Option Addr→Bool→Int→List Own→PW→Nat→Prop)=>(∃ R75 Φ76 k77,Stable Φ76∧Wk W R56 I57 R75 Φ76∧I74 p53 c54 0 R75 Φ76 k77)∧∀ p80 c81 n82 R83 I84 k85,Stable I84→I74 p80 c81 n82 R83 I84 k85→∀ w86 R87,Ctx W w86 (R83++R87) I84→Calls Tryz.prog F.erratalaw44_steps #[Value.agg #[.int .i64 n63,.int .i64 n64,.int .i64 n65,.slice p66 k67 k68,.string s69,.slice p70 k71 k72,.bool c73]] w86 fun e88 w89=>∃ n90,e88=.returned (.int .i64 n90)∧∃ R91 Φ92,Stable Φ92∧Ctx W w89 (R91 ++
  R87) Φ92∧Br (decide (n82<n90)) (exI fun (I93:Option Addr→Bool→List Own→PW→Prop)=>(exI fun (I94:Option Addr→Bool→List Own→PW→Prop)=>Br (decide (n63=6)) (Br (decide (n63=6)) (exI fun (I95:List Own→PW→Prop)=>Br (decide (n63=6)) (∀ w96 R97,Ctx W w96 (R91++R97) Φ92→Calls Tryz.prog F.disk_Disk_Crash #[.pointer p29,.slice p70 k71 k72] w96 fun e98 w99=>e98=.returned (Value.tuple #[])∧∃ R100 Φ101,Stable Φ101∧Ctx W w99 (R100++R97) Φ101∧∃ R102 Φ103,Stable Φ103∧Wk W R100 Φ101 R102 Φ103∧I95 R102 Φ103) (∃ R106 Φ107,Stable Φ107∧Wk W R91 Φ92 R106 Φ107∧I95 R106 Φ107)∧∀ (R110:List Own) (I111:List Nat→World→Prop),Stable I111→I95 R110 I111→∀ w112 R113,Ctx W w112 (R110++R113) I111→Calls Tryz.prog F.disk_Disk_Start #[.pointer p29] w112 fun e114 w115=>e114=.returned (Value.tuple #[])∧∃ R116 Φ117,Stable Φ117∧Ctx
  W w115 (R116++R113) Φ117∧∀ w118 R119,Ctx W w118 (R116++R119) Φ117→Calls Tryz.prog F.commit_Open #[.pointer p29,.int .i64 3] w118 fun e120 w121=>∃ p122 n123,e120=.returned (Value.tuple #[.pointer p122,.int .i64 n123])∧∃ R124 Φ125,Stable Φ125∧Ctx W w121 (R124++R119) Φ125∧Br p122.isNone (∀ w126 R127,Ctx W w126 (R124++R127) Φ125→Calls Tryz.prog F.erratalaw44_disky #[.int .i64 n123] w126 fun e128 w129=>∃ c130,e128=.returned (.bool c130)∧∃ R131 Φ132,Stable Φ132∧Ctx W w129 (R131++R127) Φ132∧Br (!c130) (∀ w133 R134,Ctx W w133 (R131++R134) Φ132→J (.bool false) w133) (∃ R135 Φ136,Stable Φ136∧Wk W R131 Φ132 R135 Φ136∧I94 p122 false R135 Φ136)) (∃ R139 Φ140,Stable Φ140∧Wk W R124 Φ125 R139 Φ140∧I94 p122 false R139 Φ140)) (Br (decide (n63=8)) (∀ w143 R144,Ctx W w143 (R91++R144) Φ92→Calls Tryz.prog F.disk_Disk_Lose #[.pointer p29,.int
  .i64 n65] w143 fun e145 w146=>e145=.returned (Value.tuple #[])∧∃ R147 Φ148,Stable Φ148∧Ctx W w146 (R147++R144) Φ148∧∃ R149 Φ150,Stable Φ150∧Wk W R147 Φ148 R149 Φ150∧I94 p80 c81 R149 Φ150) (Br (decide (n63=9)) (∀ w153 R154,Ctx W w153 (R91++R154) Φ92→Calls Tryz.prog F.disk_Disk_Arm #[.pointer p29,.int .i64 n65,.slice p70 k71 k72] w153 fun e155 w156=>e155=.returned (Value.tuple #[])∧∃ R157 Φ158,Stable Φ158∧Ctx W w156 (R157++R154) Φ158∧∃ R159 Φ160,Stable Φ160∧Wk W R157 Φ158 R159 Φ160∧I94 p80 c81 R159 Φ160) (Br p80.isNone (∃ R163 Φ164,Stable Φ164∧Wk W R91 Φ92 R163 Φ164∧I93 p80 c81 R163 Φ164) (∃ R167 Φ168,Stable Φ168∧Wk W R91 Φ92 R167 Φ168∧∀ w171 R172,Ctx W w171 (R91++R172) Φ92→Calls Tryz.prog F.commit_Coordinator_Last #[.pointer p80] w171 fun e173 w174=>∃ n175,e173=.returned (.int .i64 n175)∧∃ R176 Φ177,Stable Φ177∧Ctx W
  w174 (R176++R172) Φ177∧Wk W R176 Φ177 R167 Φ168∧∀ w180 R181,Ctx W w180 (R176++R181) Φ177→Calls Tryz.prog F.errataref44_Batch #[Value.agg #[.int .i64 n63,.int .i64 n64,.int .i64 n65,.slice p66 k67 k68,.string s69,.slice p70 k71 k72,.bool c73],Value.int IntKind.i64 n175] w180 fun e182 w183=>∃ n184,e182=.returned (.int .i64 n184)∧∃ R185 Φ186,Stable Φ186∧Ctx W w183 (R185++R181) Φ186∧∃ R187 Φ188,Stable Φ188∧Wk W R185 Φ186 R187 Φ188∧∀ w191 R192,Ctx W w191 (R185++R192) Φ186→Calls Tryz.prog F.sink_Sink_Lines #[.pointer p22] w191 fun e193 w194=>∃ n195,e193=.returned (.int .i64 n195)∧∃ R196 Φ197,Stable Φ197∧Ctx W w194 (R196++R192) Φ197∧Wk W R196 Φ197 R187 Φ188∧I64 (n195+1)∧∀ w200 R201,Ctx W w200 (R196++R201) Φ197→Calls Tryz.prog F.errataref44_Lines #[Value.agg #[.int .i64 n63,.int .i64 n64,.int .i64 n65,.slice p66 k67 k68,
  .string s69,.slice p70 k71 k72,.bool c73],Value.int IntKind.i64 n184,Value.int IntKind.i64 (n195+1)] w200 fun e202 w203=>∃ p204 k205 k206,e202=.returned (.slice p204 k205 k206)∧∃ R207 Φ208,Stable Φ208∧Ctx W w203 (R207++R201) Φ208∧∃ R209 Φ210,Stable Φ210∧Wk W R207 Φ208 R209 Φ210∧∀ w213 R214,Ctx W w213 (R207++R214) Φ208→Calls Tryz.prog F.erratalaw44_kindOf #[Value.agg #[.int .i64 n63,.int .i64 n64,.int .i64 n65,.slice p66 k67 k68,.string s69,.slice p70 k71 k72,.bool c73],Value.int IntKind.i64 n82] w213 fun e215 w216=>∃ n217,e215=.returned (.int .i64 n217)∧∃ R218 Φ219,Stable Φ219∧Ctx W w216 (R218++R214) Φ219∧Wk W R218 Φ219 R209 Φ210∧∀ w222 R223,Ctx W w222 (R218++R223) Φ219→Calls Tryz.prog F.erratalaw44_does #[.pointer p80,Value.pointer p22,Value.agg #[.int .i64 n63,.int .i64 n64,.int .i64 n65,.slice p66 k67 k68,.string s69,
  .slice p70 k71 k72,.bool c73],Value.int IntKind.i64 n217] w222 fun e224 w225=>∃ n226,e224=.returned (.int .i64 n226)∧∃ R227 Φ228,Stable Φ228∧Ctx W w225 (R227++R223) Φ228∧∃ R229 Φ230,Stable Φ230∧Wk W R227 Φ228 R229 Φ230∧∀ w233 R234,Ctx W w233 (R227++R234) Φ228→Calls Tryz.prog F.erratalaw44_kindOf #[Value.agg #[.int .i64 n63,.int .i64 n64,.int .i64 n65,.slice p66 k67 k68,.string s69,.slice p70 k71 k72,.bool c73],Value.int IntKind.i64 n82] w233 fun e235 w236=>∃ n237,e235=.returned (.int .i64 n237)∧∃ R238 Φ239,Stable Φ239∧Ctx W w236 (R238++R234) Φ239∧Wk W R238 Φ239 R229 Φ230∧∀ w242 R243,Ctx W w242 (R238++R243) Φ239→Calls Tryz.prog F.erratalaw44_story_follow #[.pointer (some (Addr.mk k46 0 none)),Value.agg #[.int .i64 n63,.int .i64 n64,.int .i64 n65,.slice p66 k67 k68,.string s69,.slice p70 k71 k72,.bool c73],Value.int IntKind.i64
  n237,Value.int IntKind.i64 n184,Value.slice p204 k205 k206,Value.int IntKind.i64 n226,Value.bool c81] w242 fun e244 w245=>e244=.returned (Value.tuple #[])∧∃ R246 Φ247,Stable Φ247∧Ctx W w245 (R246++R243) Φ247∧Br c81 (∃ R248 Φ249,Stable Φ249∧Wk W R246 Φ247 R248 Φ249∧I94 p80 true R248 Φ249) (∀ w252 R253,Ctx W w252 (R246++R253) Φ247→Calls Tryz.prog F.erratalaw44_disky #[.int .i64 n226] w252 fun e254 w255=>∃ c256,e254=.returned (.bool c256)∧∃ R257 Φ258,Stable Φ258∧Ctx W w255 (R257++R253) Φ258∧∃ R259 Φ260,Stable Φ260∧Wk W R257 Φ258 R259 Φ260∧I94 p80 c256 R259 Φ260)))))) (Br (decide (n63=7)) (exI fun (I263:List Own→PW→Prop)=>Br (decide (n63=6)) (∀ w264 R265,Ctx W w264 (R91++R265) Φ92→Calls Tryz.prog F.disk_Disk_Crash #[.pointer p29,.slice p70 k71 k72] w264 fun e266 w267=>e266=.returned (Value.tuple #[])∧∃ R268 Φ269,Stable
  Φ269∧Ctx W w267 (R268++R265) Φ269∧∃ R270 Φ271,Stable Φ271∧Wk W R268 Φ269 R270 Φ271∧I263 R270 Φ271) (∃ R274 Φ275,Stable Φ275∧Wk W R91 Φ92 R274 Φ275∧I263 R274 Φ275)∧∀ (R278:List Own) (I279:List Nat→World→Prop),Stable I279→I263 R278 I279→∀ w280 R281,Ctx W w280 (R278++R281) I279→Calls Tryz.prog F.disk_Disk_Start #[.pointer p29] w280 fun e282 w283=>e282=.returned (Value.tuple #[])∧∃ R284 Φ285,Stable Φ285∧Ctx W w283 (R284++R281) Φ285∧∀ w286 R287,Ctx W w286 (R284++R287) Φ285→Calls Tryz.prog F.commit_Open #[.pointer p29,.int .i64 3] w286 fun e288 w289=>∃ p290 n291,e288=.returned (Value.tuple #[.pointer p290,.int .i64 n291])∧∃ R292 Φ293,Stable Φ293∧Ctx W w289 (R292++R287) Φ293∧Br p290.isNone (∀ w294 R295,Ctx W w294 (R292++R295) Φ293→Calls Tryz.prog F.erratalaw44_disky #[.int .i64 n291] w294 fun e296 w297=>∃ c298,e296 =
  .returned (.bool c298)∧∃ R299 Φ300,Stable Φ300∧Ctx W w297 (R299++R295) Φ300∧Br (!c298) (∀ w301 R302,Ctx W w301 (R299++R302) Φ300→J (.bool false) w301) (∃ R303 Φ304,Stable Φ304∧Wk W R299 Φ300 R303 Φ304∧I94 p290 false R303 Φ304)) (∃ R307 Φ308,Stable Φ308∧Wk W R292 Φ293 R307 Φ308∧I94 p290 false R307 Φ308)) (Br (decide (n63=8)) (∀ w311 R312,Ctx W w311 (R91++R312) Φ92→Calls Tryz.prog F.disk_Disk_Lose #[.pointer p29,.int .i64 n65] w311 fun e313 w314=>e313=.returned (Value.tuple #[])∧∃ R315 Φ316,Stable Φ316∧Ctx W w314 (R315++R312) Φ316∧∃ R317 Φ318,Stable Φ318∧Wk W R315 Φ316 R317 Φ318∧I94 p80 c81 R317 Φ318) (Br (decide (n63=9)) (∀ w321 R322,Ctx W w321 (R91++R322) Φ92→Calls Tryz.prog F.disk_Disk_Arm #[.pointer p29,.int .i64 n65,.slice p70 k71 k72] w321 fun e323 w324=>e323=.returned (Value.tuple #[])∧∃ R325 Φ326,Stable Φ326∧Ctx W
  w324 (R325++R322) Φ326∧∃ R327 Φ328,Stable Φ328∧Wk W R325 Φ326 R327 Φ328∧I94 p80 c81 R327 Φ328) (Br p80.isNone (∃ R331 Φ332,Stable Φ332∧Wk W R91 Φ92 R331 Φ332∧I93 p80 c81 R331 Φ332) (∃ R335 Φ336,Stable Φ336∧Wk W R91 Φ92 R335 Φ336∧∀ w339 R340,Ctx W w339 (R91++R340) Φ92→Calls Tryz.prog F.commit_Coordinator_Last #[.pointer p80] w339 fun e341 w342=>∃ n343,e341=.returned (.int .i64 n343)∧∃ R344 Φ345,Stable Φ345∧Ctx W w342 (R344++R340) Φ345∧Wk W R344 Φ345 R335 Φ336∧∀ w348 R349,Ctx W w348 (R344++R349) Φ345→Calls Tryz.prog F.errataref44_Batch #[Value.agg #[.int .i64 n63,.int .i64 n64,.int .i64 n65,.slice p66 k67 k68,.string s69,.slice p70 k71 k72,.bool c73],Value.int IntKind.i64 n343] w348 fun e350 w351=>∃ n352,e350=.returned (.int .i64 n352)∧∃ R353 Φ354,Stable Φ354∧Ctx W w351 (R353++R349) Φ354∧∃ R355 Φ356,Stable Φ356∧Wk W R353
  Φ354 R355 Φ356∧∀ w359 R360,Ctx W w359 (R353++R360) Φ354→Calls Tryz.prog F.sink_Sink_Lines #[.pointer p22] w359 fun e361 w362=>∃ n363,e361=.returned (.int .i64 n363)∧∃ R364 Φ365,Stable Φ365∧Ctx W w362 (R364++R360) Φ365∧Wk W R364 Φ365 R355 Φ356∧I64 (n363+1)∧∀ w368 R369,Ctx W w368 (R364++R369) Φ365→Calls Tryz.prog F.errataref44_Lines #[Value.agg #[.int .i64 n63,.int .i64 n64,.int .i64 n65,.slice p66 k67 k68,.string s69,.slice p70 k71 k72,.bool c73],Value.int IntKind.i64 n352,Value.int IntKind.i64 (n363+1)] w368 fun e370 w371=>∃ p372 k373 k374,e370=.returned (.slice p372 k373 k374)∧∃ R375 Φ376,Stable Φ376∧Ctx W w371 (R375++R369) Φ376∧∃ R377 Φ378,Stable Φ378∧Wk W R375 Φ376 R377 Φ378∧∀ w381 R382,Ctx W w381 (R375++R382) Φ376→Calls Tryz.prog F.erratalaw44_kindOf #[Value.agg #[.int .i64 n63,.int .i64 n64,.int .i64 n65,.slice
  p66 k67 k68,.string s69,.slice p70 k71 k72,.bool c73],Value.int IntKind.i64 n82] w381 fun e383 w384=>∃ n385,e383=.returned (.int .i64 n385)∧∃ R386 Φ387,Stable Φ387∧Ctx W w384 (R386++R382) Φ387∧Wk W R386 Φ387 R377 Φ378∧∀ w390 R391,Ctx W w390 (R386++R391) Φ387→Calls Tryz.prog F.erratalaw44_does #[.pointer p80,Value.pointer p22,Value.agg #[.int .i64 n63,.int .i64 n64,.int .i64 n65,.slice p66 k67 k68,.string s69,.slice p70 k71 k72,.bool c73],Value.int IntKind.i64 n385] w390 fun e392 w393=>∃ n394,e392=.returned (.int .i64 n394)∧∃ R395 Φ396,Stable Φ396∧Ctx W w393 (R395++R391) Φ396∧∃ R397 Φ398,Stable Φ398∧Wk W R395 Φ396 R397 Φ398∧∀ w401 R402,Ctx W w401 (R395++R402) Φ396→Calls Tryz.prog F.erratalaw44_kindOf #[Value.agg #[.int .i64 n63,.int .i64 n64,.int .i64 n65,.slice p66 k67 k68,.string s69,.slice p70 k71 k72,.bool c73],
  Value.int IntKind.i64 n82] w401 fun e403 w404=>∃ n405,e403=.returned (.int .i64 n405)∧∃ R406 Φ407,Stable Φ407∧Ctx W w404 (R406++R402) Φ407∧Wk W R406 Φ407 R397 Φ398∧∀ w410 R411,Ctx W w410 (R406++R411) Φ407→Calls Tryz.prog F.erratalaw44_story_follow #[.pointer (some (Addr.mk k46 0 none)),Value.agg #[.int .i64 n63,.int .i64 n64,.int .i64 n65,.slice p66 k67 k68,.string s69,.slice p70 k71 k72,.bool c73],Value.int IntKind.i64 n405,Value.int IntKind.i64 n352,Value.slice p372 k373 k374,Value.int IntKind.i64 n394,Value.bool c81] w410 fun e412 w413=>e412=.returned (Value.tuple #[])∧∃ R414 Φ415,Stable Φ415∧Ctx W w413 (R414++R411) Φ415∧Br c81 (∃ R416 Φ417,Stable Φ417∧Wk W R414 Φ415 R416 Φ417∧I94 p80 true R416 Φ417) (∀ w420 R421,Ctx W w420 (R414++R421) Φ415→Calls Tryz.prog F.erratalaw44_disky #[.int .i64 n394] w420 fun e422 w423=>∃ c424,e422
  = .returned (.bool c424)∧∃ R425 Φ426,Stable Φ426∧Ctx W w423 (R425++R421) Φ426∧∃ R427 Φ428,Stable Φ428∧Wk W R425 Φ426 R427 Φ428∧I94 p80 c424 R427 Φ428))))))∧∀ (p431:Option Addr) (c432:Bool) (R433:List Own) (I434:List Nat→World→Prop),Stable I434→I94 p431 c432 R433 I434→∀ w435 R436,Ctx W w435 (R433++R436) I434→Calls Tryz.prog F.erratalaw44_story_fits #[.pointer (some (Addr.mk k46 0 none)),.pointer p22] w435 fun e437 w438=>∃ c439,e437=.returned (.bool c439)∧∃ R440 Φ441,Stable Φ441∧Ctx W w438 (R440++R436) Φ441∧Br (!c439) (∀ w442 R443,Ctx W w442 (R440++R443) Φ441→J (.bool false) w442) (Br p431.isNone (∃ R444 Φ445,Stable Φ445∧Wk W R440 Φ441 R444 Φ445∧I93 p431 c432 R444 Φ445) (∀ w448 R449,Ctx W w448 (R440++R449) Φ441→Calls Tryz.prog F.commit_Coordinator_Phase #[.pointer p431] w448 fun e450 w451=>∃ n452,e450=.returned (.int
  .i64 n452)∧∃ R453 Φ454,Stable Φ454∧Ctx W w451 (R453++R449) Φ454∧∃ R455 Φ456,Stable Φ456∧Wk W R453 Φ454 R455 Φ456∧Br (decide (n452=0)) (∃ (s459:ByteArray),(∀ w460 R461,Ctx W w460 (R455++R461) Φ456→∃ s462,w460.cell? (Addr.mk k46 2 none)=some (.string s462)∧Value.string s462=Value.string s459)∧∀ w463 R464,Ctx W w463 (R453++R464) Φ454→Calls Tryz.prog F.commit_Coordinator_Check #[.pointer p431] w463 fun e465 w466=>∃ s467,e465=.returned (.string s467)∧∃ R468 Φ469,Stable Φ469∧Ctx W w466 (R468++R464) Φ469∧Wk W R468 Φ469 R455 Φ456∧Br (decide (s467≠s459)) (∀ w472 R473,Ctx W w472 (R468++R473) Φ469→J (.bool false) w472) (∀ w474 R475,Ctx W w474 (R468++R475) Φ469→Calls Tryz.prog F.commit_Coordinator_Phase #[.pointer p431] w474 fun e476 w477=>∃ n478,e476=.returned (.int .i64 n478)∧∃ R479 Φ480,Stable Φ480∧Ctx W w477 (R479 ++
  R475) Φ480∧Br (decide (n478=2)) (∀ w481 R482,Ctx W w481 (R479++R482) Φ480→∃ c483,w481.cell? (Addr.mk k46 6 none)=some (.bool c483)∧Br (!c483) (∀ w484 R485,Ctx W w484 (R479++R485) Φ480→J (.bool false) w484) (∃ R486 Φ487,Stable Φ487∧Wk W R479 Φ480 R486 Φ487∧I93 p431 c432 R486 Φ487)) (∃ R490 Φ491,Stable Φ491∧Wk W R479 Φ480 R490 Φ491∧I93 p431 c432 R490 Φ491))) (∀ w494 R495,Ctx W w494 (R453++R495) Φ454→Calls Tryz.prog F.commit_Coordinator_Phase #[.pointer p431] w494 fun e496 w497=>∃ n498,e496=.returned (.int .i64 n498)∧∃ R499 Φ500,Stable Φ500∧Ctx W w497 (R499++R495) Φ500∧Br (decide (n498=2)) (∀ w501 R502,Ctx W w501 (R499++R502) Φ500→∃ c503,w501.cell? (Addr.mk k46 6 none)=some (.bool c503)∧Br (!c503) (∀ w504 R505,Ctx W w504 (R499++R505) Φ500→J (.bool false) w504) (∃ R506 Φ507,Stable Φ507∧Wk W R499 Φ500 R506 Φ507∧I93 p431
  c432 R506 Φ507)) (∃ R510 Φ511,Stable Φ511∧Wk W R499 Φ500 R510 Φ511∧I93 p431 c432 R510 Φ511)))))∧∀ (p514:Option Addr) (c515:Bool) (R516:List Own) (I517:List Nat→World→Prop),Stable I517→I93 p514 c515 R516 I517→I64 (n82+1)∧∃ R518 Φ519 k520,Stable Φ519∧Wk W R516 I517 R518 Φ519∧I74 p514 c515 (n82+1) R518 Φ519 k520∧k520<k85) (I64 (n55+1)∧∃ R523 Φ524 k525,Stable Φ524∧Wk W R91 Φ92 R523 Φ524∧I47 p80 c81 (n55+1) R523 Φ524 k525∧k525<k58)) (∀ w528 R529,Ctx W w528 (R56++R529) I57→Calls Tryz.prog F.disk_Disk_Lose #[.pointer p29,.int .i64 0] w528 fun e530 w531=>e530=.returned (Value.tuple #[])∧∃ R532 Φ533,Stable Φ533∧Ctx W w531 (R532++R529) Φ533∧∀ w534 R535,Ctx W w534 (R532++R535) Φ533→Calls Tryz.prog F.disk_Disk_Arm #[.pointer p29,.int .i64 0,.slice none 0 0] w534 fun e536 w537=>e536=.returned (Value.tuple #[])∧∃
  R538 Φ539,Stable Φ539∧Ctx W w537 (R538++R535) Φ539∧∀ w540 R541,Ctx W w540 (R538++R541) Φ539→Calls Tryz.prog F.erratalaw44_again #[.pointer p29,.slice keepP keepN keepC] w540 fun e542 w543=>∃ p544 n545,e542=.returned (Value.tuple #[.pointer p544,.int .i64 n545])∧∃ R546 Φ547,Stable Φ547∧Ctx W w543 (R546++R541) Φ547∧∀ w548 R549,Ctx W w548 (R546++R549) Φ547→Br (p544.isNone||decide (n545≠0)) (∀ w550 R551,Ctx W w550 (R546++R551) Φ547→J (.bool false) w550) (∀ w552 R553,Ctx W w552 (R546++R553) Φ547→Calls Tryz.prog F.commit_Coordinator_Recover #[.pointer p544,.pointer p22] w552 fun e554 w555=>∃ n556,e554=.returned (.int .i64 n556)∧∃ R557 Φ558,Stable Φ558∧Ctx W w555 (R557++R553) Φ558∧Br (decide (n556≠0)) (∀ w559 R560,Ctx W w559 (R557++R560) Φ558→J (.bool false) w559) (∀ w561 R562,Ctx W w561 (R557++R562) Φ558→Calls Tryz.prog
  F.commit_Coordinator_Phase #[.pointer p544] w561 fun e563 w564=>∃ n565,e563=.returned (.int .i64 n565)∧∃ R566 Φ567,Stable Φ567∧Ctx W w564 (R566++R562) Φ567∧Br (decide (n565≠0)) (∀ w568 R569,Ctx W w568 (R566++R569) Φ567→J (.bool false) w568) (∀ w570 R571,Ctx W w570 (R566++R571) Φ567→Calls Tryz.prog F.erratalaw44_story_fits #[.pointer (some (Addr.mk k46 0 none)),.pointer p22] w570 fun e572 w573=>∃ c574,e572=.returned (.bool c574)∧∃ R575 Φ576,Stable Φ576∧Ctx W w573 (R575++R571) Φ576∧Br (!c574) (∀ w577 R578,Ctx W w577 (R575++R578) Φ576→J (.bool false) w577) (∃ R579 Φ580,Stable Φ580∧Wk W R575 Φ576 R579 Φ580∧Br c4 (∃ (s583:ByteArray),(∀ w584 R585,Ctx W w584 (R579++R585) Φ580→∃ s586,w584.cell? (Addr.mk k46 2 none)=some (.string s586)∧Value.string s586=Value.string s583)∧∀ w587 R588,Ctx W w587 (R575++R588) Φ576→Calls
  Tryz.prog F.commit_Coordinator_Check #[.pointer p544] w587 fun e589 w590=>∃ s591,e589=.returned (.string s591)∧∃ R592 Φ593,Stable Φ593∧Ctx W w590 (R592++R588) Φ593∧Wk W R592 Φ593 R579 Φ580∧∃ R596 Φ597,Stable Φ597∧Wk W R592 Φ593 R596 Φ597∧Br (decide (s591=s583)) (∃ (c600:Bool),(∀ w601 R602,Ctx W w601 (R596++R602) Φ597→∃ c603,w601.cell? (Addr.mk k46 7 none)=some (.bool c603)∧Value.bool c603=Value.bool c600)∧Br (!c600) (∀ w604 R605,Ctx W w604 (R592++R605) Φ593→J (.bool true) w604) (∃ (n606:Int),(∀ w607 R608,Ctx W w607 (R596++R608) Φ597→∃ n609,w607.cell? (Addr.mk k46 3 none)=some (.int .i64 n609)∧Value.int IntKind.i64 n609=Value.int IntKind.i64 n606)∧∀ w610 R611,Ctx W w610 (R592++R611) Φ593→Calls Tryz.prog F.sink_Sink_Last #[.pointer p22] w610 fun e612 w613=>∃ n614,e612=.returned (.int .i64 n614)∧∃ R615 Φ616,Stable
  Φ616∧Ctx W w613 (R615++R611) Φ616∧Wk W R615 Φ616 R596 Φ597∧∀ w619 R620,Ctx W w619 (R615++R620) Φ616→J (.bool (decide (n614=n606))) w619)) (∀ w621 R622,Ctx W w621 (R592++R622) Φ593→J (.bool false) w621)) (∃ R623 Φ624,Stable Φ624∧Wk W R575 Φ576 R623 Φ624∧∀ w627 R628,Ctx W w627 (R575++R628) Φ576→J (.bool false) w627)))))))))
theorem Merratalaw44_CommitOnce_run (kind:Int) (lP:Option Addr) (lN lC:Nat) (keepP:Option Addr) (keepN keepC:Nat) {W w:World} {R:List Own} {Φ:PW} [Stable Φ] {J:Value→World→Prop} (c:Ctx W w R Φ) (h:Merratalaw44_CommitOnce kind lP lN lC keepP keepN keepC W R Φ J):Calls Tryz.prog F.erratalaw44_CommitOnce #[.int .i64 kind,.slice lP lN lC,.slice keepP keepN keepC] w fun e w'=>∃ v,e=.returned v∧J v w' :=
  vcFS_sound (H:={ keep:=some [0,1,2,6,7,8,9,10,11,12,13,14,15,16,17,18,27,37,53,63,67,69,102,107,125,126,132,143,145,169,185,200],track:=[15],stages:=[(20,[.held [(0,true),(1,true),(2,false)],.stage [] (some 3),.stage [4] none]),(21,[.held [(0,true),(1,true),(2,true),(3,false),(4,true)],.stage [] (some 5),.stage [6] none]),(22,[.held [(0,true),(1,true),(2,true),(3,true),(4,true),(5,false)],.stage [] (some 6),.stage [7] none]),(23,[.held [(0,true),(1,true),(2,true),(3,true),(5,true),(6,true),(7,true),(8,true),(4,false)],.stage [] (some 9)]),(41,[.stage [0] (some 1),.held [(2,true),(3,true),(4,true),(6,true),(7,true),(8,true),(9,true),(5,false)],.stage [10] none,.stage [11] none,.stage [12] none,.stage [13] (some 14),.stage [15,16,17,18,19,20,21,22,23] none]),(50,[.held [(0,true),(1,true),(2,true),(4,true),(5,true),(6,true),(7,true),(3,false)],.held [(8,true),(9,true),(10,true),(11,true),(12,true),(13,true),(14,true),(15,true),(16,true),(17,true),(19,true),(20,true),(21,true),(22,true),(18,false)],.stage [23,24,25,26] none])],split:=[2,24,32,48],loops:=[(16,[(10,.one (.ptr)),(13,.one (.bool)),(16,.one (.int .i64))],[]),(12,[(10,.one (.ptr)),(13,.one (.bool)),(14,.one (.int .i64))],[])],cuts:=[(17,[(10,.one (.ptr)),(13,.one (.bool))],[]),(29,[],[]),(38,[(10,.one (.ptr)),(13,.one (.bool))],[])] }) (Eq.mpr (by kernel_rfl) h) c
def Merrataref44_Batch (o0:Int) (o1:Int) (o2:Int) (o3P:Option Addr) (o3N o3C:Nat) (o4:ByteArray) (o5P:Option Addr) (o5N o5C:Nat) (o6:Bool) (last:Int) (W:World) (R:List Own) (Φ:PW) (J:Value→World→Prop):Prop :=
  ∀ (b:Nat),Br (!o6) (∀ w0 R1,Ctx W w0 (R++R1) Φ→J (.int .i64 o1) w0) (((3:Int)=0→False)∧Br (decide (o1.tmod (3:Int)<0)) (I64 (o1.tmod 3+3)∧∀ w2 R3,Ctx W w2 (R++R3) Φ→J (.int .i64 (IntKind.i64.wrap (IntKind.i64.wrap (last+1)+(o1.tmod 3+3)))) w2) (∀ w4 R5,Ctx W w4 (R++R5) Φ→J (.int .i64 (IntKind.i64.wrap (IntKind.i64.wrap (last+1)+o1.tmod 3))) w4))
theorem Merrataref44_Batch_run (o0:Int) (o1:Int) (o2:Int) (o3P:Option Addr) (o3N o3C:Nat) (o4:ByteArray) (o5P:Option Addr) (o5N o5C:Nat) (o6:Bool) (last:Int) {W w:World} {R:List Own} {Φ:PW} [Stable Φ] {J:Value→World→Prop} (c:Ctx W w R Φ) (h:Merrataref44_Batch o0 o1 o2 o3P o3N o3C o4 o5P o5N o5C o6 last W R Φ J):Calls Tryz.prog F.errataref44_Batch #[.agg #[.int .i64 o0,.int .i64 o1,.int .i64 o2,.slice o3P o3N o3C,.string o4,.slice o5P o5N o5C,.bool o6],.int .i64 last] w fun e w'=>∃ v,e=.returned v∧J v w' :=
  vcFS_sound (H:={ keep:=some [1,2,4,5,8,15],wrap:=[19,21],track:=[2] }) (Eq.mpr (by kernel_rfl) h) c
end Go.Proofs.YtfccagphnfceiaaGreatDoor
end

section
namespace Go.Proofs.YtfccagphnfceiaaGreatDoor
open Go.Vc
theorem renB_snoc (b:Int):∀ (l:List LineD) (x:LineD) (f:Int),renB b f (l++[x])=renB b f l++[{ x with no:=f+l.length,batch:=b }]
  | [],x,f=>by simp [renB]
  | y :: l,x,f=>by
    show { y with no:=f,batch:=b } :: renB b (f+1) (l++[x])=_
    rw [renB_snoc b l x (f+1)]
    have:f+1+(l.length:Int)=f+((y :: l).length:Int):=by simp only [List.length_cons];omega
    rw [this]
    rfl
def mixB (b f:Int) (L:List LineD) (i:Nat):List LineD:=renB b f (L.take i)++L.drop i
theorem mixB_at {b f:Int} {L:List LineD} {i:Nat} (h:i<L.length):(mixB b f L i)[i]? = some L[i]:=by
  unfold mixB
  have e:(renB b f (L.take i)).length=i:=by rw [renB_len,List.length_take];omega
  rw [List.getElem?_append_right (by omega),e,Nat.sub_self,List.getElem?_drop,Nat.add_zero,List.getElem?_eq_getElem h]
theorem mixB_set {b f:Int} {L:List LineD} {i:Nat} (h:i<L.length):(mixB b f L i).set i { L[i] with no:=f+i,batch:=b }=mixB b f L (i+1):=by
  unfold mixB
  have e:(renB b f (L.take i)).length=i:=by rw [renB_len,List.length_take];omega
  have el:(L.take i).length=i:=by rw [List.length_take];omega
  rw [List.set_append_right _ _ (by omega),e,Nat.sub_self,List.drop_eq_getElem_cons h,List.set_cons_zero,List.take_succ_eq_append_getElem h,renB_snoc,el,List.append_assoc]
  rfl
theorem mixB_len {b f:Int} {L:List LineD} {i:Nat} (h:i≤L.length):(mixB b f L i).length=L.length:=by
  unfold mixB
  rw [List.length_append,renB_len,List.length_take,List.length_drop];omega
section
variable {W w:World} {S R G:List Own} {Φ:PW} {p:Option Addr} {cap:Nat} {L:List LineD} {cs:List Value}
set_option maxHeartbeats 1000000 in
theorem Clone43_new [Stable Φ] (src:Src [] Φ p L cs) (hc:Rows7 cs L) (hlen:L.length≤1000000) (hrow:∀ x∈L,x.row.length≤1000000) (c:Ctx W w S Φ) :
    Calls Tryz.prog F.errataref43_Clone #[.slice p L.length cap] w fun e w'=>∃ p' c' cs',e=.returned (.slice p' L.length c')∧Ctx W w' (bufL p' L.length c' cs' :: S) (fun M w=>Φ M w∧Elems M w cs' L):=by
  refine (Berrataref43_Clone_run p L.length cap (J:=fun v w'=>∃ p' c' cs',v=.slice p' L.length c'∧Ctx W w' (bufL p' L.length c' cs' :: S) (fun M w=>Φ M w∧Elems M w cs' L)) c ?_).mono fun e w' ⟨v,he,p',c',cs',hv,rest⟩=>⟨p',c',cs',by rw [he,hv],rest⟩
  clear c
  refine exI_mk (fun p6 n c iI R' Φ' k=>∃ (i:Nat) (ds:List Value),iI=i∧i≤L.length∧n=(L.take i).length∧R'=bufL p6 (L.take i).length c ds :: S∧Φ'=(fun M w=>Φ M w∧Elems M w ds (L.take i))∧k=L.length - i) ⟨⟨bufL none 0 0 [] :: S,fun M w=>Φ M w∧Elems M w [] ([]:List LineD),_,inferInstance,fun w G cx=>(cx.nobuf 31 7).weak fun M w h=>⟨h,Elems.nil⟩,0,[],rfl,Nat.zero_le _,rfl,rfl,rfl,rfl⟩,?_⟩
  rintro p6 n c iI R1 Φ1 k _ ⟨i,ds,rfl,hi,rfl,rfl,rfl,rfl⟩
  have stE:∀ (ds:List Value) (o:List LineD),Stable (fun M w=>Φ M w∧Elems M w ds o):=fun ds o=>inferInstance
  refine Br.intro (fun hlt=>?_) (fun hge=>fun w G cx=>?_)
  · have hlt:i<L.length:=by have:=of_decide_eq_true hlt;omega
    obtain ⟨b,o,hp⟩:=src.ptr (by omega)
    obtain ⟨r,rc,he,h1,h2,h3⟩:=hc i hlt
    have hx:L[i].row.length≤1000000:=hrow _ (List.getElem_mem hlt)
    obtain ⟨x,hxe⟩:∃ x,L[i]=x:=⟨_,rfl⟩
    have hsl:∀ M w,Φ M w→Sl M w r x.row:=fun M w h=>by rw [←hxe];exact src_sl src hlt he h
    have hrd:∀ {w:World} {G:List Own},Ctx W w ((bufL p6 (L.take i).length c ds :: S)++G) (fun M w=>Φ M w∧Elems M w ds (L.take i))→RowAt w b (o+((i:Nat):Int).toNat*7) (x.cells r rc):=fun {w G} cx=>by
      rw [Int.toNat_natCast,←hxe]
      exact src_at (S:=[]) (G:=(bufL p6 (L.take i).length c ds :: S)++G) src hp cx.fst he
    have hst:L.take (i+1)=L.take i++[x]:=by rw [List.take_succ_eq_append_getElem hlt,hxe]
    rw [hxe] at hx h3
    obtain ⟨o1,ho1⟩:∃ o1,L.take i=o1:=⟨_,rfl⟩
    have ho1l:o1.length≤1000000:=by rw [←ho1,List.length_take];omega
    rw [ho1] at hst
    simp only [ho1] at hrd ⊢
    refine ⟨by omega,ptrK_intro b o hp fun w G cx=>⟨x.no,x.batch,x.time,r,x.row.length,rc,x.n,x.cause,x.why,hrd cx,fun _ kb w G cx=>?_⟩⟩
    obtain ⟨p2,c2,w2,cs2,hrun,cx1⟩:=Ctx.cloned (P:=Tryz.prog) (ts:=29) (ty:=29) (kb:=#[false,false]) (bytes:=32) (c2:=rc) (l:=x.row) (q:=r) cx (by kernel_rfl) val_one (fun M w h=>hsl M w h.1) (by omega) (by omega)
    obtain ⟨cx2,hs,_,g1,g2⟩:=Ctx.freeze (α:=ValD) cx1 cx1.phi.2
    have stP:Stable (fun M w=>Φ M w∧Sl M w p2 x.row):=inferInstance
    have stQ:Stable (fun M w=>(Φ M w∧Sl M w p2 x.row)∧Elems M w ds o1):=instStableAnd (fun M w=>Φ M w∧Sl M w p2 x.row) (fun M w=>Elems M w ds o1)
    refine ⟨p2,_,c2,w2,hrun,bufL p6 o1.length c ds :: S,(fun M w=>(Φ M w∧Sl M w p2 x.row)∧Elems M w ds o1),stQ,(cx2.add (Ψ:=fun M w=>Sl M w p2 x.row) hs).weak fun M w h=>⟨⟨h.1.1.1,h.2⟩,h.1.1.2⟩,fun k2 w G cx=>?_⟩
    clear cx1 cx2 hs
    obtain ⟨p',c',w',hrun',cx'⟩:=pushK (PS:=fun M w=>Φ M w∧Sl M w p2 x.row) (x:=x) (a:=p2) (ac:=c2) (fun M w h=>rep_line g1 g2 h3 h.2) (by omega) cx
    refine ⟨p',_,c',w',hrun',_,_,instStableAnd Φ (fun M w=>Elems M w (ds++x.cells p2 c2) (o1++[x])),cx'.weak fun M w h=>⟨h.1.1,h.2⟩,by unfold I64;omega,_,_,L.length - (i+1),stE _ _,fun w G cx=>cx,⟨i+1,_,by omega,hlt,by rw [hst],by rw [hst],by rw [hst],rfl⟩,by omega⟩
  · have hge:i=L.length:=by have:=of_decide_eq_false hge;omega
    subst hge
    rw [List.take_length] at cx ⊢
    exact ⟨p6,c,ds,rfl,cx.left⟩
set_option maxHeartbeats 1000000 in
theorem Lines_sl [Stable Φ] {o:OpC} {lp kp:Option Addr} {lc kc:Nat} (hL:∀ M w,Φ M w→Sl M w lp o.L) {batch first:Int} (hb:I64 batch) (hf:0≤first∧first≤1000000) (hlen:o.L.length≤1000) (hrow:∀ x∈o.L,x.row.length≤1000000) :
    GivesSl Φ Tryz.prog F.errataref44_Lines #[o.v lp lc kp kc,.int .i64 batch,.int .i64 first] (linesO o batch first) id :=
  .there (fun M w h=>(hL M w h).there) fun hth=>⟨fun W w S c=>by
    obtain ⟨cs,c1⟩:=srcOf c (hL _ _ c.phi)
    have main:Calls Tryz.prog F.errataref44_Lines #[o.v lp lc kp kc,.int .i64 batch,.int .i64 first] w fun e w'=>∃ p' c' cs',e=.returned (.slice p' (linesO o batch first).length c')∧Ctx W w' (bufL p' (linesO o batch first).length c' cs' :: S) (fun M w=>(Φ M w∧SrcF lp o.L cs M w)∧Elems M w cs' (linesO o batch first)):=by
      refine (Berrataref44_Lines_run o.kind o.b o.n lp o.L.length lc o.next kp o.keep.length kc o.fit batch first (J:=fun v w'=>∃ p' c' cs',v=.slice p' (linesO o batch first).length c'∧Ctx W w' (bufL p' (linesO o batch first).length c' cs' :: S) (fun M w=>(Φ M w∧SrcF lp o.L cs M w)∧Elems M w cs' (linesO o batch first))) c1 ?_).mono fun e w' ⟨v,he,p',c',cs',hv,rest⟩=>⟨p',c',cs',by rw [he,hv],rest⟩
      have hrw7:=rows7 c1.phi.2.2
      clear c
      clear c1
      obtain ⟨Ψ,hΨ⟩:∃ Ψ:PW,(fun M w=>Φ M w∧SrcF lp o.L cs M w)=Ψ:=⟨_,rfl⟩
      have stΨ:Stable Ψ:=by rw [←hΨ];infer_instance
      have src:=src_fact (Φ:=Ψ) (p:=lp) (l:=o.L) (cs:=cs) hth (fun M w h=>by rw [←hΨ] at h;exact h.2)
      have hΨ2:∀ ds (l:List LineD),(fun M w=>(Φ M w∧SrcF lp o.L cs M w)∧Elems M w ds l)=(fun M w=>Ψ M w∧Elems M w ds l):=fun ds l=>by rw [←hΨ]
      rw [linesO_len]
      simp only [hΨ2]
      rw [hΨ]
      refine fun _ w G cx=>(Clone43_new (S:=S++G) src hrw7 (by omega) hrow cx).mono fun e w' ⟨p1,c1,cs1,he,cx⟩=>⟨p1,o.L.length,c1,he,bufL p1 o.L.length c1 cs1 :: S,(fun M w=>Ψ M w∧Elems M w cs1 o.L),inferInstance,cx,?_⟩
      have hel:=cx.phi.2
      have hpt:0<o.L.length→∃ g,p1=some ⟨g,0,none⟩:=fun h0=>l_ptr cx (by rw [elems_len7 hel];omega)
      clear cx hel
      refine exI_mk (fun iI R' Φ' m=>∃ i cs2,iI=(i:Nat)∧i≤o.L.length∧(o.fit=false→i=0)∧R'=bufL p1 o.L.length c1 cs2 :: S∧Φ'=(fun M w=>Ψ M w∧Elems M w cs2 (mixB batch first o.L i))∧m=o.L.length - i) ⟨⟨_,_,_,instStableAnd Ψ (fun M w=>Elems M w cs1 o.L),fun w G cx=>cx,0,cs1,rfl,Nat.zero_le _,fun _=>rfl,rfl,rfl,rfl⟩,?_⟩
      rintro iI R1 Φ1 m _ ⟨i,cs2,rfl,hi,hfit,rfl,rfl,rfl⟩
      refine fun w G cx=>Br.intro (fun hlt=>?_) (fun hge=>fun w G cx=>?_)
      · rw [Bool.and_eq_true] at hlt
        have hlt1:i<o.L.length:=by have:=of_decide_eq_true hlt.1;omega
        obtain ⟨g,rfl⟩:=hpt (by omega)
        clear cx
        refine ⟨by unfold I64;omega,by omega,ptrK_intro g 0 rfl fun w G cx=>⟨?_,fun w2 hw2=>?_⟩⟩
        · have hl:=elems_len7 cx.phi.2
          rw [mixB_len hi] at hl
          exact l_can (S:=S++G) cx (by omega)
        have st3:∀ (cs3:List Value) (l:List LineD),Stable (fun M w=>Ψ M w∧Elems M w cs3 l):=fun cs3 l=>instStableAnd Ψ (fun M w=>Elems M w cs3 l)
        obtain ⟨cs3,cx3⟩:=sk_cellI (w':=w2) (S:=S++G) cx { o.L[i] with no:=first+i } (mixB_at hlt1) (k:=0) (v:=.int .i64 (first+i)) (by decide) rfl (fun p c=>rfl) (fun h=>⟨by show I64 (first+i);unfold I64;omega,h.batch,h.time,h.n,h.cause,h.why⟩) (by rw [hw2];congr 2;omega)
        refine ⟨bufL (some ⟨g,0,none⟩) o.L.length c1 cs3 :: S,_,st3 _ _,cx3,by omega,ptrK_intro g 0 rfl fun w G cx=>⟨?_,fun w2 hw2=>?_⟩⟩
        · have hl:=elems_len7 cx.phi.2
          rw [List.length_set,mixB_len hi] at hl
          exact l_can (S:=S++G) cx (by omega)
        obtain ⟨cs4,cx4⟩:=sk_cellI (w':=w2) (S:=S++G) cx { o.L[i] with no:=first+i,batch:=batch } (y:={ o.L[i] with no:=first+i }) (by rw [List.getElem?_set_self (by rw [mixB_len hi];exact hlt1)]) (k:=1) (v:=.int .i64 batch) (by decide) rfl (fun p c=>rfl) (fun h=>⟨h.no,hb,h.time,h.n,h.cause,h.why⟩) (by rw [hw2];congr 2;omega)
        rw [List.set_set,mixB_set hlt1] at cx4
        exact ⟨bufL (some ⟨g,0,none⟩) o.L.length c1 cs4 :: S,_,st3 _ _,cx4,by unfold I64;omega,_,_,o.L.length - (i+1),st3 _ _,fun w G cx=>cx,⟨i+1,cs4,by omega,hlt1,(fun h=>by rw [h] at hlt;cases hlt.2),rfl,rfl,rfl⟩,by omega⟩
      · refine ⟨p1,c1,cs2,rfl,?_⟩
        have:mixB batch first o.L i=linesO o batch first:=by
          unfold linesO
          by_cases hft:o.fit=true
          · rw [if_pos hft]
            rw [hft,Bool.and_true] at hge
            have:i=o.L.length:=by have:=of_decide_eq_false hge;omega
            unfold mixB
            rw [this,List.take_length,List.drop_length,List.append_nil]
          · rw [if_neg hft]
            have:i=0:=hfit (by simpa using hft)
            rw [this]
            rfl
        rw [←this]
        exact cx.left
    refine main.mono fun e w' ⟨p',c',cs',he,cx⟩=>?_
    obtain ⟨c2,hs,_,h2,h3⟩:=Ctx.freeze (α:=LineD) cx cx.phi.2
    exact ⟨p',c',he,h2,h3,(c2.add hs).weak fun M w h=>⟨h.1.1.1,h.2⟩⟩⟩
theorem Batch_in [Stable Φ] {o:OpC} {lp kp:Option Addr} {lc kc:Nat} {last:Int}:GivesIn Φ Tryz.prog F.errataref44_Batch #[o.v lp lc kp kc,.int .i64 last] (.int .i64 (batchC o last)):=by
  refine gives_in (Merrataref44_Batch_run o.kind o.b o.n lp o.L.length lc o.next kp o.keep.length kc o.fit last) fun W R=>fun _=>Br.intro (fun h=>fun w G cx=>⟨?_,cx.left⟩) (fun h=>⟨(fun h=>absurd h (by decide)),Br.intro (fun h2=>⟨?_,fun w G cx=>⟨?_,cx.left⟩⟩) (fun h2=>fun w G cx=>⟨?_,cx.left⟩)⟩)
  · unfold batchC;rw [if_pos (by simpa using h)]
  · have h1:=Int.tmod_lt_of_pos o.b (show (0:Int)<3 by decide)
    have h2:=Int.lt_tmod_of_pos o.b (show (0:Int)<3 by decide)
    unfold I64;omega
  · unfold batchC;rw [if_neg (by intro e;rw [e] at h;cases h),if_pos (of_decide_eq_true h2)]
  · unfold batchC;rw [if_neg (by intro e;rw [e] at h;cases h),if_neg (of_decide_eq_false h2)]
theorem steps_in [Stable Φ] {o:OpC} {lp kp:Option Addr} {lc kc:Nat}:GivesIn Φ Tryz.prog F.erratalaw44_steps #[o.v lp lc kp kc] (.int .i64 (if o.kind=10 then 4 else 1)):=by
  refine gives_in (Berratalaw44_steps_run o.kind o.b o.n lp o.L.length lc o.next kp o.keep.length kc o.fit) fun W R=>fun _=>Br.intro (fun h=>fun w G cx=>⟨by rw [if_pos (of_decide_eq_true h)],cx.left⟩) (fun h=>fun w G cx=>⟨by rw [if_neg (of_decide_eq_false h)],cx.left⟩)
theorem kindOf_in [Stable Φ] {o:OpC} {lp kp:Option Addr} {lc kc:Nat} {j:Int}:GivesIn Φ Tryz.prog F.erratalaw44_kindOf #[o.v lp lc kp kc,.int .i64 j] (.int .i64 (if o.kind=10 then j else o.kind)):=by
  refine gives_in (Berratalaw44_kindOf_run o.kind o.b o.n lp o.L.length lc o.next kp o.keep.length kc o.fit j) fun W R=>fun _=>Br.intro (fun h=>fun w G cx=>⟨by rw [if_pos (of_decide_eq_true h)],cx.left⟩) (fun h=>fun w G cx=>⟨by rw [if_neg (of_decide_eq_false h)],cx.left⟩)
theorem disky44_in [Stable Φ] {e:Int}:GivesIn Φ Tryz.prog F.erratalaw44_disky #[.int .i64 e] (.bool (dskB e)) :=
  gives_in (Berratalaw44_disky_run e) fun W R=>fun w G cx w G cx=>⟨rfl,cx.left⟩
end
section
variable {W w:World} {S R G:List Own} {Φ:PW} {k:KP} {s:SkD} {p:CoP} {q:DkP} {d:DsS} {c:CoS} {n:Nat}
set_option maxHeartbeats 2000000 in
theorem Does_use [Stable Φ] (hE:CE Φ) [hS:Has Φ (SkF k s)] [hC:Has Φ (CoF p c)] (hq:DkQ q d) (hk:DkK Φ q d) (hw:StW c.now) (hkq:SkQ k s) (hI:SkI s) (hs:SkS s n) (hn:n≤300000) {o:OpC} {lp kp:Option Addr} {lc kc:Nat} (hL:∀ M w,Φ M w→Sl M w lp o.L) (h6:o.L.length≤6) (hrow:∀ x∈o.L,x.row.length≤1000000) (hb:I64 o.b) (hm:I64 o.n) (hnx:o.next.size≤50) {kind:Int}
    (cx:Ctx W w (CoO p q c++(dkL q d++(SkO k s++S))) Φ) {K:Ending→World→Prop} (hK:SinkK W Φ k p q S K (opX d c s o kind)) :
    Calls Tryz.prog F.erratalaw44_does #[.pointer (some ⟨p.cb,0,none⟩),snk k,o.v lp lc kp kc,.int .i64 kind] w K:=by
  have pass:∀ {r:DsS × CoS × SkD × Int},opX d c s o kind=r→∀ G,SinkK W Φ k p q (S++G) (EndK W G K) r:=fun {r} he G u p' k' w' Φ' h1 h2 h3 h4 h5 h6 cx=>by
    rw [he] at hK
    exact wrapK (A:=CoO p' q r.2.1) (X:=dkL (q.mv u) r.1) (S:=SkO k' r.2.2.1++S) (cx.re (by simp)) fun w cx=>hK u p' k' w Φ' h1 h2 h3 h4 h5 h6 cx
  refine (Berratalaw44_does_run p.cb 0 k.sb 0 o.kind o.b o.n lp o.L.length lc o.next kp o.keep.length kc o.fit kind (J:=fun u w'=>K (.returned u) w') cx fun _=>?_).mono fun e w' ⟨v,he,hj⟩=>by rw [he];exact hj
  clear cx
  have hsl:=hs.lines
  refine Br.intro (fun h0=>?_) (fun h0=>Br.intro (fun h1=>?_) (fun h1=>Br.intro (fun h2=>?_) (fun h2=>Br.intro (fun h3=>?_) (fun h3=>Br.intro (fun h4=>?_) (fun h4=>Br.intro (fun h5=>?_) (fun h5=>?_))))))
  · -- Begin
    have e:opX d c s o kind=((beginC d c (batchC o c.now.last) o.n (linesO o (batchC o c.now.last) ((s.lines.length:Int)+1)) o.next).1,(beginC d c (batchC o c.now.last) o.n (linesO o (batchC o c.now.last) ((s.lines.length:Int)+1)) o.next).2.1,s,(beginC d c (batchC o c.now.last) o.n (linesO o (batchC o c.now.last) ((s.lines.length:Int)+1)) o.next).2.2):=by unfold opX;rw [if_pos (of_decide_eq_true h0)]
    rw [e] at hK
    obtain ⟨r,hr⟩:∃ r,beginC d c (batchC o c.now.last) o.n (linesO o (batchC o c.now.last) ((s.lines.length:Int)+1)) o.next=r:=⟨_,rfl⟩
    rw [hr] at hK
    refine ⟨[],tru,inferInstance,fun w G cx=>cut_to cx (List.nil_sublist _),fun w G cx=>?_⟩
    refine (LastC_q (p:=p) (q:=q) (c:=c)).toI cx ⟨fun w G cx=>cut_to cx (List.nil_sublist _),fun w G cx=>?_⟩
    refine (Batch_in (o:=o) (lp:=lp) (lc:=lc) (kp:=kp) (kc:=kc) (last:=c.now.last)).toI cx ⟨[],tru,inferInstance,fun w G cx=>cut_to cx (List.nil_sublist _),fun w G cx=>?_⟩
    refine (LinesN_q (st:=s) (q:=k)).toI (R:=CoO p q c++(dkL q d++S)) (sk_in cx) ⟨fun w G cx=>cut_to cx (List.nil_sublist _),by unfold I64;omega,fun w G cx=>?_⟩
    refine (Lines_sl (lc:=lc) (kp:=kp) (kc:=kc) hL (batchC_64 hb) (by omega) (by omega) hrow).to cx fun p1 c1 g1 g2 st1=>⟨fun w G cx=>cut_to cx (List.nil_sublist _),fun w G cx=>?_⟩
    refine Begin_use (p:=p) (q:=q) (c:=c) (d:=d) (Φ:=fun M w=>Φ M w∧Sl M w p1 (linesO o (batchC o c.now.last) ((s.lines.length:Int)+1))) (S:=SkO k s++(S++G)) (hE.weak fun M w h=>h.1) (fun M w h=>hC.go M w h.1) hq (hk.weak fun M w h=>h.1) hw (fun M w h=>h.2) (by rw [linesO_len];omega) (batchC_64 hb) hm (by omega) ((sk_out cx).re (by simp)) fun u p' w hp hq2 cx=>?_
    rw [hr] at hq2 cx ⊢
    refine wrapK (A:=CoO p' q r.2.1) (X:=dkL (q.mv u) r.1) (S:=SkO k s++S) (cx.re (by simp)) fun w cx=>?_
    exact hK u p' k w _ hp rfl hq2 hkq inferInstance (fun M w h=>⟨h.1.1,hS.go M w h.1.1,h.2⟩) cx
  · have e:opX d c s o kind=(d,(prepareC c s).1,(prepareC c s).2.1,(prepareC c s).2.2):=by unfold opX;rw [if_neg (of_decide_eq_false h0),if_pos (of_decide_eq_true h1)]
    have hK2:=pass e
    refine fun w G cx=>Prep_use (p:=p) (q:=q) (c:=c) (k:=k) (s:=s) (S:=dkL q d++(S++G)) hkq hI hs (by omega) (by have:=hw.few;omega) ((sk_in cx).re (by simp)) fun k' w Φ' hsb hkq' st hΦ' cx=>?_
    have hlines : (prepareC c s).1.now = c.now := by unfold prepareC; split; · rfl
                                                     split;· rfl
                                                     rfl
    exact hK2 G q.un p k' w Φ' ⟨rfl,rfl⟩ hsb hq hkq' st (fun M w h=>⟨(hΦ' M w h).1,(hΦ' M w h).2,by show Sl M w p.lp (prepareC c s).1.now.lines;rw [hlines];exact hC.go M w (hΦ' M w h).1⟩) (Ctx.re (sk_out (A:=CoO p q (prepareC c s).1) (B:=dkL q d) (X:=SkO k' (prepareC c s).2.1) (S:=S++G) (G:=[]) (cx.re (by simp))) (by simp;rfl))
  · have e:opX d c s o kind=((decideC d c).1,(decideC d c).2.1,s,(decideC d c).2.2):=by unfold opX;rw [if_neg (of_decide_eq_false h0),if_neg (of_decide_eq_false h1),if_pos (of_decide_eq_true h2)]
    have hK2:=pass e
    refine fun w G cx=>Decide_use (p:=p) (q:=q) (c:=c) (d:=d) (S:=SkO k s++(S++G)) hE (fun M w h=>hC.go M w h) hq hk hw (cx.re (by simp)) fun u p' w hp hq2 cx=>?_
    exact hK2 G u p' k w _ hp rfl hq2 hkq inferInstance (fun M w h=>⟨h.1,hS.go M w h.1,h.2⟩) cx
  · exact fun w G cx=>Finish_use (p:=p) (q:=q) (c:=c) (d:=d) (k:=k) (s:=s) (S:=S++G) hE hq hk hw hkq hI hs hn (cx.re (by simp)) (pass (by unfold opX;rw [if_neg (of_decide_eq_false h0),if_neg (of_decide_eq_false h1),if_neg (of_decide_eq_false h2),if_pos (of_decide_eq_true h3)]) G)
  · exact fun w G cx=>AbortC_use (p:=p) (q:=q) (c:=c) (d:=d) (k:=k) (s:=s) (S:=S++G) hE hq hk hw hkq hI hs hn (cx.re (by simp)) (pass (by unfold opX;rw [if_neg (of_decide_eq_false h0),if_neg (of_decide_eq_false h1),if_neg (of_decide_eq_false h2),if_neg (of_decide_eq_false h3),if_pos (of_decide_eq_true h4)]) G)
  · exact fun w G cx=>Recover_use (p:=p) (q:=q) (c:=c) (d:=d) (k:=k) (s:=s) (S:=S++G) hE hq hk hw hkq hI hs hn (cx.re (by simp)) (pass (by unfold opX;rw [if_neg (of_decide_eq_false h0),if_neg (of_decide_eq_false h1),if_neg (of_decide_eq_false h2),if_neg (of_decide_eq_false h3),if_neg (of_decide_eq_false h4),if_pos (of_decide_eq_true h5)]) G)
  · have e:opX d c s o kind=(d,c,s,0):=by unfold opX;rw [if_neg (of_decide_eq_false h0),if_neg (of_decide_eq_false h1),if_neg (of_decide_eq_false h2),if_neg (of_decide_eq_false h3),if_neg (of_decide_eq_false h4),if_neg (of_decide_eq_false h5)]
    rw [e] at hK
    exact fun w G cx=>hK q.un p k w Φ ⟨rfl,rfl⟩ rfl hq hkq inferInstance (fun M w h=>⟨h,hS.go M w h,hC.go M w h⟩) cx.left
end
end Go.Proofs.YtfccagphnfceiaaGreatDoor
end

section
namespace Go.Proofs.YtfccagphnfceiaaGreatDoor
open Go.Vc
abbrev ValD.cells (x:ValD):List Value:=[.int .i64 x.kind,.int .i64 x.num,.string x.text]
theorem val_rep {M:List Nat} {w:World} {v:ValD} (h:(I64 v.kind∧I64 v.num)∧v.text.size≤maxLen):Gv.rep M w v.cells v :=
  ⟨[.int .i64 v.kind],[.int .i64 v.num,.string v.text],rfl,⟨rfl,h.1.1⟩,[.int .i64 v.num],[.string v.text],rfl,⟨rfl,h.1.2⟩,rfl,h.2⟩
section
variable {Φ:PW} {p q:Option Addr} {cap cap2:Nat} {r a b:List ValD} {W w:World} {R G:List Own}
end
end Go.Proofs.YtfccagphnfceiaaGreatDoor
end

section
namespace Go.Proofs.YtfccagphnfceiaaGreatDoor
open Go.Vc
theorem openC_len {d:DsS} {f:Int} {k:CelS} {e:Int} (h:openC d f=(some k,e)):k.value.length≤65536:=by
  have hl:∀ (a:Int) (n:Nat),(readS d f a n).1.length≤n:=fun a n=>by
    unfold readS
    split
    · exact Nat.zero_le _
    · split
      · exact Nat.zero_le _
      · show (List.take _ _).length≤_
        rw [List.length_take];omega
  unfold openC at h
  split at h
  · injection h with h1;cases h1
  split at h
  · injection h with h1;cases h1;exact Nat.zero_le _
  split at h
  · injection h with h1;cases h1
  split at h
  · injection h with h1;cases h1
  split at h
  · injection h with h1;cases h1
  split at h
  · injection h with h1;cases h1
  · injection h with h1;cases h1
    exact Nat.le_trans (hl _ _) (by omega)
section
variable {W w:World} {S R G:List Own} {Φ:PW}
theorem OpenF_use [Stable Φ] (hE:CE Φ) {q:DkP} {d:DsS} (hq:DkQ q d) (hk:DkK Φ q d) {P:StC→Prop} (hf:CFut d P) (cx:Ctx W w (dkL q d++S) Φ) {K:Ending→World→Prop}
    (hn:∀ u d' e w',e=9∨e=10→(DsH d→False)→d'=(openK d 3).1→(openK d 3).2=(none,e)→DkQ (q.mv u) d'→d'.keep=d.keep→CFut d' P→Ctx W w' (dkL (q.mv u) d'++S) Φ→K (.returned (.tuple #[.pointer none,.int .i64 e])) w')
    (hs:∀ u p c d' w',d'=(openK d 3).1→(openK d 3).2=(some c,0)→(DsH d→DsH d')→DkQ (q.mv u) d'→d'.keep=d.keep→CLive d' c→P c.now→c.prep=false→c.stop=false→Ctx W w' (CoO p q c++(dkL (q.mv u) d'++S)) (fun M w=>Φ M w∧CoF p c M w)→K (.returned (.tuple #[.pointer (some ⟨p.cb,0,none⟩),.int .i64 0])) w') :
    Calls Tryz.prog F.commit_Open #[.pointer (some ⟨q.db,0,none⟩),.int .i64 3] w K:=by
  have ho:=openK_out hq.w hf
  have hkeep:(openK d 3).1.keep=d.keep:=by
    unfold openK
    simp only
    split
    · exact sync_keep d 3
    · exact sync_keep d 3
  refine OpenK_use hE hq hk (fun k e h=>Nat.le_trans (openC_len h) (by decide)) cx (fun u w hnone hq2 cx=>?_) (fun u p c w hc he hq2 _ cx=>?_)
  · rcases ho.or with ⟨c,h1,_⟩|⟨h1,h2,h3⟩
    · rw [h1] at hnone;cases hnone
    · exact hn u _ _ w h2 (fun h=>by have:=(ho.fine h).2;rw [this] at h2;omega) rfl (by rw [←hnone]) hq2 hkeep h3 cx
  · rcases ho.or with ⟨c',h1,h2,h3,h4,h5,h6⟩|⟨h1,_⟩
    · rw [h1] at hc
      cases hc
      exact hs u p c _ w rfl (by rw [←h1,←he]) (fun h=>(ho.fine h).1) hq2 hkeep h3 h4 h5 h6 cx
    · rw [h1] at hc;cases hc
theorem Again_use [Stable Φ] (hE:CE Φ) {q:DkP} {d:DsS} (hq:DkQ q d) (hk:DkK Φ q d) {P:StC→Prop} (hf:CFut d P) {kp:Option Addr} {kc:Nat} {keep:List Int} (hkl:keep.length≤1000000) (hsl:∀ M w,Φ M w→Sl M w kp keep) (cx:Ctx W w (dkL q d++S) Φ) {K:Ending→World→Prop}
    (hn:∀ u d' e w',e=9∨e=10→(DsH (startS (crashS d keep))→False)→DkQ (q.mv u) d'→d'.keep=d.keep→CFut d' P→Ctx W w' (dkL (q.mv u) d'++S) Φ→K (.returned (.tuple #[.pointer none,.int .i64 e])) w')
    (hs:∀ u p c d' w',d'=(openK (startS (crashS d keep)) 3).1→(DsH (startS (crashS d keep))→DsH d')→DkQ (q.mv u) d'→d'.keep=d.keep→CLive d' c→P c.now→c.prep=false→c.stop=false→Ctx W w' (CoO p q c++(dkL (q.mv u) d'++S)) (fun M w=>Φ M w∧CoF p c M w)→K (.returned (.tuple #[.pointer (some ⟨p.cb,0,none⟩),.int .i64 0])) w') :
    Calls Tryz.prog F.erratalaw44_again #[.pointer (some ⟨q.db,0,none⟩),.slice kp keep.length kc] w K:=by
  refine (Berratalaw44_again_run q.db 0 kp keep.length kc (J:=fun u w'=>K (.returned u) w') cx fun w G cx=>?_).mono fun e w' ⟨v,he,hj⟩=>by rw [he];exact hj
  have hkc:(startS (crashS d keep)).keep=d.keep:=crash_keep d keep
  have hfc:CFut (startS (crashS d keep)) P:=(hf.ev (crash_ev hq.w keep 3)).frame rfl
  refine Crash_use (S:=S++G) hq hkl hsl (cx.re (List.append_assoc _ _ _)) fun u1 w hq1 cx=>⟨rfl,dkL (q.mv u1) (crashS d keep)++S,Φ,inferInstance,cx.re (List.append_assoc _ _ _).symm,fun w G cx=>?_⟩
  refine Start_use (q:=q.mv u1) (S:=S++G) hq1 (cx.re (List.append_assoc _ _ _)) fun w hq2 cx=>⟨rfl,dkL (q.mv u1) (startS (crashS d keep))++S,Φ,inferInstance,cx.re (List.append_assoc _ _ _).symm,fun w G cx=>?_⟩
  refine OpenF_use (q:=q.mv u1) (S:=S++G) hE hq2 (hk.of hkc u1) hfc (cx.re (List.append_assoc _ _ _)) (fun u d' e w he hno hd' _ hq3 hkp hf3 cx=>?_) (fun u p c d' w hd' _ hfine hq3 hkp hl hP hpr hst cx=>?_)
  · exact ⟨none,e,rfl,dkL (q.mv u) d'++S,Φ,inferInstance,Ctx.re (S:=dkL (q.mv u) d'++(S++G)) cx (List.append_assoc _ _ _).symm,fun w G cx=>hn u d' e w he hno hq3 (hkp.trans hkc) hf3 cx.left⟩
  · exact ⟨_,_,rfl,CoO p q c++(dkL (q.mv u) d'++S),_,inferInstance,Ctx.re (S:=CoO p q c++(dkL (q.mv u) d'++(S++G))) cx (by simp),fun w G cx=>hs u p c d' w hd' hfine hq3 (hkp.trans hkc) hl hP hpr hst cx.left⟩
abbrev lineX (no b:Int):LineD:=⟨no,b,5,[⟨0,7,ByteArray.mk #[]⟩],1,0,0⟩
theorem lineX_in [Stable Φ] {no b:Int} (h:I64 no∧I64 b):GivesSl Φ Tryz.prog F.erratalaw44_line #[.int .i64 no,.int .i64 b] [lineX no b] id:=⟨fun W w S c=>by
  refine (Berratalaw44_line_run no b (J:=fun v w'=>∃ p c,v=.slice p 1 c∧1≤c∧c≤maxLen∧Ctx W w' S (fun M w=>Φ M w∧Sl M w p [lineX no b])) c fun k0 k1 w G cx=>?_).mono fun e w' ⟨v,he,p,c,hv,g1,g2,cx⟩=>⟨p,c,by rw [he,hv];rfl,g1,g2,cx⟩
  have c1:=cx.swap
  obtain ⟨c2,h2⟩:=Ctx.freezeBlk (α:=ValD) (l:=[⟨0,7,ByteArray.mk #[]⟩]) c1 (Elems.one (val_rep (v:=⟨0,7,ByteArray.mk #[]⟩) ⟨⟨by show I64 0;unfold I64;decide,by show I64 7;unfold I64;decide⟩,by show (ByteArray.mk #[]).size≤maxLen;decide⟩))
  have c3:=c2.add (Ψ:=fun M w=>Sl M w (some ⟨k0,0,none⟩) ([⟨0,7,ByteArray.mk #[]⟩]:List ValD)) h2
  have h4:Elems (dom (Own.blk k1 [.int .i64 no,.int .i64 b,.int .i64 5,.slice (some ⟨k0,0,none⟩) 1 1,.int .i64 1,.int .i64 0,.int .i64 0] 31 :: (S++G))) w [.int .i64 no,.int .i64 b,.int .i64 5,.slice (some ⟨k0,0,none⟩) 1 1,.int .i64 1,.int .i64 0,.int .i64 0] [lineX no b] :=
    Elems.one (rep_line (x:=lineX no b) (p:=some ⟨k0,0,none⟩) (c:=1) (Nat.le_refl _) (by unfold maxLen;decide) ⟨h.1,h.2,by show I64 5;unfold I64;decide,by show I64 1;unfold I64;decide,by show I64 0;unfold I64;decide,by show I64 0;unfold I64;decide⟩ c3.phi.2)
  obtain ⟨c5,h5⟩:=Ctx.freezeBlk (α:=LineD) c3 h4
  exact ⟨some ⟨k1,0,none⟩,1,rfl,Nat.le_refl _,by unfold maxLen;decide,((c5.add (Ψ:=fun M w=>Sl M w (some ⟨k1,0,none⟩) [lineX no b]) h5).left).weak fun M w h=>⟨h.1.1,h.2⟩⟩⟩
def fewC (l:List OpC) (n:Int):Bool:=(l.all fun x=>decide ((x.next.size:Int)≤50)&&decide (x.keep.length≤20)&&fewR x.L 6)&&decide ((l.length:Int)≤n)
theorem fewC_yes {l:List OpC} {n:Int} (h:fewC l n=true):(∀ x∈l,x.next.size≤50∧x.keep.length≤20∧x.L.length≤6∧∀ y∈x.L,y.row.length≤12)∧(l.length:Int)≤n:=by
  unfold fewC at h
  rw [Bool.and_eq_true] at h
  refine ⟨fun x hx=>?_,of_decide_eq_true h.2⟩
  have:=List.all_eq_true.1 h.1 x hx
  rw [Bool.and_eq_true,Bool.and_eq_true] at this
  have h1:=of_decide_eq_true this.1.1
  have h3:=fewR_len this.2
  exact ⟨by omega,of_decide_eq_true this.1.2,by omega,fewR_row this.2⟩
theorem opc_pin {M:List Nat} {w:World} {b o:Nat} {cs:List (List Value)} {l:List OpC} (h:Pin b o cs l M w) {j:Nat} (hj:j<l.length):∃ p c q e,cs.getD j []=l[j].cells p c q e∧I64 l[j].kind∧I64 l[j].b∧I64 l[j].n∧l[j].L.length≤9223372036854775807∧l[j].keep.length≤9223372036854775807:=by
  obtain ⟨p,c,q,e,h1,h2,h3,h4,h5,h6,_⟩:=opc_cells (h j hj).2.2
  exact ⟨p,c,q,e,h1,h2,h3,h4,h5,h6⟩
theorem opc_row {M:List Nat} {w:World} {b o:Nat} {cs:List (List Value)} {l:List OpC} (h:Pin b o cs l M w) {j:Nat} (hj:j<l.length) {p:Option Addr} {c:Nat} {q:Option Addr} {e:Nat} (he:cs.getD j []=l[j].cells p c q e):RowAt w b (o+j*7) (l[j].cells p c q e):=by
  have:=(h j hj).2.1
  rw [he] at this
  exact this
theorem opc_sl {M:List Nat} {w:World} {b o:Nat} {cs:List (List Value)} {l:List OpC} (h:Pin b o cs l M w) {j:Nat} (hj:j<l.length) {p:Option Addr} {c:Nat} {q:Option Addr} {e:Nat} (he:cs.getD j []=l[j].cells p c q e):Sl M w p l[j].L∧Sl M w q l[j].keep:=by
  have:=(h j hj).2.2
  rw [he] at this
  obtain ⟨p',c',q',e',h1,_,_,_,_,_,h2,h3⟩:=opc_cells this
  simp only [OpC.cells,List.cons.injEq,Value.slice.injEq,and_true,true_and] at h1
  rw [h1.1.1,h1.2.1]
  exact ⟨h2,h3⟩
theorem opc_cell {w:World} {b o:Nat} {x:OpC} {p:Option Addr} {c:Nat} {q:Option Addr} {e:Nat} (h:RowAt w b o (x.cells p c q e)) {i:Nat} {v:Value} (hv:(x.cells p c q e)[i]? = some v):w.cell? ⟨b,o+i,none⟩=some v:=by
  obtain ⟨hi,he⟩:=List.getElem?_eq_some_iff.1 hv
  rw [h i hi,he]
theorem few_in44 [Stable Φ] {p:Option Addr} {cap:Nat} {l:List OpC} {b o:Nat} {cs:List (List Value)} {m:Int} (hp:0<l.length→p=some ⟨b,o,none⟩) (hΦ:∀ M w,Φ M w→Pin b o cs l M w) (hlen:l.length≤9223372036854775807):GivesIn Φ Tryz.prog F.errataref44_Few #[.slice p l.length cap,.int .i64 m] (.bool (fewC l m)):=by
  refine gives_in (Berrataref44_Few_run p l.length cap m) fun W R=>?_
  refine exI_mk (fun n R' Φ' k=>∃ i:Nat,n=i∧i+k=l.length∧R'=R∧Φ'=Φ∧∀ x∈l.take i,(decide ((x.next.size:Int)≤50)&&decide (x.keep.length≤20)&&fewR x.L 6)=true) ⟨⟨_,Φ,l.length,inferInstance,fun w G cx=>cx,0,rfl,by omega,rfl,rfl,by simp⟩,?_⟩
  rintro n R1 Φ k _ ⟨i,rfl,hik,rfl,rfl,hall⟩
  refine Br.intro (fun hlt=>?_) (fun hge=>fun w G cx=>⟨?_,cx.left⟩)
  · have hlt:i<l.length:=by have:=of_decide_eq_true hlt;omega
    obtain ⟨k,rfl⟩:∃ m,k=m+1:=⟨k - 1,by omega⟩
    have hp:=hp (by omega)
    have bad:(decide ((l[i].next.size:Int)≤50)&&decide (l[i].keep.length≤20)&&fewR l[i].L 6)=false→fewC l m=false:=fun h=>by
      unfold fewC
      have:(l.all fun x=>decide ((x.next.size:Int)≤50)&&decide (x.keep.length≤20)&&fewR x.L 6)=false:=List.all_eq_false.2 ⟨l[i],List.getElem_mem hlt,by rw [h];simp⟩
      rw [this];rfl
    refine ⟨⟨by omega,by omega⟩,ptrK_intro b o hp fun w G cx=>?_⟩
    obtain ⟨q,qc,r,rc,he,_,_,_,hl1,hl2⟩:=opc_pin (hΦ _ _ cx.phi) hlt
    refine ⟨l[i].next,by rw [Int.toNat_natCast];exact opc_cell (i:=4) (opc_row (hΦ _ _ cx.phi) hlt he) rfl,Br.intro (fun h=>fun w G cx=>⟨?_,cx.left⟩) (fun h1=>⟨⟨by omega,by omega⟩,ptrK_intro b o hp fun w G cx=>⟨r,l[i].keep.length,rc,by rw [Int.toNat_natCast];exact opc_cell (i:=5) (opc_row (hΦ _ _ cx.phi) hlt he) rfl,Br.intro (fun h=>fun w G cx=>⟨?_,cx.left⟩) (fun h2=>⟨⟨by omega,by omega⟩,ptrK_intro b o hp fun w G cx=>⟨q,l[i].L.length,qc,by rw [Int.toNat_natCast];exact opc_cell (i:=3) (opc_row (hΦ _ _ cx.phi) hlt he) rfl,fun w G cx=>?_⟩⟩)⟩⟩)⟩
    · rw [bad (by rw [decide_eq_false (by have:=of_decide_eq_true h;omega)];rfl)]
    · rw [bad (by rw [decide_eq_false (p:=l[i].keep.length≤20) (by have:=of_decide_eq_true h;omega),Bool.and_false];rfl)]
    · have hh:Has Φ (fun M w=>Sl M w q l[i].L):=⟨fun M w h=>(opc_sl (hΦ M w h) hlt he).1⟩
      refine (Few43_in (L:=l[i].L) (n:=6) (by unfold maxLen;omega)).toB cx (Br.intro (fun h=>fun w G cx=>⟨?_,cx.left⟩) (fun h3=>⟨by unfold I64;omega,_,Φ,k,inferInstance,fun w G cx=>cx,⟨i+1,by omega,by omega,rfl,rfl,fun x hx=>?_⟩,Nat.lt_succ_self _⟩))
      · rw [bad (by rw [show fewR l[i].L 6=false by simpa using h,Bool.and_false])]
      · rw [List.take_succ_eq_append_getElem hlt] at hx
        rcases List.mem_append.1 hx with hx|hx
        · exact hall x hx
        · rw [List.mem_singleton.1 hx,decide_eq_true (by have:=of_decide_eq_false h1;omega:((l[i].next.size:Int)≤50)),decide_eq_true (by have:=of_decide_eq_false h2;omega:l[i].keep.length≤20),show fewR l[i].L 6=true by simpa using h3]
          rfl
  · have hge:i=l.length:=by have:=of_decide_eq_false hge;omega
    subst hge
    rw [List.take_length] at hall
    unfold fewC
    rw [List.all_eq_true.2 hall,Bool.true_and]
structure StoP where
  xb:Nat
  tp:Option Addr
  tc:Nat
  lp:Option Addr
  lc:Nat
abbrev stoB (y:StoP) (x:StoS):List Value:=[.slice y.tp x.taken.length y.tc,.int .i64 x.last,.string x.check,.int .i64 x.batch,.slice y.lp x.lines.length y.lc,.string x.next,.bool x.decided,.bool x.sure]
abbrev stoO (y:StoP) (x:StoS):Own:=.blk y.xb (stoB y x) 54
abbrev stoF (y:StoP) (x:StoS):PW:=fun M w=>Sl M w y.tp x.taken∧Sl M w y.lp x.lines
theorem Follow_use [Stable Φ] {y:StoP} {x:StoS} (hF:∀ M w,Φ M w→stoF y x M w) {o:OpC} {lp kp:Option Addr} {lc kc:Nat} {kind batch:Int} {np:Option Addr} {nc:Nat} {lines:List LineD} (hL:∀ M w,Φ M w→Sl M w np lines) {e:Int} {stopped:Bool} (cx:Ctx W w (stoO y x :: S) Φ) {K:Ending→World→Prop}
    (hK:∀ y' w',y'.xb=y.xb→(∀ M w,Φ M w→stoF y' (followS x kind batch lines o.next e stopped) M w)→Ctx W w' (stoO y' (followS x kind batch lines o.next e stopped) :: S) Φ→K (.returned (.tuple #[])) w') :
    Calls Tryz.prog F.erratalaw44_story_follow #[.pointer (some ⟨y.xb,0,none⟩),o.v lp lc kp kc,.int .i64 kind,.int .i64 batch,.slice np lines.length nc,.int .i64 e,.bool stopped] w K:=by
  have same:followS x kind batch lines o.next e stopped=x→∀ {w:World} {G:List Own},Ctx W w ((stoO y x :: S)++G) Φ→K (.returned (.tuple #[])) w:=fun h {w G} cx=>by
    have:=hK y w rfl
    rw [h] at this
    exact this hF cx.left
  refine (Berratalaw44_story_follow_run y.xb 0 o.kind o.b o.n lp o.L.length lc o.next kp o.keep.length kc o.fit kind batch np lines.length nc e stopped (J:=fun u w'=>K (.returned u) w') cx fun _=>?_).mono fun e w' ⟨v,he,hj⟩=>by rw [he];exact hj
  clear cx
  have write:¬ (stopped=true)→¬ (e≠0∧dskB e=false)→Br (decide (kind=0)) (∀ w G,Ctx W w ((stoO y x :: S)++G) Φ→CanWrite w y.xb (0+3) 1∧∀ w',w'=w.setCell ⟨y.xb,0+3,none⟩ (.int .i64 batch)→∃ R1 Φ1,Stable Φ1∧Ctx W w' (R1++G) Φ1∧∀ w G,Ctx W w (R1++G) Φ1→CanWrite w y.xb (0+4) 1∧∀ w',w'=w.setCell ⟨y.xb,0+4,none⟩ (.slice np lines.length nc)→∃ R1 Φ1,Stable Φ1∧Ctx W w' (R1++G) Φ1∧∀ w G,Ctx W w (R1++G) Φ1→CanWrite w y.xb (0+5) 1∧∀ w',w'=w.setCell ⟨y.xb,0+5,none⟩ (.string o.next)→∃ R1 Φ1,Stable Φ1∧Ctx W w' (R1++G) Φ1∧∀ w G,Ctx W w (R1++G) Φ1→CanWrite w y.xb (0+6) 1∧∀ w',w'=w.setCell ⟨y.xb,0+6,none⟩ (.bool false)→∃ R1 Φ1,Stable Φ1∧Ctx W w' (R1++G) Φ1∧∀ w G,Ctx W w (R1++G) Φ1→CanWrite w y.xb (0+7) 1∧∀ w',w'=w.setCell ⟨y.xb,0+7,none⟩ (.bool false)→∃ R1 Φ1,Stable Φ1∧Ctx W w' (R1++G) Φ1∧Br (decide (kind=2)) (∀ w G,Ctx W w (R1++G) Φ1→CanWrite w y.xb (0+6) 1∧∀ w',w'=w.setCell ⟨y.xb,0+6,none⟩ (.bool true)→∃ R1 Φ1,Stable Φ1∧Ctx W w' (R1++G) Φ1∧∀ w G,Ctx W w (R1++G) Φ1→CanWrite w y.xb (0+7) 1∧∀ w',w'=w.setCell ⟨y.xb,0+7,none⟩ (.bool (decide (e=0)))→∃ R1 Φ1,Stable Φ1∧Ctx W w' (R1++G) Φ1∧∀ w G,Ctx W w (R1++G) Φ1→K (.returned (.tuple #[])) w) (∀ w G,Ctx W w (R1++G) Φ1→K (.returned (.tuple #[])) w))
      (Br (decide (kind=2)) (∀ w G,Ctx W w ((stoO y x :: S)++G) Φ→CanWrite w y.xb (0+6) 1∧∀ w',w'=w.setCell ⟨y.xb,0+6,none⟩ (.bool true)→∃ R1 Φ1,Stable Φ1∧Ctx W w' (R1++G) Φ1∧∀ w G,Ctx W w (R1++G) Φ1→CanWrite w y.xb (0+7) 1∧∀ w',w'=w.setCell ⟨y.xb,0+7,none⟩ (.bool (decide (e=0)))→∃ R1 Φ1,Stable Φ1∧Ctx W w' (R1++G) Φ1∧∀ w G,Ctx W w (R1++G) Φ1→K (.returned (.tuple #[])) w) (∀ w G,Ctx W w ((stoO y x :: S)++G) Φ→K (.returned (.tuple #[])) w)):=fun hst hne=>by
    refine Br.intro (fun h0=>?_) (fun h0=>Br.intro (fun h2=>?_) (fun h2=>?_))
    · have h0:=of_decide_eq_true h0
      have ex:followS x kind batch lines o.next e stopped={ x with batch:=batch,lines:=lines,next:=o.next,decided:=false,sure:=false }:=by
        unfold followS;rw [if_neg hst,if_neg hne,if_pos h0]
      refine fun w G cx=>⟨cx.can 0 rfl (by simp),fun w' hw=>⟨.blk y.xb (stoB y { x with batch:=batch }) 54 :: S,Φ,inferInstance,cx.put 0 hw rfl,fun w G cx=>⟨cx.can 0 rfl (by simp),fun w' hw=>⟨.blk y.xb (stoB { y with lp:=np,lc:=nc } { x with batch:=batch,lines:=lines }) 54 :: S,Φ,inferInstance,cx.put 0 hw rfl,fun w G cx=>⟨cx.can 0 rfl (by simp),fun w' hw=>⟨.blk y.xb (stoB { y with lp:=np,lc:=nc } { x with batch:=batch,lines:=lines,next:=o.next }) 54 :: S,Φ,inferInstance,cx.put 0 hw rfl,fun w G cx=>⟨cx.can 0 rfl (by simp),fun w' hw=>⟨.blk y.xb (stoB { y with lp:=np,lc:=nc } { x with batch:=batch,lines:=lines,next:=o.next,decided:=false }) 54 :: S,Φ,inferInstance,cx.put 0 hw rfl,fun w G cx=>⟨cx.can 0 rfl (by simp),fun w' hw=>⟨.blk y.xb (stoB { y with lp:=np,lc:=nc } { x with batch:=batch,lines:=lines,next:=o.next,decided:=false,sure:=false }) 54 :: S,Φ,inferInstance,cx.put 0 hw rfl,Br.intro (fun h2=>absurd (of_decide_eq_true h2) (by omega)) (fun _=>fun w G cx=>?_)⟩⟩⟩⟩⟩⟩⟩⟩⟩⟩
      have:=hK { y with lp:=np,lc:=nc } w rfl
      rw [ex] at this
      exact this (fun M w h=>⟨(hF M w h).1,hL M w h⟩) cx.left
    · have h2:=of_decide_eq_true h2
      have ex:followS x kind batch lines o.next e stopped={ x with decided:=true,sure:=decide (e=0) }:=by
        unfold followS;rw [if_neg hst,if_neg hne,if_neg (of_decide_eq_false h0),if_pos h2]
      refine fun w G cx=>⟨cx.can 0 rfl (by simp),fun w' hw=>⟨.blk y.xb (stoB y { x with decided:=true }) 54 :: S,Φ,inferInstance,cx.put 0 hw rfl,fun w G cx=>⟨cx.can 0 rfl (by simp),fun w' hw=>⟨.blk y.xb (stoB y { x with decided:=true,sure:=decide (e=0) }) 54 :: S,Φ,inferInstance,cx.put 0 hw rfl,fun w G cx=>?_⟩⟩⟩⟩
      have:=hK y w rfl
      rw [ex] at this
      exact this hF cx.left
    · exact fun w G cx=>same (follow_no (.inr (.inr ⟨of_decide_eq_false h0,of_decide_eq_false h2⟩))) cx
  refine Br.intro (fun hs=>fun w G cx=>same (follow_no (.inl hs)) cx) (fun hs=>Br.intro (fun he=>fun w G cx=>?_) (fun he=>?_))
  · refine (disky44_in (e:=e)).toB cx (Br.intro (fun hd=>fun w G cx=>same (follow_no (.inr (.inl ⟨of_decide_eq_true he,by simpa using hd⟩))) cx) (fun hd=>?_))
    exact write (by rw [hs];simp) (fun h=>by rw [h.2] at hd;cases hd)
  · exact write (by rw [hs];simp) (fun h=>absurd h.1 (of_decide_eq_false he))
end
end Go.Proofs.YtfccagphnfceiaaGreatDoor
end

