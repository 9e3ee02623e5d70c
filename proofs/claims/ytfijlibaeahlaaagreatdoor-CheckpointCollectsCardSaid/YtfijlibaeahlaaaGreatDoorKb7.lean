/-
 The reference's sorting: in plain Lean,and walked.
-/
import Derived.Test.YtfijlibaeahlaaaGreatDoorKb6
import Derived.Test.YtfijlibaeahlaaaGreatDoorKb5
import Derived.Shelf.Strings.Builder1
import Derived.Shelf.Small.Strs
import Derived.Shelf.Small.Wraps
import Derived.Shelf.Strings.BuilderF
import Derived.Shelf.Strings.BuilderK
import Derived.Shelf.Strconv.Atoi
import Derived.Shelf.Strconv.Itoa0
import Derived.Shelf.Strconv.Itoa1
import Derived.Shelf.LaysM
import Derived.Shelf.Strconv.Itoa2
import Derived.Shelf.Strconv.Itoa3
import Derived.Shelf.Strconv.AtoiErrFast
import Derived.Shelf.Strconv.ParseIntEmpty
import Derived.Shelf.Strconv.AtoiFail
import Derived.Shelf.Strconv.Clone
import Derived.Shelf.Strconv.SyntaxError
import Derived.Shelf.LaysC
import Derived.Shelf.Strconv.ToError
import Derived.Shelf.Strconv.Lower
import Derived.Shelf.Strconv.ParseUint10
import Derived.Shelf.Strconv.ParseUint10Empty
import Derived.Shelf.Strconv.ParseUint10Any
import Derived.Shelf.Strconv.ParseInt10
import Derived.Shelf.Strconv.AtoiLong
import Derived.Shelf.Strconv.AtoiInnerAll
import Derived.Shelf.Strconv.RangeError
import Derived.Shelf.Strconv.ToErrorRange
import Derived.Shelf.Strconv.AtoiAll
import Derived.Shelf.Strconv.ErrVarAll
import Derived.Shelf.Strings.Search1
import Derived.Shelf.Strings.Prefix
import Derived.Shelf.Slices.Clone
import Derived.Shelf.Slices.SearchI
import Derived.Shelf.SlicesE.Clone
import Derived.Test.YtfijlibaeahlaaaGreatDoorRows
import Derived.Test.YtfijlibaeahlaaaGreatDoorKb4
import Derived.Lib.ItoaNum
import Derived.Lib.SliceRun
import Derived.Shelf.Slices.CompactI
import Derived.Laws.IdiomStrings
import Derived.Stop.IfaceNil
import Derived.Lib.AtoiErrMem
import Derived.Lib.AtoiAllCases
import Derived.Test.YtfijlibaeahlaaaGreatDoorCards
import Derived.MakeChecks
import Derived.Stop.LaidErr
import Derived.Lib.LaidTab
open Go.Proofs.Tryz
set_option linter.unusedVariables false
set_option linter.unusedSimpArgs false
section
namespace Go.Proofs.YtfijlibaeahlaaaGreatDoor
open Go.Vc
def iG(x y:μ):Bool:=decide (ew x y<=0)
def o5:Nat->List μ->List μ
 | 0,l=>l
 | f+1,l=>if l.length<2 then l else List.merge (o5 f (l.take (l.length / 2))) (o5 f (l.drop (l.length / 2))) iG
theorem Mk:∀ (f:Nat) (l:List μ),(o5 f l).Perm l
 | 0,l=>.refl _
 | f+1,l=>by
  unfold o5;split
  .exact .refl _
  .refine (List.merge_perm_append iG).trans (((Mk f _).append (Mk f _)).trans ?_);rw [List.take_append_drop]
theorem aXE(x y z:μ)(h1:iG x y=true)(h2:iG y z=true):iG x z=true:=by
 unfold iG at *;have h1:=aD h1;have h2:=aD h2;rw [iW] at h1 h2;refine decide_eq_true ?_;rw [iW];rcases Int.lt_or_eq_of_le h1 with h3|h3
 .rcases Int.lt_or_eq_of_le h2 with h4|h4
  .exact Int.le_of_lt (fH.trans _ _ _ h3 h4)
  .rw [<-(fH.eq _ _).1 h4];exact h1
 .rw [(fH.eq _ _).1 h3];exact h2
theorem aXD(x y:μ):(iG x y||iG y x)=true:=by
 unfold iG;rw [Bool.or_eq_true,decide_eq_true_eq,decide_eq_true_eq,iW,iW];rcases fH.Rr x.key y.key with h|h|h
 .left;omega
 .left;rw [h,fH.refl];omega
 .right;omega
theorem ZZ:∀ (f:Nat) (l:List μ),l.length<=f->(o5 f l).Pairwise (λa b=>iG a b=true)
 | 0,l,h=>by
  rw [List.length_eq_zero_iff.1 (Nat.le_zero.1 h)];exact List.Pairwise.nil
 | f+1,l,h=>by
  unfold o5;split
  .rename_i h2
   match l,h2 with
   | [],_=>exact List.Pairwise.nil
   | [x],_=>exact List.pairwise_singleton _ _
  .exact List.pairwise_merge aXE aXD _ _ (ZZ f _ (by rw [List.length_take];omega)) (ZZ f _ (by rw [List.length_drop];omega))
theorem aXM{A υ:List μ}{i k:Nat}(hi:i<A.length)(hk:k<υ.length)(h:ew A[i] υ[k]<=0):List.merge (A.drop i) (υ.drop k) iG=A[i] :: List.merge (A.drop (i+1)) (υ.drop k) iG:=by
 rw [List.drop_eq_getElem_cons hi]
 conv=>lhs;rw [List.drop_eq_getElem_cons hk,List.cons_merge_cons_pos _ _ _ (show iG A[i] υ[k]=true from decide_eq_true h),<-List.drop_eq_getElem_cons hk]
theorem aXO{A υ:List μ}{i k:Nat}(hi:i<A.length)(hk:k<υ.length)(h:¬ ew A[i] υ[k]<=0):List.merge (A.drop i) (υ.drop k) iG=υ[k] :: List.merge (A.drop i) (υ.drop (k+1)) iG:=by
 have h2:¬ iG A[i] υ[k]=true:=by unfold iG;simpa using h
 conv=>lhs;rw [List.drop_eq_getElem_cons hi,List.drop_eq_getElem_cons hk,List.cons_merge_cons_neg _ _ _ h2,<-List.drop_eq_getElem_cons hi]
theorem aXN{A υ:List μ}{i k:Nat}(hi:i<A.length)(hk:υ.length<=k):List.merge (A.drop i) (υ.drop k) iG=A[i] :: List.merge (A.drop (i+1)) (υ.drop k) iG:=by
 rw [List.drop_eq_nil_of_le hk,List.merge_right,List.merge_right,List.drop_eq_getElem_cons hi]
theorem aXP{A υ:List μ}{i k:Nat}(hi:A.length<=i)(hk:k<υ.length):List.merge (A.drop i) (υ.drop k) iG=υ[k] :: List.merge (A.drop i) (υ.drop (k+1)) iG:=by
 rw [List.drop_eq_nil_of_le hi,List.nil_merge,List.nil_merge,List.drop_eq_getElem_cons hk]
theorem aZK(n:Nat):(n:Int).tdiv 2=((n / 2:Nat):Int):=rfl
theorem Ctx.cells{W w:World}{S:List Own}{Φ:Y}{g o:Nat}{cs:List (List Value)}{l:List μ}(c:Ctx W w S Φ)(h:∀ M w,Φ M w->aP g o cs l M w):
  ∀ j,(hj:j<l.length)->∃ p c,cs.getD j []=l[j].cells p c/\l[j].row.length<=c/\c<=maxLen/\V l[j].time/\V l[j].n:=λj hj=>by
 obtain ⟨p,q,h1,h2,h3,h4,h5,_⟩:=RD (h _ _ c.Γ) hj;exact ⟨p,q,h1,h2,h3,h4,h5⟩
theorem MK{W w:World}{R G:List Own}{PS:Y}[O PS]{op:Option Addr}{aN:Nat}{ds:List Value}{o:List μ}{x:μ}{q:Option Addr}{qc kb:Nat}(hx:∀ M w,PS M w->ι.rep M w (x.cells q qc) x)(ho:o.length<10000000)
  (B:Ctx W w (.blk kb (x.cells q qc) 113 :: .buf op o.length aN ds 113 3 :: R++G) (λM w=>PS M w/\Δ M w ds o)) :
  ∃ p c w',Sem.run prog (builtin Builtin.append #[25,25] 25 #[false,false] #[.slice op o.length aN,.slice (some ⟨kb,0,none⟩) 1 1]) w=.ok (.value (.slice p (o++[x]).length c)) w'/\Ctx W w' (.buf p (o++[x]).length c (ds++x.cells q qc) 113 3 :: R++G) (λM w=>PS M w/\Δ M w (ds++x.cells q qc) (o++[x])):=by
 obtain ⟨p',cap',w',hrun,_,cJ⟩:=Ctx.vB (P:=prog) (ts:=25) (ty:=25) (kb:=#[false,false]) (size:=3) (bytes:=40) B (by kernel_rfl) (by omega) rfl rfl (by omega) (by omega);have e:o.length+1=(o++[x]).length:=by simp
 rw [e] at hrun cJ;exact ⟨p',cap',w',hrun,cJ.weak λM w h=>⟨h.1,h.2.snoc (hx M w h.1)⟩⟩
set_option maxHeartbeats 4000000 in
theorem aYx:∀ (f:Nat) {Φ:Y} [O Φ] (p:Option Addr) (cap:Nat) (l:List μ),(∀ M w,Φ M w->ζ M w p l)->l.length<=f->l.length<=cap->cap<=maxLen->l.length<=1000000->IK l->ij Φ prog F.Jd #[.slice p l.length cap] (o5 f l) id:=by
 intro f
 induction f with
 | zero =>
  intro Φ _ p cap l hΦ hf ey gY hl hr;refine x5 (T6 p l.length cap) λW R=>U.intro (λ_=>λw G B=>⟨p,cap,rfl,ey,gY,B.left.weak λM w h=>⟨h,hΦ M w h⟩⟩) (λh=>?_);have:=aO h;omega
 | succ f ih =>
  intro Φ adN p cap l hΦ hf ey gY hl hr;refine .there (λM w h=>(hΦ M w h).there) λeG=>?_;by_cases h2:l.length<2
  .have e:o5 (f+1) l=l:=by unfold o5;rw [if_pos h2]
   rw [e];exact x5 (T6 p l.length cap) λW R=>U.intro (λ_=>λw G B=>⟨p,cap,rfl,ey,gY,B.left.weak λM w h=>⟨h,hΦ M w h⟩⟩) (λh=>by have:=aO h;omega)
  .have e:o5 (f+1) l=List.merge (o5 f (l.take (l.length / 2))) (o5 f (l.drop (l.length / 2))) iG:=by conv=>lhs;unfold o5;rw [if_neg h2]
   rw [e];refine x5 (T6 p l.length cap) λW R=>U.intro (λh=>by have:=aD h;omega) (λ_=>?_);have t2:=aZK l.length;have aWw:(l.take (l.length / 2)).length=((l.length:Int).tdiv 2).toNat:=by rw [List.length_take,t2,Int.toNat_natCast];omega
   have aWx:(l.drop (l.length / 2)).length=l.length - ((l.length:Int).tdiv 2).toNat:=by rw [List.length_drop,t2,Int.toNat_natCast]
   have hA:∀ M w,Φ M w->ζ M w (aV p 3 0 cap) (l.take (l.length / 2)):=λM w h=>by
    have h1:=IU (hΦ M w h) 0 ey;rw [List.drop_zero] at h1;exact λj hj=>by
     have hj2:j<l.length:=by rw [List.length_take] at hj;omega
     obtain ⟨b,o,cs,h1,h2,h3,h4⟩:=h1 j hj2;exact ⟨b,o,cs,h1,h2,h3,by rw [List.getElem_take];exact h4⟩
   have hB:∀ M w,Φ M w->ζ M w (aV p 3 ((l.length:Int).tdiv 2).toNat cap) (l.drop (l.length / 2)):=λM w h=>by
    have h1:=IU (hΦ M w h) (l.length / 2) ey;rw [t2,Int.toNat_natCast];exact h1
   have X3:=ih (Φ:=Φ) (aV p 3 0 cap) cap (l.take (l.length / 2)) hA (by rw [List.length_take];omega) (by rw [List.length_take];omega) gY (by rw [List.length_take];omega) (λx hx=>hr x (List.mem_of_mem_take hx));obtain ⟨A,a6k⟩:∃ A,o5 f (l.take (l.length / 2))=A:=⟨_,rfl⟩;obtain ⟨υ,Vm⟩:∃ υ,o5 f (l.drop (l.length / 2))=υ:=⟨_,rfl⟩;have pA:A.Perm (l.take (l.length / 2)):=by rw [<-a6k];exact Mk f _
   have pB:υ.Perm (l.drop (l.length / 2)):=by rw [<-Vm];exact Mk f _
   have aXc:=pA.length_eq;have aXd:=pB.length_eq;rw [List.length_take] at aXc;rw [List.length_drop] at aXd;rw [aWw] at X3;refine ⟨by omega,by rw [t2];unfold V;omega,by rw [t2];omega,λw G B=>X3.to B λp1 c1 g1 g2 jd=>?_⟩;clear B;refine ⟨by omega,by rw [t2];unfold V;omega,by rw [t2];omega,?_⟩;rw [a6k] at g1 jd ⊢;have X4:=ih (Φ:=λM w=>Φ M w/\ζ M w p1 A) (aV p 3 ((l.length:Int).tdiv 2).toNat cap) (cap - ((l.length:Int).tdiv 2).toNat) (l.drop (l.length / 2)) (λM w h=>hB M w h.1) (by rw [List.length_drop];omega) (by rw [List.length_drop,t2,Int.toNat_natCast];omega) (by omega) (by rw [List.length_drop];omega) (λx hx=>hr x (List.mem_of_mem_drop hx))
   rw [aWx,Vm] at X4;refine λw G B=>X4.use B λp2 c2 w g3 g4 B=>?_;rw [Vm];obtain ⟨FL,G8,ca,hpa,B⟩:=B.r6 B.Γ.1.2;obtain ⟨cS,fL,cb,Wq,B⟩:=B.r6 B.Γ.1.2;obtain ⟨PS,s6⟩:∃ PS:Y,PS=(λM w=>(((Φ M w/\ζ M w p1 A)/\ζ M w p2 υ)/\aP FL G8 ca A M w)/\aP cS fL cb υ M w):=⟨_,rfl⟩;have pK:O PS:=by rw [s6];infer_instance
   have KR:∀ M w,PS M w->aP FL G8 ca A M w:=λM w h=>by rw [s6] at h;exact h.1.2
   have KS:∀ M w,PS M w->aP cS fL cb υ M w:=λM w h=>by rw [s6] at h;exact h.2
   have i0:∀ M w,PS M w->Φ M w:=λM w h=>by rw [s6] at h;exact h.1.1.1.1
   rw [<-s6] at B;clear s6;have a7t:=Ctx.cells B KR;have a7u:=Ctx.cells B KS;have aWH:∀ j,(hj:j<A.length)->A[j].row.length<=1000000:=λj hj=>hr _ (List.mem_of_mem_take (pA.mem_iff.1 (List.getElem_mem hj)));refine ⟨p2,_,c2,rfl,R,PS,pK,B,?_⟩;clear B X3 X4;refine bK (λop on aN en vg R' Z m=>∃ (i k:Nat) (o:List μ) (ds:List Value),en=i/\vg=k/\i<=A.length/\k<=υ.length/\on=o.length/\o.length=i+k/\o++List.merge (A.drop i) (υ.drop k) iG=List.merge A υ iG/\R'=.buf op on aN ds 113 3 :: R/\Z=(λM w=>PS M w/\Δ M w ds o)/\m=(A.length - i)+(υ.length - k))
    ⟨⟨.buf none 0 0 [] 113 3 :: R,λM w=>PS M w/\Δ M w [] ([]:List μ),_,γ,λw G B=>(B.sI 113 3).weak λM w h=>⟨h,Δ.nil⟩,0,0,[],[],rfl,rfl,Nat.zero_le _,Nat.zero_le _,rfl,rfl,rfl,rfl,rfl,rfl⟩,?_⟩
   rintro op on aN en vg ν θ m _ ⟨i,k,o,ds,rfl,rfl,hi,hk,rfl,KH,hme,rfl,rfl,rfl⟩;have nF:O (λM w=>PS M w/\Δ M w ds o):=γ;have Z2:∀ {w:World} {S:List Own} {Ψ:Y},(hj:i<A.length)->∀ {q qc},ca.getD i []=A[i].cells q qc->Ctx W w S (λM w=>PS M w/\Ψ M w)->aQ w FL (G8+(i:Int).toNat*3) [.int .i64 A[i].time,.slice q A[i].row.length qc,.int .i64 A[i].n]:=λhj q qc he B=>by rw [Int.toNat_natCast];exact ic (KR _ _ B.Γ.1) hj he
   have gB:∀ {w:World} {S:List Own} {Ψ:Y},(hj:k<υ.length)->∀ {q qc},cb.getD k []=υ[k].cells q qc->Ctx W w S (λM w=>PS M w/\Ψ M w)->aQ w cS (fL+(k:Int).toNat*3) [.int .i64 υ[k].time,.slice q υ[k].row.length qc,.int .i64 υ[k].n]:=λhj q qc he B=>by rw [Int.toNat_natCast];exact ic (KS _ _ B.Γ.1) hj he
   refine λw G B=>?_;clear B;refine U.intro (λmz=>λw G B=>?_) (λWn=>λw G B=>?_)
   .clear B;rw [Bool.or_eq_true] at mz;refine U.intro (λhand=>?_) (λa8N=>?_)
    .rw [Bool.and_eq_true] at hand;have l8:i<A.length:=by have:=aD hand.1;omega
     have hkB:k<υ.length:=by have:=aD hand.2;omega
     obtain ⟨Yq,aH7,ea,ni,qh,Jw,WS⟩:=a7t i l8;obtain ⟨Yr,aH8,eb,eA,od,Bx,FR⟩:=a7u k hkB;have hsa:∀ M w,(PS M w/\Δ M w ds o)->ζ M w Yq A[i].row:=λM w h=>iw (KR M w h.1) l8 ea;have hsb:∀ M w,(PS M w/\Δ M w ds o)->ζ M w Yr υ[k].row:=λM w h=>iw (KS M w h.1) hkB eb;refine ⟨_,_,nF,λw G B=>B,by omega,aL FL G8 (hpa (by omega)) ⟨by omega,aL cS fL (Wq (by omega)) ⟨_,_,_,_,_,λw G B=>⟨_,_,_,_,_,Z2 l8 ea B,rfl⟩,_,_,_,_,_,λw G B=>⟨_,_,_,_,_,gB hkB eb B,rfl⟩,λw G B=>(RJ A[i] υ[k] Yq Yr aH7 aH8 hsa hsb (by have:=aWH i l8;omega)).Ge B ?_⟩⟩⟩
     refine U.intro (λhle=>⟨by omega,aL FL G8 (hpa (by omega)) λw G B=>⟨_,_,_,_,_,Z2 l8 ea B,λkb w G B=>?_⟩⟩) (λhgt=>⟨by omega,aL cS fL (Wq (by omega)) λw G B=>⟨_,_,_,_,_,gB hkB eb B,λkb w G B=>?_⟩⟩)
     .obtain ⟨p',c',w',hrun,cJ⟩:=MK (x:=A[i]) (λM w h=>AR ni qh Jw WS (iw (KR M w h) l8 ea)) (by omega) B;exact ⟨p',_,c',w',hrun,_,_,γ,cJ,by unfold V;omega,_,_,(A.length - (i+1))+(υ.length - k),γ,λw G B=>B,⟨i+1,k,o++[A[i]],_,by omega,rfl,l8,hk,rfl,by rw [List.length_append,List.length_singleton];omega,by rw [<-hme,aXM l8 hkB (aD hle)];simp,rfl,rfl,rfl⟩,by omega⟩
     .obtain ⟨p',c',w',hrun,cJ⟩:=MK (x:=υ[k]) (λM w h=>AR eA od Bx FR (iw (KS M w h) hkB eb)) (by omega) B;exact ⟨p',_,c',w',hrun,_,_,γ,cJ,by unfold V;omega,_,_,(A.length - i)+(υ.length - (k+1)),γ,λw G B=>B,⟨i,k+1,o++[υ[k]],_,rfl,by omega,hi,hkB,rfl,by rw [List.length_append,List.length_singleton];omega,by rw [<-hme,aXO l8 hkB (aO hgt)];simp,rfl,rfl,rfl⟩,by omega⟩
    .rw [Bool.and_eq_false_iff] at a8N;refine U.intro (λhge=>?_) (λhlt=>?_)
     .have hkB:υ.length<=k:=by have:=aD hge;omega
      have l8:i<A.length:=by rcases mz with h|h<;>have:=aD h<;>omega
      obtain ⟨Yq,aH7,ea,ni,qh,Jw,WS⟩:=a7t i l8;refine ⟨by omega,aL FL G8 (hpa (by omega)) λw G B=>⟨_,_,_,_,_,Z2 l8 ea B,λkb w G B=>?_⟩⟩;obtain ⟨p',c',w',hrun,cJ⟩:=MK (x:=A[i]) (λM w h=>AR ni qh Jw WS (iw (KR M w h) l8 ea)) (by omega) B;exact ⟨p',_,c',w',hrun,_,_,γ,cJ,by unfold V;omega,_,_,(A.length - (i+1))+(υ.length - k),γ,λw G B=>B,⟨i+1,k,o++[A[i]],_,by omega,rfl,l8,hk,rfl,by rw [List.length_append,List.length_singleton];omega,by rw [<-hme,aXN l8 hkB];simp,rfl,rfl,rfl⟩,by omega⟩
     .have hkB:k<υ.length:=by have:=aO hlt;omega
      have l8:A.length<=i:=by rcases a8N with h|h<;>have:=aO h<;>omega
      obtain ⟨Yr,aH8,eb,eA,od,Bx,FR⟩:=a7u k hkB;refine ⟨by omega,aL cS fL (Wq (by omega)) λw G B=>⟨_,_,_,_,_,gB hkB eb B,λkb w G B=>?_⟩⟩;obtain ⟨p',c',w',hrun,cJ⟩:=MK (x:=υ[k]) (λM w h=>AR eA od Bx FR (iw (KS M w h) hkB eb)) (by omega) B;exact ⟨p',_,c',w',hrun,_,_,γ,cJ,by unfold V;omega,_,_,(A.length - i)+(υ.length - (k+1)),γ,λw G B=>B,⟨i,k+1,o++[υ[k]],_,rfl,by omega,hi,hkB,rfl,by rw [List.length_append,List.length_singleton];omega,by rw [<-hme,aXP l8 hkB];simp,rfl,rfl,rfl⟩,by omega⟩
   .rw [Bool.or_eq_false_iff] at Wn;have l8:i=A.length:=by have:=aO Wn.1;omega
    have hkB:k=υ.length:=by have:=aO Wn.2;omega
    subst l8;subst hkB;rw [List.drop_length,List.drop_length,List.nil_merge,List.append_nil] at hme;have B:=B.left;obtain ⟨cW,hs,_,g5,g6⟩:=Ctx.freeze (α:=μ) B.fst B.Γ.2;rw [<-hme];exact ⟨op,aN,rfl,g5,g6,(cW.add hs).weak λM w h=>⟨i0 M w h.1,h.2⟩⟩
theorem aNp{Φ:Y}[O Φ](x:μ)(p:Option Addr)(cap:Nat)(n:Int)(hΦ:∀ M w,Φ M w->ζ M w p x.row)(hlen:x.row.length<=1000000):ij Φ prog F.PM #[x.v p cap,.int .i64 n] x.row (λv=>.agg #[.int .i64 x.time,v,.int .i64 n]):=by
 refine x5 (aMg x.time p x.row.length cap x.n n) λW R=>?_;intro _ _;refine ⟨R,Φ,γ,λw G B=>B,λk=>⟨λw G B=>B.eN,λw G B=>?_⟩⟩;obtain ⟨p',cap',w',cs,hrun,c'⟩:=Ctx.vE (P:=prog) (ts:=111) (ty:=111) (kb:=#[false,false]) (bytes:=32) (c2:=cap) B (by kernel_rfl) val_one hΦ (by omega) (by omega);refine ⟨_,_,_,_,hrun,.buf p' x.row.length cap' cs 115 3 :: R,_,γ,c',λw G B=>B.eN.fst,λw G B=>?_⟩;obtain ⟨_,g1,g2⟩:=B.ry 0 rfl
 obtain ⟨cW,hs,_⟩:=Ctx.freeze (α:=bF) B.fst B.Γ.2;exact ⟨p',cap',rfl,g1,g2,(cW.add hs).left⟩
theorem aYB{W w:World}{R G:List Own}{PS Ψ:Y}[O PS][O Ψ]{op:Option Addr}{aN:Nat}{ds:List Value}{o:List μ}{x:μ}{q:Option Addr}{qc kb:Nat}(hx:∀ M w,PS M w->Ψ M w->ι.rep M w (x.cells q qc) x)(ho:o.length<10000000)
  (B:Ctx W w (.blk kb (x.cells q qc) 113 :: .buf op o.length aN ds 113 3 :: R++G) (λM w=>(PS M w/\Δ M w ds o)/\Ψ M w)) :
  ∃ p c w',Sem.run prog (builtin Builtin.append #[25,25] 25 #[false,false] #[.slice op o.length aN,.slice (some ⟨kb,0,none⟩) 1 1]) w=.ok (.value (.slice p (o++[x]).length c)) w'/\Ctx W w' (.buf p (o++[x]).length c (ds++x.cells q qc) 113 3 :: R++G) (λM w=>PS M w/\Δ M w (ds++x.cells q qc) (o++[x])):=by
 obtain ⟨p',c',w',h1,h2⟩:=MK (PS:=λM w=>PS M w/\Ψ M w) (x:=x) (q:=q) (qc:=qc) (λM w h=>hx M w h.1 h.2) ho (B.weak λM w h=>⟨⟨h.1.1,h.2⟩,h.1.2⟩);exact ⟨p',c',w',h1,h2.weak λM w h=>⟨h.1.1,h.2⟩⟩
def P7(x:μ):aS:=⟨x,none,0⟩
theorem P8(s:List μ):(s.map P7).map aS.d=s:=by
 rw [List.map_map];exact List.map_id s
abbrev qQ(l s outs:List μ)(i:Nat):Prop:=yO l (s.map P7) (outs.map P7) i
theorem qQ.start{l s:List μ}(h:s.Perm l):qQ l s [] 0 :=
 ⟨Nat.zero_le _,Norm.nil,by simp,λk=>by rw [List.drop_zero,P8,P8];exact a6w h k,Nat.le_refl _⟩
theorem qQ.step{l s outs:List μ}{i:Nat}(h:qQ l s outs i){X:μ}(hX:X∈s.drop i){j:Nat}(hij:i+j<=s.length)(hj:1<=j)(hk:∀ y∈(s.drop i).take j,y.key=X.key){N:Int}(hN:N=bg ((s.drop i).take j) X.key)
  (hgt:∀ y∈s.drop (i+j),jT X.key y.key<0):(N=0->qQ l s outs (i+j))/\(N≠0->qQ l s (outs++[⟨X.time,X.row,N⟩]) (i+j)):=by
 have h1:=yO.step h (X:=P7 X) (by rw [<-List.map_drop];exact List.mem_map_of_mem hX) (j:=j) (by rw [List.length_map];exact hij) hj
  (λy hy=>by rw [<-List.map_drop,<-List.map_take] at hy;obtain ⟨z,hz,rfl⟩:=List.mem_map.1 hy;exact hk z hz) (N:=N) (by rw [<-List.map_drop,<-List.map_take,P8];exact hN)
  (λy hy=>by rw [<-List.map_drop] at hy;obtain ⟨z,hz,rfl⟩:=List.mem_map.1 hy;exact hgt z hz)
 refine ⟨h1.1,λh0=>?_⟩;have:=h1.2 h0 none 0;unfold qQ;rw [List.map_append];exact this
theorem qQ.end{l s outs:List μ}(h:qQ l s outs s.length):bk l=outs:=by
 have h1:=h.norm;have h2:=h.find;rw [P8] at h1 h2;refine Ox h1 λk=>?_;have:=h2 k
 rwa [<-List.map_drop,List.drop_length,List.map_nil,List.map_nil,List.append_nil] at this
theorem qQ.FH{l s outs:List μ}{i:Nat}(h:qQ l s outs i):outs.length<=i:=by
 have:=yO.FH h
 rwa [List.length_map] at this
set_option maxHeartbeats 4000000 in
theorem aNx{Φ:Y}[O Φ](p:Option Addr)(cap:Nat)(l:List μ)(hΦ:∀ M w,Φ M w->ζ M w p l)(ey:l.length<=cap)(gY:cap<=maxLen)(hlen:l.length<=1000000)(hrow:IK l):ij Φ prog F.Jc #[.slice p l.length cap] (bk l) id:=by
 refine x5 (aMd p l.length cap) λW R=>?_;refine λw G B=>(aYx l.length p cap l hΦ (Nat.le_refl _) ey gY hlen hrow).use B λp1 c1 w g1 g2 B=>?_;have fQ:=Mk l.length l;have zW:=ZZ l.length l (Nat.le_refl _);obtain ⟨s,hs⟩:∃ s,o5 l.length l=s:=⟨_,rfl⟩;rw [hs] at B g1 fQ zW ⊢;have vP:=fQ.length_eq;obtain ⟨g,o,cs,hp,B⟩:=B.r6 B.Γ.2;obtain ⟨PS,s6⟩:∃ PS:Y,PS=(λM w=>(Φ M w/\ζ M w p1 s)/\aP g o cs s M w):=⟨_,rfl⟩
 have pK:O PS:=by rw [s6];infer_instance
 have KT:∀ M w,PS M w->aP g o cs s M w:=λM w h=>by rw [s6] at h;exact h.2
 have i0:∀ M w,PS M w->Φ M w:=λM w h=>by rw [s6] at h;exact h.1.1
 rw [<-s6] at B;clear s6 hs;have hcs:=Ctx.cells B KT;have hrw:∀ j,(hj:j<s.length)->s[j].row.length<=1000000:=λj hj=>hrow _ (fQ.mem_iff.1 (List.getElem_mem hj));refine ⟨p1,_,c1,rfl,R,PS,pK,B,?_⟩;clear B;refine bK (λop on aN en R' Z m=>∃ (i:Nat) (outs:List μ) (ds:List Value),qQ l s outs i/\en=i/\i<=s.length/\on=outs.length/\R'=.buf op on aN ds 113 3 :: R/\Z=(λM w=>PS M w/\Δ M w ds outs)/\m=s.length - i)
  ⟨⟨.buf none 0 0 [] 113 3 :: R,λM w=>PS M w/\Δ M w [] ([]:List μ),_,γ,λw G B=>(B.sI 113 3).weak λM w h=>⟨h,Δ.nil⟩,0,[],[],qQ.start fQ,rfl,Nat.zero_le _,rfl,rfl,rfl,rfl⟩,?_⟩
 rintro op on aN en ν θ m _ ⟨i,outs,ds,x7,rfl,hi,rfl,rfl,rfl,rfl⟩;have nF:O (λM w=>PS M w/\Δ M w ds outs):=γ;refine U.intro (λhlt=>?_) (λhge=>λw G B=>?_)
 .have hlt:i<s.length:=by have:=aD hlt;omega
  obtain ⟨q,qc,he,f1,f2,f3,f4⟩:=hcs i hlt;obtain ⟨X,hX⟩:∃ X,s[i]=X:=⟨_,rfl⟩;have aVT:=hrw i hlt;have WQ:X∈s.drop i:=by rw [List.drop_eq_getElem_cons hlt,hX];simp
  have aHQ:∀ {w:World} {S:List Own},Ctx W w S (λM w=>PS M w/\Δ M w ds outs)->aQ w g (o+(i:Int).toNat*3) (X.cells q qc):=λB=>by rw [Int.toNat_natCast,<-hX];exact ic (KT _ _ B.Γ.1) hlt he
  have aIL:∀ M w,PS M w->ζ M w q X.row:=λM w h=>by rw [<-hX];exact iw (KT M w h) hlt he
  rw [hX] at f1 f3 f4 aVT;refine bK (λn vg R' Z m=>∃ j:Nat,vg=((i+j:Nat):Int)/\i+j<=s.length/\n=bg ((s.drop i).take j) X.key/\(∀ y∈(s.drop i).take j,y.key=X.key)/\R'=.buf op outs.length aN ds 113 3 :: R/\Z=(λM w=>PS M w/\Δ M w ds outs)/\m=s.length - (i+j))
   ⟨⟨_,_,_,nF,λw G B=>B,0,rfl,hi,rfl,(λy hy=>by rw [List.take_zero] at hy;cases hy),rfl,rfl,rfl⟩,?_⟩
  rintro n vg ck b7 m _ ⟨j,rfl,hj,hn,hkeys,rfl,rfl,rfl⟩;refine ⟨_,_,nF,λw G B=>B,U.intro (λhlt2=>?_) (λK7=>?_)⟩
  case' refine_2 =>
   have K7:=aO K7;have Q4:1<=j:=by omega
   have hgt:∀ y∈s.drop (i+j),jT X.key y.key<0:=by
    rw [List.drop_eq_nil_of_le (by omega)];intro y hy;cases hy
  case' refine_1 =>
   have hij:i+j<s.length:=by have:=aD hlt2;omega
   obtain ⟨iL,Ys,mw,e1,e2,_,_⟩:=hcs (i+j) hij;have hmin:(min ((i+j:Nat):Int) ((s.length:Int) - 1)).toNat=i+j:=by omega
   have aHR:∀ {w:World} {S:List Own},Ctx W w S (λM w=>PS M w/\Δ M w ds outs)->aQ w g (o+(i+j)*3) (s[i+j].cells iL Ys):=λB=>ic (KT _ _ B.Γ.1) hij mw;refine ⟨by omega,aL g o (hp (by omega)) ⟨X.time,q,X.row.length,qc,X.n,λw G B=>⟨_,_,_,_,_,aHQ B,rfl⟩,by unfold V;omega,by omega,aL g o (hp (by omega)) ⟨s[i+j].time,iL,s[i+j].row.length,Ys,s[i+j].n,λw G B=>⟨_,_,_,_,_,by rw [hmin];exact aHR B,rfl⟩,λw G B=>(RJ X s[i+j] q iL qc Ys (λM w h=>aIL M w h.1) (λM w h=>iw (KT M w h.1) hij mw) (by omega)).Ge B ?_⟩⟩⟩
   refine U.intro (λhc=>?_) (λhc=>?_)
  case' refine_1.refine_1.refine_1 =>
   have hk:s[i+j].key=X.key:=by
    have hc:=aD hc;rw [iW] at hc;exact ((fH.eq _ _).1 hc).symm
   have htk:(s.drop i).take (j+1)=(s.drop i).take j++[s[i+j]]:=by
    have Wl:j<(s.drop i).length:=by rw [List.length_drop];omega
    rw [List.take_succ_eq_append_getElem Wl,List.getElem_drop]
   refine ⟨by omega,aL g o (hp (by omega)) λw G B=>⟨s[i+j].n,?_,by unfold V;omega,_,_,s.length - (i+(j+1)),nF,λw G B=>B,⟨j+1,by omega,by omega,?_,?_,rfl,rfl,rfl⟩,by omega⟩⟩
   .have:=aHR B 2 (by simp);rw [Int.toNat_natCast];simpa using this
   .rw [htk,hn];exact (a73 hk).symm
   .rw [htk];intro y hy;rcases List.mem_append.1 hy with hy|hy
    .exact hkeys y hy
    .rw [List.mem_singleton.1 hy];exact hk
  case' refine_1.refine_1.refine_2 =>
   have hc:=aO hc;rw [iW] at hc;have Q4:1<=j:=by
    rcases Nat.eq_zero_or_pos j with h0|h0
    .exfalso;subst h0;apply hc;have:s[i+0]=X:=by rw [<-hX];rfl
     rw [this,fH.refl]
    .exact h0
   have hgt:∀ y∈s.drop (i+j),jT X.key y.key<0:=by
    have h1:iG s[i] s[i+j]=true:=List.pairwise_iff_getElem.1 zW i (i+j) hlt hij (by omega);rw [hX] at h1;have h1:jT X.key s[i+j].key<0:=by
     have h2:jT X.key s[i+j].key<=0:=by rw [<-iW];exact aD h1
     omega
    intro y hy;obtain ⟨r,hr,rfl⟩:=List.getElem_of_mem hy;rw [List.length_drop] at hr;rw [List.getElem_drop];rcases Nat.eq_zero_or_pos r with h0|h0
    .subst h0;exact h1
    .have h2:iG s[i+j] s[i+j+r]=true:=List.pairwise_iff_getElem.1 zW (i+j) (i+j+r) hij (by omega) (by omega);have h2:jT s[i+j].key s[i+j+r].key<=0:=by rw [<-iW];exact aD h2
     rcases Int.lt_or_eq_of_le h2 with h3|h3
     .exact fH.trans _ _ _ h1 h3
     .rw [<-(fH.eq _ _).1 h3];exact h1
   clear hc
  all_goals
   obtain ⟨hz,hnz⟩:=x7.step WQ (by omega) Q4 hkeys hn hgt;have aVq:=x7.FH;refine U.intro (λh0=>⟨by omega,aL g o (hp (by omega)) λw G B=>⟨X.time,q,X.row.length,qc,X.n,aHQ B,λw G B=>?_⟩⟩) (λh0=>⟨_,_,s.length - (i+j),nF,λw G B=>B,⟨i+j,outs,ds,hz (by have:=aO h0;omega),rfl,by omega,rfl,rfl,rfl,rfl⟩,by omega⟩);have WW:=hnz (aD h0);refine (aNp (Φ:=λM w=>PS M w/\Δ M w ds outs) X q qc n (λM w h=>aIL M w h.1) (by omega)).use B λp2 c2 w g3 g4 B=>⟨X.time,p2,X.row.length,c2,n,rfl,.buf op outs.length aN ds 113 3 :: R,_,γ,B,λkb w G B=>?_⟩
   obtain ⟨p',c',w',hrun,cJ⟩:=aYB (x:=⟨X.time,X.row,n⟩) (q:=p2) (qc:=c2) (Ψ:=λM w=>ζ M w p2 X.row) (λM w _ h=>AR g3 g4 f3 (by rw [hn];exact Dp _) h) (by omega) B;exact ⟨p',_,c',w',hrun,_,_,γ,cJ,_,_,s.length - (i+j),γ,λw G B=>B,⟨i+j,_,_,WW,rfl,by omega,rfl,rfl,rfl,rfl⟩,by omega⟩
 .have hge:i=s.length:=by have:=aO hge;omega
  subst hge;rw [x7.end];have B:=B.left;obtain ⟨cW,hs,_,g5,g6⟩:=Ctx.freeze (α:=μ) B.fst B.Γ.2;exact ⟨op,aN,rfl,g5,g6,(cW.add hs).weak λM w h=>⟨i0 M w h.1,h.2⟩⟩
end Go.Proofs.YtfijlibaeahlaaaGreatDoor
end

section
namespace Go.Proofs
open Go.Shelf
def Tryz.aCA:Go.Shelf.Ren:=⟨fun|169=>62|n=>n,fun|70=>94|9=>9|0=>0|72=>97|37=>95|127=>142|3=>3|5=>5|n=>n,fun|n=>n⟩
theorem Tryz.aX7:Go.Proofs.Lays.n169 prog Tryz.aCA:={
 mixed:=by kernel_rfl
 f169:=func62.trans (congrArg some (by kernel_rfl))
 t0:=underlying0
 a0:=isAgg0
 z0:=sizeOf0
 v0:=zeroValue0
 t3:=underlying3
 a3:=isAgg3
 z3:=sizeOf3
 v3:=zeroValue3
 t9:=underlying9
 a9:=isAgg9
 z9:=sizeOf9
 v9:=zeroValue9
 t37:=underlying95
 a37:=isAgg95
 z37:=sizeOf95
 v37:=zeroValue95
 t70:=underlying94
 a70:=isAgg94
 z70:=sizeOf94
 v70:=zeroValue94
 t72:=underlying97
 a72:=isAgg97
 z72:=sizeOf97
 v72:=zeroValue97
 t127:=underlying142
 a127:=isAgg142
 z127:=sizeOf142
 v127:=zeroValue142 }
theorem Tryz.aNG:Builder.Extra prog Tryz.aCA:={
 sizeBuilder:=by kernel_rfl
 liesBuilder:=by kernel_rfl
 t5:=underlying5
 a5:=isAgg5
 z5:=sizeOf5
 v5:=zeroValue5
 infoByte:=by kernel_rfl
 cellsByte:=by kernel_rfl
 sizeByte:=by kernel_rfl
 neB5:=by decide }
def Tryz.aX6:Go.Shelf.Ren:=⟨fun|137=>113|217=>130|266=>140|n=>n,fun|9=>9|5=>5|3=>3|n=>n,fun|n=>n⟩
theorem Tryz.aX5:Go.Proofs.Lays.n137 prog Tryz.aX6:={
 mixed:=by kernel_rfl
 f137:=func113.trans (congrArg some (by kernel_rfl))
 f217:=func130.trans (congrArg some (by kernel_rfl))
 f266:=func140.trans (congrArg some (by kernel_rfl))
 t3:=underlying3
 a3:=isAgg3
 z3:=sizeOf3
 v3:=zeroValue3
 t5:=underlying5
 a5:=isAgg5
 z5:=sizeOf5
 v5:=zeroValue5
 t9:=underlying9
 a9:=isAgg9
 z9:=sizeOf9
 v9:=zeroValue9 }
def Tryz.aX4:Go.Shelf.Ren:=⟨fun|103=>115|210=>133|206=>146|n=>n,fun|9=>9|4=>4|24=>151|3=>3|n=>n,fun|n=>n⟩
theorem Tryz.aX3:Go.Proofs.Lays.n103 prog Tryz.aX4:={
 mixed:=by kernel_rfl
 f103:=func115.trans (congrArg some (by kernel_rfl))
 f206:=func146.trans (congrArg some (by kernel_rfl))
 f210:=func133.trans (congrArg some (by kernel_rfl))
 t3:=underlying3
 a3:=isAgg3
 z3:=sizeOf3
 v3:=zeroValue3
 t4:=underlying4
 a4:=isAgg4
 z4:=sizeOf4
 v4:=zeroValue4
 t9:=underlying9
 a9:=isAgg9
 z9:=sizeOf9
 v9:=zeroValue9
 t24:=underlying151
 a24:=isAgg151
 z24:=sizeOf151
 v24:=zeroValue151 }
def Tryz.aXC:Go.Shelf.Ren:=⟨fun|171=>97|243=>119|246=>137|283=>149|284=>150|285=>151|286=>152|129=>162|317=>161|318=>163|319=>164|320=>165|337=>173|338=>174|n=>n,fun|3=>3|9=>9|2=>2|4=>4|171=>178|0=>0|53=>179|37=>95|5=>5|173=>182|212=>192|51=>193|20=>20|213=>194|46=>118|232=>206|233=>207|n=>n,fun|17=>3|18=>4|19=>5|n=>n⟩
theorem Tryz.aXB:Go.Proofs.LaysM.n171 prog Tryz.aXC:={
 mixed:=by kernel_rfl
 f129:=func162.trans (congrArg some (by kernel_rfl))
 f171:=func97.trans (congrArg some (by kernel_rfl))
 f243:=func119.trans (congrArg some (by kernel_rfl))
 f246:=func137.trans (congrArg some (by kernel_rfl))
 f283:=func149.trans (congrArg some (by kernel_rfl))
 f284:=func150.trans (congrArg some (by kernel_rfl))
 f285:=func151.trans (congrArg some (by kernel_rfl))
 f286:=func152.trans (congrArg some (by kernel_rfl))
 f317:=func161.trans (congrArg some (by kernel_rfl))
 f318:=func163.trans (congrArg some (by kernel_rfl))
 f319:=func164.trans (congrArg some (by kernel_rfl))
 f320:=func165.trans (congrArg some (by kernel_rfl))
 f337:=func173.trans (congrArg some (by kernel_rfl))
 f338:=func174.trans (congrArg some (by kernel_rfl))
 t0:=underlying0
 a0:=isAgg0
 z0:=sizeOf0
 v0:=zeroValue0
 t2:=underlying2
 a2:=isAgg2
 z2:=sizeOf2
 v2:=zeroValue2
 t3:=underlying3
 a3:=isAgg3
 z3:=sizeOf3
 v3:=zeroValue3
 t4:=underlying4
 a4:=isAgg4
 z4:=sizeOf4
 v4:=zeroValue4
 t5:=underlying5
 a5:=isAgg5
 z5:=sizeOf5
 v5:=zeroValue5
 t9:=underlying9
 a9:=isAgg9
 z9:=sizeOf9
 v9:=zeroValue9
 t20:=underlying20
 a20:=isAgg20
 z20:=sizeOf20
 v20:=zeroValue20
 t37:=underlying95
 a37:=isAgg95
 z37:=sizeOf95
 v37:=zeroValue95
 t46:=underlying118
 a46:=isAgg118
 z46:=sizeOf118
 v46:=zeroValue118
 t51:=underlying193
 a51:=isAgg193
 z51:=sizeOf193
 v51:=zeroValue193
 t53:=underlying179
 a53:=isAgg179
 z53:=sizeOf179
 v53:=zeroValue179
 t171:=underlying178
 a171:=isAgg178
 z171:=sizeOf178
 v171:=zeroValue178
 t173:=underlying182
 a173:=isAgg182
 z173:=sizeOf182
 v173:=zeroValue182
 t212:=underlying192
 a212:=isAgg192
 z212:=sizeOf192
 v212:=zeroValue192
 t213:=underlying194
 a213:=isAgg194
 z213:=sizeOf194
 t232:=underlying206
 a232:=isAgg206
 z232:=sizeOf206
 v232:=zeroValue206
 t233:=underlying207
 a233:=isAgg207
 z233:=sizeOf207
 v233:=zeroValue207
 g17:=by kernel_rfl
 g18:=by kernel_rfl
 g19:=by kernel_rfl
 i0:=by kernel_rfl
 i2:=by kernel_rfl
 i3:=by kernel_rfl
 i4:=by kernel_rfl
 i5:=by kernel_rfl
 i9:=by kernel_rfl
 i20:=by kernel_rfl
 i37:=by kernel_rfl
 i46:=by kernel_rfl
 i51:=by kernel_rfl
 i53:=by kernel_rfl
 i171:=by kernel_rfl
 i173:=by kernel_rfl
 i212:=by kernel_rfl
 i232:=by kernel_rfl
 i233:=by kernel_rfl
 m17:=by kernel_rfl
 m18:=by kernel_rfl
 m19:=by kernel_rfl }
def Tryz.aX9:Go.Shelf.Ren:=⟨fun|171=>97|243=>119|246=>137|283=>149|284=>150|285=>151|286=>152|129=>162|317=>161|318=>163|319=>164|320=>165|337=>173|338=>174|n=>n,fun|3=>3|9=>9|2=>2|4=>4|171=>178|0=>0|53=>179|37=>95|5=>5|173=>182|212=>192|51=>193|20=>20|213=>194|46=>118|232=>206|233=>207|n=>n,fun|17=>3|18=>4|19=>5|n=>n⟩
theorem Tryz.aX8:Go.Proofs.Lays.n171 prog Tryz.aX9:={
 mixed:=by kernel_rfl
 f129:=func162.trans (congrArg some (by kernel_rfl))
 f171:=func97.trans (congrArg some (by kernel_rfl))
 f243:=func119.trans (congrArg some (by kernel_rfl))
 f246:=func137.trans (congrArg some (by kernel_rfl))
 f283:=func149.trans (congrArg some (by kernel_rfl))
 f284:=func150.trans (congrArg some (by kernel_rfl))
 f285:=func151.trans (congrArg some (by kernel_rfl))
 f286:=func152.trans (congrArg some (by kernel_rfl))
 f317:=func161.trans (congrArg some (by kernel_rfl))
 f318:=func163.trans (congrArg some (by kernel_rfl))
 f319:=func164.trans (congrArg some (by kernel_rfl))
 f320:=func165.trans (congrArg some (by kernel_rfl))
 f337:=func173.trans (congrArg some (by kernel_rfl))
 f338:=func174.trans (congrArg some (by kernel_rfl))
 t0:=underlying0
 a0:=isAgg0
 z0:=sizeOf0
 v0:=zeroValue0
 t2:=underlying2
 a2:=isAgg2
 z2:=sizeOf2
 v2:=zeroValue2
 t3:=underlying3
 a3:=isAgg3
 z3:=sizeOf3
 v3:=zeroValue3
 t4:=underlying4
 a4:=isAgg4
 z4:=sizeOf4
 v4:=zeroValue4
 t5:=underlying5
 a5:=isAgg5
 z5:=sizeOf5
 v5:=zeroValue5
 t9:=underlying9
 a9:=isAgg9
 z9:=sizeOf9
 v9:=zeroValue9
 t20:=underlying20
 a20:=isAgg20
 z20:=sizeOf20
 v20:=zeroValue20
 t37:=underlying95
 a37:=isAgg95
 z37:=sizeOf95
 v37:=zeroValue95
 t46:=underlying118
 a46:=isAgg118
 z46:=sizeOf118
 v46:=zeroValue118
 t51:=underlying193
 a51:=isAgg193
 z51:=sizeOf193
 v51:=zeroValue193
 t53:=underlying179
 a53:=isAgg179
 z53:=sizeOf179
 v53:=zeroValue179
 t171:=underlying178
 a171:=isAgg178
 z171:=sizeOf178
 v171:=zeroValue178
 t173:=underlying182
 a173:=isAgg182
 z173:=sizeOf182
 v173:=zeroValue182
 t212:=underlying192
 a212:=isAgg192
 z212:=sizeOf192
 v212:=zeroValue192
 t213:=underlying194
 a213:=isAgg194
 z213:=sizeOf194
 t232:=underlying206
 a232:=isAgg206
 z232:=sizeOf206
 v232:=zeroValue206
 t233:=underlying207
 a233:=isAgg207
 z233:=sizeOf207
 v233:=zeroValue207
 g17:=by kernel_rfl
 g18:=by kernel_rfl
 g19:=by kernel_rfl }
def Tryz.aXA:Go.Shelf.Ren:=⟨fun|172=>114|244=>131|245=>132|247=>141|279=>142|280=>143|281=>144|282=>145|287=>155|316=>156|171=>97|205=>157|321=>167|322=>168|243=>119|246=>137|283=>149|284=>150|285=>151|286=>152|129=>162|317=>161|318=>163|319=>164|320=>165|337=>173|338=>174|n=>n,fun|9=>9|3=>3|75=>99|76=>100|4=>4|5=>5|167=>170|37=>95|0=>0|85=>171|2=>2|168=>173|53=>179|175=>184|46=>118|210=>187|127=>142|145=>200|143=>198|21=>21|171=>178|173=>182|212=>192|51=>193|20=>20|213=>194|232=>206|233=>207|80=>90|n=>n,fun|15=>1|16=>2|17=>3|18=>4|19=>5|n=>n⟩
theorem Tryz.Xv:Go.Proofs.LaysC.n172 prog Tryz.aXA:={
 mixed:=by kernel_rfl
 f129:=func162.trans (congrArg some (by kernel_rfl))
 f171:=func97.trans (congrArg some (by kernel_rfl))
 f172:=func114.trans (congrArg some (by kernel_rfl))
 f205:=func157.trans (congrArg some (by kernel_rfl))
 f243:=func119.trans (congrArg some (by kernel_rfl))
 f244:=func131.trans (congrArg some (by kernel_rfl))
 f245:=func132.trans (congrArg some (by kernel_rfl))
 f246:=func137.trans (congrArg some (by kernel_rfl))
 f247:=func141.trans (congrArg some (by kernel_rfl))
 f279:=func142.trans (congrArg some (by kernel_rfl))
 f280:=func143.trans (congrArg some (by kernel_rfl))
 f281:=func144.trans (congrArg some (by kernel_rfl))
 f282:=func145.trans (congrArg some (by kernel_rfl))
 f283:=func149.trans (congrArg some (by kernel_rfl))
 f284:=func150.trans (congrArg some (by kernel_rfl))
 f285:=func151.trans (congrArg some (by kernel_rfl))
 f286:=func152.trans (congrArg some (by kernel_rfl))
 f287:=func155.trans (congrArg some (by kernel_rfl))
 f316:=func156.trans (congrArg some (by kernel_rfl))
 f317:=func161.trans (congrArg some (by kernel_rfl))
 f318:=func163.trans (congrArg some (by kernel_rfl))
 f319:=func164.trans (congrArg some (by kernel_rfl))
 f320:=func165.trans (congrArg some (by kernel_rfl))
 f321:=func167.trans (congrArg some (by kernel_rfl))
 f322:=func168.trans (congrArg some (by kernel_rfl))
 f337:=func173.trans (congrArg some (by kernel_rfl))
 f338:=func174.trans (congrArg some (by kernel_rfl))
 t0:=underlying0
 a0:=isAgg0
 z0:=sizeOf0
 v0:=zeroValue0
 t2:=underlying2
 a2:=isAgg2
 z2:=sizeOf2
 v2:=zeroValue2
 t3:=underlying3
 a3:=isAgg3
 z3:=sizeOf3
 v3:=zeroValue3
 t4:=underlying4
 a4:=isAgg4
 z4:=sizeOf4
 v4:=zeroValue4
 t5:=underlying5
 a5:=isAgg5
 z5:=sizeOf5
 v5:=zeroValue5
 t9:=underlying9
 a9:=isAgg9
 z9:=sizeOf9
 v9:=zeroValue9
 t20:=underlying20
 a20:=isAgg20
 z20:=sizeOf20
 v20:=zeroValue20
 t21:=underlying21
 a21:=isAgg21
 z21:=sizeOf21
 v21:=zeroValue21
 t37:=underlying95
 a37:=isAgg95
 z37:=sizeOf95
 v37:=zeroValue95
 t46:=underlying118
 a46:=isAgg118
 z46:=sizeOf118
 v46:=zeroValue118
 t51:=underlying193
 a51:=isAgg193
 z51:=sizeOf193
 v51:=zeroValue193
 t53:=underlying179
 a53:=isAgg179
 z53:=sizeOf179
 v53:=zeroValue179
 t75:=underlying99
 a75:=isAgg99
 z75:=sizeOf99
 v75:=zeroValue99
 t76:=underlying100
 a76:=isAgg100
 z76:=sizeOf100
 v76:=zeroValue100
 t85:=underlying171
 a85:=isAgg171
 z85:=sizeOf171
 v85:=zeroValue171
 t127:=underlying142
 a127:=isAgg142
 z127:=sizeOf142
 v127:=zeroValue142
 t143:=underlying198
 a143:=isAgg198
 z143:=sizeOf198
 v143:=zeroValue198
 t145:=underlying200
 a145:=isAgg200
 z145:=sizeOf200
 v145:=zeroValue200
 t167:=underlying170
 a167:=isAgg170
 z167:=sizeOf170
 v167:=zeroValue170
 t168:=underlying173
 a168:=isAgg173
 z168:=sizeOf173
 v168:=zeroValue173
 t171:=underlying178
 a171:=isAgg178
 z171:=sizeOf178
 v171:=zeroValue178
 t173:=underlying182
 a173:=isAgg182
 z173:=sizeOf182
 v173:=zeroValue182
 t175:=underlying184
 a175:=isAgg184
 z175:=sizeOf184
 v175:=zeroValue184
 t210:=underlying187
 a210:=isAgg187
 z210:=sizeOf187
 v210:=zeroValue187
 t212:=underlying192
 a212:=isAgg192
 z212:=sizeOf192
 v212:=zeroValue192
 t213:=underlying194
 a213:=isAgg194
 z213:=sizeOf194
 t232:=underlying206
 a232:=isAgg206
 z232:=sizeOf206
 v232:=zeroValue206
 t233:=underlying207
 a233:=isAgg207
 z233:=sizeOf207
 v233:=zeroValue207
 g15:=by kernel_rfl
 g16:=by kernel_rfl
 g17:=by kernel_rfl
 g18:=by kernel_rfl
 g19:=by kernel_rfl
 t80:=underlying90
 a80:=isAgg90
 z80:=sizeOf90
 v80:=zeroValue90
 i0:=by kernel_rfl
 i2:=by kernel_rfl
 i3:=by kernel_rfl
 i4:=by kernel_rfl
 i5:=by kernel_rfl
 i9:=by kernel_rfl
 i20:=by kernel_rfl
 i21:=by kernel_rfl
 i37:=by kernel_rfl
 i46:=by kernel_rfl
 i51:=by kernel_rfl
 i53:=by kernel_rfl
 i75:=by kernel_rfl
 i76:=by kernel_rfl
 i80:=by kernel_rfl
 i85:=by kernel_rfl
 i127:=by kernel_rfl
 i143:=by kernel_rfl
 i145:=by kernel_rfl
 i167:=by kernel_rfl
 i168:=by kernel_rfl
 i171:=by kernel_rfl
 i173:=by kernel_rfl
 i175:=by kernel_rfl
 i210:=by kernel_rfl
 i212:=by kernel_rfl
 i232:=by kernel_rfl
 i233:=by kernel_rfl
 m15:=by kernel_rfl
 m16:=by kernel_rfl
 m17:=by kernel_rfl
 m18:=by kernel_rfl
 m19:=by kernel_rfl
 c0:=by kernel_rfl
 c2:=by kernel_rfl
 c3:=by kernel_rfl
 c4:=by kernel_rfl
 c5:=by kernel_rfl
 c9:=by kernel_rfl
 c20:=by kernel_rfl
 c21:=by kernel_rfl
 c37:=by kernel_rfl
 c46:=by kernel_rfl
 c51:=by kernel_rfl
 c53:=by kernel_rfl
 c75:=by kernel_rfl
 c76:=by kernel_rfl
 c80:=by kernel_rfl
 c85:=by kernel_rfl
 c127:=by kernel_rfl
 c143:=by kernel_rfl
 c145:=by kernel_rfl
 c167:=by kernel_rfl
 c168:=by kernel_rfl
 c171:=by kernel_rfl
 c173:=by kernel_rfl
 c175:=by kernel_rfl
 c210:=by kernel_rfl
 c212:=by kernel_rfl
 c213:=by kernel_rfl
 c232:=by kernel_rfl
 c233:=by kernel_rfl }
end Go.Proofs
end

section
namespace Go.Proofs.YtfijlibaeahlaaaGreatDoor
open Go.Vc
abbrev wL(b:Nat)(l:List UInt8)(R:List Own):Prop:=oG 97 5 b l R
theorem a54:∃ j,prog.info? 97=some j/\j.size=2:=by
 have h:(prog.info? 97).map (·.size)=some 2:=by kernel_rfl
 exact Option.map_eq_some_iff.1 h
set_option maxHeartbeats 1000000 in
set_option maxRecDepth 100000 in
theorem aQx(b:Nat)(w:World)(h0:w.cell? ⟨b,0,none⟩=some (aA b 0)):
  Calls prog 96 #[aA b 0] w λe w'=>e=.returned (.tuple #[])/\w'=w:=by
 obtain ⟨j,hj,_⟩:=a54
 go_enter func96,Tryz.ntmps96
 go_wp2
 rw [Lib.run_neq_ptr_same w _ underlying94 hj]
 go_wp2
 go_end0
 exact ⟨rfl,rfl⟩
set_option maxHeartbeats 1000000 in
set_option maxRecDepth 100000 in
theorem aQv(b:Nat)(w:World)(h0:w.cell? ⟨b,0,none⟩=some (.pointer none))(hsh:w.shape? b=some (97,2))(hfz:w.frozen? ⟨b,0,none⟩=false):
  Calls prog 96 #[aA b 0] w λe w'=>e=.returned (.tuple #[])/\w'=w.setCell ⟨b,0,none⟩ (aA b 0):=by
 obtain ⟨j,hj,aVx⟩:=a54
 go_enter func96,Tryz.ntmps96
 go_wp2
 rw [Lib.run_to_unsafe w ⟨b,0,none⟩ underlying94 underlying154 hj (by rw [aVx];decide) hsh (Nat.zero_lt_succ 1)];simp only [Result.andThen];rw [Oper.upon_value]
 go_wp2
 rw [run_callFunc_extern func118 (by kernel_rfl) (by kernel_rfl) (by kernel_rfl) (e:=Extern.AbiNoEscape.same) (by kernel_rfl)];rw [Lib.run_noEscape];simp only [Result.andThen];rw [Oper.upon_value]
 go_wp2
 rw [Lib.run_from_unsafe w ⟨b,0,none⟩ underlying154 underlying94 hj hsh (by kernel_rfl)];simp only [Result.andThen];rw [Oper.upon_value]
 go_wp2
 go_end0
 exact ⟨rfl,rfl⟩
theorem aQw{W w:World}{S:List Own}{Φ:Y}[O Φ]{b:Nat}{pa v:Value}(hp:pa=.pointer none\/pa=.pointer (some ⟨b,0,none⟩))(c:Ctx W w (.blk b [pa,v] 97 :: S) Φ){K:c6}
  (hk:∀ w',Ctx W w' (.blk b [aA b 0,v] 97 :: S) Φ->K (.returned (.tuple #[])) w'):ω F.aIe #[aA b 0] w K:=by
 have hb:w.heap[b]? = some (.cells #[pa,v] 97 (0,0)):=c.blk 0 rfl;rcases hp with rfl|rfl
 .exact (aQv b w (c.get 0 rfl rfl) (by simp [World.shape?,hb]) (by simp [World.frozen?,hb])).mono λe w' ⟨he,hw⟩=>by
   subst he;exact hk w' (c.put 0 hw rfl)
 .exact (aQx b w (c.get 0 rfl rfl)).mono λe w' ⟨he,hw⟩=>by
   subst he;subst hw;exact hk w' c
theorem aQH:∃ i,prog.info? 5=some i/\i.zero=some (.int .u8 0)/\i.size=1/\i.bytes=1:=by
 have h:(prog.info? 5).map (λi=>(i.zero,i.size,i.bytes))=some (some (.int .u8 0),1,1):=by kernel_rfl
 obtain ⟨i,hi,he⟩:=Option.map_eq_some_iff.1 h;simp only [Prod.mk.injEq] at he;exact ⟨i,hi,he⟩
theorem aZA(s:ByteArray):Lib.strCells s=Lib.byteCells s.data.toList:=rfl
theorem tH{W w:World}{S R:List Own}{Φ:Y}[O Φ]{b:Nat}{l:List UInt8}(s:ByteArray)(h:wL b l R)(c:Ctx W w (R++S) Φ)(hlen:l.length+s.size<=100000000000){K:c6}
  (hk:∀ R' w',wL b (l++s.data.toList) R'->Ctx W w' (R'++S) Φ->K (.returned (.tuple #[.int .i64 s.size,.nilIface])) w'):ω F.rB #[aA b 0,.string s] w K:=by
 obtain ⟨pa,p,cap,hpa,rfl⟩:=h;obtain ⟨i,hi,hz,hsz,hby⟩:=aQH;refine cn (aNF b 0 s (J:=K∘.returned) c ?_);refine λw G c=>aQw hpa c λw c=>⟨rfl,[.blk b [aA b 0,.slice p l.length cap] 97,.buf p l.length cap (Lib.byteCells l) 5 1]++S,Φ,γ,c,λw G c=>⟨p,l.length,cap,c.get 0 rfl rfl,λw G c=>?_⟩⟩;obtain ⟨p',cap',w',hrun,c'⟩:=Ctx.aPw (P:=prog) (t:=95) (u:=9) (ty:=95) (kb:=#[false,false]) (c.swap) underlying95 underlying9 hi hz hsz hby s (by omega) (by unfold maxLen;omega)
 refine ⟨p',_,cap',w',hrun,[.blk b [aA b 0,.slice p l.length cap] 97,.buf p' (l.length+s.size) cap' (Lib.byteCells l++Lib.strCells s) 5 1]++S,Φ,γ,c'.swap,λw G c=>⟨c.can 0 rfl (by simp),λw' hw'=>?_⟩⟩;refine ⟨[.blk b [aA b 0,.slice p' (l.length+s.size) cap'] 97,.buf p' (l.length+s.size) cap' (Lib.byteCells l++Lib.strCells s) 5 1]++S,Φ,γ,c.put 0 hw' rfl,λw G c=>hk [.blk b [aA b 0,.slice p' (l.length+s.size) cap'] 97,.buf p' (l.length+s.size) cap' (Lib.byteCells l++Lib.strCells s) 5 1] w ⟨_,p',cap',.inr rfl,?_⟩ c.left⟩
 have hl:(l++s.data.toList).length=l.length+s.size:=by rw [List.length_append,Array.length_toList];rfl
 rw [hl,aZA,Lib.byteCells_append]
theorem ON{W w:World}{S R:List Own}{Φ:Y}[O Φ]{b:Nat}{l:List UInt8}(h:wL b l R)(c:Ctx W w (R++S) Φ){K:c6}
  (hk:∀ w',Ctx W w' S Φ->K (.returned (.string ⟨l.toArray⟩)) w'):ω F.Ml #[aA b 0] w K :=
 oG.string Tryz.aX7 Tryz.aNG h c hk
end Go.Proofs.YtfijlibaeahlaaaGreatDoor
end

section
namespace Go.Vc
theorem ay.aC7{Φ:Y}{P:Program}{f:FuncId}{args:Array Value}{v:Value}{p:Prop}(hΦ:∀ M w,Φ M w->p)(h:p->ay Φ P f args v):ay Φ P f args v :=
 ⟨λW w S c=>(h (hΦ _ _ c.Γ)).go W w S c⟩
end Go.Vc
namespace Go.Proofs.YtfijlibaeahlaaaGreatDoor
open Go.Vc
def gi(n:Int):ByteArray:=⟨(Lib.itoa n).toArray⟩
def aK(n:Int):ByteArray:=gi n++ByteArray.mk #[59]
def cY(n:Int):ByteArray:=if n<0 then ByteArray.mk #[] else aK n
def bx(s:ByteArray):ByteArray:=gi s.size++ByteArray.mk #[58]++s++ByteArray.mk #[44]
def nG(v:bF):ByteArray:=aK v.kind++aK v.num++bx v.text
def fC(r:List bF):List UInt8:=r.flatMap λv=>(nG v).data.toList
def w4(r:List bF):List UInt8:=(cY r.length).data.toList++fC r
def gB(r:List bF):ByteArray:=⟨(w4 r).toArray⟩
theorem av(a b:ByteArray):(a++b).size=a.size+b.size:=ByteArray.size_append
theorem qI(l:List UInt8):(ByteArray.mk l.toArray).size=l.length:=by simp [ByteArray.size]
theorem cF(a:ByteArray):a.data.toList.length=a.size:=by rw [Array.length_toList];rfl
theorem Qy:∀ (k u:Nat),u<10 ^ k->0<k->Lib.nDigits u<=k
 | 0,u,_,h=>by omega
 | k+1,u,h,_=>by
  by_cases h1:u<10
  .rw [Lib.nDigits_small h1];omega
  .rw [Lib.nDigits_big h1];have hk:0<k:=by
    rcases Nat.eq_zero_or_pos k with rfl|h2
    .simp at h;omega
    .exact h2
   have:=Qy k (u / 10) (by rw [Nat.pow_succ] at h;omega) hk;omega
theorem XB{n:Int}(h:V n):1<=(Lib.itoa n).length/\(Lib.itoa n).length<=20:=by
 unfold V at h;unfold Lib.itoa;split
 .have h1:=Qy 19 n.natAbs (by omega) (by decide);have h2:=Lib.nDigits_pos n.natAbs;rw [List.length_cons,Lib.decDigits_length];omega
 .have h1:=Qy 19 n.toNat (by omega) (by decide);have h2:=Lib.nDigits_pos n.toNat;rw [Lib.decDigits_length];omega
theorem A6{n:Int}(h:V n):1<=(gi n).size/\(gi n).size<=20:=by
 unfold gi;rw [qI];exact XB h
theorem cC{n:Int}(h:V n):2<=(aK n).size/\(aK n).size<=21:=by
 have:=A6 h;have e:(ByteArray.mk #[59]).size=1:=rfl;unfold aK;rw [av,e];omega
theorem p7{n:Int}(h:V n):(cY n).size<=21:=by
 unfold cY;split
 .exact Nat.zero_le _
 .exact (cC h).2
theorem mJ{s:ByteArray}(h:s.size<=9223372036854775807):(bx s).size<=s.size+22/\s.size+3<=(bx s).size:=by
 have:=A6 (n:=s.size) (by unfold V;omega);have e:(ByteArray.mk #[58]).size=1:=rfl;have e2:(ByteArray.mk #[44]).size=1:=rfl;unfold bx;rw [av,av,av,e,e2];omega
theorem Zv{v:bF}(h1:V v.kind)(h2:V v.num)(h:v.text.size<=9223372036854775807):(nG v).size<=v.text.size+64:=by
 have a:=cC h1;have b:=cC h2;have c:=mJ h;unfold nG;rw [av,av];omega
theorem Ru(a b:List bF):fC (a++b)=fC a++fC b:=by simp [fC]
theorem aIx(v:bF):fC [v]=(nG v).data.toList:=by simp [fC]
theorem aIw{m:Nat}:∀ {r:List bF},(∀ v∈r,(V v.kind/\V v.num)/\v.text.size<=m)->m<=9223372036854775807->(fC r).length<=r.length*(m+64)
 | [],_,_=>by simp [fC]
 | v :: r,h,hm=>by
  have h1:=aIw (r:=r) (λu hu=>h u (List.mem_cons_of_mem _ hu)) hm;obtain ⟨⟨a,b⟩,c⟩:=h v List.mem_cons_self;have h2:=Zv a b (by omega);have e:fC (v :: r)=(nG v).data.toList++fC r:=by simp [fC]
  rw [e,List.length_append,cF,List.length_cons,Nat.add_mul];omega
theorem MO{m:Nat}{r:List bF}(h:∀ v∈r,(V v.kind/\V v.num)/\v.text.size<=m)(hm:m<=9223372036854775807)(hr:r.length<=1000000):(w4 r).length<=21+r.length*(m+64):=by
 have h1:=aIw h hm;have h2:=p7 (n:=(r.length:Int)) (by unfold V;omega);unfold w4;rw [List.length_append,cF];omega
theorem aYU{M:List Nat}{w:World}{cs:List Value}{v:bF}(h:ι.rep M w cs v):cs=[.int .i64 v.kind,.int .i64 v.num,.string v.text]/\V v.kind/\V v.num/\v.text.size<=maxLen:=by
 obtain ⟨_,_,rfl,⟨rfl,h1⟩,_,_,rfl,⟨rfl,h2⟩,rfl,h3⟩:=h;exact ⟨rfl,h1,h2,h3⟩
theorem Mb{M:List Nat}{w:World}{p:Option Addr}{l:List bF}(h:ζ M w p l):∀ v∈l,(V v.kind/\V v.num)/\v.text.size<=maxLen:=by
 intro v hv;obtain ⟨i,hi,rfl⟩:=List.getElem_of_mem hv;obtain ⟨_,_,_,_,_,_,hr⟩:=h i hi;obtain ⟨_,h1,h2,h3⟩:=aYU hr;exact ⟨⟨h1,h2⟩,h3⟩
abbrev aIk:String:=((Rows.checkpointCollectsRow.laid.map Prod.fst).drop 2).headD default
abbrev oP:Y:=Ew prog aIk .u64 Lib.pow10Tab
theorem TY{Φ:Y}[O Φ](hΦ:∀ M w,Φ M w->oP M w)(n:Int)(h:V n):ay Φ prog F.strconv_Itoa #[.int .i64 n] (.string (gi n)) :=
 aWj (name:=aIk) (λn h0 h1 w ht=>Any.strconv_Itoa Tryz.aXB n h0 h1 w ht) hΦ n h
theorem aOH(i:Nat)(hi:i<100):fE prog F.strconv_Itoa #[.int .i64 i] (.string (gi i)) :=
 Quiet.W9 ⟨λw=>by
  have h:=Any.strconv_Itoa_small { Tryz.aX8 with } i hi w;rw [<-Lib.itoa_nonneg] at h;exact h⟩
def A'(Φ:Y)(n:Int):Prop:=(∀ M w,Φ M w->oP M w)/\V n\/∃ i:Nat,i<100/\n=i
theorem a2I{Φ:Y}[O Φ]{n:Int}(h:A' Φ n):ay Φ prog F.strconv_Itoa #[.int .i64 n] (.string (gi n)):=by
 rcases h with ⟨h1,h2⟩|⟨i,hi,rfl⟩
 .exact TY h1 n h2
 .exact (aOH i hi).in
theorem A'.i64{Φ:Y}{n:Int}(h:A' Φ n):V n:=by
 rcases h with ⟨_,h2⟩|⟨i,hi,rfl⟩
 .exact h2
 .unfold V;omega
theorem mV{Φ:Y}[O Φ]{n:Int}(h:A' Φ n):ay Φ prog F.ki #[.int .i64 n] (.string (aK n)):=by
 refine dN (aNV n) λW R=>?_;have:=A6 h.i64;exact λw G B=>(a2I h).use B λw B=>⟨_,rfl,R,Φ,γ,B,by show (gi n).size+1<=_;omega,λw G B=>⟨rfl,B.left⟩⟩
theorem Hi{Φ:Y}[O Φ]{n:Int}(h:A' Φ n):ay Φ prog F.Ao #[.int .i64 n] (.string (cY n)):=by
 refine dN (aNW n) λW R=>U.intro (λhn=>λw G B=>⟨?_,B.left⟩) (λhn=>λw G B=>(mV h).use B λw B=>⟨_,rfl,R,Φ,γ,B,λw G B=>⟨?_,B.left⟩⟩)
 .unfold cY;rw [if_pos (aD hn)]
 .unfold cY;rw [if_neg (aO hn)]
theorem BF{Φ:Y}[O Φ]{s:ByteArray}(h:A' Φ s.size)(hs:s.size<=1000000000000000):ay Φ prog F.y8 #[.string s] (.string (bx s)):=by
 refine dN (aNi s) λW R=>?_;have h1:=A6 h.i64;have e:(ByteArray.mk #[58]).size=1:=rfl;have e2:(ByteArray.mk #[44]).size=1:=rfl;exact λw G B=>(a2I h).use B λw B=>⟨_,rfl,R,Φ,γ,B,by show (gi s.size).size+1<=_;omega,by show (gi s.size++ByteArray.mk #[58]).size+s.size<=_;rw [av,e];omega,by show (gi s.size++ByteArray.mk #[58]++s).size+1<=_;rw [av,av,e];omega,λw G B=>⟨rfl,B.left⟩⟩
theorem aNm{Φ:Y}[O Φ](v:bF)(hΦ:∀ M w,Φ M w->oP M w)(h1:V v.kind)(h2:V v.num)(hs:v.text.size<=1000000000000):ay Φ prog F.Zx #[v.v] (.string (nG v)):=by
 refine dN (aNJ v.kind v.num v.text) λW R=>?_;have a:=cC h1;have b:=cC h2;have c:=mJ (s:=v.text) (by omega);exact λ_=>⟨R,Φ,γ,λw G B=>B,λw G B=>(mV (.inl ⟨hΦ,h1⟩)).use B λw B=>⟨_,rfl,R,Φ,γ,B,λw G B=>B,λw G B=>(mV (.inl ⟨hΦ,h2⟩)).use B λw B=>⟨_,rfl,R,Φ,γ,B,λw G B=>B,by show (aK v.kind).size+(aK v.num).size<=_;omega,
  λw G B=>(BF (.inl ⟨hΦ,by unfold V;omega⟩) (by omega)).use B λw B=>⟨_,rfl,R,Φ,γ,B,λw G B=>B,by show (aK v.kind++aK v.num).size+(bx v.text).size<=_;rw [av];omega,λw G B=>⟨rfl,B.left⟩⟩⟩⟩⟩
theorem aPh{Φ:Y}[O Φ](p:Option Addr)(cap:Nat)(r:List bF)(hT:∀ M w,Φ M w->oP M w)(hΦ:∀ M w,Φ M w->ζ M w p r)(hr:r.length<=1000000)(ht:∀ v∈r,v.text.size<=10000):
  ay Φ prog F.a01 #[.slice p r.length cap] (.string (gB r)):=by
 refine .there (λM w h=>(hΦ M w h).there) λeG=>.aC7 (λM w h=>Mb (hΦ M w h)) λhi=>?_;have hv:∀ v∈r,(V v.kind/\V v.num)/\v.text.size<=10000:=λv h=>⟨(hi v h).1,ht v h⟩;have hL:=MO hv (by decide) hr;have hL:(w4 r).length<=20000000000:=by
  have:r.length*(10000+64)<=1000000*10064:=Nat.mul_le_mul hr (Nat.le_refl _);omega
 have a8O:(cY r.length).data.toList.length<=20000000000:=by unfold w4 at hL;rw [List.length_append] at hL;omega
 refine dN (aNQ p r.length cap) λW R=>?_;refine λb w G B=>(Hi (Φ:=Φ) (.inl ⟨hT,by unfold V;omega⟩)).use B λw B=>⟨_,rfl,.blk b [.pointer none,.slice none 0 0] 97 :: R,Φ,γ,B,λw G B=>?_⟩;refine tH (cY r.length) oG.nil (oG.fresh B) (by rw [<-cF];simp only [List.length_nil];omega) λν w hB B=>⟨_,_,rfl,ν++R,Φ,γ,by rw [aq];exact B,?_⟩;rw [List.nil_append] at hB;clear B;refine bK (λen R' Z k=>∃ (i:Nat) (Q:List Own),en=i/\i<=r.length/\wL b ((cY r.length).data.toList++fC (r.take i)) Q/\R'=Q++R/\Z=Φ/\k=r.length - i) ⟨⟨_,Φ,_,γ,λw G B=>B,0,ν,rfl,Nat.zero_le _,by rw [List.take_zero,show fC []=[] from rfl,List.append_nil];exact hB,rfl,rfl,rfl⟩,?_⟩
 rintro en ck b7 k _ ⟨i,Q,rfl,hi,hQ,rfl,rfl,rfl⟩;refine U.intro (λhlt=>?_) (λhge=>λw G B=>?_)
 .have hlt:i<r.length:=by have:=aD hlt;omega
  obtain ⟨g,o,rfl⟩:=eG (by omega);obtain ⟨⟨h1,h2⟩,h3⟩:=hv r[i] (List.getElem_mem hlt);have hsz:=Zv h1 h2 (by omega);have hlen:((cY r.length).data.toList++fC (r.take (i+1))).length<=20000000000:=by
   have e:fC r=fC (r.take (i+1))++fC (r.drop (i+1)):=by rw [<-Ru,List.take_append_drop]
   unfold w4 at hL;rw [e,List.length_append,List.length_append] at hL;rw [List.length_append];omega
  have hstep:fC (r.take (i+1))=fC (r.take i)++(nG r[i]).data.toList:=by rw [List.take_succ_eq_append_getElem hlt,Ru,aIx]
  refine ⟨by omega,aL g o rfl λw G B=>⟨r[i].kind,r[i].num,r[i].text,by rw [Int.toNat_natCast];exact xw (hΦ _ _ B.Γ) hlt,λ_ w G B=>(aNm (Φ:=b7) r[i] hT h1 h2 (by omega)).use B λw B=>⟨_,rfl,Q++R,b7,γ,B,λw G B=>?_⟩⟩⟩;refine tH (nG r[i]) hQ (B.re (aq _ _ _)) (by rw [hstep,<-aq,List.length_append,cF] at hlen;omega) λQ' w Bv B=>⟨_,_,rfl,Q'++R,b7,γ,by rw [aq];exact B,by unfold V;omega,_,b7,r.length - (i+1),γ,λw G B=>B,⟨i+1,Q',by omega,hlt,?_,rfl,rfl,rfl⟩,by omega⟩
  rw [hstep,<-aq];exact Bv
 .have hge:i=r.length:=by have:=aO hge;omega
  subst hge;rw [List.take_length] at hQ;exact ON hQ (B.re (aq _ _ _)) λw B=>⟨_,rfl,R,b7,γ,B,λw G B=>⟨rfl,B.left⟩⟩
end Go.Proofs.YtfijlibaeahlaaaGreatDoor
end

section
namespace Go.Proofs.YtfijlibaeahlaaaGreatDoor
open Go.Vc
def tg{α:Type}(p:α->Bool):Nat->List α->Int
 | _,[] => -1
 | i,x :: r=>if p x=true then (i:Int) else tg p (i+1) r
theorem a6t{α:Type}(p:α->Bool)(l:List α)(i:Nat)(hi:i<l.length):tg p i (l.drop i)=if p l[i]=true then (i:Int) else tg p (i+1) (l.drop (i+1)):=by
 rw [List.drop_eq_getElem_cons hi];rfl
theorem W6{α:Type}(p:α->Bool):∀ (l:List α) (i:Nat),decide (0<=tg p i l)=l.any p
 | [],_=>rfl
 | x :: r,i=>by
  unfold tg;rw [List.any_cons];cases h:p x with
  | true=>simp
  | false=>simp only [Bool.false_or];rw [if_neg (by simp)];exact W6 p r (i+1)
theorem aO9{Φ:Y}[O Φ](p:Option Addr)(cap:Nat)(l:List μ)(b o:Nat)(cs:List (List Value))(f:FuncId)(cp:Array Value)(q:μ->Bool)(hp:0<l.length->p=some ⟨b,o,none⟩)(hΦ:∀ M w,Φ M w->aP b o cs l M w)(hlen:l.length<=9223372036854775807)(hf:k6 prog f=true)
  (hq:∀ j,(hj:j<l.length)->∀ r c,cs.getD j []=l[j].cells r c->l[j].row.length<=c->c<=maxLen->ay Φ prog f (Array.mk (l[j].v r c :: cp.toList)) (.bool (q l[j]))) :
  ay Φ prog F.ZT #[.slice p l.length cap,.func (.func f) #[] cp] (.int .i64 (tg q 0 l)):=by
 refine zg hΦ λhcs=>?_;refine dN (aN6 p l.length cap f cp) λW R=>?_;refine bK (λn R' Z k=>∃ i:Nat,n=i/\i<=l.length/\R'=R/\Z=Φ/\k=l.length - i/\tg q 0 l=tg q i (l.drop i)) ⟨⟨R,Φ,_,γ,λw F c=>c,0,rfl,Nat.zero_le _,rfl,rfl,rfl,rfl⟩,?_⟩;rintro n ν θ k _ ⟨i,rfl,hi,rfl,rfl,rfl,mz⟩;refine U.intro (λhlt=>?_) (λhge=>λw F B=>⟨?_,B.left⟩)
 .have hlt:i<l.length:=by simpa using hlt
  rw [a6t q l i hlt] at mz;obtain ⟨r,rc,he,hq1,js,_,_⟩:=hcs i hlt;refine ⟨by omega,aL b o (hp (by omega)) λw F B=>⟨_,r,_,rc,_,by rw [Int.toNat_natCast];exact ic (hΦ _ _ B.Γ) hlt he,λw F B=>⟨hf,(hq i hlt r rc he hq1 js).use B λw B=>⟨_,rfl,ν,θ,γ,B,U.intro (λh=>λw F B=>⟨?_,B.left⟩) (λh=>⟨by unfold V;omega,ν,θ,l.length - (i+1),γ,λw F c=>c,⟨i+1,rfl,hlt,rfl,rfl,rfl,?_⟩,by omega⟩)⟩⟩⟩⟩
  .rw [mz,if_pos h]
  .rw [mz,if_neg (by rw [h];simp)]
 .have hge:i=l.length:=Nat.le_antisymm hi (by simpa using hge);rw [mz,hge,List.drop_length];rfl
end Go.Proofs.YtfijlibaeahlaaaGreatDoor
end

section
namespace Go.Vc
section
variable {P:Program}{W w w':World}{S F:List Own}{Φ Ψ:Y}
end
end Go.Vc
namespace Go.Proofs.YtfijlibaeahlaaaGreatDoor
open Go.Vc
end Go.Proofs.YtfijlibaeahlaaaGreatDoor
end

section
namespace Go.Proofs.YtfijlibaeahlaaaGreatDoor
open Go.Vc
def j7(x:μ):ByteArray:=aK x.time++bx (gB x.row)++aK x.n
def eM(l:List μ):List UInt8:=l.flatMap λx=>(j7 x).data.toList
def bQ(l:List μ):List UInt8:=(cY (bk l).length).data.toList++eM (bk l)
theorem P2(a b:List μ):eM (a++b)=eM a++eM b:=by simp [eM]
theorem P3(x:μ):eM [x]=(j7 x).data.toList:=by simp [eM]
def Fit(x:μ):Prop:=x.row.length<=10000/\∀ v∈x.row,v.text.size<=10000
theorem Z3{r:List bF}(hi:∀ v∈r,(V v.kind/\V v.num)/\v.text.size<=maxLen)(h1:r.length<=10000)(h2:∀ v∈r,v.text.size<=10000):(gB r).size<=200000000:=by
 have hv:∀ v∈r,(V v.kind/\V v.num)/\v.text.size<=10000:=λv h=>⟨(hi v h).1,h2 v h⟩;have hL:=MO hv (by decide) (by omega);have:r.length*(10000+64)<=10000*10064:=Nat.mul_le_mul h1 (Nat.le_refl _);unfold gB;rw [qI];omega
theorem P0{x:μ}(ht:V x.time)(hn:V x.n)(hi:∀ v∈x.row,(V v.kind/\V v.num)/\v.text.size<=maxLen)(h:Fit x):(j7 x).size<=200000100:=by
 have h1:=cC ht;have h2:=cC hn;have h3:=Z3 hi h.1 h.2;have h4:=mJ (s:=gB x.row) (by omega);unfold j7;rw [av,av];omega
theorem TA{Φ:Y}[O Φ](p:Option Addr)(cap:Nat)(l:List μ)(hT:l≠[]->∀ M w,Φ M w->oP M w)(hΦ:∀ M w,Φ M w->ζ M w p l)(hlen:l.length<=400)(hfit:∀ x∈l,Fit x):
  ay Φ prog F.J8 #[.slice p l.length cap] (.string ⟨(bQ l).toArray⟩):=by
 have hrow:∀ x∈l,x.row.length<=1000000:=λx hx=>Nat.le_trans (hfit x hx).1 (by decide);refine dN (aMC p l.length cap) λW R=>?_;refine λw G B=>(a2E p cap l hΦ (by omega) hrow).use B λp1 c1 w h1 h2 B=>?_;have Bz:∀ x∈bk l,x.row.length<=10000/\∀ v∈x.row,v.text.size<=10000:=J3 (P:=λr=>r.length<=10000/\∀ v∈r,v.text.size<=10000) hfit;have bp:=wY l;have WV:bk l≠[]->∀ M w,Φ M w->oP M w:=λh=>hT λe=>h (by rw [e];rfl)
 unfold bQ;obtain ⟨c,hc⟩:∃ c,bk l=c:=⟨_,rfl⟩;rw [hc] at B h1 bp Bz WV ⊢;have aVR:A' (λM w=>(Φ M w/\ζ M w p1 c)) (c.length:Int):=by
  cases c with
  | nil=>exact .inr ⟨0,by decide,rfl⟩
  | cons x r=>exact .inl ⟨λM w h=>WV (by simp) M w h.1,by unfold V;omega⟩
 obtain ⟨g,o,cs,hp,B⟩:=B.r6 B.Γ.2;have hcs:∀ j,(hj:j<c.length)->∃ p q,cs.getD j []=c[j].cells p q/\c[j].row.length<=q/\q<=maxLen/\V c[j].time/\V c[j].n:=λj hj=>by
  obtain ⟨p,c,h1,h2,h3,h4,h5,_⟩:=RD B.Γ.2 hj;exact ⟨p,c,h1,h2,h3,h4,h5⟩
 have hI:∀ j,(hj:j<c.length)->∀ v∈c[j].row,(V v.kind/\V v.num)/\v.text.size<=maxLen:=λj hj=>by
  obtain ⟨q,qc,he,_⟩:=hcs j hj;exact Mb (iw B.Γ.2 hj he)
 have Wj:∀ i,i<=c.length->(eM (c.take i)).length<=i*200000100:=by
  intro i
  induction i with
  | zero=>intro _;simp [eM]
  | succ i ih =>
   intro hi;have ih:=ih (by omega);obtain ⟨_,_,_,_,_,ht,hn⟩:=hcs i (by omega);have:=P0 ht hn (hI i (by omega)) (Bz c[i] (List.getElem_mem _));rw [List.take_succ_eq_append_getElem (by omega),P2,P3,List.length_append,cF,Nat.add_mul];omega
 refine ⟨p1,_,c1,rfl,R,λM w=>(Φ M w/\ζ M w p1 c)/\aP g o cs c M w,γ,B,?_⟩;clear B;have hst:O (λM w=>(Φ M w/\ζ M w p1 c)/\aP g o cs c M w):=γ;intro b w G B;have Q7:ay (λM w=>(Φ M w/\ζ M w p1 c)/\aP g o cs c M w) prog F.Ao #[.int .i64 (c.length:Int)] (.string (cY c.length)):=Hi (by
  rcases aVR with ⟨h1,h2⟩|h
  .exact .inl ⟨λM w h=>h1 M w h.1,h2⟩
  .exact .inr h)
 have a8O:=p7 (n:=(c.length:Int)) (by unfold V;omega);refine Q7.use B λw B=>⟨_,rfl,.blk b [.pointer none,.slice none 0 0] 97 :: R,_,hst,B,λw G B=>?_⟩;refine tH (cY c.length) oG.nil (oG.fresh B) (by simp only [List.length_nil];omega) λν w hB B=>⟨_,_,rfl,ν++R,_,hst,by rw [aq];exact B,?_⟩;rw [List.nil_append] at hB;clear B;refine bK (λen R' Z k=>∃ (i:Nat) (Q:List Own),en=i/\i<=c.length/\wL b ((cY c.length).data.toList++eM (c.take i)) Q/\R'=Q++R/\Z=(λM w=>(Φ M w/\ζ M w p1 c)/\aP g o cs c M w)/\k=c.length - i) ⟨⟨_,_,_,hst,λw G B=>B,0,ν,rfl,Nat.zero_le _,by rw [List.take_zero,show eM []=[] from rfl,List.append_nil];exact hB,rfl,rfl,rfl⟩,?_⟩
 rintro en ck b7 k _ ⟨i,Q,rfl,hi,hQ,rfl,rfl,rfl⟩;refine U.intro (λhlt=>?_) (λhge=>λw G B=>?_)
 .have hlt:i<c.length:=by have:=aD hlt;omega
  obtain ⟨q,qc,he,g1,g2,ht,hn⟩:=hcs i hlt;have Pp:∀ M w,((Φ M w/\ζ M w p1 c)/\aP g o cs c M w)->oP M w:=λM w h=>WV (λe=>by rw [e] at hlt;exact absurd hlt (by simp)) M w h.1.1;have hf:=Bz c[i] (List.getElem_mem hlt);have aWJ:=Z3 (hI i hlt) hf.1 hf.2;have s1:=cC ht;have s2:=cC hn;have fN:=mJ (s:=gB c[i].row) (by omega);have hsz:=P0 ht hn (hI i hlt) hf;have aVM:=Wj i hi;have hstep:eM (c.take (i+1))=eM (c.take i)++(j7 c[i]).data.toList:=by rw [List.take_succ_eq_append_getElem hlt,P2,P3]
  refine ⟨by omega,aL g o (hp (by omega)) λw G B=>⟨c[i].time,q,c[i].row.length,qc,c[i].n,by rw [Int.toNat_natCast];exact ic B.Γ.2 hlt he,λ_=>⟨Q++R,_,hst,λw G B=>B,λw G B=>(mV (.inl ⟨Pp,ht⟩)).bE B ⟨λw G B=>B,λw G B=>(aPh q qc c[i].row Pp (λM w h=>iw h.2 hlt he) (by omega) hf.2).bE B ⟨λw G B=>B,λw G B=>(BF (.inl ⟨Pp,by unfold V;omega⟩) (by omega)).bE B
   ⟨λw G B=>B,by show (aK c[i].time).size+(bx (gB c[i].row)).size<=_;omega,λw G B=>(mV (.inl ⟨Pp,hn⟩)).bE B ⟨λw G B=>B,by show (aK c[i].time++bx (gB c[i].row)).size+(aK c[i].n).size<=_;rw [av];omega,λw G B=>?_⟩⟩⟩⟩⟩⟩⟩
  have aVP:((cY c.length).data.toList++eM (c.take i)).length+(j7 c[i]).size<=100000000000:=by
   rw [List.length_append,cF];have:i*200000100<=400*200000100:=Nat.mul_le_mul_right _ (by omega);omega
  refine tH (j7 c[i]) hQ (B.re (aq _ _ _)) aVP λQ' w Bv B=>⟨_,_,rfl,Q'++R,_,hst,by rw [aq];exact B,by unfold V;omega,_,_,c.length - (i+1),hst,λw G B=>B,⟨i+1,Q',by omega,hlt,?_,rfl,rfl,rfl⟩,by omega⟩;rw [hstep,<-aq];exact Bv
 .have hge:i=c.length:=by have:=aO hge;omega
  subst hge;rw [List.take_length] at hQ;exact ON hQ (B.re (aq _ _ _)) λw B=>⟨_,rfl,R,_,hst,B,λw G B=>⟨rfl,B.left.weak λM w h=>h.1.1⟩⟩
abbrev XA(x:Int):Value:=.int .i64 x
abbrev wU(p:Option Addr)(cap:Nat)(zs:List Int):Own:=.buf p zs.length cap (zs.map XA) 3 1
theorem aXg(n:Nat):(-(n:Int)).tmod 10 = -((n % 10:Nat):Int):=by
 rw [Int.neg_tmod];rfl
theorem aXf(n:Nat):(-(n:Int)).tdiv 10 = -((n / 10:Nat):Int):=by
 rw [Int.neg_tdiv];rfl
theorem abH(d:Nat)(h:d<10):IntKind.u8.wrap (48 - -(d:Int))=((UInt8.ofNat (48+d)).toNat:Int):=by
 have:∀ d:Fin 10,IntKind.u8.wrap (48 - -((d.val:Nat):Int))=((UInt8.ofNat (48+d.val)).toNat:Int):=by decide
 exact this ⟨d,h⟩
theorem Qs(l:List UInt8)(b:ByteArray):(⟨l.toArray⟩:ByteArray)++b=⟨(l++b.data.toList).toArray⟩:=by
 apply ByteArray.ext;rw [ByteArray.data_append];apply Array.toList_inj.1;simp
theorem P5:∀ (n:Nat),n<=9223372036854775808->fE prog F.Bh #[.int .i64 (-(n:Int))] (.string ⟨(Lib.decDigits n).toArray⟩):=by
 intro n
 induction n using Nat.strongRecOn with
 | _ n ih =>
  intro hn;refine l7 (aMR (-(n:Int))) λW R Φ hs=>?_;have e0:(48:Int) - (-(n:Int)).tmod 10=48 - -((n % 10:Nat):Int):=by rw [aXg]
  refine ⟨by omega,by rw [e0];unfold V;omega,λk w G B=>?_⟩;rw [e0,abH _ (by omega)] at B;have hcell:∀ j,(hj:j < [UInt8.ofNat (48+n % 10)].length)->w.cell? ((⟨k,0,none⟩:Addr).add j)=some (.int .u8 ([UInt8.ofNat (48+n % 10)][j].toNat:Int)):=λj hj=>by
   obtain rfl:j=0:=by simpa using hj
   exact B.get 0 rfl rfl
  refine ⟨_,_,run_convert_bytes_back w 95 9 5 ⟨k,0,none⟩ 1 [UInt8.ofNat (48+n % 10)] (by kernel_rfl) (by kernel_rfl) (by kernel_rfl) hcell,R,Φ,hs,B.eN,?_⟩;clear B;refine U.intro (λh=>λw G B=>⟨?_,B.left⟩) (λh=>?_)
  .have h:=aD h;rw [Lib.decDigits,dif_pos (by omega),show n % 10=n by omega]
  .have h:=aO h;have e1:=aXf n;refine ⟨by omega,by rw [e1];unfold V;omega,λw G B=>?_⟩;rw [e1];have hl:=Qy 19 (n / 10) (by omega) (by decide);have hd:=Lib.decDigits_length (n / 10);refine ((ih (n / 10) (by omega) (by omega)).in).bE B ⟨?_,λw G B=>⟨?_,B.left⟩⟩
   .show (ByteArray.mk (Lib.decDigits (n / 10)).toArray).size+1<=_;rw [qI,hd];omega
   .conv=>rhs;rw [Lib.decDigits,dif_neg (by omega)]
    rw [Qs]
theorem mU(n:Int)(h:V n):fE prog F.l6 #[.int .i64 n] (.string (aK n)):=by
 have hs:=cC h;unfold aK gi at hs;rw [av,qI,show (ByteArray.mk #[59]).size=1 from rfl] at hs;unfold V at h;refine l7 (aMN n) λW R Φ _=>U.intro (λhn=>?_) (λhn=>?_)
 .have hn:=aD hn;have e:n = -((n.natAbs:Nat):Int):=by omega
  have hi:Lib.itoa n=45 :: Lib.decDigits n.natAbs:=by unfold Lib.itoa;rw [if_pos hn]
  have hg:=P5 n.natAbs (by omega);rw [<-e] at hg;rw [hi,List.length_cons] at hs;have F8:(ByteArray.mk #[45])++ByteArray.mk (Lib.decDigits n.natAbs).toArray=gi n:=by
   unfold gi;rw [show (ByteArray.mk #[45])=⟨[(45:UInt8)].toArray⟩ from rfl,Qs,hi];rfl
  refine λw G B=>(hg.in).bE B ⟨?_,?_,λw G B=>⟨?_,B.left⟩⟩
  .show 1+(ByteArray.mk (Lib.decDigits n.natAbs).toArray).size<=_;rw [qI];omega
  .show ((ByteArray.mk #[45])++ByteArray.mk (Lib.decDigits n.natAbs).toArray).size+1<=_;have e1:(ByteArray.mk #[45]).size=1:=rfl;rw [av,qI (Lib.decDigits n.natAbs),e1];omega
  .unfold aK;rw [<-F8]
 .have hn:=aO hn;have e:0 - n = -((n.toNat:Nat):Int):=by omega
  have hi:Lib.itoa n=Lib.decDigits n.toNat:=by unfold Lib.itoa;rw [if_neg hn]
  have hg:=P5 n.toNat (by omega);rw [<-e,<-hi] at hg;refine ⟨by unfold V;omega,λw G B=>(hg.in).bE B ⟨?_,λw G B=>⟨rfl,B.left⟩⟩⟩;show (ByteArray.mk (Lib.itoa n).toArray).size+1<=_;rw [qI];omega
theorem Hh(n:Int)(h:V n):fE prog F.Bg #[.int .i64 n] (.string (cY n)):=by
 refine l7 (aMO n) λW R Φ _=>U.intro (λhn=>λw G B=>⟨?_,B.left⟩) (λhn=>λw G B=>((mU n h).in).bE B λw G B=>⟨?_,B.left⟩)
 .unfold cY;rw [if_pos (aD hn)]
 .unfold cY;rw [if_neg (aO hn)]
theorem BE(s:ByteArray)(hs:s.size<=1000000000000):fE prog F.wz #[.string s] (.string (bx s)):=by
 have h1:=A6 (n:=(s.size:Int)) (by unfold V;omega);have e:(0:Int) - s.size = -((s.size:Nat):Int):=by omega
 have hg:=P5 s.size (by omega);have hi:Lib.itoa (s.size:Int)=Lib.decDigits s.size:=by unfold Lib.itoa;rw [if_neg (by omega)];rfl
 rw [<-e,<-hi] at hg;have e1:(ByteArray.mk #[58]).size=1:=rfl;refine l7 (aMQ s) λW R Φ _=>⟨by unfold V;omega,λw G B=>(hg.in).bE B ⟨?_,?_,?_,λw G B=>⟨rfl,B.left⟩⟩⟩
 .show (gi s.size).size+1<=_;omega
 .show (gi s.size++ByteArray.mk #[58]).size+s.size<=_;rw [av,e1];omega
 .show (gi s.size++ByteArray.mk #[58]++s).size+1<=_;rw [av,av,e1];omega
theorem aNk(v:bF)(h1:V v.kind)(h2:V v.num)(hs:v.text.size<=1000000000000):fE prog F.Vp #[v.v] (.string (nG v)):=by
 have a:=cC h1;have b:=cC h2;have c:=mJ (s:=v.text) (by omega);refine l7 (aMT v.kind v.num v.text) λW R Φ _=>?_;exact λ_=>⟨R,Φ,γ,λw G B=>B,λw G B=>((mU v.kind h1).in).bE B ⟨λw G B=>B,λw G B=>((mU v.num h2).in).bE B ⟨λw G B=>B,by show (aK v.kind).size+(aK v.num).size<=_;omega,
  λw G B=>((BE v.text hs).in).bE B ⟨λw G B=>B,by show (aK v.kind++aK v.num).size+(bx v.text).size<=_;rw [av];omega,λw G B=>⟨rfl,B.left⟩⟩⟩⟩⟩
theorem aPg{Φ:Y}[O Φ](p:Option Addr)(cap:Nat)(r:List bF)(hΦ:∀ M w,Φ M w->ζ M w p r)(hr:r.length<=1000000)(ht:∀ v∈r,v.text.size<=10000):
  ay Φ prog F.Vs #[.slice p r.length cap] (.string (gB r)):=by
 refine .there (λM w h=>(hΦ M w h).there) λeG=>.aC7 (λM w h=>Mb (hΦ M w h)) λhi=>?_;have hv:∀ v∈r,(V v.kind/\V v.num)/\v.text.size<=10000:=λv h=>⟨(hi v h).1,ht v h⟩;have hL:=MO hv (by decide) hr;have hL:(w4 r).length<=20000000000:=by
  have:r.length*(10000+64)<=1000000*10064:=Nat.mul_le_mul hr (Nat.le_refl _);omega
 refine dN (aMY p r.length cap) λW R=>?_;refine λw G B=>((Hh (r.length:Int) (by unfold V;omega)).in).bE B ?_;clear B;refine bK (λs en R' Z k=>∃ i:Nat,en=i/\i<=r.length/\s=⟨((cY r.length).data.toList++fC (r.take i)).toArray⟩/\R'=R/\Z=Φ/\k=r.length - i) ⟨⟨R,Φ,_,γ,λw G B=>B,0,rfl,Nat.zero_le _,by rw [List.take_zero,show fC []=[] from rfl,List.append_nil],rfl,rfl,rfl⟩,?_⟩;rintro s en ck b7 k _ ⟨i,rfl,hi,rfl,rfl,rfl,rfl⟩
 refine U.intro (λhlt=>?_) (λhge=>λw G B=>⟨?_,B.left⟩)
 .have hlt:i<r.length:=by have:=aD hlt;omega
  obtain ⟨g,o,rfl⟩:=eG (by omega);obtain ⟨⟨h1,h2⟩,h3⟩:=hv r[i] (List.getElem_mem hlt);have hsz:=Zv h1 h2 (by omega);have hlen:((cY r.length).data.toList++fC (r.take (i+1))).length<=20000000000:=by
   have e:fC r=fC (r.take (i+1))++fC (r.drop (i+1)):=by rw [<-Ru,List.take_append_drop]
   unfold w4 at hL;rw [e,List.length_append,List.length_append] at hL;rw [List.length_append];omega
  have hstep:fC (r.take (i+1))=fC (r.take i)++(nG r[i]).data.toList:=by rw [List.take_succ_eq_append_getElem hlt,Ru,aIx]
  refine ⟨by omega,aL g o rfl λw G B=>⟨r[i].kind,r[i].num,r[i].text,by rw [Int.toNat_natCast];exact xw (hΦ _ _ B.Γ) hlt,λw G B=>((aNk r[i] h1 h2 (by omega)).in).bE B ⟨?_,by unfold V;omega,ck,b7,r.length - (i+1),γ,λw G B=>B,⟨i+1,by omega,hlt,?_,rfl,rfl,rfl⟩,by omega⟩⟩⟩
  .show (ByteArray.mk ((cY r.length).data.toList++fC (r.take i)).toArray).size+(nG r[i]).size<=_;rw [hstep,<-aq,List.length_append,cF] at hlen;rw [qI];omega
  .rw [Qs,aq,hstep]
 .have hge:i=r.length:=by have:=aO hge;omega
  subst hge;rw [List.take_length];rfl
theorem aNv{Φ:Y}[O Φ](p:Option Addr)(cap:Nat)(l:List μ)(b o:Nat)(cs:List (List Value))(hp:0<l.length->p=some ⟨b,o,none⟩)(hΦ:∀ M w,Φ M w->aP b o cs l M w)(hlen:l.length<=9223372036854775807):
  ay Φ prog F.Vv #[.slice p l.length cap] (.bool (kQ l)):=by
 refine zg hΦ λhcs=>?_;refine dN (aMe p l.length cap) λW R=>?_;refine bK (λn R' Z k=>∃ i:Nat,n=i/\i<=l.length/\R'=R/\Z=Φ/\k=l.length - i/\∀ j,j<i->mj l j=true) ⟨⟨R,Φ,_,γ,λw F c=>c,0,rfl,Nat.zero_le _,rfl,rfl,rfl,λj hj=>by omega⟩,?_⟩;rintro n ν θ k _ ⟨i,rfl,hi,rfl,rfl,rfl,hok⟩;refine U.intro (λhlt=>?_) (λhge=>λw F B=>⟨?_,B.left⟩)
 .have hlt:i<l.length:=by simpa using hlt
  have hp:=hp (by omega);obtain ⟨q,qc,he,hq1,js,_,_⟩:=hcs i hlt;have row:∀ {w:World} {S:List Own},Ctx W w S θ->aQ w b (o+(i:Int).toNat*3) (l[i].cells q qc):=λB=>by rw [Int.toNat_natCast];exact ic (hΦ _ _ B.Γ) hlt he
  refine ⟨ν,θ,γ,λw G B=>B,by omega,aL b o hp ⟨l[i].n,λw G B=>⟨l[i].n,?_,rfl⟩,U.intro (λh0=>λw F B=>⟨?_,B.left⟩) (λh0=>U.intro (λh1=>?_) (λh1=>?_))⟩⟩
  .have:=row B 2 (by simp);simpa using this
  .have h0:l[i].n=0:=by simpa using h0
   rw [Oy hlt];unfold mj;rw [List.getElem?_eq_getElem hlt];simp [h0]
  .have h0:¬ l[i].n=0:=by simpa using h0
   have h1:0<i:=by simpa using h1
   obtain ⟨j,rfl⟩:∃ j,i=j+1:=⟨i - 1,by omega⟩;obtain ⟨q',uT,he',QA,QB,_,_⟩:=hcs j (by omega);have hc:mj l (j+1)=decide (ew l[j] l[j+1]<0):=by
    unfold mj;simp only;rw [List.getElem?_eq_getElem hlt,List.getElem?_eq_getElem (show j<l.length by omega)];simp [h0]
   refine ⟨by unfold V;omega,by omega,aL b o hp ⟨_,_,_,_,_,λw G B=>⟨_,_,_,_,_,row B,rfl⟩,by omega,aL b o hp ⟨l[j].time,q',l[j].row.length,uT,l[j].n,λw G B=>⟨_,_,_,_,_,?_,rfl⟩,λw G B=>(RJ l[j] l[j+1] q' q uT qc (λM w h=>iw (hΦ M w h) _ he') (λM w h=>iw (hΦ M w h) _ he) (Fu QA QB)).Ge B ?_⟩⟩⟩
   .have:=ic (hΦ _ _ B.Γ) (show j<l.length by omega) he';rw [show (max (((j+1:Nat):Int) - 1) 0).toNat=j by omega];exact this
   .refine U.intro (λh2=>λw F B=>⟨?_,B.left⟩) (λh2=>⟨by unfold V;omega,ν,θ,l.length - (j+1+1),γ,λw F c=>c,⟨j+1+1,rfl,hlt,rfl,rfl,rfl,λi hi=>?_⟩,by omega⟩)
    .have h2:0<=ew l[j] l[j+1]:=by simpa using h2
     rw [Oy hlt];rw [hc,decide_eq_false (by omega)]
    .have h2:¬ 0<=ew l[j] l[j+1]:=by simpa using h2
     rcases Nat.lt_or_ge i (j+1) with h|h
     .exact hok i h
     .rw [show i=j+1 by omega,hc,decide_eq_true (by omega)]
  .have h0:¬ l[i].n=0:=by simpa using h0
   have h1:i=0:=by simpa using h1
   subst h1;refine ⟨by unfold V;omega,ν,θ,l.length - 1,γ,λw F c=>c,⟨1,rfl,hlt,rfl,rfl,rfl,λi hi=>?_⟩,by omega⟩;rw [show i=0 by omega];unfold mj;simp only;rw [List.getElem?_eq_getElem hlt];simp [h0]
 .have hge:i=l.length:=Nat.le_antisymm hi (by simpa using hge);rw [V4 (hge ▸ hok)]
section
variable {Φ:Y}{p q:Option Addr}{cap cap2:Nat}{a b l:List μ}{t:Int}
theorem a2C[O Φ][hΦ:Has Φ (λM w=>ζ M w p l)](ey:l.length<=cap)(gY:cap<=maxLen)(hlen:l.length<=1000000)(hrow:IK l):ij Φ prog F.Jc #[.slice p l.length cap] (bk l) id :=
 aNx p cap l hΦ.go ey gY hlen hrow
theorem aLj[O Φ][hΦ:Has Φ (λM w=>ζ M w p a)][hΨ:Has Φ (λM w=>ζ M w q b)](ha:a.length<=400000)(hb:b.length<=400000)(u0:IK a)(hrb:IK b):ij Φ prog F.Vu #[.slice p a.length cap,.slice q b.length cap2] (v8 a b) id:=by
 refine x5 (aMa p a.length cap q b.length cap2) λW R=>?_;intro k w G B;obtain ⟨p',cap',w',cs,hrun,c'⟩:=Ctx.vE (P:=prog) (ts:=25) (ty:=25) (kb:=#[false,false]) (bytes:=40) (c2:=cap) B (by kernel_rfl) P1 hΦ.go (by omega) (by omega);refine ⟨_,_,_,_,hrun,.buf p' a.length cap' cs 113 3 :: R,_,γ,c',λw G B=>?_⟩;obtain ⟨p2,aQa,w2,news,a8Z,c2⟩:=Ctx.OT (P:=prog) (ts:=25) (ty:=25) (kb:=#[false,false]) (bytes:=40) (c2:=cap2) (l:=b) (q:=q) B (by kernel_rfl) P1 (λM w h=>hΨ.go M w h.1) (by omega) (by omega)
 have e:a.length+b.length=(a++b).length:=by rw [List.length_append]
 rw [e] at a8Z c2;have c3:Ctx W w2 (.buf p2 (a++b).length aQa (cs++news) 113 3 :: (R++G)) (λM w=>Φ M w/\Δ M w (cs++news) (a++b)):=c2.weak λM w h=>⟨h.1.1,h.1.2.append h.2⟩;obtain ⟨cW,hs,_,g5,g6⟩:=Ctx.freeze (α:=μ) c3.fst c3.Γ.2;refine ⟨_,_,_,_,a8Z,R,λM w=>Φ M w/\ζ M w p2 (a++b),γ,cW.add hs,λw G B=>(a2C (l:=a++b) g5 g6 (by rw [<-e];omega) (λx hx=>?_)).to B λaC c4 e1 e2 st=>λw G B=>⟨aC,c4,rfl,e1,e2,B.left.weak λM w h=>⟨h.1.1,h.2⟩⟩⟩
 rcases List.mem_append.1 hx with hx|hx
 .exact u0 x hx
 .exact hrb x hx
end
section
variable {Φ:Y}{p q:Option Addr}{cap cap2:Nat}{l:List μ}
set_option maxHeartbeats 1000000 in
theorem a4S[O Φ][hΦ:Has Φ (λM w=>ζ M w p l)](ey:l.length<=cap)(gY:cap<=maxLen)(hlen:l.length<=400)(hfit:∀ x∈l,Fit x):ay Φ prog F.PK #[.slice p l.length cap] (.string ⟨(bQ l).toArray⟩):=by
 have hrow:∀ x∈l,x.row.length<=1000000:=λx hx=>Nat.le_trans (hfit x hx).1 (by decide);refine dN (aMb p l.length cap) λW R=>?_;refine λw G B=>(a2C ey gY (by omega) hrow).use B λp1 c1 w h1 h2 B=>?_;have Bz:∀ x∈bk l,x.row.length<=10000/\∀ v∈x.row,v.text.size<=10000:=J3 (P:=λr=>r.length<=10000/\∀ v∈r,v.text.size<=10000) hfit;have bp:=wY l;unfold bQ;obtain ⟨c,hc⟩:∃ c,bk l=c:=⟨_,rfl⟩;rw [hc] at B h1 bp Bz ⊢
 obtain ⟨g,o,cs,hp,B⟩:=B.r6 B.Γ.2;have hcs:=Ctx.cells B (λM w h=>h.2);have hI:∀ j,(hj:j<c.length)->∀ v∈c[j].row,(V v.kind/\V v.num)/\v.text.size<=maxLen:=λj hj=>by
  obtain ⟨q,qc,he,_⟩:=hcs j hj;exact Mb (iw B.Γ.2 hj he)
 have Wj:∀ i,i<=c.length->(eM (c.take i)).length<=i*200000100:=by
  intro i
  induction i with
  | zero=>intro _;simp [eM]
  | succ i ih =>
   intro hi;have ih:=ih (by omega);obtain ⟨_,_,_,_,_,ht,hn⟩:=hcs i (by omega);have:=P0 ht hn (hI i (by omega)) (Bz c[i] (List.getElem_mem _));rw [List.take_succ_eq_append_getElem (by omega),P2,P3,List.length_append,cF,Nat.add_mul];omega
 have hst:O (λM w=>(Φ M w/\ζ M w p1 c)/\aP g o cs c M w):=γ;refine ⟨p1,_,c1,rfl,R,λM w=>(Φ M w/\ζ M w p1 c)/\aP g o cs c M w,hst,B,?_⟩;clear B;have a8O:=p7 (n:=(c.length:Int)) (by unfold V;omega);refine λw G B=>((Hh (c.length:Int) (by unfold V;omega)).in).bE B ?_;clear B;refine bK (λs en R' Z k=>∃ i:Nat,en=i/\i<=c.length/\s=⟨((cY c.length).data.toList++eM (c.take i)).toArray⟩/\R'=R/\Z=(λM w=>(Φ M w/\ζ M w p1 c)/\aP g o cs c M w)/\k=c.length - i) ⟨⟨_,_,_,hst,λw G B=>B,0,rfl,Nat.zero_le _,by rw [List.take_zero,show eM []=[] from rfl,List.append_nil],rfl,rfl,rfl⟩,?_⟩
 rintro s en ck b7 k _ ⟨i,rfl,hi,rfl,rfl,rfl,rfl⟩;refine U.intro (λhlt=>?_) (λhge=>λw G B=>⟨?_,B.left.weak λM w h=>h.1.1⟩)
 .have hlt:i<c.length:=by have:=aD hlt;omega
  obtain ⟨q,qc,he,g1,g2,ht,hn⟩:=hcs i hlt;have hf:=Bz c[i] (List.getElem_mem hlt);have aWJ:=Z3 (hI i hlt) hf.1 hf.2;have s1:=cC ht;have s2:=cC hn;have fN:=mJ (s:=gB c[i].row) (by omega);have hsz:=P0 ht hn (hI i hlt) hf;have aVM:=Wj i hi;have hb:i*200000100<=400*200000100:=Nat.mul_le_mul_right _ (by omega);have hstep:eM (c.take (i+1))=eM (c.take i)++(j7 c[i]).data.toList:=by rw [List.take_succ_eq_append_getElem hlt,P2,P3]
  have hS:(ByteArray.mk ((cY c.length).data.toList++eM (c.take i)).toArray).size<=100000000000:=by
   rw [qI,List.length_append,cF];omega
  have row:∀ {w:World} {S:List Own},Ctx W w S (λM w=>(Φ M w/\ζ M w p1 c)/\aP g o cs c M w)->aQ w g (o+(i:Int).toNat*3) (c[i].cells q qc):=λB=>by rw [Int.toNat_natCast];exact ic B.Γ.2 hlt he
  obtain ⟨S,a7j⟩:∃ S,ByteArray.mk ((cY c.length).data.toList++eM (c.take i)).toArray=S:=⟨_,rfl⟩;have Wf:S++aK c[i].time++bx (gB c[i].row)++aK c[i].n=⟨((cY c.length).data.toList++eM (c.take (i+1))).toArray⟩:=by
   rw [<-a7j,ByteArray.append_assoc,ByteArray.append_assoc,Qs,hstep,aq,<-ByteArray.append_assoc];rfl
  rw [a7j] at hS ⊢;refine ⟨ck,_,hst,λw G B=>B,by omega,aL g o (hp (by omega)) ⟨by omega,aL g o (hp (by omega)) ⟨by omega,aL g o (hp (by omega)) ⟨c[i].time,λw G B=>⟨c[i].time,by have:=row B 0 (by simp);simpa using this,rfl⟩,q,c[i].row.length,qc,λw G B=>⟨q,_,qc,by have:=row B 1 (by simp);simpa using this,rfl⟩,c[i].n,λw G B=>⟨c[i].n,by have:=row B 2 (by simp);simpa using this,rfl⟩,λw G B=>?_⟩⟩⟩⟩;refine ((mU c[i].time ht).in).bE B ⟨λw G B=>B,by show S.size+(aK c[i].time).size<=_;omega,λw G B=>(aPg (Φ:=λM w=>(Φ M w/\ζ M w p1 c)/\aP g o cs c M w) q qc c[i].row (λM w h=>iw h.2 hlt he) (by omega) hf.2).bE B ⟨λw G B=>B,λw G B=>((BE (gB c[i].row) (by omega)).in).bE B ⟨λw G B=>B,by show (S++aK c[i].time).size+(bx (gB c[i].row)).size<=_;rw [av];omega,
   λw G B=>((mU c[i].n hn).in).bE B ⟨λw G B=>B,by show (S++aK c[i].time++bx (gB c[i].row)).size+(aK c[i].n).size<=_;rw [av,av];omega,by unfold V;omega,_,_,c.length - (i+1),hst,λw G B=>B,⟨i+1,by omega,hlt,Wf,rfl,rfl,rfl⟩,by omega⟩⟩⟩⟩
 .have hge:i=c.length:=by have:=aO hge;omega
  subst hge;rw [List.take_length]
end
theorem aZX(n:Int):fE prog F.Zz #[.int .i64 n] (.agg #[.int .i64 0,.int .i64 n,.string (ByteArray.mk #[])]) :=
 l7 (aNM n) λW R Φ _=>λ_ w G c=>⟨rfl,c.left⟩
theorem aZZ(s:ByteArray):fE prog F.a02 #[.string s] (.agg #[.int .i64 1,.int .i64 0,.string s]) :=
 l7 (aNR s) λW R Φ _=>λ_ w G c=>⟨rfl,c.left⟩
theorem aIv(b:Bool):fE prog F.Rv #[.bool b] (.agg #[.int .i64 2,.int .i64 (if b=true then 1 else 0),.string (ByteArray.mk #[])]) :=
 l7 (aNI b) λW R Φ _=>λ_=>U.intro (λh=>λw G c=>⟨by rw [if_pos h],c.left⟩) (λh=>λw G c=>⟨by rw [if_neg (by rw [h];simp)],c.left⟩)
theorem aZY(x:bF):fE prog F.Z' #[x.v] (.bool (lH x)):=by
 refine l7 (aNP x.kind x.num x.text) λW R Φ _=>λ_=>U.intro (λh=>?_) (λh=>U.intro (λh2=>?_) (λh2=>?_))
 .refine ⟨R,Φ,γ,λw G c=>c,λw G B=>(aZX x.num).use B λw c=>⟨0,x.num,ByteArray.mk #[],rfl,R,Φ,γ,c,λw G c=>c,by kernel_rfl,λw G c=>⟨?_,c.left⟩⟩⟩;have h:=aD h;unfold lH;rw [if_pos h,decide_eq_true h,decide_eq_true rfl,Bool.true_and,Bool.true_and,Bool.and_true]
 .refine ⟨R,Φ,γ,λw G c=>c,λw G B=>(aZZ x.text).use B λw c=>⟨1,0,x.text,rfl,R,Φ,γ,c,λw G c=>c,by kernel_rfl,?_⟩⟩;have h:=aO h;have h2:=aD h2;refine U.intro (λh3=>λw G c=>⟨?_,c.left⟩) (λh3=>λw G c=>⟨?_,c.left⟩)
  .unfold lH;rw [if_neg h,if_pos h2];have:x.num=0:=by simp at h3;exact h3.2
   rw [decide_eq_true this,Bool.true_and]
  .unfold lH;rw [if_neg h,if_pos h2];have:x.num≠0:=by
    intro e;rw [decide_eq_true h2,decide_eq_true e,decide_eq_true rfl] at h3;cases h3
   rw [decide_eq_false this,Bool.false_and]
 .have h:=aO h;have h2:=aO h2;have hr:lH x=(decide (x.kind=2)&&(decide (x.num=0)||decide (x.num=1))&&decide (x.text=ByteArray.mk #[])):=by unfold lH;rw [if_neg h,if_neg h2]
  refine ⟨R,Φ,γ,λw G c=>c,λw G B=>(aIv false).use B λw c=>⟨2,0,ByteArray.mk #[],rfl,R,Φ,γ,c,λw G c=>c,R,Φ,γ,λw G c=>c,by kernel_rfl,?_⟩⟩;refine U.intro (λh3=>λw G c=>⟨?_,c.left⟩) (λh3=>λw G B=>(aIv true).use B λw c=>⟨2,1,ByteArray.mk #[],rfl,R,Φ,γ,c,λw G c=>c,by kernel_rfl,λw G c=>⟨?_,c.left⟩⟩)
  .rw [hr];simp at h3;simp [h3]
  .rw [hr]
   congr 1
   by_cases k1:x.kind=2
   .by_cases k2:x.text=ByteArray.mk #[]
    .by_cases fR:x.num=0
     .rw [k1,k2,fR] at h3;simp at h3
     .simp [k1,k2,fR]
    .simp [k2]
   .simp [k1]
section
variable {Φ:Y}{W w:World}{R S G:List Own}{p:Option Addr}{cap:Nat}{r:List bF}
theorem aPp(x:bF):fE prog F.Mq #[x.v] (.bool (!lH x)) :=
 l7 (aNS x.kind x.num x.text) λW R Φ _=>λ_ w G B=>(aZY x).use B λw c=>⟨_,rfl,R,Φ,γ,c,λw G c=>⟨rfl,c.left⟩⟩
theorem aOA[O Φ](f:FuncId)(g:bF->Bool)[hΦ:Has Φ (λM w=>ζ M w p r)](hlen:r.length<=maxLen)(hf:k6 prog f=true)(cp:Array Value)(hg:∀ x:bF,fE prog f (Array.mk (x.v :: cp.toList)) (.bool (g x))):
  ay Φ prog F.ZU #[.slice p r.length cap,.func (.func f) #[] cp] (.int .i64 (tg g 0 r)):=by
 refine .there (λM w h=>(hΦ.go M w h).there) λeG=>?_;refine dN (aN7 p r.length cap f cp) λW R=>?_;refine bK (λn R' Z k=>∃ i:Nat,n=i/\i<=r.length/\R'=R/\Z=Φ/\k=r.length - i/\tg g 0 r=tg g i (r.drop i)) ⟨⟨R,Φ,_,γ,λw F c=>c,0,rfl,Nat.zero_le _,rfl,rfl,rfl,rfl⟩,?_⟩;rintro n ν θ k _ ⟨i,rfl,hi,rfl,rfl,rfl,mz⟩;refine U.intro (λhlt=>?_) (λhge=>λw F B=>⟨?_,B.left⟩)
 .have hlt:i<r.length:=by simpa using hlt
  rw [a6t g r i hlt] at mz;obtain ⟨b,o,rfl⟩:=eG (by omega);refine ⟨by omega,aL b o rfl λw F B=>⟨r[i].kind,r[i].num,r[i].text,by rw [Int.toNat_natCast];exact xw (hΦ.go _ _ B.Γ) hlt,λw F B=>⟨hf,(hg r[i]).use B λw B=>⟨g r[i],rfl,ν,θ,γ,B,U.intro (λh=>λw F B=>⟨?_,B.left⟩) (λh=>⟨by unfold V;unfold maxLen at hlen;omega,ν,θ,r.length - (i+1),γ,λw F c=>c,⟨i+1,rfl,hlt,rfl,rfl,rfl,?_⟩,by omega⟩)⟩⟩⟩⟩
  .rw [mz,if_pos h]
  .rw [mz,if_neg (by rw [h];simp)]
 .have hge:i=r.length:=Nat.le_antisymm hi (by simpa using hge);rw [mz,hge,List.drop_length];rfl
theorem aPe[O Φ][hΦ:Has Φ (λM w=>ζ M w p r)]:ay Φ prog F.a00 #[.slice p r.length cap] (.bool (sN r)):=by
 refine dN (aNO p r.length cap) λW R=>U.intro (λh=>?_) (λh=>λw G B=>⟨?_,B.left⟩)
 .have h1:=aD h;have hml:r.length<=maxLen:=by have h2:(12:Nat)<=maxLen:=(by decide);omega
  have Pu:ay Φ prog F.ZQ #[.slice p r.length cap,.func (.func F.Mq) #[] #[]] (.bool (r.any λx => !lH x)):=by
   refine dN (aN3 p r.length cap F.Mq #[]) λW R=>?_;exact λw G B=>(aOA (r:=r) F.Mq (λx => !lH x) hml (by kernel_rfl) #[] aPp).Ge B λw G B=>⟨by rw [W6],B.left⟩
  have hall:ay Φ prog F.a03 #[.slice p r.length cap] (.bool (r.all lH)):=by
   refine dN (aNT p r.length cap) λW R=>?_;refine λw G B=>Pu.Rq B λw G B=>⟨?_,B.left⟩;rw [List.all_eq_not_any_not]
  refine λw G B=>hall.Rq B λw G B=>⟨?_,B.left⟩;unfold sN;rw [decide_eq_true h1,Bool.true_and]
 .unfold sN;rw [decide_eq_false (aO h),Bool.false_and]
end
end Go.Proofs.YtfijlibaeahlaaaGreatDoor
end

section
namespace Go.Vc
def yP(g:Nat):Y:=λM w=>g ∉ M/\∃ ev,w.cell? ⟨g,0,none⟩=some ev/\(ev=.nilIface\/∃ te Yj,ev=.iface te Yj)
instance adV(g:Nat):O (yP g):=⟨fun {M M' w w'} hs ⟨h1,ev,h2,h3⟩=>by
 have hlt:g<w.heap.size:=by
  rcases Nat.lt_or_ge g w.heap.size with h'|h'
  .exact h'
  .simp [World.cell?,Array.getElem?_eq_none h'] at h2
 refine ⟨λhm=>?_,ev,hs.nY.cell h2 h1,h3⟩;rcases hs.sub g hm with h|h
 .exact h1 h
 .omega⟩
theorem Uy{w w':World}(h:Go.RowKit.Below w.heap.size w w'):bD [] w w':=⟨h.os,h.tape,h.output,h.size,λk hk _=>h.block k hk⟩
theorem aUr{P:Program}{op:BinOp}{t:TypeId}{ox oy:Operand}{u:TypeId}{v:Value}(w:World):(eqGuard op t ox oy (.iface u v) .nilIface).run P w=.ok () w:=by
 unfold eqGuard;cases op<;>rfl
theorem aUs{P:Program}{op:BinOp}{t:TypeId}{k:Nat}{v:Value}(w:World):(eqGuard op t (.tmp k) (.const v) .nilIface .nilIface).run P w=.ok () w:=by
 unfold eqGuard;cases op<;>rfl
theorem aXi{P:Program}{op:BinOp}{t t':TypeId}{k:Nat}{v:Value}(ht:P.isIface t'=true)(w:World):((eqGuard op t (.tmp k) (.const v) .nilIface .nilIface) >>= λ_=>binOp .neq t' .nilIface .nilIface).run P w=.ok (.bool false) w:=by
 rw [Sem.run_bind,aUs];exact Go.run_neq_nil_nil_at w t' ht
theorem aXh{P:Program}{op:BinOp}{t t':TypeId}{ox oy:Operand}{u:TypeId}{v:Value}(ht:P.isIface t'=true)(w:World):((eqGuard op t ox oy (.iface u v) .nilIface) >>= λ_=>binOp .neq t' (.iface u v) .nilIface).run P w=.ok (.bool true) w:=by
 rw [Sem.run_bind,aUr];exact Go.run_neq_iface_nil w t' ht u v
end Go.Vc
namespace Go.Proofs.YtfijlibaeahlaaaGreatDoor
open Go.Vc
def fG:Y:=λM w=>oP M w/\yP 1 M w/\yP 2 M w
instance adW:O fG:=oq oP (λM w=>yP 1 M w/\yP 2 M w)
def bs(l:List UInt8):ByteArray:=⟨l.toArray⟩
theorem Im(l:List UInt8):(bs l).data.toList=l:=rfl
theorem dx(l:List UInt8):(bs l).size=l.length:=qI l
theorem Il(l:List UInt8)(a b:Nat):(bs l).extract a b=bs ((l.drop a).take (b - a)):=by
 apply ByteArray.ext;apply Array.toList_inj.1;rw [ByteArray.data_extract,Array.toList_extract];rfl
theorem UX{a b:List UInt8}:bs a=bs b ↔ a=b:=⟨λh=>by have:=congrArg (λx=>x.data.toList) h;exact this,λh=>by rw [h]⟩
theorem a58(s:ByteArray):bs s.data.toList=s:=rfl
abbrev bu:=List UInt8 × Bool
def p8(e:UInt8)(least:Int)(l:List UInt8):Option (Int × List UInt8) :=
 let i:=Lib.indexByte (l.take 21) e
 if i<0 then none else match Lib.atoiAll (l.take i.toNat) with
  | .ok n=>if Lib.itoa n=l.take i.toNat/\least<=n then some (n,l.drop (i.toNat+1)) else none
  | _=>none
def fB(e:UInt8)(least:Int)(st:bu):Int × bu:=match p8 e least st.1 with
 | some (n,r)=>(n,(r,st.2))
 | none=>(0,([],true))
def pL(c:UInt8)(st:bu):bu:=match st.1 with
 | []=>([],true)
 | x :: r=>if x=c then (r,st.2) else ([],true)
def stepT(st:bu):ByteArray × bu :=
 let a:=fB 58 0 st
 if (a.2.1.length:Int)<a.1 then (ByteArray.mk #[],([],true)) else
  let c:=pL 44 (a.2.1.drop a.1.toNat,a.2.2)
  (if c.2 then ByteArray.mk #[] else bs (a.2.1.take a.1.toNat),c)
theorem aQ3{l r:List UInt8}{i:Nat}{e:UInt8}(h:l.take i++e :: r=l)(hi:i<l.length):l[i]? = some e:=by
 have hl:(l.take i).length=i:=by rw [List.length_take];omega
 rw [<-h,List.getElem?_append_right (by omega),hl,Nat.sub_self];rfl
theorem X7:∀ (l:List UInt8) (c:UInt8),-1<=Lib.indexByte l c/\(Lib.indexByte l c = -1\/(0<=Lib.indexByte l c/\Lib.indexByte l c<l.length/\l.take (Lib.indexByte l c).toNat++c :: l.drop ((Lib.indexByte l c).toNat+1)=l/\c ∉ l.take (Lib.indexByte l c).toNat))
 | [],c=>by simp [Lib.indexByte]
 | b :: l,c=>by
  have ih:=X7 l c;unfold Lib.indexByte;by_cases hb:(b == c)=true
  .rw [if_pos hb];have:b=c:=by simpa using hb
   subst this;refine ⟨by omega,.inr ⟨by omega,by simp,by simp,by simp⟩⟩
  .rw [if_neg hb];by_cases h1:(Lib.indexByte l c == -1)=true
   .rw [if_pos h1];exact ⟨by omega,.inl rfl⟩
   .rw [if_neg h1];have h1:Lib.indexByte l c ≠ -1:=by simpa using h1
    obtain ⟨h2,h3⟩:=ih;rcases h3 with h3|⟨h3,h4,h5,h6⟩
    .exact absurd h3 h1
    .have e:(Lib.indexByte l c+1).toNat=(Lib.indexByte l c).toNat+1:=by omega
     refine ⟨by omega,.inr ⟨by omega,by simp;omega,?_,?_⟩⟩
     .rw [e,List.take_succ_cons,List.drop_succ_cons,List.cons_append,h5]
     .rw [e,List.take_succ_cons,List.mem_cons,not_or];exact ⟨λe=>hb (by simp [e]),h6⟩
theorem aWc{l:List UInt8}{c:UInt8}{a r:List UInt8}(hl:l=a++c :: r)(hc:c ∉ a):Lib.indexByte l c=a.length:=by
 subst hl
 induction a with
 | nil=>simp [Lib.indexByte]
 | cons b a ih =>
  have hb:b≠c:=λe=>hc (by simp [e]);have ih:=ih λh=>hc (by simp [h]);rw [List.cons_append];unfold Lib.indexByte;rw [if_neg (by simpa using hb),if_neg (by rw [ih];simp),ih];simp
theorem P4:∀ (u:Nat),∀ c∈Lib.decDigits u,48<=c.toNat/\c.toNat<=57:=by
 intro u
 induction u using Nat.strongRecOn with
 | _ u ih =>
  intro c hc;rw [Lib.decDigits] at hc;split at hc
  .rename_i h;rw [List.mem_singleton] at hc;subst hc;have:(UInt8.ofNat (48+u)).toNat=48+u:=by simp;omega
   omega
  .rename_i h;rcases List.mem_append.1 hc with hc|hc
   .exact ih (u / 10) (by omega) c hc
   .rw [List.mem_singleton] at hc;subst hc;have:(UInt8.ofNat (48+u % 10)).toNat=48+u % 10:=by simp;omega
    omega
theorem aWi{n:Int}{c:UInt8}(h:c∈Lib.itoa n):c.toNat=45\/48<=c.toNat/\c.toNat<=57:=by
 unfold Lib.itoa at h;split at h
 .rcases List.mem_cons.1 h with rfl|h
  .left;rfl
  .right;exact P4 _ c h
 .right;exact P4 _ c h
def vH(acc:Nat)(l:List UInt8):Nat:=l.foldl (λa c=>a*10+(c.toNat - 48)) acc
theorem aR6(acc:Nat)(l:List UInt8)(c:UInt8):vH acc (l++[c])=vH acc l*10+(c.toNat - 48):=by simp [vH]
theorem a6e:∀ u:Nat,vH 0 (Lib.decDigits u)=u:=by
 intro u
 induction u using Nat.strongRecOn with
 | _ u ih =>
  rw [Lib.decDigits];split
  .rename_i h;show 0*10+((UInt8.ofNat (48+u)).toNat - 48)=u;have:(UInt8.ofNat (48+u)).toNat=48+u:=by simp;omega
   omega
  .rename_i h;rw [aR6,ih (u / 10) (by omega)];have:(UInt8.ofNat (48+u % 10)).toNat=48+u % 10:=by simp;omega
   omega
theorem a6f:∀ (l:List UInt8) (acc:Nat),acc<=vH acc l
 | [],acc=>Nat.le_refl _
 | c :: l,acc=>by
  have:=a6f l (acc*10+(c.toNat - 48));show acc<=vH (acc*10+(c.toNat - 48)) l;omega
theorem aGy:∀ (l:List UInt8) (acc:Nat),(∀ c∈l,48<=c.toNat/\c.toNat<=57)->vH acc l<18446744073709551616->Lib.parseUint10 acc l=.ok (vH acc l)
 | [],acc,_,_=>rfl
 | c :: l,acc,hc,h=>by
  have h0:=hc c (by simp);have hm:=a6f l (acc*10+(c.toNat - 48));have e:vH acc (c :: l)=vH (acc*10+(c.toNat - 48)) l:=rfl;rw [e] at h ⊢;unfold Lib.parseUint10;rw [if_pos h0,if_neg (by omega),if_neg (by omega)];exact aGy l _ (λd hd=>hc d (by simp [hd])) h
theorem a6a(u:Nat):Lib.decDigits u≠[]:=by
 intro e;have h1:=Lib.decDigits_length u;have h2:=Lib.nDigits_pos u;rw [e] at h1;simp at h1;omega
theorem aCI{u:Nat}(h:u<18446744073709551616):Lib.parseMag (Lib.decDigits u)=.ok u:=by
 unfold Lib.parseMag;rw [if_neg (a6a u),aGy _ 0 (P4 u) (by rw [a6e];exact h),a6e]
theorem aQ4{n:Int}(h:V n):Lib.atoiAll (Lib.itoa n)=.ok n:=by
 unfold V at h;unfold Lib.itoa;split
 .rename_i hn;have hm:=aCI (u:=n.natAbs) (by omega);unfold Lib.atoiAll;simp only;rw [if_pos (.inr rfl),hm];simp only;have F8:(45:UInt8).toNat=45:=rfl;rw [if_neg (by intro h;exact h.1 F8),if_neg (by intro h;omega),if_pos F8]
  congr 1
  omega
 .rename_i hn;have hm:=aCI (u:=n.toNat) (by omega);obtain ⟨c,r,a7w⟩:∃ c r,Lib.decDigits n.toNat=c :: r:=by
   cases hd:Lib.decDigits n.toNat with
   | nil=>exact absurd hd (a6a _)
   | cons c r=>exact ⟨c,r,rfl⟩
  have h0:=P4 n.toNat c (by rw [a7w];simp);rw [a7w] at hm ⊢;unfold Lib.atoiAll;simp only;rw [if_neg (by omega),hm];simp only;rw [if_neg (by omega),if_neg (by omega),if_neg (by omega)]
  congr 1
  omega
theorem R1{e:UInt8}(he:e.toNat=58\/e.toNat=59\/e.toNat=91){least:Int}{l:List UInt8}{n:Int}{r:List UInt8}:p8 e least l=some (n,r) ↔ (V n/\least<=n)/\l=Lib.itoa n++e :: r:=by
 have hne:∀ n:Int,e ∉ Lib.itoa n:=λn h=>by have:=aWi h;omega
 constructor
 .intro h;unfold p8 at h;simp only at h;split at h
  .cases h
  .rename_i hi;split at h
   .rename_i m hm;split at h
    .rename_i hc;cases h;have hb:=Lib.atoiAll_bounds hm;obtain ⟨_,h3⟩:=X7 (l.take 21) e;rcases h3 with h3|⟨h3,h4,h5,h6⟩
     .omega
     .refine ⟨⟨by unfold V;omega,hc.2⟩,?_⟩;rw [hc.1];have hlt:(Lib.indexByte (l.take 21) e).toNat<(l.take 21).length:=by omega
      have hlt2:(Lib.indexByte (l.take 21) e).toNat<l.length:=by rw [List.length_take] at hlt;omega
      have hg:l[(Lib.indexByte (l.take 21) e).toNat]=e:=by
       have h7:(l.take 21)[(Lib.indexByte (l.take 21) e).toNat]? = some e:=aQ3 h5 (by omega);rw [List.getElem?_take_of_lt (by rw [List.length_take] at hlt;omega),List.getElem?_eq_getElem hlt2] at h7;exact Option.some.inj h7
      conv=>lhs;rw [<-List.take_append_drop (Lib.indexByte (l.take 21) e).toNat l,List.drop_eq_getElem_cons hlt2,hg]
    .cases h
   .cases h
 .rintro ⟨⟨h1,h2⟩,rfl⟩;have hlen:=XB h1;have ht:(Lib.itoa n++e :: r).take 21=Lib.itoa n++e :: r.take (20 - (Lib.itoa n).length):=by
   rw [List.take_append,List.take_of_length_le (by omega)]
   congr 1
   rw [show 21 - (Lib.itoa n).length=(20 - (Lib.itoa n).length)+1 by omega,List.take_succ_cons]
  have hi:=aWc ht (hne n);unfold p8;simp only;rw [hi,if_neg (by omega),Int.toNat_natCast,List.take_left',aQ4 h1]
  .simp only;rw [if_pos ⟨by simp,h2⟩]
   congr 2
   rw [List.drop_append,List.drop_of_length_le (by omega),List.nil_append,show (Lib.itoa n).length+1 - (Lib.itoa n).length=1 by omega];rfl
  .rfl
abbrev rd(b:Nat)(st:bu):Own:=.blk b [.string (bs st.1),.bool st.2] 133
section
variable {W w:World}{R G S:List Own}{Φ:Y}{b:Nat}{st:bu}
theorem Ny[O Φ](l:List UInt8)(c:Ctx W w S Φ){K:c6}(hk:∀ b w',Ctx W w' (rd b (l,false) :: S) Φ->K (.returned (aA b 0)) w'):
  ω F.Gy #[.string (bs l)] w K:=by
 refine cn (aNY (bs l) (J:=K∘.returned) c ?_);exact λb w G B=>hk b w (Ctx.left (S:=rd b (l,false) :: S) B)
theorem aUw[O Φ](c:Ctx W w (rd b st :: S) Φ){K:c6}(hk:∀ w',Ctx W w' (rd b ([],true) :: S) Φ->K (.returned (.tuple #[])) w'):
  ω F.rJ #[aA b 0] w K:=by
 refine cn (aNg b 0 (J:=K∘.returned) c ?_);refine λw G B=>⟨B.can 0 rfl (by simp),λw' hw'=>⟨.blk b [.string (bs []),.bool st.2] 133 :: S,Φ,γ,B.put 0 hw' rfl,λw G B=>⟨B.can 0 rfl (by simp),λw' hw'=>⟨rd b ([],true) :: S,Φ,γ,B.put 0 hw' rfl,λw G B=>hk w B.left⟩⟩⟩⟩
theorem PT[O Φ](c:Ctx W w (rd b st :: S++G) Φ){K:List Own->Y->Prop}(hk:K (rd b ([],true) :: S) Φ):
  ω F.rJ #[aA b 0] w λe w'=>e=.returned (.tuple #[])/\∃ R' Z,O Z/\Ctx W w' (R'++G) Z/\K R' Z :=
 aUw (S:=S++G) c λw' c=>⟨rfl,rd b ([],true) :: S,Φ,γ,c,hk⟩
theorem aWb(s:ByteArray)(c:Int):fE prog F.strings_IndexByte #[.string s,.int .u8 c] (.int .i64 (Lib.indexByte s.data.toList c.toNat.toUInt8)) :=
 Quiet.W9 ⟨λw=>Any.strings_IndexByte Tryz.aX5 s c w⟩
theorem aQ5[O Φ](h1:∀ M w,Φ M w->yP 1 M w)(h2:∀ M w,Φ M w->yP 2 M w)(s:ByteArray)(hs:s.size<=1000000)(c:Ctx W w (R++G) Φ){a2J:Int->List Own->Y->Prop}{K2:Int->TypeId->Value->List Own->Y->Prop}
  (k1:∀ n,Lib.atoiAll s.data.toList=.ok n->a2J n R Φ) (k2:∀ n t v,(∀ m,Lib.atoiAll s.data.toList≠.ok m)->K2 n t v R Φ) :
  ω F.strconv_Atoi #[.string s] w λe w'=>(∃ n:Int,e=.returned (.tuple #[.int .i64 n,.nilIface])/\∃ R' Z,O Z/\Ctx W w' (R'++G) Z/\a2J n R' Z) \/
   ∃ (n:Int) (t:TypeId) (v:Value),e=.returned (.tuple #[.int .i64 n,.iface t v])/\∃ R' Z,O Z/\Ctx W w' (R'++G) Z/\K2 n t v R' Z:=by
 obtain ⟨_,ev,hv,hev⟩:=h1 _ _ c.Γ;obtain ⟨_,Vn,hr,aVp⟩:=h2 _ _ c.Γ;cases h:Lib.atoiAll s.data.toList
 .rename_i n;refine (Any.strconv_Atoi_ok Tryz.Xv s (by omega) n h w).mono λe w' ⟨he,hw⟩=>.inl ⟨n,he,R,Φ,γ,?_,k1 n h⟩;rcases hw with rfl|⟨t,rfl⟩
  .exact c
  .exact c.call (Uy (Lib.bytesWorld_below _ _ _))
 .exact (Any.strconv_Atoi_syntax Tryz.Xv s (by omega) h ev w hv hev).mono λe w' ⟨N,he,_,_,hb⟩=>.inr ⟨_,_,_,he,R,Φ,γ,c.call (Uy hb),k2 _ _ _ λm hm=>by rw [h] at hm;cases hm⟩
 .exact (Any.strconv_Atoi_range Tryz.Xv s (by omega) h Vn w hr aVp).mono λe w' ⟨N,he,_,_,hb⟩=>.inr ⟨_,_,_,he,R,Φ,γ,c.call (Uy hb),k2 _ _ _ λm hm=>by rw [h] at hm;cases hm⟩
theorem aZ6{e:UInt8}{least:Int}(h:p8 e least st.1=none):fB e least st=(0,([],true)):=by unfold fB;rw [h]
theorem aIY{e:UInt8}{least n:Int}{r:List UInt8}(h:p8 e least st.1=some (n,r)):fB e least st=(n,(r,st.2)):=by unfold fB;rw [h]
set_option maxHeartbeats 2000000 in
theorem aXn[O Φ](hΦ:∀ M w,Φ M w->fG M w)(e:Int)(least:Int)(hl:st.1.length<=1000000000000000)(c:Ctx W w (rd b st :: S) Φ){K:c6}
  (hk:∀ w',Ctx W w' (rd b (fB e.toNat.toUInt8 least st).2 :: S) Φ->K (.returned (.int .i64 (fB e.toNat.toUInt8 least st).1)) w') :
  ω F.Ds #[aA b 0,.int .u8 e,.int .i64 least] w K:=by
 refine cn (aNh b 0 e least (J:=K∘.returned) c ?_);clear c;obtain ⟨l,bad⟩:=st;simp only at hl;have hsz:(bs l).size=l.length:=dx l;have hmin:(min ((bs l).size:Int) 21).toNat=min l.length 21:=by rw [hsz];omega
 have K9:(bs l).extract 0 (min ((bs l).size:Int) 21).toNat=bs (l.take 21):=by
  rw [hmin,Il,List.drop_zero,Nat.sub_zero]
  congr 1
  rcases Nat.le_total l.length 21 with h|h
  .rw [Nat.min_eq_left h,List.take_of_length_le (Nat.le_refl _),List.take_of_length_le h]
  .rw [Nat.min_eq_right h]
 refine λw G B=>⟨bs l,B.get 0 rfl rfl,bs l,B.get 0 rfl rfl,by omega,λw G B=>?_⟩;rw [K9];refine (aWb (bs (l.take 21)) e).in.Ge (R:=rd b (l,bad) :: S) B ?_;rw [Im];obtain ⟨i,hi⟩:∃ i,Lib.indexByte (l.take 21) e.toNat.toUInt8=i:=⟨_,rfl⟩;obtain ⟨hge,hidx⟩:=X7 (l.take 21) e.toNat.toUInt8;rw [hi] at hge hidx ⊢;have failK:p8 e.toNat.toUInt8 least l=none->∀ (w:World) (G:List Own),Ctx W w (rd b (l,bad) :: S++G) Φ->ω F.rJ #[aA b 0] w λe w'=>e=.returned (.tuple #[])/\∃ R' Z,O Z/\Ctx W w' (R'++G) Z/\∀ w ek,Ctx W w (R'++ek) Z->K (.returned (.int .i64 0)) w:=λhn w G B=>by
  rw [aZ6 (st:=(l,bad)) hn] at hk;exact PT (S:=S) B λw ek B=>hk w B.left
 refine U.intro (λhneg=>λw G B=>failK ?_ w G B) (λhpos=>?_)
 .unfold p8;simp only [hi];rw [if_pos (aD hneg)]
 have hpos:=aO hpos;rcases hidx with hidx|⟨_,hlt,_,_⟩
 .omega
 have hlt2:i.toNat<(l.take 21).length:=by omega
 have Wk:(l.take 21).length<=l.length:=by rw [List.length_take];omega
 have acg:(l.take 21).length<=21:=by rw [List.length_take];omega
 have aVu:(bs (l.take 21)).extract 0 i.toNat=bs (l.take i.toNat):=by
  rw [Il,List.drop_zero,Nat.sub_zero,List.take_take,Nat.min_eq_left (by omega)]
 refine ⟨⟨by omega,by rw [dx];omega⟩,λw G B=>?_⟩;rw [aVu];refine aQ5 (R:=rd b (l,bad) :: S) (λM w h=>(hΦ M w h).2.1) (λM w h=>(hΦ M w h).2.2) (bs (l.take i.toNat)) (by rw [dx,List.length_take];omega) B (λn hn=>?_) (λn t v hn=>?_)
 .rw [Im] at hn;have hb:=Lib.atoiAll_bounds hn;refine ⟨rd b (l,bad) :: S,Φ,γ,λw G B=>B,false,λw=>aXi (by decide +kernel) w,U.intro (λh=>by cases h) (λ_=>⟨⟨by omega,by rw [dx];omega⟩,λw G B=>?_⟩)⟩;refine (TY (λM w h=>(hΦ M w h).1) n (by unfold V;omega)).bE B ⟨λw G B=>B,U.intro (λhne=>λw G B=>failK ?_ w G B) (λheq=>U.intro (λhls=>λw G B=>failK ?_ w G B) (λhls=>λw G B=>?_))⟩
  .have hne:=aD hne;unfold p8;simp only [hi];rw [if_neg (by omega),hn];simp only;rw [if_neg (λh=>hne (by show bs (Lib.itoa n)=_;rw [h.1]))]
  .unfold p8;simp only [hi];rw [if_neg (by omega),hn];simp only;rw [if_neg (λh=>by have:=aD hls;omega)]
  .have heq:Lib.itoa n=l.take i.toNat:=UX.1 (Decidable.not_not.1 (aO heq));have hls:=aO hls;have Q7:p8 e.toNat.toUInt8 least l=some (n,l.drop (i.toNat+1)):=by
    unfold p8;simp only [hi];rw [if_neg (by omega),hn];simp only;rw [if_pos ⟨heq,by omega⟩]
   rw [aIY (st:=(l,bad)) Q7] at hk;have hex:(bs l).extract (i+1).toNat (bs l).size=bs (l.drop (i.toNat+1)):=by
    rw [Il,hsz,show (i+1).toNat=i.toNat+1 by omega]
    congr 1
    exact List.take_of_length_le (by rw [List.length_drop];omega)
   refine ⟨bs l,B.get 0 rfl rfl,?_,⟨by omega,by omega,Nat.le_refl _⟩,λw G B=>⟨B.can 0 rfl (by simp),λw' hw'=>?_⟩⟩
   .unfold V;omega
   rw [hex] at hw';exact ⟨rd b (l.drop (i.toNat+1),bad) :: S,Φ,γ,B.put 0 hw' rfl,λw G B=>hk w B.left⟩
 .rw [Im] at hn;refine ⟨[],λ_ _=>True,γ,λw G B=>(B.weak λ_ _ _=>trivial).right,true,λw=>?_,U.intro (λ_=>λw G B=>failK ?_ w G B) (λh=>by cases h)⟩
  .exact aXh (by decide +kernel) w
  .unfold p8;simp only [hi];rw [if_neg (by omega)]
theorem R3[O Φ](hΦ:∀ M w,Φ M w->fG M w)(e:Int)(least:Int)(hl:st.1.length<=1000000000000000)(c:Ctx W w (rd b st :: S++G) Φ){K:Int->List Own->Y->Prop}
  (hk:K (fB e.toNat.toUInt8 least st).1 (rd b (fB e.toNat.toUInt8 least st).2 :: S) Φ) :
  ω F.Ds #[aA b 0,.int .u8 e,.int .i64 least] w λe w'=>∃ n,e=.returned (.int .i64 n)/\∃ R' Z,O Z/\Ctx W w' (R'++G) Z/\K n R' Z :=
 aXn (S:=S++G) hΦ e least hl c λw' c=>⟨_,rfl,_,Φ,γ,c,hk⟩
def ax(st:bu):Int × bu:=fB 59 (-9223372036854775808) st
def kY(st:bu):Int × bu:=fB 59 0 st
theorem tG[O Φ](hΦ:∀ M w,Φ M w->fG M w)(hl:st.1.length<=1000000000000000)(c:Ctx W w (rd b st :: S++G) Φ){K:Int->List Own->Y->Prop}
  (hk:K (ax st).1 (rd b (ax st).2 :: S) Φ) :
  ω F.iO #[aA b 0] w λe w'=>∃ n,e=.returned (.int .i64 n)/\∃ R' Z,O Z/\Ctx W w' (R'++G) Z/\K n R' Z:=by
 refine cn (aNa b 0 (J:=λu w'=>∃ n,(Ending.returned u)=.returned (.int .i64 n)/\∃ R' Z,O Z/\Ctx W w' (R'++G) Z/\K n R' Z) (R:=rd b st :: (S++G)) c ?_);exact λw ek B=>R3 (S:=S++G) hΦ 59 _ hl B λw ek B=>⟨_,rfl,_,Φ,γ,B.left,hk⟩
theorem UE[O Φ](hΦ:∀ M w,Φ M w->fG M w)(hl:st.1.length<=1000000000000000)(c:Ctx W w (rd b st :: S++G) Φ){K:Int->List Own->Y->Prop}
  (hk:K (kY st).1 (rd b (kY st).2 :: S) Φ) :
  ω F.Ap #[aA b 0] w λe w'=>∃ n,e=.returned (.int .i64 n)/\∃ R' Z,O Z/\Ctx W w' (R'++G) Z/\K n R' Z:=by
 refine cn (aNc b 0 (J:=λu w'=>∃ n,(Ending.returned u)=.returned (.int .i64 n)/\∃ R' Z,O Z/\Ctx W w' (R'++G) Z/\K n R' Z) (R:=rd b st :: (S++G)) c ?_);exact λw ek B=>R3 (S:=S++G) hΦ 59 _ hl B λw ek B=>⟨_,rfl,_,Φ,γ,B.left,hk⟩
theorem aOL[O Φ](c:Ctx W w (rd b st :: S++G) Φ){K:Int->List Own->Y->Prop}(hk:K st.1.length (rd b st :: S) Φ):
  ω F.y7 #[aA b 0] w λe w'=>∃ n,e=.returned (.int .i64 n)/\∃ R' Z,O Z/\Ctx W w' (R'++G) Z/\K n R' Z:=by
 refine cn (aNb b 0 (J:=λu w'=>∃ n,(Ending.returned u)=.returned (.int .i64 n)/\∃ R' Z,O Z/\Ctx W w' (R'++G) Z/\K n R' Z) (R:=rd b st :: (S++G)) c ?_);exact λw ek B=>⟨bs st.1,B.get 0 rfl rfl,λw ek B=>⟨st.1.length,by rw [dx],_,Φ,γ,B.left,hk⟩⟩
def xj(st:bu):Bool := !st.2&&decide (st.1=[])
theorem TD[O Φ](c:Ctx W w (rd b st :: S++G) Φ){K:Bool->List Own->Y->Prop}(hk:K (xj st) (rd b st :: S) Φ):
  ω F.NO #[aA b 0] w λe w'=>∃ n,e=.returned (.bool n)/\∃ R' Z,O Z/\Ctx W w' (R'++G) Z/\K n R' Z:=by
 refine cn (aNZ b 0 (J:=λu w'=>∃ n,(Ending.returned u)=.returned (.bool n)/\∃ R' Z,O Z/\Ctx W w' (R'++G) Z/\K n R' Z) (R:=rd b st :: (S++G)) c ?_);refine λw ek B=>⟨st.2,B.get 0 rfl rfl,bs st.1,λ_=>B.get 0 rfl rfl,λw ek B=>⟨xj st,?_,_,Φ,γ,B.left,hk⟩⟩;have e:decide (bs st.1=ByteArray.mk #[])=decide (st.1=[]):=by
  rw [show ByteArray.mk #[]=bs [] from rfl];exact decide_eq_decide.2 UX
 rw [e];rfl
theorem aY9(c:UInt8)(l:List UInt8):Lib.hasPrefix l [c]=(match l with | []=>false|x :: _=>x == c):=by
 cases l with
 | nil=>rfl
 | cons x r =>
  unfold Lib.hasPrefix;rw [List.isPrefixOf_cons_cons];simp [Bool.beq_comm]
theorem a6G[O Φ](e:UInt8)(c:Ctx W w (rd b st :: S++G) Φ){K:List Own->Y->Prop}(hk:K (rd b (pL e st) :: S) Φ):
  ω F.SX #[aA b 0,.string (ByteArray.mk #[e])] w λe w'=>e=.returned (.tuple #[])/\∃ R' Z,O Z/\Ctx W w' (R'++G) Z/\K R' Z:=by
 refine cn (aNf b 0 (ByteArray.mk #[e]) (J:=λu w'=>(Ending.returned u)=.returned (.tuple #[])/\∃ R' Z,O Z/\Ctx W w' (R'++G) Z/\K R' Z) (R:=rd b st :: (S++G)) c ?_);clear c;obtain ⟨l,bad⟩:=st;refine λw ek B=>⟨bs l,B.get 0 rfl rfl,λw ek B=>?_⟩;refine (Any.strings_CutPrefix Tryz.aX3 (bs l) (ByteArray.mk #[e]) w).mono λe2 w' ⟨he,hw⟩=>?_;subst hw;refine ⟨_,_,he,rd b (l,bad) :: (S++G),Φ,γ,B,?_⟩;clear B;rw [Im,show (ByteArray.mk #[e]).data.toList=[e] from rfl]
 unfold Lib.trimPrefix;rw [aY9];unfold pL at hk;cases l with
 | nil =>
  refine λw ek B=>⟨B.can 0 rfl (by simp),λw' hw'=>⟨rd b ([],bad) :: (S++G),Φ,γ,B.put 0 hw' rfl,U.intro (λ_=>λw ek B=>PT (S:=S++G) B λw ek B=>⟨by first|trivial|rfl,_,Φ,γ,B.left,hk⟩) (λh=>by cases h)⟩⟩
 | cons x r =>
  simp only at hk ⊢;by_cases hx:x=e
  .subst hx;rw [if_pos rfl] at hk;rw [if_pos (by simp)];refine λw ek B=>⟨B.can 0 rfl (by simp),λw' hw'=>⟨rd b (r,bad) :: (S++G),Φ,γ,B.put 0 hw' rfl,U.intro (λh=>by simp at h) (λ_=>λw ek B=>⟨by first|trivial|rfl,_,Φ,γ,B.left,hk⟩)⟩⟩
  .rw [if_neg hx] at hk;rw [if_neg (by simpa using hx)];refine λw ek B=>⟨B.can 0 rfl (by simp),λw' hw'=>⟨rd b (x :: r,bad) :: (S++G),Φ,γ,B.put 0 hw' rfl,U.intro (λ_=>λw ek B=>PT (S:=S++G) B λw ek B=>⟨by first|trivial|rfl,_,Φ,γ,B.left,hk⟩) (λh=>by simp at h;exact absurd h hx)⟩⟩
theorem Rn{e:UInt8}(he:e.toNat=58\/e.toNat=59\/e.toNat=91)(st:bu):0<=(fB e 0 st).1/\(fB e 0 st).1<=9223372036854775807:=by
 unfold fB;split
 .rename_i n r h;obtain ⟨⟨h1,h2⟩,_⟩:=(R1 he).1 h;unfold V at h1;simp only;omega
 .simp only;omega
theorem rA(e:UInt8)(least:Int)(st:bu):(fB e least st).2.1.length<=st.1.length:=by
 unfold fB;split
 .rename_i n r h;unfold p8 at h;simp only at h;split at h
  .cases h
  .split at h
   .split at h
    .cases h;simp only [List.length_drop];omega
    .cases h
   .cases h
 .simp
theorem OO[O Φ](hΦ:∀ M w,Φ M w->fG M w)(hl:st.1.length<=1000000000000000)(c:Ctx W w (rd b st :: S++G) Φ){K:ByteArray->List Own->Y->Prop}
  (hk:K (stepT st).1 (rd b (stepT st).2 :: S) Φ) :
  ω F.sR #[aA b 0] w λe w'=>∃ n,e=.returned (.string n)/\∃ R' Z,O Z/\Ctx W w' (R'++G) Z/\K n R' Z:=by
 refine cn (aNe b 0 (J:=λu w'=>∃ n,(Ending.returned u)=.returned (.string n)/\∃ R' Z,O Z/\Ctx W w' (R'++G) Z/\K n R' Z) (R:=rd b st :: (S++G)) c ?_);clear c;refine λw ek B=>R3 (S:=S++G) hΦ 58 0 hl B ?_;rw [show ((58:Int).toNat.toUInt8)=(58:UInt8) from rfl];unfold stepT at hk;simp only at hk;have hn:=Rn (e:=58) (.inl rfl) st;obtain ⟨⟨n,l,bad⟩,ha⟩:∃ a,fB 58 0 st=a:=⟨_,rfl⟩;rw [ha] at hk hn ⊢;simp only at hk hn ⊢
 refine λw ek B=>⟨bs l,B.get 0 rfl rfl,U.intro (λh=>?_) (λh=>?_)⟩
 .have h:=aD h;rw [dx] at h;rw [if_pos h] at hk;exact λw ek B=>PT (S:=S++G) B λw ek B=>⟨_,rfl,_,Φ,γ,B.left,hk⟩
 .have h:=aO h;rw [dx] at h;rw [if_neg h] at hk;have e1:(bs l).extract n.toNat (bs l).size=bs (l.drop n.toNat):=by
   rw [Il,dx]
   congr 1
   exact List.take_of_length_le (by rw [List.length_drop];omega)
  have e2:(bs l).extract 0 n.toNat=bs (l.take n.toNat):=by rw [Il,List.drop_zero,Nat.sub_zero]
  refine λw ek B=>⟨bs l,B.get 0 rfl rfl,⟨by omega,by rw [dx];omega⟩,λw ek B=>⟨bs l,B.get 0 rfl rfl,⟨by omega,by rw [dx];omega,Nat.le_refl _⟩,λw ek B=>⟨B.can 0 rfl (by simp),λw' hw'=>?_⟩⟩⟩;rw [e1] at hw';refine ⟨rd b (l.drop n.toNat,bad) :: (S++G),Φ,γ,B.put 0 hw' rfl,λw ek B=>a6G (S:=S++G) 44 B λw ek B=>⟨(pL 44 (l.drop n.toNat,bad)).2,B.get 0 rfl rfl,U.intro (λhb=>?_) (λhb=>?_)⟩⟩
  .rw [hb] at hk;exact λw ek B=>⟨_,rfl,_,Φ,γ,B.left,hk⟩
  .rw [hb] at hk;rw [e2];exact λw ek B=>⟨_,rfl,_,Φ,γ,B.left,hk⟩
end
end Go.Proofs.YtfijlibaeahlaaaGreatDoor
end

section
namespace Go.Proofs.YtfijlibaeahlaaaGreatDoor
open Go.Vc Go.RowKit
theorem aWz(u:TypeId)(h:prog.typeName? 3 u=some "*errors.errorString"):u=198 :=
 typeName_ptr_named (nm := "errors.errorString") (by rw [show "*" ++ "errors.errorString" = "*errors.errorString" by decide];kernel_rfl) (by kernel_rfl) (by decide) u (by rw [show "*" ++ "errors.errorString" = "*errors.errorString" by decide];exact h)
theorem aC9{n:String}{text:List UInt8}{r:List (String × DataW Unit)}{W:World}{g:Nat}(h:laidMet prog ((n,.iface "*errors.errorString" (.ptr (.agg [.lit (.string text)]))) :: r) W)
  (hg:prog.globalNamed n=some g) (ht:(prog.globals[g]?).map (·.type)=some 99):yP g [] W:=by
 obtain ⟨a,s,hv,_⟩:=laid_sentinel h hg ht underlying99 aWz underlying198 underlying200 rfl rfl underlying9 (by kernel_rfl) (by kernel_rfl);exact ⟨by simp,_,by have h0:=World.var?_cell hg hv 0;simpa using h0,.inr ⟨_,_,rfl⟩⟩
theorem aWy{W:World}(h:laidMetH prog Rows.checkpointCollectsRow.laid W):fG [] W:=by
 rw [MakeChecks.laidMetH_plain prog Rows.checkpointCollectsRow.laid W (by kernel_rfl)] at h;have h2:=h.tail.tail;exact ⟨Ew.start (Lib.tabIs_of_head (k:=.u64) (zs:=Lib.pow10Tab) (g:=3) (t:=192) (e:=179) (n:=20) (by kernel_rfl) (by kernel_rfl) (by kernel_rfl) (by kernel_rfl) (by kernel_rfl) (by kernel_rfl) h2),
  aC9 h2.tail.tail (by kernel_rfl) (by kernel_rfl),aC9 h2.tail (by kernel_rfl) (by kernel_rfl)⟩
end Go.Proofs.YtfijlibaeahlaaaGreatDoor
end

section
namespace Go.Proofs.YtfijlibaeahlaaaGreatDoor
open Go.Vc
theorem aNz{Φ:Y}[O Φ](p:Option Addr)(cap:Nat)(l:List μ)(b o:Nat)(cs:List (List Value))(f:FuncId)(q:μ->Bool)(hp:0<l.length->p=some ⟨b,o,none⟩)(hΦ:∀ M w,Φ M w->aP b o cs l M w)(hlen:l.length<=9223372036854775807)(hf:k6 prog f=true)
  (hq:∀ j,(hj:j<l.length)->∀ r c,cs.getD j []=l[j].cells r c->l[j].row.length<=c->c<=maxLen->ay Φ prog f #[l[j].v r c] (.bool (q l[j]))) :
  ay Φ prog F.ZP #[.slice p l.length cap,.func (.func f) #[] #[]] (.bool (l.any q)):=by
 refine dN (aN2 p l.length cap f #[]) λW R=>?_;exact λw F B=>(aO9 p cap l b o cs f #[] q hp hΦ hlen hf hq).use B λw B=>⟨_,rfl,R,Φ,γ,B,λw F B=>⟨by rw [W6],B.left⟩⟩
theorem aPc{Φ:Y}[O Φ](x:μ)(p:Option Addr)(cap:Nat)(hΦ:∀ M w,Φ M w->ζ M w p x.row)(hlen:x.row.length<=9223372036854775807):
  ay Φ prog F.Uq #[x.v p cap] (.bool (!sN x.row)):=by
 refine dN (aLp x.time p x.row.length cap x.n) λW R=>?_;exact λ_ w F B=>(aPe (p:=p) (cap:=cap) (r:=x.row) (hΦ:=⟨hΦ⟩)).use B λw B=>⟨_,rfl,R,Φ,γ,B,λw F B=>⟨rfl,B.left⟩⟩
structure bP where
 kind:Int
 node:Int
 dS:Int
 bucket:Int
 n:Int
 ξ:List μ
instance:ι bP:=ι.via (β:=Int × Int × Int × Int × Int × List μ) (λx=>(x.kind,x.node,x.dS,x.bucket,x.n,x.ξ)) (λy=>⟨y.1,y.2.1,y.2.2.1,y.2.2.2.1,y.2.2.2.2.1,y.2.2.2.2.2⟩) (λ_=>rfl)
abbrev bP.cells(x:bP)(p:Option Addr)(c:Nat):List Value:=[.int .i64 x.kind,.int .i64 x.node,.int .i64 x.dS,.int .i64 x.bucket,.int .i64 x.n,.slice p x.ξ.length c]
abbrev bP.v(x:bP)(p:Option Addr)(c:Nat):Value:=.agg #[.int .i64 x.kind,.int .i64 x.node,.int .i64 x.dS,.int .i64 x.bucket,.int .i64 x.n,.slice p x.ξ.length c]
structure bP.lP(x:bP):Prop where
 kind:V x.kind
 node:V x.node
 dS:V x.dS
 bucket:V x.bucket
 n:V x.n
theorem aCP{M:List Nat}{w:World}{cs:List Value}{x:bP}(h:ι.rep M w cs x):∃ p c,cs=x.cells p c/\x.ξ.length<=c/\c<=maxLen/\x.lP/\ζ M w p x.ξ:=by
 obtain ⟨_,_,rfl,⟨rfl,h1⟩,_,_,rfl,⟨rfl,h2⟩,_,_,rfl,⟨rfl,h3⟩,_,_,rfl,⟨rfl,h4⟩,_,_,rfl,⟨rfl,h5⟩,p,c,rfl,h6,h7,h8⟩:=h;exact ⟨p,c,rfl,h6,h7,⟨h1,h2,h3,h4,h5⟩,h8⟩
theorem aHP{M:List Nat}{w:World}{x:bP}{p:Option Addr}{c:Nat}(h:x.lP)(h6:x.ξ.length<=c)(h7:c<=maxLen)(h8:ζ M w p x.ξ):ι.rep M w (x.cells p c) x :=
 ⟨[_],_,rfl,⟨rfl,h.kind⟩,[_],_,rfl,⟨rfl,h.node⟩,[_],_,rfl,⟨rfl,h.dS⟩,[_],_,rfl,⟨rfl,h.bucket⟩,[_],_,rfl,⟨rfl,h.n⟩,p,c,rfl,h6,h7,h8⟩
abbrev G7(m:bP):List Int:=[m.node,m.dS,m.bucket,max m.n 0]
def G6(m:bP)(n:Int):Bool:=decide (n<0)||decide (1099511627776<n)||decide (m.n < -1)
def tr(m:bP):Bool := !(G7 m).any (G6 m) && !(decide (m.kind<0)||decide (3<=m.kind)||decide (8<(m.ξ.length:Int))||decide (m.kind≠0)&&decide (0<(m.ξ.length:Int)))
def kZ(m:bP):Bool:=tr m&&kQ m.ξ && !m.ξ.any λd => !sN d.row
theorem aXo(m:bP){i:Nat}(hi:i<4):∃ n,(G7 m)[i]? = some n/\Ey i [.int .i64 m.node,.int .i64 m.dS,.int .i64 m.bucket,.int .i64 (max m.n 0)]=some (.int .i64 n):=by
 match i,hi with
 | 0,_=>exact ⟨_,rfl,Ez _ _⟩
 | 1,_=>exact ⟨_,rfl,Ez _ _⟩
 | 2,_=>exact ⟨_,rfl,Ez _ _⟩
 | 3,_=>exact ⟨_,rfl,Ez _ _⟩
set_option maxHeartbeats 1000000 in
theorem aPf{Φ:Y}[O Φ](p:Option Addr)(cap:Nat)(m:bP)(hΦ:∀ M w,Φ M w->ζ M w p m.ξ)(hlen:m.ξ.length<=9223372036854775807):
  ay Φ prog F.Up #[m.v p cap] (.bool (kZ m)):=by
 refine .pinned hΦ λb o cs hp=>?_;refine dN (aLq m.kind m.node m.dS m.bucket m.n p m.ξ.length cap) λW R=>?_;refine λ_=>bK (λn R' Z k=>∃ i:Nat,n=i/\i<=4/\R'=R/\Z=(λM w=>Φ M w/\aP b o cs m.ξ M w)/\k=4 - i/\∀ j,j<i->∀ n,(G7 m)[j]? = some n->G6 m n=false) ⟨⟨R,_,_,γ,λw F c=>c,0,rfl,Nat.zero_le _,rfl,rfl,rfl,λj hj=>by omega⟩,?_⟩;rintro n ν θ k _ ⟨i,rfl,hi,rfl,rfl,rfl,hok⟩;refine U.intro (λhlt=>?_) (λhge=>λw G B=>?_)
 .have hlt:i<4:=by have:=aD hlt;omega
  obtain ⟨n,hn,ha⟩:=aXo m hlt;refine ⟨n,⟨by omega,by omega,by rw [Int.toNat_natCast,Nat.zero_add];exact ha⟩,λw F B=>U.intro (λhb=>λw F B=>⟨?_,B.left⟩) (λhb=>⟨by unfold V;omega,ν,_,4 - (i+1),γ,λw F c=>c,⟨i+1,rfl,hlt,rfl,rfl,rfl,λj hj n' hn'=>?_⟩,by omega⟩)⟩
  .have hb:G6 m n=true:=hb;have:(G7 m).any (G6 m)=true:=List.any_eq_true.2 ⟨n,List.mem_of_getElem? hn,hb⟩;unfold kZ tr;rw [this];rfl
  .rcases Nat.lt_or_ge j i with h|h
   .exact hok j h n' hn'
   .rw [show j=i by omega,hn] at hn';cases hn';exact hb
 .have hge:i=4:=by have:=aO hge;omega
  subst hge;have hall:(G7 m).any (G6 m)=false:=by
   rw [List.any_eq_false];intro x hx;obtain ⟨j,hj⟩:=List.getElem?_of_mem hx;rw [hok j (List.getElem?_eq_some_iff.1 hj).1 x hj];simp
  refine U.intro (λh2=>λw F B=>⟨?_,B.left⟩) (λh2=>λw G B=>?_)
  .unfold kZ tr;rw [h2];simp
  .have K9:tr m=true:=by unfold tr;rw [hall,h2];rfl
   refine (a2F (Φ:=λM w=>Φ M w/\aP b o cs m.ξ M w) p cap m.ξ b o cs hp (λ_ _ h=>h.2) hlen).use B λw B=>⟨_,rfl,ν,_,γ,B,U.intro (λh3=>λw G B=>?_) (λh3=>λw G B=>⟨?_,B.left⟩)⟩
   .refine (aNz (Φ:=λM w=>Φ M w/\aP b o cs m.ξ M w) p cap m.ξ b o cs F.Uq (λd => !sN d.row) hp (λ_ _ h=>h.2) hlen (by kernel_rfl) λj hj r c e h1 h2=>?_).use B λw B=>⟨_,rfl,ν,_,γ,B,λw G B=>⟨?_,B.left⟩⟩
    .exact aPc _ r c (λM w h=>iw h.2 hj e) (Fu h1 h2)
    .unfold kZ;rw [K9,h3];rfl
   .unfold kZ;rw [h3,Bool.and_false];rfl
theorem aUg{M:List Nat}{w:World}{cs:List Value}{l:List μ}(h:Δ M w cs l){j:Nat}(hj:j<l.length):∃ q c,(cs.drop (j*3)).take 3=l[j].cells q c/\l[j].row.length<=c/\c<=maxLen/\V l[j].time/\V l[j].n/\ζ M w q l[j].row:=by
 have:=h.2 j hj;rw [show (ι.ty μ).size=3 from rfl] at this;exact BU this
theorem aUm{M:List Nat}{w:World}{cs:List Value}{l:List μ}(h:Δ M w cs l){j:Nat}(hj:j<l.length){q:Option Addr}{c:Nat}(e:(cs.drop (j*3)).take 3=l[j].cells q c):ζ M w q l[j].row:=by
 have:=h.2 j hj;rw [show (ι.ty μ).size=3 from rfl,e] at this;exact BW this
def bP.Small(m:bP):Prop:=m.ξ.length<100000000/\∀ x∈m.ξ,x.row.length<100000000
abbrev aXR:bP:=⟨0,0,0,0,0,[]⟩
abbrev taken(cs:List Value)(first count:Nat):List Value:=((dM cs (first*6) [.int .i64 0,.int .i64 0,.int .i64 0,.int .i64 0,.int .i64 0,.slice none 0 0]).set 24 (.int .i64 ((first+1) % 4:Nat))).set 25 (.int .i64 (count:Nat))
section
variable {W w:World}{S:List Own}{Φ:Y}
end
theorem a6K(x:Int):cR x x=0:=by unfold cR;simp
theorem aQt(x:bF):j6 x x=0:=by
 unfold j6 cmpL;rw [a6K,a6K,aQq];rfl
theorem a6O:∀ l:List bF,fI l l=0
 | []=>rfl
 | x :: r=>by unfold fI;rw [aQt,a6O r];simp
theorem aPv{α:Type}(q:α->Bool)(l:List α)(i:Nat)(hi:i<l.length)(h:q l[i]=false):(!l.any λx => !q x)=false:=by
 rw [Bool.not_eq_false',List.any_eq_true];exact ⟨l[i],List.getElem_mem _,by rw [h];rfl⟩
theorem aPu{α:Type}(q:α->Bool)(l:List α)(h:∀ i,(hi:i<l.length)->q l[i]=true):(!l.any λx => !q x)=true:=by
 rw [Bool.not_eq_true',List.any_eq_false];intro x hx;obtain ⟨i,hi,rfl⟩:=List.getElem_of_mem hx;rw [h i hi];simp
theorem aYH{Φ:Y}[O Φ](p q:Option Addr)(cap cap2:Nat)(l r:List bF)(hΦ:∀ M w,Φ M w->ζ M w p l)(hΨ:∀ M w,Φ M w->ζ M w q r)(hlen:l.length<=9223372036854775807):
  ay Φ prog F.Vt #[.slice p l.length cap,.slice q r.length cap2] (.bool (decide (fI l r=0))):=by
 refine dN (aMZ p l.length cap q r.length cap2) λW R=>?_;exact λw G B=>(aHA p q cap cap2 l r hΦ hΨ hlen).use B λw B=>⟨_,rfl,R,Φ,γ,B,λw G B=>⟨rfl,B.left⟩⟩
theorem Wa(m:bP):tr m=true ↔ (0<=m.kind/\m.kind<3/\0<=m.node/\m.node<=1099511627776/\0<=m.dS/\m.dS<=1099511627776/\0<=m.bucket/\m.bucket<=1099511627776 /\ -1<=m.n/\m.n<=1099511627776/\(m.ξ.length=0\/m.kind=0)/\m.ξ.length<=8):=by
 unfold tr G7 G6;simp only [List.any_cons,List.any_nil,Bool.or_false,Bool.and_eq_true,Bool.not_eq_true',Bool.or_eq_false_iff,Bool.and_eq_false_iff,decide_eq_false_iff_not,Decidable.not_not];omega
set_option maxHeartbeats 1000000 in
theorem aYG{Φ:Y}[O Φ](p:Option Addr)(cap:Nat)(m:bP)(hΦ:∀ M w,Φ M w->ζ M w p m.ξ)(hlen:m.ξ.length<=9223372036854775807):
  ay Φ prog F.Vx #[m.v p cap] (.bool (kZ m)):=by
 refine .pinned hΦ λb o cs hp=>?_;refine zg (λM w h=>h.2) λhcs=>?_;refine dN (aMj m.kind m.node m.dS m.bucket m.n p m.ξ.length cap) λW R=>?_;refine λ_ w G B=>λw G B=>U.intro (λh1=>λw G B=>⟨?_,B.left⟩) (λh1=>U.intro (λh2=>λw G B=>⟨?_,B.left⟩) (λh2=>λw G B=>?_))
 .have:tr m=false:=by
   rw [<-Bool.not_eq_true,Wa];simp only [Bool.not_eq_true',Bool.and_eq_false_iff,decide_eq_false_iff_not] at h1;omega
  unfold kZ;rw [this];rfl
 .have:tr m=false:=by
   rw [<-Bool.not_eq_true,Wa];simp only [Bool.not_eq_true',Bool.and_eq_false_iff,Bool.or_eq_false_iff,decide_eq_false_iff_not] at h2;omega
  unfold kZ;rw [this];rfl
 have K9:tr m=true:=by
  rw [Wa];simp only [Bool.not_eq_false',Bool.and_eq_true,Bool.or_eq_true,decide_eq_true_eq] at h1 h2;omega
 unfold kZ;rw [K9,Bool.true_and];refine (aNv (Φ:=λM w=>Φ M w/\aP b o cs m.ξ M w) p cap m.ξ b o cs hp (λ_ _ h=>h.2) hlen).use B λw B=>⟨_,rfl,R,λM w=>Φ M w/\aP b o cs m.ξ M w,γ,B,U.intro (λh3=>λw G B=>⟨?_,B.left⟩) (λh3=>?_)⟩
 .have h3:kQ m.ξ=false:=by simpa using h3
  rw [h3];rfl
 have h3:kQ m.ξ=true:=by simpa using h3
 rw [h3,Bool.true_and];refine bK (λn R' Z k=>∃ i:Nat,n=i/\i<=m.ξ.length/\R'=R/\Z=(λM w=>Φ M w/\aP b o cs m.ξ M w)/\k=m.ξ.length - i/\∀ j,(hj:j<m.ξ.length)->j<i->sN m.ξ[j].row=true) ⟨⟨R,_,_,γ,λw F c=>c,0,rfl,Nat.zero_le _,rfl,rfl,rfl,λj hj h=>by omega⟩,?_⟩;rintro n ν θ k _ ⟨i,rfl,hi,rfl,rfl,rfl,hok⟩;refine U.intro (λhlt=>?_) (λhge=>λw G B=>⟨?_,B.left⟩)
 .have hlt:i<m.ξ.length:=by simpa using hlt
  obtain ⟨q,qc,he,hq1,js,_,_⟩:=hcs i hlt;refine ⟨by omega,aL b o (hp (by omega)) λw G B=>⟨q,m.ξ[i].row.length,qc,ic B.Γ.2 hlt he 1 (by simp),λw G B=>(aPd (Φ:=λM w=>Φ M w/\aP b o cs m.ξ M w) q qc m.ξ[i].row (λM w h=>iw h.2 hlt he) (Fu hq1 js)).use B λw B=>⟨_,rfl,ν,_,γ,B,U.intro (λh=>λw G B=>⟨?_,B.left⟩) (λh=>⟨by unfold V;omega,ν,_,m.ξ.length - (i+1),γ,λw F c=>c,⟨i+1,rfl,hlt,rfl,rfl,rfl,λj hj hji=>?_⟩,by omega⟩)⟩⟩⟩
  .rw [aPv (λd:μ=>sN d.row) m.ξ i hlt (by simpa using h)]
  .rcases Nat.lt_or_ge j i with h'|h'
   .exact hok j hj h'
   .have:j=i:=by omega
    subst this;simpa using h
 .have hge:i=m.ξ.length:=Nat.le_antisymm hi (by simpa using hge);rw [aPu (λd:μ=>sN d.row) m.ξ λj hj=>hok j hj (by omega)]
end Go.Proofs.YtfijlibaeahlaaaGreatDoor
end

section
namespace Go.Proofs.YtfijlibaeahlaaaGreatDoor
set_option maxRecDepth 100000
open Go.Vc
theorem aOU(a0:Int)(a1:Int)(a2:Int)(a3:Int)(a4:Int)(BG:Option Addr)(tJ UJ:Nat)(b0:Int)(b1:Int)(b2:Int)(b3:Int)(b4:Int)(BL:Option Addr)(wT UO:Nat):aH F.PO #[.agg #[.int .i64 a0,.int .i64 a1,.int .i64 a2,.int .i64 a3,.int .i64 a4,.slice BG tJ UJ],.agg #[.int .i64 b0,.int .i64 b1,.int .i64 b2,.int .i64 b3,.int .i64 b4,.slice BL wT UO]] λW R Φ J=>
 ∀ (b b:Nat) w0 ν,Ctx W w0 (R++ν) Φ->U (decide (a0≠b0)||decide (a1≠b1)||decide (a2≠b2)||decide (a3≠b3)||decide (a4≠b4)||decide ((↑tJ : Int)≠(↑wT:Int))) (∀ w2 eT,Ctx W w2 (R++eT) Φ->J (Value.bool false) w2) (bI λ(TR:Int->List Own->Y->Nat->Prop)=>(∃ (ai:List Own),∃ (aX:Y),∃ (aG:Nat),O aX/\(∀ iN aT,Ctx W iN (R++aT) Φ->Ctx W iN (ai++aT) aX)/\TR 0 ai aX aG)/\∀ (kW:Int) (mX:List Own) (B0:List Nat->World->Prop) (qn:Nat),O B0->TR kW mX B0 qn->U (decide (kW<(↑tJ:Int))) (∃ (iq:List Own),∃ (iP:Y),O iP/\(∀ pO hY,Ctx W pO (mX++hY) B0 -> Ctx W pO (iq++hY) iP)/\aa kW tJ BG λ(fe gH:Nat)=>aa kW wT BL λ(ec dI:Nat)=>∃ (n22:Int),(∀ iM cl,Ctx W iM (iq++cl) iP->∃ (n25:Int),iM.cell? (Ξ fe (gH+kW.toNat*3))=some (I n25)/\I n25 = I n22)/\∃ (n26:Int),(∀ xz kG,Ctx W xz (iq++kG) iP->∃ (n29:Int),xz.cell? (Ξ ec (dI+kW.toNat*3))=some (I n29)/\I n29=I n26)/\U (decide (n22≠n26)) (∀ lN eU,Ctx W lN (mX++eU) B0->J (Value.bool false) lN) (aa kW tJ BG λ(gb iX:Nat)=>aa kW wT BL λ(lq jX:Nat)=>∃ (n36:Int),(∀ (rF:World) (kJ : List Own),Ctx W rF (iq++kJ) iP->∃ (n39:Int),rF.cell? (Ξ gb (iX+kW.toNat*3+2))=some (I n39)/\I n39=I n36)/\∃ (n40:Int),(∀ nJ gu,Ctx W nJ (iq++gu) iP->∃ (n43:Int),nJ.cell? (Ξ lq (jX+kW.toNat*3+2))=some (I n43)/\I n43=I n40)/\U (decide (n36≠n40)) (∀ uZ uu,Ctx W uZ (mX++uu) B0->J (Value.bool false) uZ) (aa kW tJ BG λ(vW gI:Nat)=>aa kW wT BL λ(eI gJ:Nat)=>∃ (M8:Option Addr),∃ (gy:Nat),∃ (nw : Nat),(∀ Ai kK,Ctx W Ai (iq++kK) iP->∃ (D9:Option Addr),∃ (jF:Nat),∃ (gf:Nat),Ai.cell? (Ξ vW (gI+kW.toNat*3+1))=some (Value.slice D9 jF gf)/\Value.slice D9 jF gf=Value.slice M8 gy nw)/\∃ (MC:Option Addr),∃ (n8:Nat),∃ (k4:Nat),(∀ Aj jS,Ctx W Aj (iq ++ jS) iP->∃ (r4:Option Addr),∃ (n9:Nat),∃ (ja:Nat),Aj.cell? (Ξ eI (gJ+kW.toNat*3+1))=some (Value.slice r4 n9 ja)/\Value.slice r4 n9 ja = Value.slice MC n8 k4)/\∀ pS jj,Ctx W pS (mX++jj) B0->ω F.Vt #[Value.slice M8 gy nw,Value.slice MC n8 k4] pS λ(Vh : Ending) (Dq:World)=>∃ (c70:Bool),Vh=Ending.returned (Value.bool c70)/\∃ (qV:List Own),∃ (Ay:Y),O Ay/\Ctx W Dq (qV++jj) Ay/\(∀ SO z6,Ctx W SO (qV++z6) Ay->Ctx W SO (iq++z6) iP)/\U (!c70) (∀ Gv OL,Ctx W Gv (qV++OL) Ay->J (Value.bool false) Gv) (V (kW+1)/\∃ (z7 : List Own),∃ (wK:Y),∃ (ow:Nat),O wK/\(∀ SR IE,Ctx W SR (qV++IE) Ay->Ctx W SR (z7++IE) wK)/\TR (kW+1) z7 wK ow/\ow<qn)))) (∀ NK uy,Ctx W NK (mX++uy) B0->J (Value.bool true) NK)):=aI {hV [2,3,4,5,47,52,98] with cT:=[2,3],dZ:=[(6,[.held [(0,true),(2,true),(6,true),(8,true),(1,true),(7,true),(3,true),(9,true),(4,true),(10,true),(5,true),(11,true),(12,true),(13,true),(14,true),(16,true),(20,true),(22,true),(15,true),(21,true),(17,true),(23,true),(18,true),(24,true),(19,true),(25,true),(26,true),(27,true),(28,true),(29,true),(31,true),(35,true),(37,true),(30,true),(36,true),(32,true),(38,true),(33,true),(39,true),(34,true),(40,true),(41,false),(42,true),(43,true)]])],loops:=[(4,[(5,.one (.int .i64))],[])] }
end Go.Proofs.YtfijlibaeahlaaaGreatDoor
end

section
namespace Go.Proofs.YtfijlibaeahlaaaGreatDoor
open Go.Vc
structure sZ(Φ:Y)(P:Program)(f:FuncId)(args:Array Value)(C:Value->Prop):Prop where
 go:∀ (W w:World) (S:List Own),Ctx W w S Φ->Calls P f args w λe w'=>∃ v,e=.returned v/\C v/\Ctx W w' S Φ
theorem sZ.use{Φ:Y}{P:Program}{f:FuncId}{args:Array Value}{C:Value->Prop}(h:sZ Φ P f args C){W w:World}{S:List Own}(c:Ctx W w S Φ){K:c6}(hk:∀ v w',C v->Ctx W w' S Φ->K (.returned v) w'):Calls P f args w K :=
 (h.go W w S c).mono λe w' ⟨v,he,hc,c'⟩=>by subst he;exact hk v w' hc c'
theorem a7U{Φ:Y}[O Φ]{P:Program}{f:FuncId}{args:Array Value}{C:Value->Prop}{υ:World->List Own->Y->(Value->World->Prop)->Prop}
  (run:∀ ⦃W w:World⦄ ⦃R:List Own⦄ ⦃Φ:Y⦄ [O Φ] ⦃J:Value->World->Prop⦄,Ctx W w R Φ->υ W R Φ J->Calls P f args w λe w'=>∃ v,e=.returned v/\J v w')
  (h:∀ (W:World) (R:List Own),υ W R Φ λu w'=>C u/\Ctx W w' R Φ):sZ Φ P f args C :=
 ⟨λW w S c=>run c (h W S)⟩
theorem sZ.pinned{Φ:Y}[O Φ]{P:Program}{f:FuncId}{args:Array Value}{C:Value->Prop}{α:Type}[ι α]{p:Option Addr}{l:List α}(hΦ:∀ M w,Φ M w->ζ M w p l)
  (h:∀ b o cs,(0<l.length->p=some ⟨b,o,none⟩)->sZ (λM w=>Φ M w/\aP b o cs l M w) P f args C):sZ Φ P f args C :=
 ⟨λW w S c=>by
  obtain ⟨b,o,cs,hp,c'⟩:=c.r6 (hΦ _ _ c.Γ);exact ((h b o cs hp).go W w S c').mono λe w' ⟨v,h1,h2,h3⟩=>⟨v,h1,h2,h3.fst⟩⟩
theorem aQd{W w:World}{S:List Own}{Φ:Y}{b o:Nat}{cs:List (List Value)}{l:List μ}(c:Ctx W w S Φ)(hΦ:∀ M w,Φ M w->aP b o cs l M w):∀ j,(hj:j<l.length)->∃ p c,cs.getD j []=l[j].cells p c/\l[j].row.length<=c/\c<=maxLen/\V l[j].time/\V l[j].n:=λj hj=>by
 obtain ⟨p,c,h1,h2,h3,h4,h5,_⟩:=RD (hΦ _ _ c.Γ) hj;exact ⟨p,c,h1,h2,h3,h4,h5⟩
theorem sZ.cells{Φ:Y}{f:FuncId}{args:Array Value}{C:Value->Prop}{b o:Nat}{cs:List (List Value)}{l:List μ}(hΦ:∀ M w,Φ M w->aP b o cs l M w)
  (h:(∀ j,(hj:j<l.length)->∃ p c,cs.getD j []=l[j].cells p c/\l[j].row.length<=c/\c<=maxLen/\V l[j].time/\V l[j].n)->sZ Φ prog f args C):sZ Φ prog f args C :=
 ⟨λW w S c=>(h (aQd c hΦ)).go W w S c⟩
set_option maxHeartbeats 1000000 in
theorem aHB{Φ:Y}[O Φ](p p':Option Addr)(cap cap':Nat)(m:bP)(hΦ:∀ M w,Φ M w->ζ M w p m.ξ)(hΨ:∀ M w,Φ M w->ζ M w p' m.ξ)(hlen:m.ξ.length<=9223372036854775807):
  ay Φ prog F.PO #[m.v p cap,m.v p' cap'] (.bool true):=by
 refine .pinned hΦ λb o cs hp=>.pinned (λM w h=>hΨ M w h.1) λb' o' cs' hp'=>?_;refine zg (λM w h=>h.1.2) λhcs=>zg (λM w h=>h.2) λa7x=>?_;refine dN (aOU m.kind m.node m.dS m.bucket m.n p m.ξ.length cap m.kind m.node m.dS m.bucket m.n p' m.ξ.length cap') λW R=>?_;refine λ_ _ w G B=>U.intro (λh=>by simp at h) (λh=>?_);refine bK (λn R' Z k=>∃ i:Nat,n=i/\i<=m.ξ.length/\R'=R/\Z=(λM w=>(Φ M w/\aP b o cs m.ξ M w)/\aP b' o' cs' m.ξ M w)/\k=m.ξ.length - i) ⟨⟨R,_,_,γ,λw F c=>c,0,rfl,Nat.zero_le _,rfl,rfl,rfl⟩,?_⟩
 rintro n ν θ k _ ⟨i,rfl,hi,rfl,rfl,rfl⟩;refine U.intro (λhlt=>?_) (λhge=>λw G B=>⟨rfl,B.left⟩);have hlt:i<m.ξ.length:=by simpa using hlt
 obtain ⟨q,qc,he,hq1,js,_,_⟩:=hcs i hlt;obtain ⟨q',uT,he',QA,QB,_,_⟩:=a7x i hlt;have hp:=hp (by omega);have hp':=hp' (by omega);refine ⟨ν,_,γ,λw G B=>B,by omega,aL b o hp ⟨by omega,aL b' o' hp' ⟨m.ξ[i].time,λw G B=>⟨_,ic B.Γ.1.2 hlt he 0 (by simp),rfl⟩,m.ξ[i].time,λw G B=>⟨_,ic B.Γ.2 hlt he' 0 (by simp),rfl⟩,
  U.intro (λh=>by simp at h) (λ_=>⟨by omega,aL b o hp ⟨by omega,aL b' o' hp' ⟨m.ξ[i].n,λw G B=>⟨_,ic B.Γ.1.2 hlt he 2 (by simp),rfl⟩,m.ξ[i].n,λw G B=>⟨_,ic B.Γ.2 hlt he' 2 (by simp),rfl⟩,
   U.intro (λh=>by simp at h) (λ_=>⟨by omega,aL b o hp ⟨by omega,aL b' o' hp' ⟨q,m.ξ[i].row.length,qc,λw G B=>⟨q,m.ξ[i].row.length,qc,ic B.Γ.1.2 hlt he 1 (by simp),rfl⟩,q',m.ξ[i].row.length,uT,λw G B=>⟨q',m.ξ[i].row.length,uT,ic B.Γ.2 hlt he' 1 (by simp),rfl⟩,λw G B=>?_⟩⟩⟩)⟩⟩⟩)⟩⟩⟩
 refine (aYH (Φ:=λM w=>(Φ M w/\aP b o cs m.ξ M w)/\aP b' o' cs' m.ξ M w) q q' qc uT m.ξ[i].row m.ξ[i].row (λM w h=>iw h.1.2 hlt he) (λM w h=>iw h.2 hlt he') (Fu hq1 js)).use B λw B=>⟨_,rfl,ν,_,γ,B,λw G B=>B,?_⟩;rw [a6O];exact U.intro (λh=>by simp at h) (λ_=>⟨by unfold V;omega,ν,_,m.ξ.length - (i+1),γ,λw G B=>B,⟨i+1,rfl,hlt,rfl,rfl,rfl⟩,by omega⟩)
set_option maxHeartbeats 1000000 in
theorem aO6{Φ:Y}[O Φ](p:Option Addr)(cap:Nat)(m:bP)(hΦ:∀ M w,Φ M w->ζ M w p m.ξ)(hlen:m.ξ.length<=9223372036854775807):
  sZ Φ prog F.Vw #[m.v p cap] λv=>∃ b,v=.bool b/\(b=true->m.Small):=by
 refine .pinned hΦ λb o cs hp=>.cells (λM w h=>h.2) λhcs=>?_;refine a7U (aMh m.kind m.node m.dS m.bucket m.n p m.ξ.length cap) λW R=>?_;refine λ_=>bK (λn R' Z k=>∃ i:Nat,n=i/\i<=m.ξ.length/\R'=R/\Z=(λM w=>Φ M w/\aP b o cs m.ξ M w)/\k=m.ξ.length - i/\∀ j,(hj:j<m.ξ.length)->j<i->m.ξ[j].row.length<=12) ⟨⟨R,_,_,γ,λw F c=>c,0,rfl,Nat.zero_le _,rfl,rfl,rfl,λj hj h=>by omega⟩,?_⟩;rintro n ν θ k _ ⟨i,rfl,hi,rfl,rfl,rfl,hok⟩
 refine U.intro (λhlt=>?_) (λhge=>λw G B=>⟨⟨_,rfl,λh=>?_⟩,B.left⟩)
 .have hlt:i<m.ξ.length:=by simpa using hlt
  have hp:=hp (by omega);obtain ⟨q,qc,he,hq1,js,_,_⟩:=hcs i hlt;refine ⟨by omega,aL b o hp λw G B=>⟨q,m.ξ[i].row.length,qc,ic B.Γ.2 hlt he 1 (by simp),U.intro (λh=>λw G B=>⟨⟨_,rfl,λh=>by cases h⟩,B.left⟩) (λhrow=>?_)⟩⟩;have hrow:m.ξ[i].row.length<=12:=by have:=aO hrow;omega
  have eG:ri q m.ξ[i].row.length:=(iw B.Γ.2 hlt he).there;refine bK (λn R' Z k=>∃ a:Nat,n=a/\a<=m.ξ[i].row.length/\R'=ν/\Z=(λM w=>Φ M w/\aP b o cs m.ξ M w)/\k=m.ξ[i].row.length - a) ⟨⟨ν,_,_,γ,λw F c=>c,0,rfl,Nat.zero_le _,rfl,rfl,rfl⟩,?_⟩;rintro n ck b7 k _ ⟨a,rfl,ha,rfl,rfl,rfl⟩;refine ⟨by omega,aL b o hp λw G B=>⟨q,m.ξ[i].row.length,qc,ic B.Γ.2 hlt he 1 (by simp),U.intro (λh=>?_) (λh=>?_)⟩⟩
  .have h:a<m.ξ[i].row.length:=by simpa using h
   obtain ⟨b2,o2,hq⟩:=eG (by omega);refine ⟨by omega,aL b o hp λw G B=>⟨q,m.ξ[i].row.length,qc,ic B.Γ.2 hlt he 1 (by simp),by omega,aL b2 o2 hq λw G B=>⟨m.ξ[i].row[a].text,?_,U.intro (λh=>λw G B=>⟨⟨_,rfl,λh=>by cases h⟩,B.left⟩) (λ_=>⟨by unfold V;omega,ck,_,m.ξ[i].row.length - (a+1),γ,λw F c=>c,⟨a+1,rfl,h,rfl,rfl,rfl⟩,by omega⟩)⟩⟩⟩;have h1:=iw B.Γ.2 hlt he;rw [hq] at h1;exact xw h1 h 2 (by simp)
  .exact ⟨by unfold V;omega,ck,_,m.ξ.length - (i+1),γ,λw F c=>c,⟨i+1,rfl,hlt,rfl,rfl,rfl,λj hj hji=>by
    rcases Nat.lt_or_ge j i with h'|h'
    .exact hok j hj h'
    .have:j=i:=by omega
     subst this;exact hrow⟩,by omega⟩
 .have hge:i=m.ξ.length:=Nat.le_antisymm hi (by simpa using hge);have h:=aD h;refine ⟨by omega,λx hx=>?_⟩;obtain ⟨j,hj,rfl⟩:=List.getElem_of_mem hx;have:=hok j hj (by omega);omega
abbrev aXK(n:Int):bP:=⟨2,0,0,0,n,[]⟩
def marks(i:Nat):List bP:=(List.range i).map λk=>aXK (k:Nat)
end Go.Proofs.YtfijlibaeahlaaaGreatDoor
end

section
namespace Go.Proofs.YtfijlibaeahlaaaGreatDoor
open Go.Vc
structure Td where
 op:Int
 m:bP
instance:ι Td:=ι.via (β:=Int × bP) (λx=>(x.op,x.m)) (λy=>⟨y.1,y.2⟩) (λ_=>rfl)
abbrev Td.cells(x:Td)(p:Option Addr)(c:Nat):List Value:=.int .i64 x.op :: x.m.cells p c
section
variable {P:Program}{W w:World}{S S' T G Q:List Own}{Φ Ψ:Y}
end
end Go.Proofs.YtfijlibaeahlaaaGreatDoor
end

