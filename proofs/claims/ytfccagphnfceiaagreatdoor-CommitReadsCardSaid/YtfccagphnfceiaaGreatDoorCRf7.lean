/-
 A sink: Prepare,Commit,Abort,Deliver: walked.
-/
import Derived.Test.YtfccagphnfceiaaGreatDoorCRf6
import Derived.Test.YtfccagphnfceiaaGreatDoorCRf5
import Derived.Shelf.Strconv.AtoiAll
import Derived.Shelf.Small.Wraps
import Derived.Stop.IfaceNil
import Derived.Lib.AtoiErrMem
import Derived.Lib.AtoiAllCases

set_option linter.unusedVariables false
set_option linter.unusedSimpArgs false
section
namespace Go.Proofs.YtfccagphnfceiaaGreatDoor
open Go.Vc
section
variable {Φ:PW} {q:KP} {st:j0} {W w:World} {R S G:List Own} {p:Option Addr} {cap:Nat} {L:List aM} {cs:List Value}
theorem a7j [aA Φ] {b:Int} [hF:Has Φ (nF q st)] [hL:Has Φ (λM w=>Sl M w p L)] (hq:AX q st) {n:Nat} (hs:KZ st n) (hn:n<=400000) (hlen:L.length<=400000) :
  jU (dP q st) Φ Tryz.prog F.kP #[snk q,.int .i64 b,.slice p L.length cap] (.int .i64 (rZ st b L)) :=
 ⟨λW w S c=>by
  have K4:=(hL.go _ _ c.gW).there
  obtain ⟨cs,c1⟩:=QC c (hL.go _ _ c.gW)
  exact ((aK0 (Φ:=λM w=>Φ M w/\yV p L cs M w) hq hs hn (uU (Φ:=λM w=>Φ M w/\yV p L cs M w) K4 λM w h=>h.2) (a2U c1.gW.2.2) (by omega)).go W w S c1).mono λe w' ⟨he,c2⟩=>⟨he,c2.fst⟩⟩
theorem a5l {w':World} [aA Φ] (cx:Ctx W w (dP q st++S) Φ) {i:Nat} {v:Value} (e:w'=w.setCell ⟨q.sb,i,none⟩ v):Ctx W w' (.blk q.sb ((SkB q st).set i v) 92 :: wU q.bp q.bc st.dZ :: cR q.lp st.lines.length q.lc q.cs :: S) Φ:=cx.put 0 e rfl
theorem a5m (cx:Ctx W w (dP q st++S) Φ) {i:Nat} (h:i<6):aE w q.sb i 1:=cx.can 0 rfl (by show i+1<=6;omega)
set_option maxHeartbeats 2000000 in
theorem QE [aA Φ] {b:Int} [hF:Has Φ (nF q st)] [hL:Has Φ (λM w=>Sl M w p L)] (hq:AX q st) (hI:WX st) {n:Nat} (hs:KZ st n) (hn:n<=400000) (hlen:L.length<=400000) (c:Ctx W w ((dP q st++R)++G) Φ) {K:Int->List Own->PW->Prop}
  (hk:∀ q':KP,q'.sb=q.sb->AX q' (mY st b L).2->aA (λM w=>Φ M w/\nF q' (mY st b L).2 M w)->K (mY st b L).1 (dP q' (mY st b L).2++R) (λM w=>Φ M w/\nF q' (mY st b L).2 M w)) :
  Calls Tryz.prog F.jN #[snk q,.int .i64 b,.slice p L.length cap] w λe w'=>∃ n,e=.returned (.int .i64 n)/\∃ R' aF,aA aF/\Ctx W w' (R'++G) aF/\K n R' aF:=by
 refine (CY q.sb 0 b p L.length cap (R:=(dP q st++R)++G) (J:=λv w'=>∃ n,v=.int .i64 n/\∃ R' aF,aA aF/\Ctx W w' (R'++G) aF/\K n R' aF) c ?_).mono λe w' ⟨v,he,n,hv,rest⟩=>⟨n,by rw [he,hv],rest⟩
 clear c
 have same:∀ (m:Int),mY st b L=(m,st)->∀ {w:World} {G2:List Own},Ctx W w ((dP q st++(R++G))++G2) Φ->∃ n,Value.int .i64 m=.int .i64 n/\∃ R' aF,aA aF/\Ctx W w (R'++G) aF/\K n R' aF:=λm h {w G2} cx=>by
  have:=hk q rfl
  rw [h] at this
  exact ⟨m,rfl,dP q st++R,_,inferInstance,((cx.left).re (by simp)).weak λM w h=>⟨h,hF.go M w h⟩,this hq inferInstance⟩
 refine λw G2 cx=>⟨st.kind,cx.get 0 rfl rfl,?_⟩
 clear cx
 have e0:mY st b L=if st.kind≠0 then (7,st) else if ML st b=true then (0,st) else if rZ st b L≠0 then (rZ st b L,st) else (0,{ st with dN:=b,aside:=L }):=rfl
 refine Br.intro (λh=>λw G2 cx=>same 7 (by rw [e0,if_pos (of_decide_eq_true h)]) (G2:=G2) (cx.re (by simp))) (λh=>λw G2 cx=>?_)
 rw [if_neg (of_decide_eq_false h)] at e0
 refine (a65 hq hI hs hn).toB (R:=R++G) (cx.re (by simp)) ?_
 clear cx
 refine Br.intro (λh=>λw G2 cx=>same 0 (by rw [e0,if_pos h]) cx) (λh=>λw G2 cx=>?_)
 rw [if_neg (by rw [h];simp)] at e0
 refine (a7j hq hs hn hlen).WW (R:=R++G) cx ?_
 clear cx
 refine Br.intro (λh=>λw G2 cx=>same _ (by rw [e0,if_pos (of_decide_eq_true h)]) cx) (λh=>λw G2 cx=>?_)
 rw [if_neg (of_decide_eq_false h)] at e0
 obtain ⟨_,_,g3,_⟩:=look_ok (of_decide_eq_false h)
 refine (YO (l:=L) (by omega) λx hx=>by have:=GZ (OI (g3 x hx)).2.2.1;omega).to cx λp1 c1 f1 f2 st1=>?_
 clear cx
 refine λw G3 cx=>⟨a5m (q:=q) (st:=st) (S:=(R++G)++G3) (cx.re (by simp)) (by decide),λw2 F3=>?_⟩
 have c2:=a5l (q:=q) (st:=st) (S:=(R++G)++G3) (cx.re (by simp)) F3
 refine ⟨.blk q.sb [.int .i64 st.kind,.slice q.kp st.key.length q.kc,.slice q.bp st.dZ.length q.bc,.slice q.lp st.lines.length q.lc,.int .i64 b,.slice q.ap st.aside.length q.ac] 92 :: wU q.bp q.bc st.dZ :: cR q.lp st.lines.length q.lc q.cs :: (R++G),_,st1,c2,λw G4 cx=>⟨cx.can 0 rfl (by show 5+1<=6;decide),λw3 hw3=>?_⟩⟩
 have c4:=cx.put 0 hw3 rfl
 obtain ⟨q2,gG⟩:∃ q2:KP,q2=⟨q.sb,q.kp,q.kc,q.bp,q.bc,q.lp,q.lc,q.cs,p1,c1⟩:=⟨_,rfl⟩
 obtain ⟨pZ,tU⟩:∃ pZ:j0,pZ={ st with dN:=b,aside:=L }:=⟨_,rfl⟩
 rw [<-tU] at e0
 have c7:Ctx W w3 ((dP q2 pZ++R)++(G++G4)) (λM w=>Φ M w/\nF q2 pZ M w):=by
  rw [gG,tU]
  have c8:=c4.weak (Ψ:=λM w=>Φ M w/\nF ⟨q.sb,q.kp,q.kc,q.bp,q.bc,q.lp,q.lc,q.cs,p1,c1⟩ { st with dN:=b,aside:=L } M w) λM w h=>⟨h.1,(hF.go M w h.1).1,(hF.go M w h.1).2.1,h.2⟩
  exact c8.re (by simp)
 have KR:AX q2 pZ:=OL (S:=R++(G++G4)) (c7.re (by simp)) (by rw [gG,tU];exact hq.aBw) (by rw [gG,tU];exact ⟨f1,f2⟩)
 rw [e0] at hk
 exact ⟨dP q2 pZ++(R++G),_,inferInstance,c7.re (by simp),λw G6 cx=>⟨0,rfl,dP q2 pZ++R,_,inferInstance,(cx.left).re (by simp),hk q2 (by rw [gG]) KR inferInstance⟩⟩
set_option maxHeartbeats 2000000 in
theorem a9a [aA Φ] {b:Int} [hF:Has Φ (nF q st)] (hq:AX q st) (hI:WX st) {n:Nat} (hs:KZ st n) (hn:n<=400000) (c:Ctx W w ((dP q st++R)++G) Φ) {K:Int->List Own->PW->Prop}
  (hk:∀ q':KP,q'.sb=q.sb->AX q' (AN st b).2->aA (λM w=>Φ M w/\nF q' (AN st b).2 M w)->K (AN st b).1 (dP q' (AN st b).2++R) (λM w=>Φ M w/\nF q' (AN st b).2 M w)) :
  Calls Tryz.prog F.qH #[snk q,.int .i64 b] w λe w'=>∃ n,e=.returned (.int .i64 n)/\∃ R' aF,aA aF/\Ctx W w' (R'++G) aF/\K n R' aF:=by
 refine (FH q.sb 0 b (R:=(dP q st++R)++G) (J:=λv w'=>∃ n,v=.int .i64 n/\∃ R' aF,aA aF/\Ctx W w' (R'++G) aF/\K n R' aF) c ?_).mono λe w' ⟨v,he,n,hv,rest⟩=>⟨n,by rw [he,hv],rest⟩
 clear c
 have same:∀ (m:Int),AN st b=(m,st)->∀ {w:World} {G2:List Own},Ctx W w ((dP q st++(R++G))++G2) Φ->∃ n,Value.int .i64 m=.int .i64 n/\∃ R' aF,aA aF/\Ctx W w (R'++G) aF/\K n R' aF:=λm h {w G2} cx=>by
  have:=hk q rfl
  rw [h] at this
  exact ⟨m,rfl,dP q st++R,_,inferInstance,((cx.left).re (by simp)).weak λM w h=>⟨h,hF.go M w h⟩,this hq inferInstance⟩
 refine λw G2 cx=>⟨st.kind,cx.get 0 rfl rfl,?_⟩
 clear cx
 have e0:AN st b=if st.kind≠0 then (7,st) else if ML st b=true then (7,st) else if (decide (b<1)||decide (b≠st.dN))=true then (4,st) else (0,{ st with dN:=0,aside:=[] }):=rfl
 refine Br.intro (λh=>λw G2 cx=>same 7 (by rw [e0,if_pos (of_decide_eq_true h)]) (G2:=G2) (cx.re (by simp))) (λh=>λw G2 cx=>?_)
 rw [if_neg (of_decide_eq_false h)] at e0
 refine (a65 hq hI hs hn).toB (R:=R++G) (cx.re (by simp)) ?_
 clear cx
 refine Br.intro (λh=>λw G2 cx=>same 7 (by rw [e0,if_pos h]) cx) (λh=>λw G2 cx=>⟨st.dN,λ_=>oK (R:=R++G) (i:=4) cx rfl,?_⟩)
 rw [if_neg (by rw [h];simp)] at e0
 clear cx
 refine Br.intro (λh=>λw G2 cx=>same 4 (by rw [e0,if_pos h]) cx) (λh=>λw G3 cx=>⟨a5m (q:=q) (st:=st) (S:=(R++G)++G3) (cx.re (by simp)) (by decide),λw2 F3=>?_⟩)
 rw [if_neg (by rw [h];simp)] at e0
 have c2:=a5l (q:=q) (st:=st) (S:=(R++G)++G3) (cx.re (by simp)) F3
 refine ⟨.blk q.sb [.int .i64 st.kind,.slice q.kp st.key.length q.kc,.slice q.bp st.dZ.length q.bc,.slice q.lp st.lines.length q.lc,.int .i64 0,.slice q.ap st.aside.length q.ac] 92 :: wU q.bp q.bc st.dZ :: cR q.lp st.lines.length q.lc q.cs :: (R++G),_,inferInstance,c2,λw G4 cx=>⟨cx.can 0 rfl (by show 5+1<=6;decide),λw3 hw3=>?_⟩⟩
 have c4:=cx.put 0 hw3 rfl
 obtain ⟨q2,gG⟩:∃ q2:KP,q2=⟨q.sb,q.kp,q.kc,q.bp,q.bc,q.lp,q.lc,q.cs,none,0⟩:=⟨_,rfl⟩
 obtain ⟨pZ,tU⟩:∃ pZ:j0,pZ={ st with dN:=0,aside:=[] }:=⟨_,rfl⟩
 rw [<-tU] at e0
 have c7:Ctx W w3 ((dP q2 pZ++R)++(G++G4)) (λM w=>Φ M w/\nF q2 pZ M w):=by
  rw [gG,tU]
  have c8:=c4.weak (Ψ:=λM w=>Φ M w/\nF ⟨q.sb,q.kp,q.kc,q.bp,q.bc,q.lp,q.lc,q.cs,none,0⟩ { st with dN:=0,aside:=[] } M w) λM w h=>⟨h,(hF.go M w h).1,(hF.go M w h).2.1,λi hi=>absurd hi (by simp)⟩
  exact c8.re (by simp)
 have KR:AX q2 pZ:=OL (S:=R++(G++G4)) (c7.re (by simp)) (by rw [gG,tU];exact hq.aBw) (by rw [gG,tU];exact ⟨Nat.le_refl _,Nat.zero_le _⟩)
 rw [e0] at hk
 exact ⟨dP q2 pZ++(R++G),_,inferInstance,c7.re (by simp),λw G6 cx=>⟨0,rfl,dP q2 pZ++R,_,inferInstance,(cx.left).re (by simp),hk q2 (by rw [gG]) KR inferInstance⟩⟩
set_option maxHeartbeats 2000000 in
theorem UP [aA Φ] {b:Int} [hF:Has Φ (nF q st)] (hq:AX q st) (hI:WX st) {n:Nat} (hs:KZ st n) (hn:n<=400000) (c:Ctx W w ((dP q st++R)++G) Φ) {K:Int->List Own->PW->Prop}
  (hk:∀ q':KP,q'.sb=q.sb->AX q' (uT st b).2->aA (λM w=>Φ M w/\nF q' (uT st b).2 M w)->K (uT st b).1 (dP q' (uT st b).2++R) (λM w=>Φ M w/\nF q' (uT st b).2 M w)) :
  Calls Tryz.prog F.kU #[snk q,.int .i64 b] w λe w'=>∃ n,e=.returned (.int .i64 n)/\∃ R' aF,aA aF/\Ctx W w' (R'++G) aF/\K n R' aF:=by
 have hal:=hs.aside
 refine (E7 q.sb 0 b (R:=(dP q st++R)++G) (J:=λv w'=>∃ n,v=.int .i64 n/\∃ R' aF,aA aF/\Ctx W w' (R'++G) aF/\K n R' aF) c ?_).mono λe w' ⟨v,he,n,hv,rest⟩=>⟨n,by rw [he,hv],rest⟩
 clear c
 have same:∀ (m:Int),uT st b=(m,st)->∀ {w:World} {G2:List Own},Ctx W w ((dP q st++(R++G))++G2) Φ->∃ n,Value.int .i64 m=.int .i64 n/\∃ R' aF,aA aF/\Ctx W w (R'++G) aF/\K n R' aF:=λm h {w G2} cx=>by
  have:=hk q rfl
  rw [h] at this
  exact ⟨m,rfl,dP q st++R,_,inferInstance,((cx.left).re (by simp)).weak λM w h=>⟨h,hF.go M w h⟩,this hq inferInstance⟩
 refine λw G2 cx=>⟨st.kind,cx.get 0 rfl rfl,?_⟩
 clear cx
 have e0:uT st b=if st.kind≠0 then (7,st) else if ML st b=true then (0,st) else if (decide (b<1)||decide (b≠st.dN))=true then (4,st) else (0,{ nY st b st.aside with dN:=0,aside:=[] }):=rfl
 refine Br.intro (λh=>λw G2 cx=>same 7 (by rw [e0,if_pos (of_decide_eq_true h)]) (G2:=G2) (cx.re (by simp))) (λh=>λw G2 cx=>?_)
 rw [if_neg (of_decide_eq_false h)] at e0
 refine (a65 hq hI hs hn).toB (R:=R++G) (cx.re (by simp)) ?_
 clear cx
 refine Br.intro (λh=>λw G2 cx=>same 0 (by rw [e0,if_pos h]) cx) (λh=>λw G2 cx=>⟨st.dN,λ_=>oK (R:=R++G) (i:=4) cx rfl,?_⟩)
 rw [if_neg (by rw [h];simp)] at e0
 clear cx
 refine Br.intro (λh=>λw G2 cx=>same 4 (by rw [e0,if_pos h]) cx) (λh=>λw G3 cx=>⟨_,_,_,oK (R:=R++G) (i:=5) cx rfl,λw G3 cx=>?_⟩)
 rw [if_neg (by rw [h];simp)] at e0
 have b7G:Has Φ (λM w=>Sl M w q.ap st.aside):=⟨λM w h=>(hF.go M w h).2.2⟩
 refine a2V (R:=R++G) (L:=st.aside) (b:=b) hq hs hn (by omega) cx λq1 hsb hq1 st1=>?_
 clear cx
 rw [<-hsb]
 obtain ⟨s1,hs1⟩:∃ s1,nY st b st.aside=s1:=⟨_,rfl⟩
 rw [hs1] at hq1 st1 e0 ⊢
 refine λw G3 cx=>⟨a5m (q:=q1) (st:=s1) (S:=(R++G)++G3) (cx.re (by simp)) (by decide),λw2 F3=>?_⟩
 have c2:=a5l (q:=q1) (st:=s1) (S:=(R++G)++G3) (cx.re (by simp)) F3
 refine ⟨.blk q1.sb [.int .i64 s1.kind,.slice q1.kp s1.key.length q1.kc,.slice q1.bp s1.dZ.length q1.bc,.slice q1.lp s1.lines.length q1.lc,.int .i64 0,.slice q1.ap s1.aside.length q1.ac] 92 :: wU q1.bp q1.bc s1.dZ :: cR q1.lp s1.lines.length q1.lc q1.cs :: (R++G),_,st1,c2,λw G4 cx=>⟨cx.can 0 rfl (by show 5+1<=6;decide),λw3 hw3=>?_⟩⟩
 have c4:=cx.put 0 hw3 rfl
 obtain ⟨q2,gG⟩:∃ q2:KP,q2=⟨q1.sb,q1.kp,q1.kc,q1.bp,q1.bc,q1.lp,q1.lc,q1.cs,none,0⟩:=⟨_,rfl⟩
 obtain ⟨pZ,tU⟩:∃ pZ:j0,pZ={ s1 with dN:=0,aside:=[] }:=⟨_,rfl⟩
 rw [<-tU] at e0
 have c7:Ctx W w3 ((dP q2 pZ++R)++(G++G4)) (λM w=>Φ M w/\nF q2 pZ M w):=by
  rw [gG,tU]
  have c8:=c4.weak (Ψ:=λM w=>Φ M w/\nF ⟨q1.sb,q1.kp,q1.kc,q1.bp,q1.bc,q1.lp,q1.lc,q1.cs,none,0⟩ { s1 with dN:=0,aside:=[] } M w) λM w h=>⟨h.1,h.2.1,h.2.2.1,λi hi=>absurd hi (by simp)⟩
  exact c8.re (by simp)
 have KR:AX q2 pZ:=OL (S:=R++(G++G4)) (c7.re (by simp)) (by rw [gG,tU];exact hq1.aBw) (by rw [gG,tU];exact ⟨Nat.le_refl _,Nat.zero_le _⟩)
 rw [e0] at hk
 exact ⟨dP q2 pZ++(R++G),_,inferInstance,c7.re (by simp),λw G6 cx=>⟨0,rfl,dP q2 pZ++R,_,inferInstance,(cx.left).re (by simp),hk q2 (by rw [gG];exact hsb) KR inferInstance⟩⟩
set_option maxHeartbeats 2000000 in
theorem a2W [aA Φ] {b:Int} [hF:Has Φ (nF q st)] [hL:Has Φ (λM w=>Sl M w p L)] (hq:AX q st) (hI:WX st) {n:Nat} (hs:KZ st n) (hn:n<=400000) (hlen:L.length<=400000) (c:Ctx W w ((dP q st++R)++G) Φ) {K:Int->List Own->PW->Prop}
  (hk:∀ q':KP,q'.sb=q.sb->AX q' (jV st b L).2->aA (λM w=>Φ M w/\nF q' (jV st b L).2 M w)->K (jV st b L).1 (dP q' (jV st b L).2++R) (λM w=>Φ M w/\nF q' (jV st b L).2 M w)) :
  Calls Tryz.prog F.mU #[snk q,.int .i64 b,.slice p L.length cap] w λe w'=>∃ n,e=.returned (.int .i64 n)/\∃ R' aF,aA aF/\Ctx W w' (R'++G) aF/\K n R' aF:=by
 refine (CX q.sb 0 b p L.length cap (R:=(dP q st++R)++G) (J:=λv w'=>∃ n,v=.int .i64 n/\∃ R' aF,aA aF/\Ctx W w' (R'++G) aF/\K n R' aF) c ?_).mono λe w' ⟨v,he,n,hv,rest⟩=>⟨n,by rw [he,hv],rest⟩
 clear c
 have same:∀ (m:Int),jV st b L=(m,st)->∀ {w:World} {G2:List Own},Ctx W w ((dP q st++(R++G))++G2) Φ->∃ n,Value.int .i64 m=.int .i64 n/\∃ R' aF,aA aF/\Ctx W w (R'++G) aF/\K n R' aF:=λm h {w G2} cx=>by
  have:=hk q rfl
  rw [h] at this
  exact ⟨m,rfl,dP q st++R,_,inferInstance,((cx.left).re (by simp)).weak λM w h=>⟨h,hF.go M w h⟩,this hq inferInstance⟩
 refine λw G2 cx=>⟨st.kind,cx.get 0 rfl rfl,?_⟩
 clear cx
 have e0:jV st b L=if st.kind=0 then (7,st) else if ML st b=true then (0,st) else if rZ st b L≠0 then (rZ st b L,st) else (0,nY st b L):=rfl
 refine Br.intro (λh=>λw G2 cx=>same 7 (by rw [e0,if_pos (of_decide_eq_true h)]) (G2:=G2) (cx.re (by simp))) (λh=>λw G2 cx=>?_)
 rw [if_neg (of_decide_eq_false h)] at e0
 refine (a65 hq hI hs hn).toB (R:=R++G) (cx.re (by simp)) ?_
 clear cx
 refine Br.intro (λh=>λw G2 cx=>same 0 (by rw [e0,if_pos h]) cx) (λh=>λw G2 cx=>?_)
 rw [if_neg (by rw [h];simp)] at e0
 refine (a7j hq hs hn hlen).WW (R:=R++G) cx ?_
 clear cx
 refine Br.intro (λh=>λw G2 cx=>same _ (by rw [e0,if_pos (of_decide_eq_true h)]) cx) (λh=>λw G2 cx=>?_)
 rw [if_neg (of_decide_eq_false h)] at e0
 obtain ⟨_,_,g3,_⟩:=look_ok (of_decide_eq_false h)
 refine (YO (l:=L) (by omega) λx hx=>by have:=GZ (OI (g3 x hx)).2.2.1;omega).to cx λp1 c1 f1 f2 st1=>?_
 clear cx
 have hF2:Has (λM w=>Φ M w/\Sl M w p1 L) (nF q st):=⟨λM w h=>hF.go M w h.1⟩
 refine λw G3 cx=>a2V (Φ:=λM w=>Φ M w/\Sl M w p1 L) (R:=R++G) (L:=L) (b:=b) hq hs hn hlen cx λq1 hsb hq1 pZ=>?_
 rw [e0] at hk
 exact λw G6 cx=>⟨0,rfl,dP q1 (nY st b L)++R,_,inferInstance,((cx.left).re (by simp)).weak λM w h=>⟨h.1.1,h.2⟩,hk q1 hsb hq1 inferInstance⟩
end
end Go.Proofs.YtfccagphnfceiaaGreatDoor
end

section
namespace Go.Proofs.YtfccagphnfceiaaGreatDoor
open Go.Vc
structure OpD where
 op:Int
 batch:Int
 l:List aM
instance:Gv OpD:=Gv.via (β:=Int × Int × List aM) (λx=>(x.op,x.batch,x.l)) (λy=>⟨y.1,y.2.1,y.2.2⟩) (λ_=>rfl)
abbrev OpD.cells (x:OpD) (p:Option Addr) (c:Nat):List Value:=[.int .i64 x.op,.int .i64 x.batch,.slice p x.l.length c]
section
variable {Φ:PW} {W w:World} {R S G:List Own} {p r:Option Addr} {cap cap2:Nat}
end
def tD (x y:aM):Bool:=decide (x.no=y.no)&&decide (x.batch=y.batch)&&decide (x.time=y.time)&&decide (x.n=y.n)&&decide (x.iR=y.iR)&&decide (x.why=y.why)&&decide (rY x.row y.row=0)
theorem UQ (x:aM):tD x x=true:=by unfold tD;simp [U2.refl]
theorem a2X {x y:aM} (h:tD x y=true):x=y:=by
 unfold tD at h
 simp only [Bool.and_eq_true,decide_eq_true_eq] at h
 obtain ⟨⟨⟨⟨⟨⟨h1,h2⟩,h3⟩,h4⟩,h5⟩,h6⟩,h7⟩:=h
 have h7:=(U2.eq _ _).1 h7
 cases x;cases y
 simp_all
instance:DecidableEq aM:=λx y=>decidable_of_iff (tD x y=true) ⟨a2X,λh=>h ▸ UQ x⟩
theorem a9b (x y:aM):tD x y=decide (x=y):=by
 cases h:tD x y with
 | true=>exact (decide_eq_true (a2X h)).symm
 | false=>exact (decide_eq_false λe=>by rw [e,UQ] at h;cases h).symm
theorem aGg {a b:List aM} {i:Nat} (ha:i<a.length) (hb:i<b.length):decide (a.drop i=b.drop i)=(tD a[i] b[i]&&decide (a.drop (i+1)=b.drop (i+1))):=by
 rw [List.drop_eq_getElem_cons ha,List.drop_eq_getElem_cons hb,a9b,<-Bool.decide_and]
 exact decide_eq_decide.2 (by rw [List.cons.injEq])
section
variable {Φ:PW} {W w:World} {R S G:List Own} {p r:Option Addr} {cap cap2:Nat}
theorem a5n [aA Φ] {a b:List cG} [hA:Has Φ (λM w=>Sl M w p a)] [hB:Has Φ (λM w=>Sl M w r b)] (hlen:a.length<=1000000):aU Φ Tryz.prog F.oE #[.slice p a.length cap,.slice r b.length cap2] (.bool (decide (rY a b=0))) :=
 dS (E4 p a.length cap r b.length cap2) λW R=>λw G cx=>(RL p r cap cap2 a b hA.go hB.go (by omega)).WW cx λw G cx=>⟨rfl,cx.left⟩
set_option maxHeartbeats 1000000 in
theorem X4 [aA Φ] {a b:List aM} {cs ds:List Value} (aK3:Src [] Φ p a cs) (aK4:Src [] Φ r b ds) (hca:YU cs a) (hcb:YU ds b) (hlen:a.length<=1000000) (hrow:∀ x∈a,x.row.length<=1000000) :
  aU Φ Tryz.prog F.fA #[.slice p a.length cap,.slice r b.length cap2] (.bool (decide (a=b))):=by
 refine dS (xZ p a.length cap r b.length cap2) λW R=>Br.intro (λh=>λw G cx=>⟨?_,cx.left⟩) (λh=>?_)
 ·rw [decide_eq_false λe=>of_decide_eq_true h (by rw [e])]
 have hab:a.length=b.length:=by have:=Decidable.not_not.1 (of_decide_eq_false h);omega
 refine bY (λn1 R' aF k=>∃ i:Nat,n1=i/\i<=a.length/\R'=R/\aF=Φ/\k=a.length - i/\decide (a=b)=decide (a.drop i=b.drop i)) ⟨⟨R,Φ,_,inferInstance,λw F c=>c,0,rfl,Nat.zero_le _,rfl,rfl,rfl,rfl⟩,?_⟩
 rintro n1 R1 bH k _ ⟨i,rfl,hi,rfl,rfl,rfl,hs⟩
 refine Br.intro (λhlt=>?_) (λhge=>λw G cx=>⟨?_,cx.left⟩)
 ·have hlt:i<a.length:=by have:=of_decide_eq_true hlt;omega
  have hlb:i<b.length:=by omega
  obtain ⟨b1,o1,hp⟩:=aK3.ptr (by omega)
  obtain ⟨b2,o2,hr⟩:=aK4.ptr (by omega)
  obtain ⟨ra,rca,hea,_,_,_⟩:=hca i hlt
  obtain ⟨rb,rcb,heb,_,_,_⟩:=hcb i hlb
  have hA:Has bH (λM w=>Sl M w ra a[i].row):=⟨λM w h=>UO aK3 hlt hea h⟩
  have hB:Has bH (λM w=>Sl M w rb b[i].row):=⟨λM w h=>UO aK4 hlb heb h⟩
  rw [aGg hlt hlb] at hs
  have stop:tD a[i] b[i]=false->∀ {w:World} {G:List Own},Ctx W w (R1++G) bH->Value.bool false=.bool (decide (a=b))/\Ctx W w R1 bH:=λh {w G} cx=>⟨by rw [hs,h,Bool.false_and],cx.left⟩
  refine ⟨by omega,aJ b1 o1 hp λw G cx=>⟨a[i].no,a[i].batch,a[i].time,ra,a[i].row.length,rca,a[i].n,a[i].iR,a[i].why,by rw [Int.toNat_natCast];exact OQ (S:=[]) aK3 hp cx hea,λ_=>⟨by omega,aJ b2 o2 hr λw G cx=>⟨b[i].no,b[i].batch,b[i].time,rb,b[i].row.length,rcb,b[i].n,b[i].iR,b[i].why,by rw [Int.toNat_natCast];exact OQ (S:=[]) aK4 hr cx heb,λ_=>?_⟩⟩⟩⟩
  clear cx
  refine Br.intro (λh=>λw G cx=>stop (by unfold tD;rw [decide_eq_false (of_decide_eq_true h)];rfl) cx) (λg1=>?_)
  refine Br.intro (λh=>λw G cx=>stop (by unfold tD;rw [decide_eq_false (p:=a[i].batch=b[i].batch) (of_decide_eq_true h)];simp) cx) (λg2=>?_)
  refine Br.intro (λh=>λw G cx=>stop (by unfold tD;rw [decide_eq_false (p:=a[i].time=b[i].time) (of_decide_eq_true h)];simp) cx) (λg3=>?_)
  refine Br.intro (λh=>λw G cx=>stop (by unfold tD;rw [decide_eq_false (p:=a[i].n=b[i].n) (of_decide_eq_true h)];simp) cx) (λg4=>?_)
  refine Br.intro (λh=>λw G cx=>stop (by unfold tD;rw [decide_eq_false (p:=a[i].iR=b[i].iR) (of_decide_eq_true h)];simp) cx) (λg5=>?_)
  refine Br.intro (λh=>λw G cx=>stop (by unfold tD;rw [decide_eq_false (p:=a[i].why=b[i].why) (of_decide_eq_true h)];simp) cx) (λg6=>λw G cx=>(a5n (a:=a[i].row) (b:=b[i].row) (hrow _ (List.getElem_mem _))).toB cx ?_)
  clear cx
  have hse:tD a[i] b[i]=decide (rY a[i].row b[i].row=0):=by
   unfold tD
   rw [decide_eq_true (Decidable.not_not.1 (of_decide_eq_false g1)),decide_eq_true (Decidable.not_not.1 (of_decide_eq_false g2)),decide_eq_true (Decidable.not_not.1 (of_decide_eq_false g3)),decide_eq_true (Decidable.not_not.1 (of_decide_eq_false g4)),decide_eq_true (Decidable.not_not.1 (of_decide_eq_false g5)),decide_eq_true (Decidable.not_not.1 (of_decide_eq_false g6))]
   rfl
  rw [<-hse]
  refine Br.intro (λh=>λw G cx=>stop (by simpa using h) cx) (λh=>⟨by unfold aR;omega,R1,bH,a.length - (i+1),inferInstance,λw G cx=>cx,⟨i+1,rfl,hlt,rfl,rfl,rfl,?_⟩,by omega⟩)
  have h:tD a[i] b[i]=true:=by simpa using h
  rw [hs,h,Bool.true_and]
 ·have hge:i=a.length:=by have:=of_decide_eq_false hge;omega
  rw [hs,hge,List.drop_length,hab,List.drop_length]
  rfl
theorem a07 [aA Φ] {a b:List aM} [hA:Has Φ (λM w=>Sl M w p a)] [hB:Has Φ (λM w=>Sl M w r b)] (hlen:a.length<=1000000) (hrow:∀ x∈a,x.row.length<=1000000) :
  aU Φ Tryz.prog F.fA #[.slice p a.length cap,.slice r b.length cap2] (.bool (decide (a=b))) :=
 ⟨λW w S c=>by
  have K4:=(hA.go _ _ c.gW).there
  have aKW:=(hB.go _ _ c.gW).there
  obtain ⟨cs,c1⟩:=QC c (hA.go _ _ c.gW)
  obtain ⟨ds,c2⟩:=QC c1 (hB.go _ _ c.gW)
  exact (X4 (Φ:=λM w=>(Φ M w/\yV p a cs M w)/\yV r b ds M w) (uU (Φ:=λM w=>(Φ M w/\yV p a cs M w)/\yV r b ds M w) K4 (λM w h=>h.1.2)) (uU (Φ:=λM w=>(Φ M w/\yV p a cs M w)/\yV r b ds M w) aKW (λM w h=>h.2)) (a2U c2.gW.1.2.2) (a2U c2.gW.2.2) hlen hrow).use c2 λw' c=>⟨rfl,c.fst.fst⟩⟩
end
end Go.Proofs.YtfccagphnfceiaaGreatDoor
end

section
namespace Go.Proofs.YtfccagphnfceiaaGreatDoor
open Go.Vc
def aHZ (s:j0):Prop:=s.dN≠0->s.kind=0/\yF s<s.dN
theorem aHZ.ok {s:j0} (h:aHZ s):aBx s:=λh0=>(h h0).2
theorem KZ.up {s:j0} {n m:Nat} (h:KZ s n) (hm:n<=m):KZ s m:=⟨by have:=h.dZ;omega,by have:=h.lines;omega,by have:=h.aside;omega,by have:=h.key;omega⟩
inductive Hid (k:Int) (s:j0) (b:Int) (L:List aM):Prop
 | dN (hk:k<2) (hh:ML s b=false) (e:opK k s b L=(0,{ s with dN:=b,aside:=L }))
 | comm (hk:k=2) (hh:ML s b=false) (h1:1<=b) (hb:b=s.dN) (e:opK k s b L=(0,{ nY s b s.aside with dN:=0,aside:=[] }))
 | abort (hk:k=3) (hb:b=s.dN) (e:opK k s b L=(0,{ s with dN:=0,aside:=[] }))
 | none (e:(opK k s b L).2=s) (h:(opK k s b L).1=0->ML s b=true) (h3:k=3->(opK k s b L).1≠0)
end Go.Proofs.YtfccagphnfceiaaGreatDoor
end

section
namespace Go.Proofs.YtfccagphnfceiaaGreatDoor
open Go.Vc
def J0 (x:aM):ByteArray:=cH x.batch++cH x.time++gM (D0 x.row)++cH x.n++cH x.iR++cH x.why
def UR (l:List aM):List UInt8:=l.flatMap λx=>(J0 x).data.toList
structure wI (x:aM):Prop where
 NR:x.In
 val:∀ v∈x.row,(aR v.kind/\aR v.num)/\v.text.size<=200
 row:x.row.length<=12
theorem KD {r:List cG} (h1:r.length<=12) (h2:∀ v∈r,(aR v.kind/\aR v.num)/\v.text.size<=200):(D0 r).size<=3189:=by
 have hL:=a2D h2 (by decide) (by omega)
 have:r.length*(200+64)<=12*264:=Nat.mul_le_mul h1 (Nat.le_refl _)
 unfold D0
 rw [r3];omega
theorem US {x:aM} (h:wI x):(J0 x).size<=3330:=by
 have h0:=cT h.NR.batch
 have h1:=cT h.NR.time
 have h2:=cT h.NR.n
 have h3:=cT h.NR.iR
 have h4:=cT h.NR.why
 have h5:=KD h.row h.val
 have h6:=nZ (s:=D0 x.row) (by omega)
 unfold J0
 rw [aZ,aZ,aZ,aZ,aZ];omega
theorem UT:∀ {l:List aM},(∀ x∈l,wI x)->(UR l).length<=l.length*3330
 | [],_=>by simp [UR]
 | x :: l,h=>by
  have ih:=UT (l:=l) λy hy=>h y (by simp [hy])
  have hx:=US (h x (by simp))
  show ((J0 x).data.toList++UR l).length<=_
  rw [List.length_append,fB,List.length_cons,Nat.add_mul];omega
theorem a2Y {r:List cG} (h:eD r=true):∀ v∈r,v.text.size<=200:=λv hv=>a2T h v hv
structure SkW (s:j0):Prop where
 kind:aR s.kind
 dN:aR s.dN
 key:∀ x∈s.key,aR x
 dZ:∀ x∈s.dZ,aR x
 lines:∀ x∈s.lines,wI x
 aside:∀ x∈s.aside,wI x
theorem a2Z {M:List Nat} {w:World} {cs:List Value} {l:List aM} (h:aQ M w cs l) (hr:∀ x∈l,eD x.row=true):∀ x∈l,wI x:=λx hx=>by
 have hrx:=hr x hx
 obtain ⟨i,hi,rfl⟩:=List.getElem_of_mem hx
 obtain ⟨r,rc,he,h1,h2,h3,h4⟩:=a8J h hi
 exact ⟨h3,λv hv=>⟨(aBC h4 v hv).1,a2Y hrx v hv⟩,GZ hrx⟩
theorem aCb {M:List Nat} {w:World} {p:Option Addr} {l:List aM} (h:Sl M w p l) (hr:∀ x∈l,eD x.row=true):∀ x∈l,wI x:=by
 rcases Nat.eq_zero_or_pos l.length with h0|h0
 ·rw [List.eq_nil_of_length_eq_zero h0];exact λx hx=>by simp at hx
 ·obtain ⟨b,o,news,hp,g1,g2,g3,g4⟩:=h.cells U9 h0
  exact a2Z g3 hr
theorem jU.in {Φ:PW} {P:Program} {f:FuncId} {args:Array Value} {v:Value} (h:jU [] Φ P f args v):aU Φ P f args v:=⟨λW w S c=>h.go W w S c⟩
section
variable {Φ:PW} {q:KP} {st:j0} {W w:World} {R S G:List Own} {p:Option Addr} {cap:Nat}
end
end Go.Proofs.YtfccagphnfceiaaGreatDoor
end

section
namespace Go.Vc
def QF (g:Nat):PW:=λM w=>g ∉ M/\∃ ev,w.cell? ⟨g,0,none⟩=some ev/\(ev=.nilIface\/∃ te pe,ev=.iface te pe)
instance aAn (g:Nat):aA (QF g):=⟨fun {M M' w w'} hs ⟨h1,ev,h2,h3⟩=>by
 have hlt:g<w.heap.size:=by
  rcases Nat.lt_or_ge g w.heap.size with h'|h'
  ·exact h'
  ·simp [World.cell?,Array.getElem?_eq_none h'] at h2
 refine ⟨λhm=>?_,ev,hs.XO.cell h2 h1,h3⟩
 rcases hs.sub g hm with h|h
 ·exact h1 h
 ·omega⟩
theorem OR {w w':World} (h:Go.RowKit.Below w.heap.size w w'):kD [] w w':=⟨h.os,h.tape,h.output,h.size,λk hk _=>h.block k hk⟩
theorem X5 {P:Program} {op:BinOp} {t:TypeId} {ox oy:Operand} {u:TypeId} {v:Value} (w:World):(eqGuard op t ox oy (.iface u v) .nilIface).run P w=.ok () w:=by
 unfold eqGuard
 cases op<;>rfl
theorem a22 {P:Program} {op:BinOp} {t:TypeId} {k:Nat} {v:Value} (w:World):(eqGuard op t (.tmp k) (.const v) .nilIface .nilIface).run P w=.ok () w:=by
 unfold eqGuard
 cases op<;>rfl
theorem aGh {P:Program} {op:BinOp} {t t':TypeId} {k:Nat} {v:Value} (ht:P.isIface t'=true) (w:World):((eqGuard op t (.tmp k) (.const v) .nilIface .nilIface) >>= λ_=>binOp .neq t' .nilIface .nilIface).run P w=.ok (.bool false) w:=by
 rw [Sem.run_bind,a22]
 exact Go.run_neq_nil_nil_at w t' ht
theorem aGi {P:Program} {op:BinOp} {t t':TypeId} {ox oy:Operand} {u:TypeId} {v:Value} (ht:P.isIface t'=true) (w:World):((eqGuard op t ox oy (.iface u v) .nilIface) >>= λ_=>binOp .neq t' (.iface u v) .nilIface).run P w=.ok (.bool true) w:=by
 rw [Sem.run_bind,X5]
 exact Go.run_neq_iface_nil w t' ht u v
end Go.Vc
namespace Go.Proofs.YtfccagphnfceiaaGreatDoor
open Go.Vc
def EH:PW:=λM w=>RI M w/\QF 3 M w/\QF 4 M w
instance aCc:aA EH:=cU RI (λM w=>QF 3 M w/\QF 4 M w)
def bs (l:List UInt8):ByteArray:=⟨l.toArray⟩
theorem wY (l:List UInt8):(bs l).data.toList=l:=rfl
theorem aT (l:List UInt8):(bs l).size=l.length:=r3 l
theorem AQ (l:List UInt8) (a b:Nat):(bs l).extract a b=bs ((l.drop a).take (b - a)):=by
 apply ByteArray.ext
 apply Array.toList_inj.1
 rw [ByteArray.data_extract,Array.toList_extract]
 rfl
theorem a08 {a b:List UInt8}:bs a=bs b ↔ a=b:=⟨λh=>by have:=congrArg (λx=>x.data.toList) h;exact this,λh=>by rw [h]⟩
theorem aH0 (s:ByteArray):bs s.data.toList=s:=rfl
abbrev iK:=List UInt8 × Bool
def q8 (e:UInt8) (least:Int) (l:List UInt8):Option (Int × List UInt8) :=
 let i:=Lib.indexByte (l.take 21) e
 if i<0 then none else match Lib.atoiAll (l.take i.toNat) with
  | .ok n=>if Lib.itoa n=l.take i.toNat/\least<=n then some (n,l.drop (i.toNat+1)) else none
  | _=>none
def bR (e:UInt8) (least:Int) (st:iK):Int × iK:=match q8 e least st.1 with
 | some (n,r)=>(n,(r,st.2))
 | none=>(0,([],true))
def oT (c:UInt8) (st:iK):iK:=match st.1 with
 | []=>([],true)
 | x :: r=>if x=c then (r,st.2) else ([],true)
def stepT (st:iK):ByteArray × iK :=
 let a:=bR 58 0 st
 if (a.2.1.length:Int)<a.1 then (ByteArray.mk #[],([],true)) else
  let c:=oT 44 (a.2.1.drop a.1.toNat,a.2.2)
  (if c.2 then ByteArray.mk #[] else bs (a.2.1.take a.1.toNat),c)
theorem a23 {l r:List UInt8} {i:Nat} {e:UInt8} (h:l.take i++e :: r=l) (hi:i<l.length):l[i]? = some e:=by
 have hl:(l.take i).length=i:=by rw [List.length_take];omega
 rw [<-h,List.getElem?_append_right (by omega),hl,Nat.sub_self]
 rfl
theorem OS:∀ (l:List UInt8) (c:UInt8),-1<=Lib.indexByte l c/\(Lib.indexByte l c = -1\/(0<=Lib.indexByte l c/\Lib.indexByte l c<l.length/\l.take (Lib.indexByte l c).toNat++c :: l.drop ((Lib.indexByte l c).toNat+1)=l/\c ∉ l.take (Lib.indexByte l c).toNat))
 | [],c=>by simp [Lib.indexByte]
 | b :: l,c=>by
  have ih:=OS l c
  unfold Lib.indexByte
  by_cases hb:(b == c)=true
  ·rw [if_pos hb]
   have:b=c:=by simpa using hb
   subst this
   refine ⟨by omega,.inr ⟨by omega,by simp,by simp,by simp⟩⟩
  ·rw [if_neg hb]
   by_cases h1:(Lib.indexByte l c == -1)=true
   ·rw [if_pos h1];exact ⟨by omega,.inl rfl⟩
   ·rw [if_neg h1]
    have h1:Lib.indexByte l c ≠ -1:=by simpa using h1
    obtain ⟨h2,h3⟩:=ih
    rcases h3 with h3|⟨h3,h4,h5,h6⟩
    ·exact absurd h3 h1
    ·have e:(Lib.indexByte l c+1).toNat=(Lib.indexByte l c).toNat+1:=by omega
     refine ⟨by omega,.inr ⟨by omega,by simp;omega,?_,?_⟩⟩
     ·rw [e,List.take_succ_cons,List.drop_succ_cons,List.cons_append,h5]
     ·rw [e,List.take_succ_cons,List.mem_cons,not_or]
      exact ⟨λe=>hb (by simp [e]),h6⟩
theorem a25 {l:List UInt8} {c:UInt8} {a r:List UInt8} (hl:l=a++c :: r) (hc:c ∉ a):Lib.indexByte l c=a.length:=by
 subst hl
 induction a with
 | nil=>simp [Lib.indexByte]
 | cons b a ih =>
  have hb:b≠c:=λe=>hc (by simp [e])
  have ih:=ih λh=>hc (by simp [h])
  rw [List.cons_append]
  unfold Lib.indexByte
  rw [if_neg (by simpa using hb),if_neg (by rw [ih];simp),ih]
  simp
theorem oL:∀ (u:Nat),∀ c∈Lib.decDigits u,48<=c.toNat/\c.toNat<=57:=by
 intro u
 induction u using Nat.strongRecOn with
 | _ u ih =>
  intro c hc
  rw [Lib.decDigits] at hc
  split at hc
  ·rename_i h
   rw [List.mem_singleton] at hc
   subst hc
   have:(UInt8.ofNat (48+u)).toNat=48+u:=by simp;omega
   omega
  ·rename_i h
   rcases List.mem_append.1 hc with hc|hc
   ·exact ih (u / 10) (by omega) c hc
   ·rw [List.mem_singleton] at hc
    subst hc
    have:(UInt8.ofNat (48+u % 10)).toNat=48+u % 10:=by simp;omega
    omega
theorem UU {n:Int} {c:UInt8} (h:c∈Lib.itoa n):c.toNat=45\/48<=c.toNat/\c.toNat<=57:=by
 unfold Lib.itoa at h
 split at h
 ·rcases List.mem_cons.1 h with rfl|h
  ·left;rfl
  ·right;exact oL _ c h
 ·right;exact oL _ c h
def D3 (acc:Nat) (l:List UInt8):Nat:=l.foldl (λa c=>a*10+(c.toNat - 48)) acc
theorem OU (acc:Nat) (l:List UInt8) (c:UInt8):D3 acc (l++[c])=D3 acc l*10+(c.toNat - 48):=by simp [D3]
theorem MU:∀ u:Nat,D3 0 (Lib.decDigits u)=u:=by
 intro u
 induction u using Nat.strongRecOn with
 | _ u ih =>
  rw [Lib.decDigits]
  split
  ·rename_i h
   show 0*10+((UInt8.ofNat (48+u)).toNat - 48)=u
   have:(UInt8.ofNat (48+u)).toNat=48+u:=by simp;omega
   omega
  ·rename_i h
   rw [OU,ih (u / 10) (by omega)]
   have:(UInt8.ofNat (48+u % 10)).toNat=48+u % 10:=by simp;omega
   omega
theorem OV:∀ (l:List UInt8) (acc:Nat),acc<=D3 acc l
 | [],acc=>Nat.le_refl _
 | c :: l,acc=>by
  have:=OV l (acc*10+(c.toNat - 48))
  show acc<=D3 (acc*10+(c.toNat - 48)) l
  omega
theorem YV:∀ (l:List UInt8) (acc:Nat),(∀ c∈l,48<=c.toNat/\c.toNat<=57)->D3 acc l<18446744073709551616->Lib.parseUint10 acc l=.ok (D3 acc l)
 | [],acc,_,_=>rfl
 | c :: l,acc,hc,h=>by
  have h0:=hc c (by simp)
  have hm:=OV l (acc*10+(c.toNat - 48))
  have e:D3 acc (c :: l)=D3 (acc*10+(c.toNat - 48)) l:=rfl
  rw [e] at h ⊢
  unfold Lib.parseUint10
  rw [if_pos h0,if_neg (by omega),if_neg (by omega)]
  exact YV l _ (λd hd=>hc d (by simp [hd])) h
theorem aCd (u:Nat):Lib.decDigits u≠[]:=by
 intro e
 have h1:=Lib.decDigits_length u
 have h2:=Lib.nDigits_pos u
 rw [e] at h1
 simp at h1
 omega
theorem a7k {u:Nat} (h:u<18446744073709551616):Lib.parseMag (Lib.decDigits u)=.ok u:=by
 unfold Lib.parseMag
 rw [if_neg (aCd u),YV _ 0 (oL u) (by rw [MU];exact h),MU]
theorem a9c {n:Int} (h:aR n):Lib.atoiAll (Lib.itoa n)=.ok n:=by
 unfold aR at h
 unfold Lib.itoa
 split
 ·rename_i hn
  have hm:=a7k (u:=n.natAbs) (by omega)
  unfold Lib.atoiAll
  simp only
  rw [if_pos (.inr rfl),hm]
  simp only
  have e45:(45:UInt8).toNat=45:=rfl
  rw [if_neg (by intro h;exact h.1 e45),if_neg (by intro h;omega),if_pos e45]
  congr 1
  omega
 ·rename_i hn
  have hm:=a7k (u:=n.toNat) (by omega)
  obtain ⟨c,r,hcr⟩:∃ c r,Lib.decDigits n.toNat=c :: r:=by
   cases hd:Lib.decDigits n.toNat with
   | nil=>exact absurd hd (aCd _)
   | cons c r=>exact ⟨c,r,rfl⟩
  have h0:=oL n.toNat c (by rw [hcr];simp)
  rw [hcr] at hm ⊢
  unfold Lib.atoiAll
  simp only
  rw [if_neg (by omega),hm]
  simp only
  rw [if_neg (by omega),if_neg (by omega),if_neg (by omega)]
  congr 1
  omega
theorem iL {e:UInt8} (he:e.toNat=58\/e.toNat=59\/e.toNat=91) {least:Int} {l:List UInt8} {n:Int} {r:List UInt8}:q8 e least l=some (n,r) ↔ (aR n/\least<=n)/\l=Lib.itoa n++e :: r:=by
 have hne:∀ n:Int,e ∉ Lib.itoa n:=λn h=>by have:=UU h;omega
 constructor
 ·intro h
  unfold q8 at h
  simp only at h
  split at h
  ·cases h
  ·rename_i hi
   split at h
   ·rename_i m hm
    split at h
    ·rename_i hc
     cases h
     have hb:=Lib.atoiAll_bounds hm
     obtain ⟨_,h3⟩:=OS (l.take 21) e
     rcases h3 with h3|⟨h3,h4,h5,h6⟩
     ·omega
     ·refine ⟨⟨by unfold aR;omega,hc.2⟩,?_⟩
      rw [hc.1]
      have hlt:(Lib.indexByte (l.take 21) e).toNat<(l.take 21).length:=by omega
      have aGj:(Lib.indexByte (l.take 21) e).toNat<l.length:=by rw [List.length_take] at hlt;omega
      have hg:l[(Lib.indexByte (l.take 21) e).toNat]=e:=by
       have h7:(l.take 21)[(Lib.indexByte (l.take 21) e).toNat]? = some e:=a23 h5 (by omega)
       rw [List.getElem?_take_of_lt (by rw [List.length_take] at hlt;omega),List.getElem?_eq_getElem aGj] at h7
       exact Option.some.inj h7
      conv=>lhs;rw [<-List.take_append_drop (Lib.indexByte (l.take 21) e).toNat l,List.drop_eq_getElem_cons aGj,hg]
    ·cases h
   ·cases h
 ·rintro ⟨⟨h1,h2⟩,rfl⟩
  have hlen:=yG h1
  have ht:(Lib.itoa n++e :: r).take 21=Lib.itoa n++e :: r.take (20 - (Lib.itoa n).length):=by
   rw [List.take_append,List.take_of_length_le (by omega)]
   congr 1
   rw [show 21 - (Lib.itoa n).length=(20 - (Lib.itoa n).length)+1 by omega,List.take_succ_cons]
  have hi:=a25 ht (hne n)
  unfold q8
  simp only
  rw [hi,if_neg (by omega),Int.toNat_natCast,List.take_left',a9c h1]
  ·simp only
   rw [if_pos ⟨by simp,h2⟩]
   congr 2
   rw [List.drop_append,List.drop_of_length_le (by omega),List.nil_append,show (Lib.itoa n).length+1 - (Lib.itoa n).length=1 by omega]
   rfl
  ·rfl
abbrev rd (b:Nat) (st:iK):Own:=.blk b [.string (bs st.1),.bool st.2] 186
section
variable {W w:World} {R G S:List Own} {Φ:PW} {b:Nat} {st:iK}
theorem a26 [aA Φ] (l:List UInt8) (c:Ctx W w S Φ) {K:Ending->World->Prop} (hk:∀ b w',Ctx W w' (rd b (l,false) :: S) Φ->K (.returned (.pointer (some ⟨b,0,none⟩))) w') :
  Calls Tryz.prog F.BC #[.string (bs l)] w K:=by
 refine (TB (bs l) (J:=λu w'=>K (.returned u) w') c ?_).mono λe w' ⟨v,he,hj⟩=>by rw [he];exact hj
 exact λb w G cx=>hk b w (Ctx.left (S:=rd b (l,false) :: S) cx)
theorem aCe [aA Φ] (c:Ctx W w (rd b st :: S) Φ) {K:Ending->World->Prop} (hk:∀ w',Ctx W w' (rd b ([],true) :: S) Φ->K (.returned (.tuple #[])) w') :
  Calls Tryz.prog F.bV #[.pointer (some ⟨b,0,none⟩)] w K:=by
 refine (E3 b 0 (J:=λu w'=>K (.returned u) w') c ?_).mono λe w' ⟨v,he,hj⟩=>by rw [he];exact hj
 refine λw G cx=>⟨cx.can 0 rfl (by simp),λw' hw'=>⟨.blk b [.string (bs []),.bool st.2] 186 :: S,Φ,inferInstance,cx.put 0 hw' rfl,λw G cx=>⟨cx.can 0 rfl (by simp),λw' hw'=>⟨rd b ([],true) :: S,Φ,inferInstance,cx.put 0 hw' rfl,λw G cx=>hk w cx.left⟩⟩⟩⟩
theorem S6 [aA Φ] (c:Ctx W w (rd b st :: S++G) Φ) {K:List Own->PW->Prop} (hk:K (rd b ([],true) :: S) Φ) :
  Calls Tryz.prog F.bV #[.pointer (some ⟨b,0,none⟩)] w λe w'=>e=.returned (.tuple #[])/\∃ R' aF,aA aF/\Ctx W w' (R'++G) aF/\K R' aF :=
 aCe (S:=S++G) c λw' c=>⟨rfl,rd b ([],true) :: S,Φ,inferInstance,c,hk⟩
theorem aGk (s:ByteArray) (c:Int):pS Tryz.prog F.strings_IndexByte #[.string s,.int .u8 c] (.int .i64 (Lib.indexByte s.data.toList c.toNat.toUInt8)) :=
 Quiet.aHO ⟨λw=>Any.strings_IndexByte Tryz.aFS s c w⟩
theorem aGl [aA Φ] (h1:∀ M w,Φ M w->QF 3 M w) (h2:∀ M w,Φ M w->QF 4 M w) (s:ByteArray) (hs:s.size<=1000000) (c:Ctx W w (R++G) Φ) {K1:Int->List Own->PW->Prop} {K2:Int->TypeId->Value->List Own->PW->Prop}
  (k1:∀ n,Lib.atoiAll s.data.toList=.ok n->K1 n R Φ) (k2:∀ n t v,(∀ m,Lib.atoiAll s.data.toList≠.ok m)->K2 n t v R Φ) :
  Calls Tryz.prog F.strconv_Atoi #[.string s] w λe w'=>(∃ n:Int,e=.returned (.tuple #[.int .i64 n,.nilIface])/\∃ R' aF,aA aF/\Ctx W w' (R'++G) aF/\K1 n R' aF) \/
   ∃ (n:Int) (t:TypeId) (v:Value),e=.returned (.tuple #[.int .i64 n,.iface t v])/\∃ R' aF,aA aF/\Ctx W w' (R'++G) aF/\K2 n t v R' aF:=by
 obtain ⟨_,ev,hv,hev⟩:=h1 _ _ c.gW
 obtain ⟨_,er,hr,her⟩:=h2 _ _ c.gW
 cases h:Lib.atoiAll s.data.toList
 ·rename_i n
  refine (Any.strconv_Atoi_ok Tryz.UA s (by omega) n h w).mono λe w' ⟨he,hw⟩=>.inl ⟨n,he,R,Φ,inferInstance,?_,k1 n h⟩
  rcases hw with rfl|⟨t,rfl⟩
  ·exact c
  ·exact c.call (OR (Lib.bytesWorld_below _ _ _))
 ·exact (Any.strconv_Atoi_syntax Tryz.UA s (by omega) h ev w hv hev).mono λe w' ⟨N,he,_,_,hb⟩=>.inr ⟨_,_,_,he,R,Φ,inferInstance,c.call (OR hb),k2 _ _ _ λm hm=>by rw [h] at hm;cases hm⟩
 ·exact (Any.strconv_Atoi_range Tryz.UA s (by omega) h er w hr her).mono λe w' ⟨N,he,_,_,hb⟩=>.inr ⟨_,_,_,he,R,Φ,inferInstance,c.call (OR hb),k2 _ _ _ λm hm=>by rw [h] at hm;cases hm⟩
theorem uC {e:UInt8} {least:Int} (h:q8 e least st.1=none):bR e least st=(0,([],true)):=by unfold bR;rw [h]
theorem D4 {e:UInt8} {least n:Int} {r:List UInt8} (h:q8 e least st.1=some (n,r)):bR e least st=(n,(r,st.2)):=by unfold bR;rw [h]
set_option maxHeartbeats 2000000 in
theorem a5o [aA Φ] (eT:∀ M w,Φ M w->EH M w) (e:Int) (least:Int) (hl:st.1.length<=1000000000000000) (c:Ctx W w (rd b st :: S) Φ) {K:Ending->World->Prop}
  (hk:∀ w',Ctx W w' (rd b (bR e.toNat.toUInt8 least st).2 :: S) Φ->K (.returned (.int .i64 (bR e.toNat.toUInt8 least st).1)) w') :
  Calls Tryz.prog F.fK #[.pointer (some ⟨b,0,none⟩),.int .u8 e,.int .i64 least] w K:=by
 refine (BH b 0 e least (J:=λu w'=>K (.returned u) w') c ?_).mono λe w' ⟨v,he,hj⟩=>by rw [he];exact hj
 clear c
 obtain ⟨l,bad⟩:=st
 simp only at hl
 have hsz:(bs l).size=l.length:=aT l
 have hmin:(min ((bs l).size:Int) 21).toNat=min l.length 21:=by rw [hsz];omega
 have aPK:(bs l).extract 0 (min ((bs l).size:Int) 21).toNat=bs (l.take 21):=by
  rw [hmin,AQ,List.drop_zero,Nat.sub_zero]
  congr 1
  rcases Nat.le_total l.length 21 with h|h
  ·rw [Nat.min_eq_left h,List.take_of_length_le (Nat.le_refl _),List.take_of_length_le h]
  ·rw [Nat.min_eq_right h]
 refine λw G cx=>⟨bs l,cx.get 0 rfl rfl,bs l,cx.get 0 rfl rfl,by omega,λw G cx=>?_⟩
 rw [aPK]
 refine (aGk (bs (l.take 21)) e).in.WW (R:=rd b (l,bad) :: S) cx ?_
 rw [wY]
 obtain ⟨i,hi⟩:∃ i,Lib.indexByte (l.take 21) e.toNat.toUInt8=i:=⟨_,rfl⟩
 obtain ⟨hge,hidx⟩:=OS (l.take 21) e.toNat.toUInt8
 rw [hi] at hge hidx ⊢
 have failK:q8 e.toNat.toUInt8 least l=none->∀ (w:World) (G:List Own),Ctx W w (rd b (l,bad) :: S++G) Φ->Calls Tryz.prog F.bV #[.pointer (some ⟨b,0,none⟩)] w λe w'=>e=.returned (.tuple #[])/\∃ R' aF,aA aF/\Ctx W w' (R'++G) aF/\∀ w F1,Ctx W w (R'++F1) aF->K (.returned (.int .i64 0)) w:=λhn w G cx=>by
  rw [uC (st:=(l,bad)) hn] at hk
  exact S6 (S:=S) cx λw F1 cx=>hk w cx.left
 refine Br.intro (λhneg=>λw G cx=>failK ?_ w G cx) (λhpos=>?_)
 ·unfold q8
  simp only [hi]
  rw [if_pos (of_decide_eq_true hneg)]
 have hpos:=of_decide_eq_false hpos
 rcases hidx with hidx|⟨_,hlt,_,_⟩
 ·omega
 have aGj:i.toNat<(l.take 21).length:=by omega
 have hll:(l.take 21).length<=l.length:=by rw [List.length_take];omega
 have h21:(l.take 21).length<=21:=by rw [List.length_take];omega
 have hhd:(bs (l.take 21)).extract 0 i.toNat=bs (l.take i.toNat):=by
  rw [AQ,List.drop_zero,Nat.sub_zero,List.take_take,Nat.min_eq_left (by omega)]
 refine ⟨⟨by omega,by rw [aT];omega⟩,λw G cx=>?_⟩
 rw [hhd]
 refine aGl (R:=rd b (l,bad) :: S) (λM w h=>(eT M w h).2.1) (λM w h=>(eT M w h).2.2) (bs (l.take i.toNat)) (by rw [aT,List.length_take];omega) cx (λn hn=>?_) (λn t v hn=>?_)
 ·rw [wY] at hn
  have hb:=Lib.atoiAll_bounds hn
  refine ⟨rd b (l,bad) :: S,Φ,inferInstance,λw G cx=>cx,false,λw=>aGh (by decide +kernel) w,Br.intro (λh=>by cases h) (λ_=>⟨⟨by omega,by rw [aT];omega⟩,λw G cx=>?_⟩)⟩
  refine (a67 (λM w h=>(eT M w h).1) n (by unfold aR;omega)).TV cx ⟨λw G cx=>cx,Br.intro (λhne=>λw G cx=>failK ?_ w G cx) (λheq=>Br.intro (λhls=>λw G cx=>failK ?_ w G cx) (λhls=>λw G cx=>?_))⟩
  ·have hne:=of_decide_eq_true hne
   unfold q8
   simp only [hi]
   rw [if_neg (by omega),hn]
   simp only
   rw [if_neg (λh=>hne (by show bs (Lib.itoa n)=_;rw [h.1]))]
  ·unfold q8
   simp only [hi]
   rw [if_neg (by omega),hn]
   simp only
   rw [if_neg (λh=>by have:=of_decide_eq_true hls;omega)]
  ·have heq:Lib.itoa n=l.take i.toNat:=a08.1 (Decidable.not_not.1 (of_decide_eq_false heq))
   have hls:=of_decide_eq_false hls
   have aZl:q8 e.toNat.toUInt8 least l=some (n,l.drop (i.toNat+1)):=by
    unfold q8
    simp only [hi]
    rw [if_neg (by omega),hn]
    simp only
    rw [if_pos ⟨heq,by omega⟩]
   rw [D4 (st:=(l,bad)) aZl] at hk
   have hex:(bs l).extract (i+1).toNat (bs l).size=bs (l.drop (i.toNat+1)):=by
    rw [AQ,hsz,show (i+1).toNat=i.toNat+1 by omega]
    congr 1
    exact List.take_of_length_le (by rw [List.length_drop];omega)
   refine ⟨bs l,cx.get 0 rfl rfl,?_,⟨by omega,by omega,Nat.le_refl _⟩,λw G cx=>⟨cx.can 0 rfl (by simp),λw' hw'=>?_⟩⟩
   ·unfold aR
    omega
   rw [hex] at hw'
   exact ⟨rd b (l.drop (i.toNat+1),bad) :: S,Φ,inferInstance,cx.put 0 hw' rfl,λw G cx=>hk w cx.left⟩
 ·rw [wY] at hn
  refine ⟨[],λ_ _=>True,inferInstance,λw G cx=>(cx.weak λ_ _ _=>trivial).right,true,λw=>?_,Br.intro (λ_=>λw G cx=>failK ?_ w G cx) (λh=>by cases h)⟩
  ·exact aGi (by decide +kernel) w
  ·unfold q8
   simp only [hi]
   rw [if_neg (by omega)]
theorem OW [aA Φ] (eT:∀ M w,Φ M w->EH M w) (e:Int) (least:Int) (hl:st.1.length<=1000000000000000) (c:Ctx W w (rd b st :: S++G) Φ) {K:Int->List Own->PW->Prop}
  (hk:K (bR e.toNat.toUInt8 least st).1 (rd b (bR e.toNat.toUInt8 least st).2 :: S) Φ) :
  Calls Tryz.prog F.fK #[.pointer (some ⟨b,0,none⟩),.int .u8 e,.int .i64 least] w λe w'=>∃ n,e=.returned (.int .i64 n)/\∃ R' aF,aA aF/\Ctx W w' (R'++G) aF/\K n R' aF :=
 a5o (S:=S++G) eT e least hl c λw' c=>⟨_,rfl,_,Φ,inferInstance,c,hk⟩
def aL (st:iK):Int × iK:=bR 59 (-9223372036854775808) st
def dW (st:iK):Int × iK:=bR 59 0 st
theorem a09 [aA Φ] (eT:∀ M w,Φ M w->EH M w) (hl:st.1.length<=1000000000000000) (c:Ctx W w (rd b st :: S++G) Φ) {K:Int->List Own->PW->Prop}
  (hk:K (aL st).1 (rd b (aL st).2 :: S) Φ) :
  Calls Tryz.prog F.bK #[.pointer (some ⟨b,0,none⟩)] w λe w'=>∃ n,e=.returned (.int .i64 n)/\∃ R' aF,aA aF/\Ctx W w' (R'++G) aF/\K n R' aF:=by
 refine (F8 b 0 (J:=λu w'=>∃ n,(Ending.returned u)=.returned (.int .i64 n)/\∃ R' aF,aA aF/\Ctx W w' (R'++G) aF/\K n R' aF) (R:=rd b st :: (S++G)) c ?_).mono λe w' ⟨v,he,hj⟩=>by rw [he];exact hj
 exact λw F1 cx=>OW (S:=S++G) eT 59 _ hl cx λw F1 cx=>⟨_,rfl,_,Φ,inferInstance,cx.left,hk⟩
theorem a7l [aA Φ] (eT:∀ M w,Φ M w->EH M w) (hl:st.1.length<=1000000000000000) (c:Ctx W w (rd b st :: S++G) Φ) {K:Int->List Own->PW->Prop}
  (hk:K (dW st).1 (rd b (dW st).2 :: S) Φ) :
  Calls Tryz.prog F.jB #[.pointer (some ⟨b,0,none⟩)] w λe w'=>∃ n,e=.returned (.int .i64 n)/\∃ R' aF,aA aF/\Ctx W w' (R'++G) aF/\K n R' aF:=by
 refine (F9 b 0 (J:=λu w'=>∃ n,(Ending.returned u)=.returned (.int .i64 n)/\∃ R' aF,aA aF/\Ctx W w' (R'++G) aF/\K n R' aF) (R:=rd b st :: (S++G)) c ?_).mono λe w' ⟨v,he,hj⟩=>by rw [he];exact hj
 exact λw F1 cx=>OW (S:=S++G) eT 59 _ hl cx λw F1 cx=>⟨_,rfl,_,Φ,inferInstance,cx.left,hk⟩
theorem a7m [aA Φ] (c:Ctx W w (rd b st :: S++G) Φ) {K:Int->List Own->PW->Prop} (hk:K st.1.length (rd b st :: S) Φ) :
  Calls Tryz.prog F.kQ #[.pointer (some ⟨b,0,none⟩)] w λe w'=>∃ n,e=.returned (.int .i64 n)/\∃ R' aF,aA aF/\Ctx W w' (R'++G) aF/\K n R' aF:=by
 refine (DZ b 0 (J:=λu w'=>∃ n,(Ending.returned u)=.returned (.int .i64 n)/\∃ R' aF,aA aF/\Ctx W w' (R'++G) aF/\K n R' aF) (R:=rd b st :: (S++G)) c ?_).mono λe w' ⟨v,he,hj⟩=>by rw [he];exact hj
 exact λw F1 cx=>⟨bs st.1,cx.get 0 rfl rfl,λw F1 cx=>⟨st.1.length,by rw [aT],_,Φ,inferInstance,cx.left,hk⟩⟩
def eJ (st:iK):Bool := !st.2&&decide (st.1=[])
theorem a7n [aA Φ] (c:Ctx W w (rd b st :: S++G) Φ) {K:Bool->List Own->PW->Prop} (hk:K (eJ st) (rd b st :: S) Φ) :
  Calls Tryz.prog F.kR #[.pointer (some ⟨b,0,none⟩)] w λe w'=>∃ n,e=.returned (.bool n)/\∃ R' aF,aA aF/\Ctx W w' (R'++G) aF/\K n R' aF:=by
 refine (E1 b 0 (J:=λu w'=>∃ n,(Ending.returned u)=.returned (.bool n)/\∃ R' aF,aA aF/\Ctx W w' (R'++G) aF/\K n R' aF) (R:=rd b st :: (S++G)) c ?_).mono λe w' ⟨v,he,hj⟩=>by rw [he];exact hj
 refine λw F1 cx=>⟨st.2,cx.get 0 rfl rfl,bs st.1,λ_=>cx.get 0 rfl rfl,λw F1 cx=>⟨eJ st,?_,_,Φ,inferInstance,cx.left,hk⟩⟩
 have e:decide (bs st.1=ByteArray.mk #[])=decide (st.1=[]):=by
  rw [show ByteArray.mk #[]=bs [] from rfl]
  exact decide_eq_decide.2 a08
 rw [e]
 rfl
theorem a5p (c:UInt8) (l:List UInt8):Lib.hasPrefix l [c]=(match l with | []=>false|x :: _=>x == c):=by
 cases l with
 | nil=>rfl
 | cons x r =>
  unfold Lib.hasPrefix
  rw [List.isPrefixOf_cons_cons]
  simp [Bool.beq_comm]
theorem aCf [aA Φ] (e:UInt8) (c:Ctx W w (rd b st :: S++G) Φ) {K:List Own->PW->Prop} (hk:K (rd b (oT e st) :: S) Φ) :
  Calls Tryz.prog F.mX #[.pointer (some ⟨b,0,none⟩),.string (ByteArray.mk #[e])] w λe w'=>e=.returned (.tuple #[])/\∃ R' aF,aA aF/\Ctx W w' (R'++G) aF/\K R' aF:=by
 refine (CV b 0 (ByteArray.mk #[e]) (J:=λu w'=>(Ending.returned u)=.returned (.tuple #[])/\∃ R' aF,aA aF/\Ctx W w' (R'++G) aF/\K R' aF) (R:=rd b st :: (S++G)) c ?_).mono λe w' ⟨v,he,hj⟩=>by rw [he];exact hj
 clear c
 obtain ⟨l,bad⟩:=st
 refine λw F1 cx=>⟨bs l,cx.get 0 rfl rfl,λw F1 cx=>?_⟩
 refine (Any.strings_CutPrefix Tryz.aFT (bs l) (ByteArray.mk #[e]) w).mono λe2 w' ⟨he,hw⟩=>?_
 subst hw
 refine ⟨_,_,he,rd b (l,bad) :: (S++G),Φ,inferInstance,cx,?_⟩
 clear cx
 rw [wY,show (ByteArray.mk #[e]).data.toList=[e] from rfl]
 unfold Lib.trimPrefix
 rw [a5p]
 unfold oT at hk
 cases l with
 | nil =>
  refine λw F1 cx=>⟨cx.can 0 rfl (by simp),λw' hw'=>⟨rd b ([],bad) :: (S++G),Φ,inferInstance,cx.put 0 hw' rfl,Br.intro (λ_=>λw F1 cx=>S6 (S:=S++G) cx λw F1 cx=>⟨by first|trivial|rfl,_,Φ,inferInstance,cx.left,hk⟩) (λh=>by cases h)⟩⟩
 | cons x r =>
  simp only at hk ⊢
  by_cases hx:x=e
  ·subst hx
   rw [if_pos rfl] at hk
   rw [if_pos (by simp)]
   refine λw F1 cx=>⟨cx.can 0 rfl (by simp),λw' hw'=>⟨rd b (r,bad) :: (S++G),Φ,inferInstance,cx.put 0 hw' rfl,Br.intro (λh=>by simp at h) (λ_=>λw F1 cx=>⟨by first|trivial|rfl,_,Φ,inferInstance,cx.left,hk⟩)⟩⟩
  ·rw [if_neg hx] at hk
   rw [if_neg (by simpa using hx)]
   refine λw F1 cx=>⟨cx.can 0 rfl (by simp),λw' hw'=>⟨rd b (x :: r,bad) :: (S++G),Φ,inferInstance,cx.put 0 hw' rfl,Br.intro (λ_=>λw F1 cx=>S6 (S:=S++G) cx λw F1 cx=>⟨by first|trivial|rfl,_,Φ,inferInstance,cx.left,hk⟩) (λh=>by simp at h;exact absurd h hx)⟩⟩
theorem lM {e:UInt8} (he:e.toNat=58\/e.toNat=59\/e.toNat=91) (st:iK):0<=(bR e 0 st).1/\(bR e 0 st).1<=9223372036854775807:=by
 unfold bR
 split
 ·rename_i n r h
  obtain ⟨⟨h1,h2⟩,_⟩:=(iL he).1 h
  unfold aR at h1
  simp only;omega
 ·simp only;omega
theorem iG (e:UInt8) (least:Int) (st:iK):(bR e least st).2.1.length<=st.1.length:=by
 unfold bR
 split
 ·rename_i n r h
  unfold q8 at h
  simp only at h
  split at h
  ·cases h
  ·split at h
   ·split at h
    ·cases h
     simp only [List.length_drop];omega
    ·cases h
   ·cases h
 ·simp
theorem a7o [aA Φ] (eT:∀ M w,Φ M w->EH M w) (hl:st.1.length<=1000000000000000) (c:Ctx W w (rd b st :: S++G) Φ) {K:ByteArray->List Own->PW->Prop}
  (hk:K (stepT st).1 (rd b (stepT st).2 :: S) Φ) :
  Calls Tryz.prog F.fM #[.pointer (some ⟨b,0,none⟩)] w λe w'=>∃ n,e=.returned (.string n)/\∃ R' aF,aA aF/\Ctx W w' (R'++G) aF/\K n R' aF:=by
 refine (DY b 0 (J:=λu w'=>∃ n,(Ending.returned u)=.returned (.string n)/\∃ R' aF,aA aF/\Ctx W w' (R'++G) aF/\K n R' aF) (R:=rd b st :: (S++G)) c ?_).mono λe w' ⟨v,he,hj⟩=>by rw [he];exact hj
 clear c
 refine λw F1 cx=>OW (S:=S++G) eT 58 0 hl cx ?_
 rw [show ((58:Int).toNat.toUInt8)=(58:UInt8) from rfl]
 unfold stepT at hk
 simp only at hk
 have hn:=lM (e:=58) (.inl rfl) st
 obtain ⟨⟨n,l,bad⟩,ha⟩:∃ a,bR 58 0 st=a:=⟨_,rfl⟩
 rw [ha] at hk hn ⊢
 simp only at hk hn ⊢
 refine λw F1 cx=>⟨bs l,cx.get 0 rfl rfl,Br.intro (λh=>?_) (λh=>?_)⟩
 ·have h:=of_decide_eq_true h
  rw [aT] at h
  rw [if_pos h] at hk
  exact λw F1 cx=>S6 (S:=S++G) cx λw F1 cx=>⟨_,rfl,_,Φ,inferInstance,cx.left,hk⟩
 ·have h:=of_decide_eq_false h
  rw [aT] at h
  rw [if_neg h] at hk
  have e1:(bs l).extract n.toNat (bs l).size=bs (l.drop n.toNat):=by
   rw [AQ,aT]
   congr 1
   exact List.take_of_length_le (by rw [List.length_drop];omega)
  have e2:(bs l).extract 0 n.toNat=bs (l.take n.toNat):=by rw [AQ,List.drop_zero,Nat.sub_zero]
  refine λw F1 cx=>⟨bs l,cx.get 0 rfl rfl,⟨by omega,by rw [aT];omega⟩,λw F1 cx=>⟨bs l,cx.get 0 rfl rfl,⟨by omega,by rw [aT];omega,Nat.le_refl _⟩,λw F1 cx=>⟨cx.can 0 rfl (by simp),λw' hw'=>?_⟩⟩⟩
  rw [e1] at hw'
  refine ⟨rd b (l.drop n.toNat,bad) :: (S++G),Φ,inferInstance,cx.put 0 hw' rfl,λw F1 cx=>aCf (S:=S++G) 44 cx λw F1 cx=>⟨(oT 44 (l.drop n.toNat,bad)).2,cx.get 0 rfl rfl,Br.intro (λhb=>?_) (λhb=>?_)⟩⟩
  ·rw [hb] at hk
   exact λw F1 cx=>⟨_,rfl,_,Φ,inferInstance,cx.left,hk⟩
  ·rw [hb] at hk
   rw [e2]
   exact λw F1 cx=>⟨_,rfl,_,Φ,inferInstance,cx.left,hk⟩
end
end Go.Proofs.YtfccagphnfceiaaGreatDoor
end

section
namespace Go.Proofs.YtfccagphnfceiaaGreatDoor
open Go.Vc
def dA (st:iK):cG × iK:=(⟨(aL st).1,(aL (aL st).2).1,(stepT (aL (aL st).2).2).1⟩,(stepT (aL (aL st).2).2).2)
def eN:Nat->iK->List cG->Option (List cG × iK)
 | 0,st,acc=>some (acc,st)
 | n+1,st,acc=>if st.1=[] then none else eN n (dA st).2 (acc++[(dA st).1])
def cV (l:List UInt8):Option (List cG):=match eN (dW (l,false)).1.toNat (dW (l,false)).2 [] with
 | some (acc,st)=>if eJ st then some acc else none
 | none=>none
theorem UW {e:UInt8} (he:e.toNat=58\/e.toNat=59\/e.toNat=91) {least n:Int} {r:List UInt8} {bad:Bool} (h:aR n) (h2:least<=n):bR e least (Lib.itoa n++e :: r,bad)=(n,(r,bad)) :=
 D4 (st:=(Lib.itoa n++e :: r,bad)) ((iL he).2 ⟨⟨h,h2⟩,rfl⟩)
theorem HA (n:Int):(cH n).data.toList=Lib.itoa n++[59]:=by
 unfold cH EC
 rw [ByteArray.data_append,Array.toList_append]
theorem jQ {n:Int} {r:List UInt8} {bad:Bool} (h:aR n):aL ((cH n).data.toList++r,bad)=(n,(r,bad)):=by
 rw [HA,List.append_assoc]
 exact UW (.inr (.inl rfl)) h h.1
theorem MV {n:Nat} {r:List UInt8} {bad:Bool} (h:(n:Int)<=9223372036854775807):dW ((AO n).data.toList++r,bad)=((n:Int),(r,bad)):=by
 unfold AO
 rw [if_neg (by omega),HA,List.append_assoc]
 exact UW (.inr (.inl rfl)) (by unfold aR;omega) (by omega)
theorem UX (s:ByteArray):(gM s).data.toList=Lib.itoa s.size++58 :: (s.data.toList++[44]):=by
 unfold gM EC
 simp [ByteArray.data_append]
theorem BZ {s:ByteArray} {r:List UInt8} (h:s.size<=9223372036854775807):stepT ((gM s).data.toList++r,false)=(s,(r,false)):=by
 have e1:bR 58 0 ((gM s).data.toList++r,false)=((s.size:Int),(s.data.toList++44 :: r,false)):=by
  rw [UX,List.append_assoc,List.cons_append,List.append_assoc]
  exact UW (.inl rfl) (by unfold aR;omega) (by omega)
 unfold stepT
 simp only [e1]
 have hl:s.data.toList.length=s.size:=fB s
 rw [if_neg (by rw [List.length_append,List.length_cons,hl];omega),Int.toNat_natCast,List.drop_left' hl,List.take_left' hl]
 rfl
theorem aCg {v:cG} {r:List UInt8} (h1:aR v.kind) (h2:aR v.num) (h3:v.text.size<=9223372036854775807):dA ((FP v).data.toList++r,false)=(v,(r,false)):=by
 have e:(FP v).data.toList++r=(cH v.kind).data.toList++((cH v.num).data.toList++((gM v.text).data.toList++r)):=by
  unfold FP
  simp [ByteArray.data_append]
 unfold dA
 rw [e,jQ h1]
 simp only
 rw [jQ h2]
 simp only
 rw [BZ h3]
theorem aCh (v:cG) (h:aR v.kind):(FP v).data.toList≠[]:=λe=>by
 have h1:=cT h
 have h2:=congrArg List.length e
 rw [fB] at h2
 unfold FP at h2
 rw [aZ,aZ,List.length_nil] at h2
 omega
def aK5 (v:cG):Prop:=(aR v.kind/\aR v.num)/\v.text.size<=9223372036854775807
theorem YW:∀ (r:List cG) (acc:List cG) (t:List UInt8),(∀ v∈r,aK5 v)->eN r.length (mE r++t,false) acc=some (acc++r,(t,false))
 | [],acc,t,_=>by simp [eN,mE]
 | v :: r,acc,t,h=>by
  obtain ⟨⟨h1,h2⟩,h3⟩:=h v (by simp)
  have e:mE (v :: r)++t=(FP v).data.toList++(mE r++t):=by simp [mE]
  have hp:=aCh v h1
  rw [e,List.length_cons,eN,if_neg (by intro e;exact hp (List.append_eq_nil_iff.1 e).1),aCg h1 h2 h3]
  simp only
  rw [YW r _ t λu hu=>h u (by simp [hu]),List.append_assoc]
  rfl
theorem aCi {r:List cG} (h:∀ v∈r,aK5 v) (hl:r.length<=9223372036854775807):cV (WZ r)=some r:=by
 have h1:=YW r [] [] h
 rw [List.append_nil,List.nil_append] at h1
 unfold cV WZ
 rw [MV (by omega)]
 simp only [Int.toNat_natCast]
 rw [h1]
 rfl
theorem a9d (c:UInt8) (st:iK):(oT c st).1.length<=st.1.length:=by
 unfold oT
 split
 ·simp
 ·rename_i h
  split
  ·rw [h];simp
  ·simp
theorem r7 (st:iK):(stepT st).2.1.length<=st.1.length/\(stepT st).1.size<=st.1.length:=by
 have h1:=iG 58 0 st
 have h2:=a9d 44 (((bR 58 0 st).2.1.drop (bR 58 0 st).1.toNat,(bR 58 0 st).2.2))
 rw [List.length_drop] at h2
 unfold stepT
 simp only
 split
 ·exact ⟨Nat.zero_le _,Nat.zero_le _⟩
 ·refine ⟨by simp only;omega,?_⟩
  simp only
  split
  ·exact Nat.zero_le _
  ·rw [aT,List.length_take];omega
theorem a5q (e:UInt8) (least:Int) (st:iK) (h:st.1≠[]):(bR e least st).2.1.length<st.1.length:=by
 have hp:=List.length_pos_iff.2 h
 unfold bR
 split
 ·rename_i n r h
  unfold q8 at h
  simp only at h
  split at h
  ·cases h
  ·split at h
   ·split at h
    ·cases h
     simp only [List.length_drop];omega
    ·cases h
   ·cases h
 ·simpa using hp
theorem HB (st:iK):(dA st).2.1.length<=st.1.length/\(st.1≠[]->(dA st).2.1.length<st.1.length)/\(dA st).1.text.size<=st.1.length:=by
 have a:=iG 59 (-9223372036854775808) st
 have b:=iG 59 (-9223372036854775808) (aL st).2
 have c:=r7 (aL (aL st).2).2
 have a':(aL st).2.1.length<=st.1.length:=a
 have b':(aL (aL st).2).2.1.length<=(aL st).2.1.length:=b
 unfold dA
 refine ⟨by simp only;omega,λh=>?_,by simp only;omega⟩
 have d:(aL st).2.1.length<st.1.length:=a5q 59 (-9223372036854775808) st h
 simp only;omega
theorem gJ (st:iK):aR (aL st).1:=by
 unfold aL bR
 split
 ·rename_i n r h
  exact ((iL (.inr (.inl rfl))).1 h).1.1
 ·unfold aR;simp
theorem QG {L:Nat}:∀ (n:Nat) (st:iK) (acc:List cG) (out:List cG) (st':iK),eN n st acc=some (out,st')->acc.length+st.1.length<=L->(∀ v∈acc,v.text.size<=L)->out.length+st'.1.length<=L/\∀ v∈out,v.text.size<=L
 | 0,st,acc,out,st',h,h1,h2=>by
  unfold eN at h
  cases h
  exact ⟨h1,h2⟩
 | n+1,st,acc,out,st',h,h1,h2=>by
  unfold eN at h
  split at h
  ·cases h
  ·rename_i hne
   obtain ⟨a,b,c⟩:=HB st
   have b:=b hne
   refine QG n _ _ out st' h (by rw [List.length_append,List.length_singleton];omega) λv hv=>?_
   rcases List.mem_append.1 hv with hv|hv
   ·exact h2 v hv
   ·rw [List.mem_singleton.1 hv];omega
theorem a27 {l:List UInt8} {r:List cG} (h:cV l=some r):r.length<=l.length/\∀ v∈r,v.text.size<=l.length:=by
 unfold cV at h
 split at h
 ·rename_i acc st hl
  split at h
  ·cases h
   have hn:(dW (l,false)).2.1.length<=l.length:=iG 59 0 (l,false)
   have:=QG (L:=l.length) _ _ _ _ _ hl (by simp only [List.length_nil];omega) (by simp)
   exact ⟨by omega,this.2⟩
  ·cases h
 ·cases h
section
variable {W w:World} {R G S:List Own} {Φ:PW} {b:Nat} {st:iK}
theorem aGm [aA Φ] (eT:∀ M w,Φ M w->EH M w) (hl:st.1.length<=1000000000) (c:Ctx W w (rd b st :: S++G) Φ) {K:Int->Int->ByteArray->List Own->PW->Prop}
  (hk:K (dA st).1.kind (dA st).1.num (dA st).1.text (rd b (dA st).2 :: S) Φ) :
  Calls Tryz.prog F.CP #[.pointer (some ⟨b,0,none⟩)] w λe w'=>∃ n m s,e=.returned (.agg #[.int .i64 n,.int .i64 m,.string s])/\∃ R' aF,aA aF/\Ctx W w' (R'++G) aF/\K n m s R' aF:=by
 refine (QZ b 0 (J:=λu w'=>∃ n m s,(Ending.returned u)=.returned (.agg #[.int .i64 n,.int .i64 m,.string s])/\∃ R' aF,aA aF/\Ctx W w' (R'++G) aF/\K n m s R' aF) (R:=rd b st :: (S++G)) c ?_).mono λe w' ⟨v,he,hj⟩=>by rw [he];exact hj
 have a:(aL st).2.1.length<=st.1.length:=iG 59 (-9223372036854775808) st
 have b:(aL (aL st).2).2.1.length<=(aL st).2.1.length:=iG 59 (-9223372036854775808) (aL st).2
 exact λ_ w F1 cx=>a09 (S:=S++G) eT (by omega) cx λw F1 cx=>a09 (S:=S++G) eT (by omega) cx λ_ w F1 cx=>a7o (S:=S++G) eT (by omega) cx λw F1 cx=>⟨_,_,_,rfl,_,Φ,inferInstance,cx.left,hk⟩
theorem aCj {M:List Nat} {w:World} {v:cG} (h1:aR v.kind) (h2:aR v.num) (h3:v.text.size<=maxLen):Gv.rep M w [.int .i64 v.kind,.int .i64 v.num,.string v.text] v :=
 ⟨[.int .i64 v.kind],[.int .i64 v.num,.string v.text],rfl,⟨rfl,h1⟩,[.int .i64 v.num],[.string v.text],rfl,⟨rfl,h2⟩,rfl,h3⟩
set_option maxHeartbeats 1000000 in
theorem a29 [aA Φ] (eT:∀ M w,Φ M w->EH M w) (l:List UInt8) (hl:l.length<=10000000) (c:Ctx W w S Φ) {K:Ending->World->Prop}
  (h0:cV l=none->∀ w',Ctx W w' S Φ->K (.returned (.tuple #[.slice none 0 0,.bool false])) w')
  (h1:∀ r p cap w',cV l=some r->r.length<=cap->cap<=maxLen->Ctx W w' S (λM w=>Φ M w/\Sl M w p r)->K (.returned (.tuple #[.slice p r.length cap,.bool true])) w') :
  Calls Tryz.prog F.mN #[.string (bs l)] w K:=by
 refine (JU (bs l) (J:=λu w'=>K (.returned u) w') (R:=S) c ?_).mono λe w' ⟨v,he,hj⟩=>by rw [he];exact hj
 clear c
 refine λw G cx=>a26 l cx λb w cx=>⟨_,rfl,rd b (l,false) :: S,Φ,inferInstance,cx,?_⟩
 clear cx
 refine λw G cx=>a7l (S:=S) eT (by simp only;omega) cx ?_
 clear cx
 have hlen:(dW (l,false)).2.1.length<=l.length:=iG 59 0 (l,false)
 have hnn:=lM (e:=59) (.inr (.inl rfl)) (l,false)
 have hrow:cV l=match eN (dW (l,false)).1.toNat (dW (l,false)).2 [] with
  | some (acc,st)=>if eJ st then some acc else none
  | none=>none:=rfl
 have hnn:0<=(dW (l,false)).1/\(dW (l,false)).1<=9223372036854775807:=hnn
 obtain ⟨⟨n0,YX⟩,hst⟩:∃ x,dW (l,false)=x:=⟨_,rfl⟩
 rw [hst] at hlen hnn hrow ⊢
 simp only at hlen hnn hrow ⊢
 refine bY (λp n c m R' aF k=>∃ (st:iK) (acc:List cG) (ds:List Value),n=acc.length/\R'=.buf p n c ds 147 3 :: rd b st :: S/\aF=(λM w=>Φ M w/\aQ M w ds acc)/\k=m.toNat/\0<=m/\m<=9223372036854775807/\acc.length+st.1.length<=l.length/\eN n0.toNat YX []=eN m.toNat st acc)
  ⟨⟨.buf none 0 0 [] 147 3 :: rd b YX :: S,λM w=>Φ M w/\aQ M w [] ([]:List cG),_,inferInstance,λw G cx=>(cx.yC 147 3).weak λM w h=>⟨h,aQ.nil⟩,YX,[],[],rfl,rfl,rfl,rfl,hnn.1,hnn.2,by simp only [List.length_nil];omega,rfl⟩,?_⟩
 rintro p n c m R1 bH k _ ⟨st,acc,ds,rfl,rfl,rfl,rfl,hm0,hm1,hal,hrl⟩
 have wR:aA (λM w=>Φ M w/\aQ M w ds acc):=inferInstance
 refine Br.intro (λhpos=>?_) (λhz=>?_)
 ·have hpos:=of_decide_eq_true hpos
  refine λw G cx=>a7m (S:=.buf p acc.length c ds 147 3 :: S) cx.swap ?_
  refine Br.intro (λhz=>λw G cx=>?_) (λhnz=>?_)
  ·have hz:=of_decide_eq_true hz
   refine h0 ?_ w (cx.left.drop1.drop1.weak λM w h=>h.1)
   rw [hrow,hrl,show m.toNat=(m.toNat - 1)+1 by omega,eN,if_pos (List.length_eq_zero_iff.1 (by omega))]
  ·have hnz:=of_decide_eq_false hnz
   have hne:st.1≠[]:=λe=>hnz (by rw [e];rfl)
   obtain ⟨q1,q2,q3⟩:=HB st
   have q2:=q2 hne
   have hi1:=gJ st
   have hi2:=gJ (aL st).2
   refine λw G cx=>aGm (S:=.buf p acc.length c ds 147 3 :: S) (λM w h=>eT M w h.1) (by omega) cx ?_
   refine λbk w G cx=>?_
   have J1:Ctx W w (.blk bk [.int .i64 (dA st).1.kind,.int .i64 (dA st).1.num,.string (dA st).1.text] 147 :: .buf p acc.length c ds 147 3 :: (rd b (dA st).2 :: S++G)) (λM w=>Φ M w/\aQ M w ds acc):=cx.perm ((List.Perm.swap _ _ _).cons _)
   obtain ⟨p',cap',w',hrun,_,cx'⟩:=Ctx.a2t (P:=Tryz.prog) (ts:=29) (ty:=29) (kb:=#[false,false]) (size:=3) (bytes:=32) J1 (by kernel_rfl) (by omega) rfl rfl (by omega) (by omega)
   have tU:aA (λM w=>Φ M w/\aQ M w (ds++[.int .i64 (dA st).1.kind,.int .i64 (dA st).1.num,.string (dA st).1.text]) (acc++[(dA st).1])):=inferInstance
   have aZm:Ctx W w' (.buf p' (acc++[(dA st).1]).length cap' (ds++[.int .i64 (dA st).1.kind,.int .i64 (dA st).1.num,.string (dA st).1.text]) 147 3 :: rd b (dA st).2 :: S++G) (λM w=>Φ M w/\aQ M w (ds++[.int .i64 (dA st).1.kind,.int .i64 (dA st).1.num,.string (dA st).1.text]) (acc++[(dA st).1])):=by
    rw [List.length_append,List.length_singleton]
    exact cx'.weak λM w h=>⟨h.1,h.2.snoc (aCj hi1 hi2 (Nat.le_trans q3 (Nat.le_trans (by omega:st.1.length<=10000000) (by decide))))⟩
   refine ⟨p',acc.length+1,cap',w',hrun,_,_,tU,aZm,by unfold aR;omega,_,_,(m - 1).toNat,tU,λw G cx=>cx,⟨(dA st).2,acc++[(dA st).1],_,by simp,by simp,rfl,rfl,by omega,by omega,by rw [List.length_append,List.length_singleton];omega,?_⟩,by omega⟩
   rw [hrl,show m.toNat=(m - 1).toNat+1 by omega,eN,if_neg hne]
 ·have hz:=of_decide_eq_false hz
  have hm:m.toNat=0:=by omega
  rw [hm,eN] at hrl
  rw [hrl] at hrow
  simp only at hrow
  refine λw G cx=>a7n (S:=.buf p acc.length c ds 147 3 :: S) cx.swap ?_
  refine Br.intro (λhd=>λw G cx=>?_) (λhd=>λw G cx=>?_)
  ·refine h0 ?_ w (cx.left.drop1.drop1.weak λM w h=>h.1)
   rw [hrow,if_neg (by simpa using hd)]
  ·have cx:=cx.left.drop1
   obtain ⟨cx3,hs,_,g1,g2⟩:=Ctx.freeze (α:=cG) cx.fst cx.gW.2
   exact h1 acc p c w (by rw [hrow,if_pos (by simpa using hd)]) g1 g2 (cx3.add hs)
theorem a5r [aA Φ] (eT:∀ M w,Φ M w->EH M w) (l:List UInt8) (hl:l.length<=10000000) (c:Ctx W w (R++G) Φ) {K:Option Addr->Nat->Nat->Bool->List Own->PW->Prop}
  (h0:cV l=none->K none 0 0 false R Φ)
  (h1:∀ r p cap,cV l=some r->r.length<=cap->cap<=maxLen->aA (λM w=>Φ M w/\Sl M w p r)->K p r.length cap true R (λM w=>Φ M w/\Sl M w p r)) :
  Calls Tryz.prog F.mN #[.string (bs l)] w λe w'=>∃ p n c ok,e=.returned (.tuple #[.slice p n c,.bool ok])/\∃ R' aF,aA aF/\Ctx W w' (R'++G) aF/\K p n c ok R' aF :=
 a29 eT l hl c (λh w' c=>⟨none,0,0,false,rfl,R,Φ,inferInstance,c,h0 h⟩) λr p cap w' h g1 g2 c=>⟨p,r.length,cap,true,rfl,R,_,inferInstance,c,h1 r p cap h g1 g2 inferInstance⟩
theorem a3a [aA Φ] (eT:∀ M w,Φ M w->EH M w) (s:ByteArray) (hl:s.size<=10000000) (c:Ctx W w (R++G) Φ) {K:Option Addr->Nat->Nat->Bool->List Own->PW->Prop}
  (h0:cV s.data.toList=none->K none 0 0 false R Φ)
  (h1:∀ r p cap,cV s.data.toList=some r->r.length<=cap->cap<=maxLen->aA (λM w=>Φ M w/\Sl M w p r)->K p r.length cap true R (λM w=>Φ M w/\Sl M w p r)) :
  Calls Tryz.prog F.mN #[.string s] w λe w'=>∃ p n c ok,e=.returned (.tuple #[.slice p n c,.bool ok])/\∃ R' aF,aA aF/\Ctx W w' (R'++G) aF/\K p n c ok R' aF :=
 a5r eT s.data.toList (by rw [fB];exact hl) c h0 h1
end
end Go.Proofs.YtfccagphnfceiaaGreatDoor
end

section
namespace Go.Proofs.YtfccagphnfceiaaGreatDoor
open Go.Vc
def rdL (st:iK) (nx no:Int) (r:List cG):aM × iK :=
 (⟨nx,no,(aL st).1,r,(aL (stepT (aL st).2).2).1,(aL (aL (stepT (aL st).2).2).2).1,(aL (aL (aL (stepT (aL st).2).2).2).2).1⟩,(aL (aL (aL (stepT (aL st).2).2).2).2).2)
def r8 (nx no:Int) (st:iK):Option (aM × iK):=(cV (stepT (aL st).2).1.data.toList).map (rdL st nx no)
theorem UY {nx no:Int} {st:iK} (h:cV (stepT (aL st).2).1.data.toList=none):r8 nx no st=none:=by unfold r8;rw [h];rfl
theorem D5 {nx no:Int} {st:iK} {r:List cG} (h:cV (stepT (aL st).2).1.data.toList=some r):r8 nx no st=some (rdL st nx no r):=by unfold r8;rw [h];rfl
theorem OX {nx no:Int} {st st':iK} {x:aM} (h:r8 nx no st=some (x,st')):∃ r,cV (stepT (aL st).2).1.data.toList=some r/\rdL st nx no r=(x,st'):=by
 unfold r8 at h
 exact Option.map_eq_some_iff.1 h
attribute [irreducible] r8
theorem KE (x:aM) (t:List UInt8):(J0 x).data.toList++t=(cH x.batch).data.toList++((cH x.time).data.toList++((gM (D0 x.row)).data.toList++((cH x.n).data.toList++((cH x.iR).data.toList++((cH x.why).data.toList++t))))):=by
 unfold J0
 simp [ByteArray.data_append]
theorem aCk {x:aM} (h:wI x):(∀ v∈x.row,aK5 v)/\x.row.length<=9223372036854775807/\(D0 x.row).size<=9223372036854775807:=by
 have h1:=KD h.row h.val
 have h2:=h.row
 exact ⟨λv hv=>⟨(h.val v hv).1,by have:=(h.val v hv).2;omega⟩,by omega,by omega⟩
def aCl (nx:Int) (st:iK):Option (aM × iK):=r8 nx (aL st).1 (aL st).2
theorem a9e {x:aM} {n:Int} {t:List UInt8} (h:wI x):aCl n ((J0 x).data.toList++t,false)=some ({ x with no:=n },(t,false)):=by
 obtain ⟨h3,h4,h5⟩:=aCk h
 unfold aCl
 rw [KE,jQ h.NR.batch]
 simp only
 have e1:aL ((cH x.time).data.toList++((gM (D0 x.row)).data.toList++((cH x.n).data.toList++((cH x.iR).data.toList++((cH x.why).data.toList++t)))),false)=(x.time,((gM (D0 x.row)).data.toList++((cH x.n).data.toList++((cH x.iR).data.toList++((cH x.why).data.toList++t))),false)):=jQ h.NR.time
 have e2:=BZ (r:=(cH x.n).data.toList++((cH x.iR).data.toList++((cH x.why).data.toList++t))) h5
 have e3:cV (stepT (aL ((cH x.time).data.toList++((gM (D0 x.row)).data.toList++((cH x.n).data.toList++((cH x.iR).data.toList++((cH x.why).data.toList++t)))),false)).2).1.data.toList=some x.row:=by
  rw [e1]
  show cV (stepT ((gM (D0 x.row)).data.toList++_,false)).1.data.toList=some x.row
  rw [e2]
  exact aCi h3 h4
 rw [D5 e3]
 unfold rdL
 rw [e1]
 simp only
 rw [e2]
 simp only
 rw [jQ h.NR.n]
 simp only
 rw [jQ h.NR.iR]
 simp only
 rw [jQ h.NR.why]
inductive a7p (kind:Int) (key:List Int):List Int->List aM->Prop
 | nil:a7p kind key [] []
 | take {dZ:List Int} {lines L:List aM} {b:Int}:a7p kind key dZ lines->rZ ⟨kind,key,dZ,lines,0,[]⟩ b L=0->a7p kind key (dZ++[b]) (lines++L)
structure SkR (s:j0):Prop where
 ok:YN s.kind s.key=true
 made:a7p s.kind s.key s.dZ s.lines
 dN:s.dN≠0->s.kind=0/\ML s s.dN=false/\rZ s s.dN s.aside=0
 none:s.dN=0->s.aside=[]
theorem dM (st:iK):(aL st).2.1.length<=st.1.length:=iG 59 (-9223372036854775808) st
theorem a5s (st:iK):(aL st).2=([],true)/\(aL st).1=0\/(aL st).2.1.length+2<=st.1.length/\(aL st).2.2=st.2:=by
 unfold aL bR
 split
 ·rename_i n r h
  obtain ⟨⟨h1,_⟩,h2⟩:=(iL (.inr (.inl rfl))).1 h
  have:=yG h1
  right
  rw [h2,List.length_append,List.length_cons]
  simp only
  exact ⟨by omega,trivial⟩
 ·exact .inl ⟨rfl,rfl⟩
theorem a5t (st:iK):(stepT st).1.data.toList=[]\/(stepT st).2.1.length+3+(stepT st).1.size<=st.1.length:=by
 unfold stepT
 simp only
 split
 ·exact .inl rfl
 ·rename_i h
  by_cases hc:(oT 44 ((bR 58 0 st).2.1.drop (bR 58 0 st).1.toNat,(bR 58 0 st).2.2)).2=true
  ·left
   rw [if_pos hc]
  ·right
   simp only
   rw [if_neg hc,aT,List.length_take]
   unfold bR at hc ⊢
   split at hc
   ·rename_i n r hn
    obtain ⟨⟨h1,_⟩,h2⟩:=(iL (.inl rfl)).1 hn
    have:=yG h1
    simp only at hc ⊢
    unfold oT at hc ⊢
    simp only at hc ⊢
    split at hc
    ·exact absurd rfl hc
    ·rename_i x r2 hx
     have hlen:=congrArg List.length hx
     rw [List.length_drop,List.length_cons] at hlen
     split at hc
     ·rename_i hxe
      rw [if_pos hxe,h2,List.length_append,List.length_cons]
      simp only;omega
     ·exact absurd rfl hc
   ·exfalso
    apply hc
    rfl
theorem a3b {l:List UInt8} {r:List cG} (h:cV l=some r):2<=l.length:=by
 unfold cV at h
 rcases Nat.lt_or_ge l.length 2 with h1|h1
 ·exfalso
  have e:dW (l,false)=(0,([],true)):=by
   refine uC ?_
   rcases hn:q8 59 0 l with _|⟨n,r2⟩
   ·rfl
   ·obtain ⟨⟨g1,_⟩,g2⟩:=(iL (.inr (.inl rfl))).1 hn
    have:=yG g1
    rw [g2,List.length_append,List.length_cons] at h1
    omega
  rw [e] at h
  cases h
 ·exact h1
theorem YY {nx no:Int} {st st':iK} {x:aM} (h:r8 nx no st=some (x,st')):st'.1.length+7<=st.1.length/\x.row.length<=st.1.length/\(∀ v∈x.row,v.text.size<=st.1.length)/\aR x.time/\aR x.n/\aR x.iR/\aR x.why/\x.no=nx/\x.batch=no:=by
 obtain ⟨r,hr,he⟩:=OX h
 obtain ⟨f1,f2⟩:=a27 hr
 have hp:=a3b hr
 unfold rdL at he
 injection he with e1 e2
 subst e1 e2
 rcases a5t (aL st).2 with e|e
 ·rw [e] at hp
  simp at hp
 ·rw [fB] at hp f1 f2
  rcases a5s st with ⟨e2,_⟩|⟨e2,_⟩
  ·rw [e2,List.length_nil] at e
   omega
  ·have a:=dM (stepT (aL st).2).2
   have b:=dM (aL (stepT (aL st).2).2).2
   have c:=dM (aL (aL (stepT (aL st).2).2).2).2
   refine ⟨by omega,?_,λv hv=>?_,gJ _,gJ _,gJ _,gJ _,rfl,rfl⟩
   ·show r.length<=_
    omega
   ·have:=f2 v hv
    omega
end Go.Proofs.YtfccagphnfceiaaGreatDoor
end

section
namespace Go.Proofs.YtfccagphnfceiaaGreatDoor
open Go.Vc
end Go.Proofs.YtfccagphnfceiaaGreatDoor
end

section
namespace Go.Proofs.YtfccagphnfceiaaGreatDoor
open Go.Vc
abbrev Bs:=List UInt8
structure iA where
 now:Bs
 last:Bs
structure cC where
 files:Int->iA
 queue:List (Int × Int)
 lost:Int
 down:Bool
 bS:Int
 keep:List Int
def bX:cC:=⟨λ_=>⟨[],[]⟩,[],0,false,0,[]⟩
def gK (s:Bs) (a:Nat) (t:Bs):Bs:=if t=[] then s else s.take a++List.replicate (a - s.length) 0++t++s.drop (a+t.length)
def cC.set (d:cC) (f:Int) (x:iA):cC:={ d with files:=λk=>if k=f then x else d.files k }
def j8 (d:cC) (f:Int):Int:=if d.down=true then 9 else if f<0\/16<=f then 1 else 0
def uY (a n:Nat):List Int:=(List.range ((a+n - 1) / 64+1 - a / 64)).map λi=>((a / 64+i:Nat):Int)
def yH (f:Int):List Int->List (Int × Int)->List (Int × Int)
 | [],q=>q
 | n :: ns,q=>yH f ns (if (f,n)∈q then q else q++[(f,n)])
def cK (d:cC) (f a:Int) (s:Bs):cC × Int :=
 if j8 d f≠0 then (d,j8 d f) else if a<0 then (d,1) else if 16777216<a\/16777216 - a<(s.length:Int) then (d,6) else if s=[] then (d,0) else
 ({ d.set f ⟨gK (d.files f).now a.toNat s,(d.files f).last⟩ with queue:=yH f (uY a.toNat s.length) d.queue },0)
def o4 (d:cC):Bool := !d.down&&decide (d.bS=1)
def cP (d:cC):cC:=if d.down=true\/d.bS=0 then d else { d with bS:=d.bS - 1 }
def C0 (keep:List Int) (i:Nat) (p:Int × Int) (fs:Int->iA):Int->iA :=
 if keep=[]\/keep.getD (i % keep.length) 0 % 2=0\/((fs p.1).now.length:Int)<=p.2*64 then fs
 else λk=>if k=p.1 then ⟨(fs p.1).now,gK (fs p.1).last (p.2*64).toNat (((fs p.1).now.drop (p.2*64).toNat).take 64)⟩ else fs k
def o5 (keep:List Int):Nat->List (Int × Int)->(Int->iA)->Int->iA
 | _,[],fs=>fs
 | i,p :: ps,fs=>o5 keep (i+1) ps (C0 keep i p fs)
def cL (d:cC) (keep:List Int):cC :=
 if d.down=true then d else { d with down:=true,bS:=0,queue:=[],files:=λk=>⟨(o5 keep 0 d.queue d.files k).last,(o5 keep 0 d.queue d.files k).last⟩ }
def aY (d:cC) (f a:Int) (s:Bs):cC × Int :=
 if o4 d=true then (cL (cK (cP d) f a s).1 d.keep,9) else cK (cP d) f a s
def sA (d:cC) (f:Int) (s:Bs):cC:={ d.set f ⟨s,s⟩ with queue:=d.queue.filter λp=>decide (p.1≠f) }
def kC (d:cC):cC:=if o4 d=true then cL (cP d) d.keep else cP d
def wJ (d:cC) (f:Int):cC × Int :=
 if j8 d f≠0 then (d,j8 d f) else if 0<d.lost then ({ d with lost:=d.lost - 1 },10) else (sA d f (d.files f).now,0)
def bQ (d:cC) (f:Int):cC × Int:=wJ (kC d) f
def b9 (d:cC) (f a n:Int):Bs × Int :=
 if j8 d f≠0 then ([],j8 d f) else if a<0\/n<0 then ([],1) else (((d.files f).now.drop a.toNat).take n.toNat,0)
def AR (d:cC):cC:={ d with down:=false }
structure sL where
 file:Int
 slot:Nat
 value:Bs
 sure:Bool
def eX (slot:Nat):Nat:=if slot=1 then 64 else if slot=2 then 131072 else 0
def gZ (slot:Nat) (n:Nat):Bs:=[slot.toUInt8,n.toUInt8,(n / 256).toUInt8,(n / 65536).toUInt8,(n / 16777216).toUInt8]
def sM (h:Bs):Nat:=(((h.getD 4 0).toNat*256+(h.getD 3 0).toNat)*256+(h.getD 2 0).toNat)*256+(h.getD 1 0).toNat
def mF (d:cC) (file:Int):Option sL × Int :=
 if (b9 d file 0 5).2≠0 then (none,(b9 d file 0 5).2) else
 if (b9 d file 0 5).1=[]\/(b9 d file 0 5).1.getD 0 0=0 then (some ⟨file,0,[],false⟩,0) else
 if (b9 d file 0 5).1.length<5\/(b9 d file 0 5).1.getD 0 0≠1/\(b9 d file 0 5).1.getD 0 0≠2 then (none,2) else
 if 65536<sM (b9 d file 0 5).1 then (none,2) else
 if (b9 d file (eX ((b9 d file 0 5).1.getD 0 0).toNat) (sM (b9 d file 0 5).1)).2≠0 then (none,(b9 d file (eX ((b9 d file 0 5).1.getD 0 0).toNat) (sM (b9 d file 0 5).1)).2) else
 if (b9 d file (eX ((b9 d file 0 5).1.getD 0 0).toNat) (sM (b9 d file 0 5).1)).1.length<sM (b9 d file 0 5).1 then (none,2) else
 (some ⟨file,((b9 d file 0 5).1.getD 0 0).toNat,(b9 d file (eX ((b9 d file 0 5).1.getD 0 0).toNat) (sM (b9 d file 0 5).1)).1,false⟩,0)
def sD (d:cC) (c:sL) (s:Bs) (slot:Nat):cC × sL × Int :=
 if (aY d c.file (eX slot) s).2≠0 then ((aY d c.file (eX slot) s).1,c,(aY d c.file (eX slot) s).2) else
 if (bQ (aY d c.file (eX slot) s).1 c.file).2≠0 then ((bQ (aY d c.file (eX slot) s).1 c.file).1,c,(bQ (aY d c.file (eX slot) s).1 c.file).2) else
 if (aY (bQ (aY d c.file (eX slot) s).1 c.file).1 c.file 0 (gZ slot s.length)).2≠0 then ((aY (bQ (aY d c.file (eX slot) s).1 c.file).1 c.file 0 (gZ slot s.length)).1,c,(aY (bQ (aY d c.file (eX slot) s).1 c.file).1 c.file 0 (gZ slot s.length)).2) else
 ((bQ (aY (bQ (aY d c.file (eX slot) s).1 c.file).1 c.file 0 (gZ slot s.length)).1 c.file).1,⟨c.file,slot,s,decide ((bQ (aY (bQ (aY d c.file (eX slot) s).1 c.file).1 c.file 0 (gZ slot s.length)).1 c.file).2=0)⟩,(bQ (aY (bQ (aY d c.file (eX slot) s).1 c.file).1 c.file 0 (gZ slot s.length)).1 c.file).2)
def lQ (d:cC) (c:sL) (s:Bs):cC × sL × Int :=
 if 65536<s.length then (d,c,6) else
 if c.sure=false/\0<c.slot then
  if (bQ d c.file).2≠0 then ((bQ d c.file).1,c,(bQ d c.file).2) else sD (bQ d c.file).1 { c with sure:=true } s (if c.slot=1 then 2 else 1)
 else sD d c s (if c.slot=1 then 2 else 1)
end Go.Proofs.YtfccagphnfceiaaGreatDoor
end

section
namespace Go.Proofs.YtfccagphnfceiaaGreatDoor
open Go.Vc
theorem MW (s:Bs) (a:Nat):gK s a []=s:=by unfold gK;rw [if_pos rfl]
theorem HC {s t:Bs} {a:Nat} (h:t≠[]):gK s a t=s.take a++List.replicate (a - s.length) 0++t++s.drop (a+t.length):=by unfold gK;rw [if_neg h]
theorem uZ {s t:Bs} {a:Nat} (h:t≠[]):(gK s a t).length=max s.length (a+t.length):=by
 rw [HC h]
 simp only [List.length_append,List.length_take,List.length_replicate,List.length_drop]
 omega
theorem MX {s t:Bs} {a i:Nat} (h:t≠[]) (hi:i<a):(gK s a t)[i]? = if i<s.length then s[i]? else some 0:=by
 rw [HC h,List.append_assoc,List.append_assoc]
 by_cases h1:i<s.length
 ·rw [if_pos h1,List.getElem?_append_left (by rw [List.length_take];omega),List.getElem?_take_of_lt hi]
 ·rw [if_neg h1,List.getElem?_append_right (by rw [List.length_take];omega),List.length_take,List.getElem?_append_left (by rw [List.length_replicate];omega),List.getElem?_replicate,if_pos (by omega)]
theorem MY {s t:Bs} {a i:Nat} (h:t≠[]) (h1:a<=i) (h2:i<a+t.length):(gK s a t)[i]? = t[i - a]? := by
 rw [HC h,List.append_assoc,List.getElem?_append_right (by simp only [List.length_append,List.length_take,List.length_replicate];omega),List.getElem?_append_left (by simp only [List.length_append,List.length_take,List.length_replicate];omega)]
 simp only [List.length_append,List.length_take,List.length_replicate]
 congr 1
 omega
theorem HD {s t:Bs} {a i:Nat} (h:t≠[]) (h1:a+t.length<=i):(gK s a t)[i]? = s[i]? := by
 rw [HC h,List.getElem?_append_right (by simp only [List.length_append,List.length_take,List.length_replicate];omega),List.getElem?_drop]
 simp only [List.length_append,List.length_take,List.length_replicate]
 by_cases h2:a<=s.length
 ·congr 1
  omega
 ·rw [List.getElem?_eq_none (by omega),List.getElem?_eq_none (by omega)]
def UZ (N:Bs) (n:Nat):Bs:=(N.drop (n*64)).take 64
def KF (N:Bs):List Nat->Bs->Bs
 | [],L=>L
 | n :: ns,L=>KF N ns (gK L (n*64) (UZ N n))
theorem aGo {N:Bs} {n:Nat} (h:n*64<N.length):UZ N n≠[]:=by
 intro e
 have:=congrArg List.length e
 unfold UZ at this
 rw [List.length_take,List.length_drop,List.length_nil] at this
 omega
theorem aCm (N:Bs) (n:Nat):(UZ N n).length=min 64 (N.length - n*64):=by unfold UZ;rw [List.length_take,List.length_drop]
theorem aCn {N:Bs} {n i:Nat} (h1:n*64<=i) (h2:i<n*64+64):(UZ N n)[i - n*64]? = N[i]? := by
 unfold UZ
 rw [List.getElem?_take_of_lt (by omega),List.getElem?_drop]
 congr 1
 omega
theorem MZ {N L:Bs} {n i:Nat} (h:n*64<N.length):(gK L (n*64) (UZ N n))[i]? = if n*64<=i/\i<n*64+64/\i<N.length then N[i]? else if i<n*64/\L.length<=i then some 0 else L[i]? := by
 have hne:=aGo h
 have hl:=aCm N n
 by_cases h1:i<n*64
 ·rw [MX hne h1]
  by_cases h2:i<L.length
  ·rw [if_pos h2,if_neg (by omega),if_neg (by omega)]
  ·rw [if_neg h2,if_neg (by omega),if_pos (by omega)]
 ·by_cases h2:i<n*64+(UZ N n).length
  ·rw [MY hne (by omega) h2,aCn (by omega) (by omega),if_pos (by omega)]
  ·rw [HD hne (by omega),if_neg (by omega),if_neg (by omega)]
theorem r9 {N:Bs} {i:Nat} {x:UInt8} (hN:N[i]? = some x):∀ (ns:List Nat) (L:Bs),(∀ n∈ns,n*64<N.length)->L[i]? = some x->(KF N ns L)[i]? = some x
 | [],L,_,h=>h
 | n :: ns,L,hs,h=>by
  refine r9 hN ns _ (λm hm=>hs m (by simp [hm])) ?_
  have hi:i<L.length:=(List.getElem?_eq_some_iff.1 h).1
  rw [MZ (hs n (by simp))]
  split
  ·exact hN
  ·rw [if_neg (by omega)];exact h
theorem a7q {N:Bs} {i:Nat} {x:UInt8}:∀ (ns:List Nat) (L:Bs),(∀ n∈ns,n*64<N.length/\¬ (n*64<=i/\i<n*64+64))->L[i]? = some x->(KF N ns L)[i]? = some x
 | [],L,_,h=>h
 | n :: ns,L,hs,h=>by
  refine a7q ns _ (λm hm=>hs m (by simp [hm])) ?_
  have hi:i<L.length:=(List.getElem?_eq_some_iff.1 h).1
  have h1:=hs n (by simp)
  rw [MZ h1.1,if_neg (by omega),if_neg (by omega)]
  exact h
theorem a3c {N:Bs} {i:Nat} (hN:N.getD i 0=0):∀ (ns:List Nat) (L:Bs),(∀ n∈ns,n*64<N.length)->L.getD i 0=0->(KF N ns L).getD i 0=0
 | [],L,_,h=>h
 | n :: ns,L,hs,h=>by
  refine a3c hN ns _ (λm hm=>hs m (by simp [hm])) ?_
  rw [List.getD_eq_getElem?_getD,MZ (hs n (by simp))]
  split
  ·rw [<-List.getD_eq_getElem?_getD];exact hN
  ·split
   ·rfl
   ·rw [<-List.getD_eq_getElem?_getD];exact h
theorem a7r {N:Bs} {i:Nat} {x:UInt8} (hN:N[i]? = some x):∀ (ns:List Nat) (L:Bs),(∀ n∈ns,n*64<N.length)->i / 64∈ns->(KF N ns L)[i]? = some x
 | [],L,_,h=>by cases h
 | n :: ns,L,hs,h=>by
  by_cases e:i / 64=n
  ·refine r9 hN ns _ (λm hm=>hs m (by simp [hm])) ?_
   have hi:i<N.length:=(List.getElem?_eq_some_iff.1 hN).1
   rw [MZ (hs n (by simp)),if_pos (by omega)]
   exact hN
  ·refine a7r hN ns _ (λm hm=>hs m (by simp [hm])) ?_
   rcases List.mem_cons.1 h with h|h
   ·exact absurd h e
   ·exact h
def OY (F:Int) (q:List (Int × Int)):List Nat:=(q.filter λp=>decide (p.1=F)).map λp=>p.2.toNat
theorem a3d (F:Int) (p:Int × Int) (q:List (Int × Int)):OY F (p :: q)=if p.1=F then p.2.toNat :: OY F q else OY F q:=by
 unfold OY
 by_cases h:p.1=F
 ·rw [List.filter_cons_of_pos (by simpa using h),if_pos h,List.map_cons]
 ·rw [List.filter_cons_of_neg (by simpa using h),if_neg h]
theorem aCo (keep:List Int) (i:Nat) (p:Int × Int) (fs:Int->iA) (F:Int):(C0 keep i p fs F).now=(fs F).now:=by
 unfold C0
 split
 ·rfl
 ·simp only
  split
  ·rename_i h;rw [h]
  ·rfl
theorem YZ (F:Int):∀ (q:List (Int × Int)) (keep:List Int) (i:Nat) (fs:Int->iA),(∀ p∈q,0<=p.2) ->
  ∃ ns:List Nat,ns.Sublist (OY F q)/\(∀ n∈ns,n*64<(fs F).now.length)/\(o5 keep i q fs F).now=(fs F).now/\(o5 keep i q fs F).last=KF (fs F).now ns (fs F).last
 | [],keep,i,fs,_=>⟨[],List.Sublist.refl _,by simp,rfl,rfl⟩
 | p :: q,keep,i,fs,hp=>by
  obtain ⟨ns,h1,h2,h3,h4⟩:=YZ F q keep (i+1) (C0 keep i p fs) (λx hx=>hp x (by simp [hx]))
  have hn:=aCo keep i p fs F
  rw [hn] at h2 h3 h4
  have hp0:=hp p (by simp)
  have e:o5 keep i (p :: q) fs=o5 keep (i+1) q (C0 keep i p fs):=rfl
  rw [e,a3d]
  by_cases hF:p.1=F
  ·rw [if_pos hF]
   by_cases hs:keep=[]\/keep.getD (i % keep.length) 0 % 2=0\/((fs p.1).now.length:Int)<=p.2*64
   ·have e2:C0 keep i p fs=fs:=by unfold C0;rw [if_pos hs]
    rw [e2] at h3 h4
    exact ⟨ns,h1.cons _,h2,by rw [e2];exact h3,by rw [e2];exact h4⟩
   ·have e2:(C0 keep i p fs F).last=gK (fs F).last (p.2.toNat*64) (UZ (fs F).now p.2.toNat):=by
     unfold C0
     rw [if_neg hs,if_pos hF.symm,hF]
     unfold UZ
     rw [show (p.2*64).toNat=p.2.toNat*64 by omega]
    rw [e2] at h4
    refine ⟨p.2.toNat :: ns,h1.cons_cons _,λn hn'=>?_,h3,h4⟩
    rcases List.mem_cons.1 hn' with rfl|hn'
    ·rw [hF] at hs
     have:¬ ((fs F).now.length:Int)<=p.2*64:=λh=>hs (.inr (.inr h))
     omega
    ·exact h2 n hn'
  ·rw [if_neg hF]
   have e2:(C0 keep i p fs F).last=(fs F).last:=by
    unfold C0
    split
    ·rfl
    ·dsimp only
     rw [if_neg λh=>hF h.symm]
   rw [e2] at h4
   exact ⟨ns,h1,h2,h3,h4⟩
theorem a9f {d:cC} (hd:d.down=false) (keep:List Int) (hq:∀ p∈d.queue,0<=p.2) (F:Int) :
  ∃ ns:List Nat,ns.Sublist (OY F d.queue)/\(∀ n∈ns,n*64<(d.files F).now.length)/\(cL d keep).files F=⟨KF (d.files F).now ns (d.files F).last,KF (d.files F).now ns (d.files F).last⟩:=by
 obtain ⟨ns,h1,h2,_,h4⟩:=YZ F d.queue keep 0 d.files hq
 refine ⟨ns,h1,h2,?_⟩
 unfold cL
 rw [if_neg (by rw [hd];simp)]
 show iA.mk (o5 keep 0 d.queue d.files F).last (o5 keep 0 d.queue d.files F).last=_
 rw [h4]
theorem QH {d:cC} (hd:d.down=false) (keep:List Int):(cL d keep).queue=[]/\(cL d keep).down=true/\(cL d keep).bS=0/\(cL d keep).lost=d.lost:=by
 unfold cL
 rw [if_neg (by rw [hd];simp)]
 exact ⟨rfl,rfl,rfl,rfl⟩
end Go.Proofs.YtfccagphnfceiaaGreatDoor
end

section
namespace Go.Proofs.YtfccagphnfceiaaGreatDoor
open Go.Vc
def kX (N:Bs) (slot:Nat) (v:Bs):Prop :=
 (slot=0/\v=[]/\N.getD 0 0=0)\/((slot=1\/slot=2)/\v.length<=65536/\(∀ i,i<5->N[i]? = (gZ slot v.length)[i]?)/\∀ i,i<v.length->N[eX slot+i]? = v[i]?)
theorem qJ (slot n:Nat):(gZ slot n).length=5:=rfl
theorem aGp {slot n:Nat} (h:n<=65536):sM (gZ slot n)=n:=by
 unfold sM gZ
 simp only [List.getD_cons_succ,List.getD_cons_zero,Nat.toUInt8,UInt8.toNat_ofNat']
 omega
theorem aCp {N h:Bs} {n:Nat} (hn:h.length=n) (hg:∀ i,i<n->N[i]? = h[i]?):N.take n=h:=by
 apply List.ext_getElem?
 intro i
 rcases Nat.lt_or_ge i n with hi|hi
 ·rw [List.getElem?_take_of_lt hi,hg i hi]
 ·rw [List.getElem?_eq_none (by rw [List.length_take];omega),List.getElem?_eq_none (by omega)]
theorem aGq {N v:Bs} {a:Nat} (hg:∀ i,i<v.length->N[a+i]? = v[i]?):(N.drop a).take v.length=v:=by
 apply List.ext_getElem?
 intro i
 rcases Nat.lt_or_ge i v.length with hi|hi
 ·rw [List.getElem?_take_of_lt hi,List.getElem?_drop,hg i hi]
 ·rw [List.getElem?_eq_none (by rw [List.length_take];omega),List.getElem?_eq_none hi]
theorem a3e {d:cC} {F a n:Int} (hd:d.down=false) (hF:0<=F/\F<16) (ha:0<=a) (hn:0<=n):b9 d F a n=(((d.files F).now.drop a.toNat).take n.toNat,0):=by
 have hm:j8 d F=0:=by unfold j8;rw [if_neg (by rw [hd];simp),if_neg (by omega)]
 unfold b9
 rw [if_neg (by rw [hm];simp),if_neg (by omega)]
theorem a3f {d:cC} {F:Int} {slot:Nat} {v:Bs} (hd:d.down=false) (hF:0<=F/\F<16) (h:kX (d.files F).now slot v):mF d F=(some ⟨F,slot,v,false⟩,0):=by
 have hr:=a3e (d:=d) (F:=F) (a:=0) (n:=5) hd hF (by omega) (by omega)
 have hr:b9 d F 0 5=((d.files F).now.take 5,0):=hr
 obtain ⟨N,hN⟩:∃ N,(d.files F).now=N:=⟨_,rfl⟩
 rw [hN] at h hr
 unfold mF
 rw [hr]
 simp only
 rw [if_neg (by simp)]
 rcases h with ⟨rfl,rfl,h0⟩|⟨hs,hv,hh,hval⟩
 ·have h1:(N.take 5).getD 0 0=0:=by
   cases N with
   | nil=>rfl
   | cons x r=>exact h0
  rw [if_pos (.inr h1)]
 ·have ht:N.take 5=gZ slot v.length:=aCp (qJ _ _) hh
  have hsn:(slot.toUInt8).toNat=slot:=by rcases hs with rfl|rfl<;>rfl
  have h0:(gZ slot v.length).getD 0 0=slot.toUInt8:=rfl
  have hs8:slot.toUInt8=1\/slot.toUInt8=2:=by rcases hs with rfl|rfl<;>decide
  have aZn:slot.toUInt8≠0:=by rcases hs with rfl|rfl<;>decide
  rw [ht,h0,hsn,aGp hv]
  have hoff:(0:Int)<=(eX slot:Int):=by omega
  rw [a3e hd hF hoff (by omega),hN]
  simp only [Int.toNat_natCast]
  rw [aGq hval]
  rw [if_neg (by
   intro h
   rcases h with h|h
   ·have:=congrArg List.length h
    rw [qJ] at this
    cases this
   ·exact aZn h),if_neg (by
   intro h
   rcases h with h|h
   ·rw [qJ] at h;omega
   ·rcases hs8 with h8|h8
    ·exact h.1 h8
    ·exact h.2 h8),if_neg (by omega),if_neg (by simp),if_neg (by omega)]
def Z0 (f:iA) (P:Nat->Bs->Prop):Prop:=(∃ s v,kX f.now s v/\P s v)/\∀ ns:List Nat,(∀ n∈ns,n*64<f.now.length)->∃ s v,kX (KF f.now ns f.last) s v/\P s v
theorem aGr {N L:Bs} {s:Nat} {v:Bs} (hN:kX N s v) (hL:kX L s v) {ns:List Nat} (hs:∀ n∈ns,n*64<N.length):kX (KF N ns L) s v:=by
 rcases hL with ⟨rfl,rfl,h0⟩|⟨h1,h2,h3,h4⟩
 ·rcases hN with ⟨_,_,n0⟩|⟨h,_⟩
  ·exact .inl ⟨rfl,rfl,a3c n0 ns L hs h0⟩
  ·omega
 ·rcases hN with ⟨rfl,_⟩|⟨_,_,n3,n4⟩
  ·omega
  ·refine .inr ⟨h1,h2,λi hi=>?_,λi hi=>?_⟩
   ·have e:(gZ s v.length)[i]? = some ((gZ s v.length)[i]'(by rw [qJ];exact hi)):=List.getElem?_eq_getElem _
    rw [e]
    exact r9 (by rw [n3 i hi,e]) ns L hs (by rw [h3 i hi,e])
   ·have e:v[i]? = some v[i]:=List.getElem?_eq_getElem hi
    rw [e]
    exact r9 (by rw [n4 i hi,e]) ns L hs (by rw [h4 i hi,e])
theorem q9 {f:iA} {s:Nat} {v:Bs} {P:Nat->Bs->Prop} (hN:kX f.now s v) (hL:kX f.last s v) (hP:P s v):Z0 f P:=⟨⟨s,v,hN,hP⟩,λns hs=>⟨s,v,aGr hN hL hs,hP⟩⟩
theorem N0 {N:Bs}:∀ (ns:List Nat) (L:Bs),(∀ n∈ns,n*64<N.length/\n≠0)->L.getD 0 0=0->(KF N ns L).getD 0 0=0
 | [],L,_,h=>h
 | n :: ns,L,hs,h=>by
  refine N0 ns _ (λm hm=>hs m (by simp [hm])) ?_
  have h1:=hs n (by simp)
  rw [List.getD_eq_getElem?_getD,MZ h1.1,if_neg (by omega)]
  split
  ·rfl
  ·rw [<-List.getD_eq_getElem?_getD];exact h
theorem a5u {f:iA} {s s':Nat} {v v':Bs} {P:Nat->Bs->Prop} (hs':s'=1\/s'=2) (hv':v'.length<=65536) (hL:kX f.last s v) (hnew:∀ i,i<v'.length->f.last[eX s'+i]? = v'[i]?)
  (aGs:f.now=gK f.last 0 (gZ s' v'.length)) (hP:P s v) (hP':P s' v'):Z0 f P:=by
 have hne:gZ s' v'.length≠[]:=by intro e;have:=congrArg List.length e;cases this
 have aPL:∀ i,i<5->f.now[i]? = (gZ s' v'.length)[i]? := λi hi=>by
  rw [aGs,MY hne (Nat.zero_le _) (by rw [qJ];omega),Nat.sub_zero]
 have aCq:∀ i,5<=i->f.now[i]? = f.last[i]? := λi hi=>by
  rw [aGs,HD hne (by rw [qJ];omega)]
 have hoff:∀ k,(k=1\/k=2)->5<=eX k:=λk hk=>by rcases hk with rfl|rfl<;>decide
 have hN:kX f.now s' v':=.inr ⟨hs',hv',aPL,λi hi=>by
  have:=hoff s' hs'
  rw [aCq _ (by omega)]
  exact hnew i hi⟩
 refine ⟨⟨s',v',hN,hP'⟩,λns hns=>?_⟩
 by_cases h0:0∈ns
 ·refine ⟨s',v',.inr ⟨hs',hv',λi hi=>?_,λi hi=>?_⟩,hP'⟩
  ·have e:(gZ s' v'.length)[i]? = some ((gZ s' v'.length)[i]'(by rw [qJ];exact hi)):=List.getElem?_eq_getElem _
   rw [e]
   exact a7r (by rw [aPL i hi,e]) ns _ hns (by rw [show i / 64=0 by omega];exact h0)
  ·have:=hoff s' hs'
   have e:v'[i]? = some v'[i]:=List.getElem?_eq_getElem hi
   rw [e]
   exact r9 (by rw [aCq _ (by omega),hnew i hi,e]) ns _ hns (by rw [hnew i hi,e])
 ·have aK6:∀ n∈ns,n*64<f.now.length/\n≠0:=λn hn=>⟨hns n hn,λe=>h0 (e ▸ hn)⟩
  rcases hL with ⟨rfl,rfl,hz⟩|⟨h1,h2,h3,h4⟩
  ·exact ⟨0,[],.inl ⟨rfl,rfl,N0 ns _ aK6 hz⟩,hP⟩
  ·refine ⟨s,v,.inr ⟨h1,h2,λi hi=>?_,λi hi=>?_⟩,hP⟩
   ·have e:(gZ s v.length)[i]? = some ((gZ s v.length)[i]'(by rw [qJ];exact hi)):=List.getElem?_eq_getElem _
    rw [e]
    exact a7q ns _ (λn hn=>⟨(aK6 n hn).1,by have:=(aK6 n hn).2;omega⟩) (by rw [h3 i hi,e])
   ·have:=hoff s h1
    have e:v[i]? = some v[i]:=List.getElem?_eq_getElem hi
    rw [e]
    exact r9 (by rw [aCq _ (by omega),h4 i hi,e]) ns _ hns (by rw [h4 i hi,e])
theorem Z0.mono {f:iA} {P Q:Nat->Bs->Prop} (h:Z0 f P) (hPQ:∀ s v,P s v->Q s v):Z0 f Q :=
 ⟨by obtain ⟨s,v,h1,h2⟩:=h.1;exact ⟨s,v,h1,hPQ s v h2⟩,λns hs=>by obtain ⟨s,v,h1,h2⟩:=h.2 ns hs;exact ⟨s,v,h1,hPQ s v h2⟩⟩
theorem Z0.Z1 {f:iA} {P:Nat->Bs->Prop} (h:Z0 f P) {ns:List Nat} (hs:∀ n∈ns,n*64<f.now.length):Z0 ⟨KF f.now ns f.last,KF f.now ns f.last⟩ P:=by
 obtain ⟨s,v,h1,h2⟩:=h.2 ns hs
 exact q9 h1 h1 h2
theorem Z0.settle {f:iA} {P:Nat->Bs->Prop} (h:Z0 f P):Z0 ⟨f.now,f.now⟩ P:=by
 obtain ⟨s,v,h1,h2⟩:=h.1
 exact q9 h1 h1 h2
end Go.Proofs.YtfccagphnfceiaaGreatDoor
end

section
namespace Go.Proofs.YtfccagphnfceiaaGreatDoor
open Go.Vc
inductive Ev:iA->iA->Prop
 | refl (f:iA):Ev f f
 | step {f g:iA} {ns:List Nat}:Ev f g->(∀ n∈ns,n*64<g.now.length)->Ev f ⟨KF g.now ns g.last,KF g.now ns g.last⟩
theorem Ev.trans {f g h:iA} (h1:Ev f g) (h2:Ev g h):Ev f h:=by
 induction h2 with
 | refl=>exact h1
 | step _ hs ih=>exact .step ih hs
theorem Ev.Z2 {f g:iA} {P:Nat->Bs->Prop} (h:Ev f g) (hP:Z0 f P):Z0 g P:=by
 induction h with
 | refl=>exact hP
 | step _ hs ih=>exact ih.Z1 hs
def Pre (B:Bs) (f:iA):Prop:=∀ (i:Nat) (x:UInt8),B[i]? = some x->f.now[i]? = some x/\f.last[i]? = some x
theorem Ev.pre {B:Bs} {f g:iA} (h:Ev f g) (hP:Pre B f):Pre B g:=by
 induction h with
 | refl=>exact hP
 | step _ hs ih =>
  intro i x hx
  obtain ⟨h1,h2⟩:=ih i x hx
  exact ⟨r9 h1 _ _ hs h2,r9 h1 _ _ hs h2⟩
def L4 (d:cC):Prop:=∀ p∈d.queue,0<=p.2
def L5 (d:cC):Prop:=d.down=false/\d.bS=0/\d.lost=0
theorem a7s:L5 bX:=⟨rfl,rfl,rfl⟩
theorem a1a {d:cC} (hw:L4 d) (keep:List Int):L4 (cL d keep):=by
 unfold cL
 split
 ·exact hw
 ·exact λp hp=>by cases hp
theorem GC {d:cC} (hw:L4 d) (keep:List Int) (F:Int):Ev (d.files F) ((cL d keep).files F):=by
 cases hd:d.down with
 | true =>
  have:cL d keep=d:=by unfold cL;rw [if_pos hd]
  rw [this]
  exact .refl _
 | false =>
  obtain ⟨ns,_,h2,h3⟩:=a9f hd keep hw F
  rw [h3]
  exact .step (.refl _) h2
theorem a7t (d:cC):(cP d).files=d.files/\(cP d).queue=d.queue/\(cP d).down=d.down/\(cP d).lost=d.lost/\(cP d).keep=d.keep:=by
 unfold cP
 split<;>exact ⟨rfl,rfl,rfl,rfl,rfl⟩
theorem a1b {d:cC} (h:L5 d):cP d=d/\o4 d=false:=by
 unfold cP o4
 rw [if_pos (.inr h.2.1),h.2.1,h.1]
 exact ⟨rfl,rfl⟩
theorem aCr (f:Int):∀ (ns:List Int) (q:List (Int × Int)),(∀ n∈ns,0<=n)->(∀ p∈q,0<=p.2)->∀ p∈yH f ns q,0<=p.2
 | [],q,_,hq=>hq
 | n :: ns,q,hn,hq=>by
  refine aCr f ns _ (λm hm=>hn m (by simp [hm])) λp hp=>?_
  split at hp
  ·exact hq p hp
  ·rcases List.mem_append.1 hp with hp|hp
   ·exact hq p hp
   ·rw [List.mem_singleton.1 hp];exact hn n (by simp)
theorem aCs (a n:Nat):∀ m∈uY a n,0<=m:=λm hm=>by
 unfold uY at hm
 obtain ⟨i,_,rfl⟩:=List.mem_map.1 hm
 omega
theorem a5v {d:cC} {F a:Int} {s:Bs} (hF:0<=F/\F<16) (ha:0<=a) (hs:a+s.length<=16777216) (hw:L4 d) :
  L4 (cK d F a s).1/\(∀ G,G≠F->(cK d F a s).1.files G=d.files G)/\(cK d F a s).1.down=d.down/\(cK d F a s).1.bS=d.bS/\(cK d F a s).1.lost=d.lost /\
  ((d.down=false/\(cK d F a s).2=0/\(cK d F a s).1.files F=⟨gK (d.files F).now a.toNat s,(d.files F).last⟩)\/(d.down=true/\(cK d F a s).2=9/\(cK d F a s).1=d)):=by
 cases hd:d.down with
 | true =>
  have hm:j8 d F=9:=by unfold j8;rw [if_pos hd]
  have e:cK d F a s=(d,9):=by unfold cK;rw [hm,if_pos (by decide)]
  rw [e]
  exact ⟨hw,λ_ _=>rfl,hd,rfl,rfl,.inr ⟨rfl,rfl,rfl⟩⟩
 | false =>
  have hm:j8 d F=0:=by unfold j8;rw [if_neg (by rw [hd];simp),if_neg (by omega)]
  by_cases h0:s=[]
  ·have e:cK d F a s=(d,0):=by unfold cK;rw [hm,if_neg (by decide),if_neg (by omega),if_neg (by omega),if_pos h0]
   rw [e,h0,MW]
   exact ⟨hw,λ_ _=>rfl,hd,rfl,rfl,.inl ⟨rfl,rfl,rfl⟩⟩
  ·have e:cK d F a s=({ d.set F ⟨gK (d.files F).now a.toNat s,(d.files F).last⟩ with queue:=yH F (uY a.toNat s.length) d.queue },0):=by
    unfold cK;rw [hm,if_neg (by decide),if_neg (by omega),if_neg (by omega),if_neg h0]
   rw [e]
   refine ⟨aCr F _ _ (aCs _ _) hw,λG hG=>?_,hd,rfl,rfl,.inl ⟨rfl,rfl,?_⟩⟩
   ·show (if G=F then _ else d.files G)=_
    rw [if_neg hG]
   ·show (if F=F then _ else d.files F)=_
    rw [if_pos rfl]
theorem Z3 {d:cC} {F a:Int} {s:Bs} (hF:0<=F/\F<16) (ha:0<=a) (hs:a+s.length<=16777216) (hw:L4 d) :
  L4 (aY d F a s).1/\(∀ G,G≠F->Ev (d.files G) ((aY d F a s).1.files G))/\(L5 d->L5 (aY d F a s).1/\(aY d F a s).2=0)/\((aY d F a s).1.lost=d.lost) /\
  (((aY d F a s).2=0/\(aY d F a s).1.files F=⟨gK (d.files F).now a.toNat s,(d.files F).last⟩)\/((aY d F a s).2=9/\(Ev (d.files F) ((aY d F a s).1.files F)\/Ev ⟨gK (d.files F).now a.toNat s,(d.files F).last⟩ ((aY d F a s).1.files F)))):=by
 obtain ⟨t1,t2,t3,t4,t5⟩:=a7t d
 have sJ:L4 (cP d):=by unfold L4;rw [t2];exact hw
 obtain ⟨w1,w2,w3,w4,w5,w6⟩:=a5v (d:=cP d) (s:=s) hF ha hs sJ
 rw [t1] at w2 w6
 rw [t3] at w3 w6
 rw [t4] at w5
 cases he:o4 d with
 | true =>
  have e:aY d F a s=(cL (cK (cP d) F a s).1 d.keep,9):=by unfold aY;rw [if_pos he]
  have hd:d.down=false:=by
   unfold o4 at he
   cases h:d.down with
   | true=>rw [h] at he;cases he
   | false=>rfl
  rw [e]
  refine ⟨a1a w1 _,λG hG=>?_,λh=>?_,?_,.inr ⟨rfl,.inr ?_⟩⟩
  ·rw [<-w2 G hG];exact GC w1 _ G
  ·rw [(a1b h).2] at he;cases he
  ·rw [<-w5]
   exact (QH (by rw [w3];exact hd) _).2.2.2
  ·rcases w6 with ⟨_,_,w7⟩|⟨h,_⟩
   ·rw [<-w7];exact GC w1 _ F
   ·rw [hd] at h;cases h
 | false =>
  have e:aY d F a s=cK (cP d) F a s:=by unfold aY;rw [if_neg (by rw [he];simp)]
  rw [e]
  refine ⟨w1,λG hG=>by rw [w2 G hG];exact .refl _,λh=>?_,w5,?_⟩
  ·rcases w6 with ⟨_,w7,_⟩|⟨h2,_⟩
   ·have ht:=(a1b h).1
    rw [ht] at w3 w4 w5 w7 ⊢
    exact ⟨⟨by rw [w3];exact h.1,by rw [w4];exact h.2.1,by rw [w5];exact h.2.2⟩,w7⟩
   ·rw [h.1] at h2;cases h2
  ·rcases w6 with ⟨_,w7,w8⟩|⟨_,w7,w8⟩
   ·exact .inl ⟨w7,w8⟩
   ·refine .inr ⟨w7,.inl ?_⟩
    rw [w8,t1]
    exact .refl _
theorem aCt {d:cC} (hw:L4 d):L4 (kC d)/\(∀ G,Ev (d.files G) ((kC d).files G))/\(L5 d->kC d=d)/\(kC d).lost=d.lost/\((kC d).down=false->(kC d).files=d.files):=by
 obtain ⟨t1,t2,t3,t4,t5⟩:=a7t d
 have sJ:L4 (cP d):=by unfold L4;rw [t2];exact hw
 unfold kC
 cases he:o4 d with
 | true =>
  rw [if_pos rfl]
  have hd:d.down=false:=by
   unfold o4 at he
   cases h:d.down with
   | true=>rw [h] at he;cases he
   | false=>rfl
  have hq:=QH (d:=cP d) (by rw [t3];exact hd) d.keep
  refine ⟨a1a sJ _,λG=>by rw [<-t1];exact GC sJ _ G,λh=>?_,by rw [hq.2.2.2,t4],λh=>?_⟩
  ·rw [(a1b h).2] at he;cases he
  ·rw [hq.2.1] at h;cases h
 | false =>
  rw [if_neg (by simp)]
  exact ⟨sJ,λG=>by rw [t1];exact .refl _,λh=>(a1b h).1,t4,λ_=>t1⟩
theorem N1 {d:cC} {F:Int} (hF:0<=F/\F<16) (hw:L4 d) :
  L4 (bQ d F).1/\(∀ G,G≠F->Ev (d.files G) ((bQ d F).1.files G))/\(L5 d->L5 (bQ d F).1/\(bQ d F).2=0) /\
  (((bQ d F).2=0/\(bQ d F).1.down=false/\(bQ d F).1.files F=⟨(d.files F).now,(d.files F).now⟩)\/(((bQ d F).2=9\/(bQ d F).2=10)/\Ev (d.files F) ((bQ d F).1.files F))):=by
 obtain ⟨f1,f2,f3,f4,f5⟩:=aCt hw
 unfold bQ wJ
 cases hd:(kC d).down with
 | true =>
  have hm:j8 (kC d) F=9:=by unfold j8;rw [if_pos hd]
  rw [hm,if_pos (by decide)]
  refine ⟨f1,λG _=>f2 G,λh=>?_,.inr ⟨.inl rfl,f2 F⟩⟩
  rw [f3 h,h.1] at hd;cases hd
 | false =>
  have hm:j8 (kC d) F=0:=by unfold j8;rw [if_neg (by rw [hd];simp),if_neg (by omega)]
  rw [hm,if_neg (by decide)]
  by_cases hl:0<(kC d).lost
  ·rw [if_pos hl]
   refine ⟨f1,λG _=>f2 G,λh=>?_,.inr ⟨.inr rfl,f2 F⟩⟩
   rw [f4,h.2.2] at hl;omega
  ·rw [if_neg hl]
   refine ⟨λp hp=>f1 p (List.mem_filter.1 hp).1,λG hG=>?_,λh=>?_,.inl ⟨rfl,hd,?_⟩⟩
   ·show Ev (d.files G) (if G=F then _ else (kC d).files G)
    rw [if_neg hG];exact f2 G
   ·rw [f3 h]
    exact ⟨h,rfl⟩
   ·show (if F=F then _ else (kC d).files F)=_
    rw [if_pos rfl,f5 hd]
theorem aGt {N:Bs} {s s':Nat} {v v':Bs} (hv':v'.length<=65536) (h:kX N s v) (hs':s'=if s=1 then 2 else 1):kX (gK N (eX s') v') s v/\∀ i,i<v'.length->(gK N (eX s') v')[eX s'+i]? = v'[i]? := by
 by_cases h0:v'=[]
 ·rw [h0,MW]
  exact ⟨h,λi hi=>by cases hi⟩
 refine ⟨?_,λi hi=>?_⟩
 ·rcases h with ⟨rfl,rfl,hz⟩|⟨h1,h2,h3,h4⟩
  ·refine .inl ⟨rfl,rfl,?_⟩
   rw [if_neg (by decide)] at hs'
   subst hs'
   rw [List.getD_eq_getElem?_getD,MX h0 (by decide)]
   split
   ·rw [<-List.getD_eq_getElem?_getD];exact hz
   ·rfl
  ·have hne:∀ i,i<5\/(eX s<=i/\i<eX s+v.length)->N[i]? ≠ none->(gK N (eX s') v')[i]? = N[i]? := by
    intro i hi hx
    have hl:i<N.length:=by
     rcases Nat.lt_or_ge i N.length with h|h
     ·exact h
     ·exact absurd (List.getElem?_eq_none h) hx
    rcases h1 with rfl|rfl
    ·rw [if_pos rfl] at hs'
     subst hs'
     rw [MX h0 (by
      have e1:eX 1=64:=rfl
      have e2:eX 2=131072:=rfl
      omega),if_pos hl]
    ·rw [if_neg (by decide)] at hs'
     subst hs'
     have e1:eX 1=64:=rfl
     have e2:eX 2=131072:=rfl
     rcases Nat.lt_or_ge i 64 with h64|h64
     ·rw [MX h0 (by omega),if_pos hl]
     ·rw [HD h0 (by omega)]
   refine .inr ⟨h1,h2,λi hi=>?_,λi hi=>?_⟩
   ·have e:=h3 i hi
    rw [hne i (.inl hi) (by rw [e,List.getElem?_eq_getElem (by rw [qJ];exact hi)];simp)]
    exact e
   ·have e:=h4 i hi
    rw [hne _ (.inr ⟨by omega,by omega⟩) (by rw [e,List.getElem?_eq_getElem hi];simp)]
    exact e
 ·rw [MY h0 (by omega) (by omega),Nat.add_sub_cancel_left]
def aH1 (k:Nat) (v:Bs) (k':Nat) (v':Bs):Nat->Bs->Prop:=λs w=>(s=k/\w=v)\/(s=k'/\w=v')
structure aPN (d:cC) (c:sL) (s:Bs) (slot':Nat) (r:cC × sL × Int):Prop where
 w:L4 r.1
 other:∀ G,G≠c.file->Ev (d.files G) (r.1.files G)
 OZ:L5 d->L5 r.1/\r.2.2=0
 file:r.2.1.file=c.file
 ok:r.2.2=0->r.2.1.slot=slot'/\r.2.1.value=s/\∃ X,r.1.files c.file=⟨X,X⟩/\kX X slot' s
 bad:r.2.2≠0->(r.2.2=9\/r.2.2=10)/\Z0 (r.1.files c.file) (aH1 c.slot c.value slot' s)
theorem Z4 {d:cC} {c:sL} {s:Bs} {slot':Nat} (hF:0<=c.file/\c.file<16) (hw:L4 d) (hs:s.length<=65536) (V0:slot'=if c.slot=1 then 2 else 1)
  (hN:kX (d.files c.file).now c.slot c.value) (hL:kX (d.files c.file).last c.slot c.value):aPN d c s slot' (sD d c s slot'):=by
 have aGu:slot'=1\/slot'=2:=by rw [V0];split<;>simp
 have hoff:0<=(eX slot':Int)/\(eX slot':Int)+s.length<=16777216:=by rcases aGu with rfl|rfl<;>exact ⟨by decide,by show (_:Int)+_<=_;have e1:eX 1=64:=rfl;have e2:eX 2=131072:=rfl;omega⟩
 obtain ⟨p1,p2⟩:=aGt hs hN V0
 have hA:=Z3 (d:=d) (F:=c.file) (a:=(eX slot':Int)) (s:=s) hF hoff.1 hoff.2 hw
 unfold sD
 obtain ⟨⟨d1,e1⟩,h1⟩:∃ x,aY d c.file (eX slot') s=x:=⟨_,rfl⟩
 rw [h1] at hA ⊢
 simp only at hA ⊢
 rw [Int.toNat_natCast] at hA
 obtain ⟨a1,a2,a3,_,a5⟩:=hA
 by_cases he1:e1≠0
 ·rw [if_pos he1]
  refine ⟨a1,a2,λh=>absurd (a3 h).2 he1,rfl,λh=>absurd h he1,λ_=>?_⟩
  rcases a5 with ⟨h,_⟩|⟨h,h2⟩
  ·exact absurd h he1
  ·refine ⟨.inl h,?_⟩
   rcases h2 with h2|h2
   ·exact h2.Z2 (q9 hN hL (.inl ⟨rfl,rfl⟩))
   ·exact h2.Z2 (q9 p1 hL (.inl ⟨rfl,rfl⟩))
 rw [if_neg he1]
 have he1:e1=0:=Decidable.not_not.1 he1
 have b5:d1.files c.file=⟨gK (d.files c.file).now (eX slot') s,(d.files c.file).last⟩:=by
  rcases a5 with ⟨_,h⟩|⟨h,_⟩
  ·exact h
  ·rw [he1] at h;cases h
 have hB:=N1 (d:=d1) (F:=c.file) hF a1
 obtain ⟨⟨d2,e2⟩,h2⟩:∃ x,bQ d1 c.file=x:=⟨_,rfl⟩
 rw [h2] at hB ⊢
 simp only at hB ⊢
 rw [b5] at hB
 obtain ⟨c1,c2,c3,c4⟩:=hB
 by_cases he2:e2≠0
 ·rw [if_pos he2]
  refine ⟨c1,λG hG=>(a2 G hG).trans (c2 G hG),λh=>absurd (c3 (a3 h).1).2 he2,rfl,λh=>absurd h he2,λ_=>?_⟩
  rcases c4 with ⟨h,_⟩|⟨h,h2⟩
  ·exact absurd h he2
  ·exact ⟨h,h2.Z2 (q9 p1 hL (.inl ⟨rfl,rfl⟩))⟩
 rw [if_neg he2]
 have he2:e2=0:=Decidable.not_not.1 he2
 have b6:d2.files c.file=⟨gK (d.files c.file).now (eX slot') s,gK (d.files c.file).now (eX slot') s⟩:=by
  rcases c4 with ⟨_,_,h⟩|⟨h,_⟩
  ·exact h
  ·rw [he2] at h;omega
 obtain ⟨X,hX⟩:∃ X,gK (d.files c.file).now (eX slot') s=X:=⟨_,rfl⟩
 rw [hX] at p1 p2 b6
 have hC:=Z3 (d:=d2) (F:=c.file) (a:=0) (s:=gZ slot' s.length) hF (Int.le_refl 0) (by rw [qJ];decide) c1
 obtain ⟨⟨d3,e3⟩,h3⟩:∃ x,aY d2 c.file 0 (gZ slot' s.length)=x:=⟨_,rfl⟩
 rw [h3] at hC ⊢
 simp only at hC ⊢
 rw [b6] at hC
 obtain ⟨g1,g2,g3,_,g5⟩:=hC
 have aPO:Z0 ⟨gK X 0 (gZ slot' s.length),X⟩ (aH1 c.slot c.value slot' s):=a5u aGu hs p1 p2 rfl (.inl ⟨rfl,rfl⟩) (.inr ⟨rfl,rfl⟩)
 by_cases he3:e3≠0
 ·rw [if_pos he3]
  refine ⟨g1,λG hG=>((a2 G hG).trans (c2 G hG)).trans (g2 G hG),λh=>absurd (g3 (c3 (a3 h).1).1).2 he3,rfl,λh=>absurd h he3,λ_=>?_⟩
  rcases g5 with ⟨h,_⟩|⟨h,h2⟩
  ·exact absurd h he3
  ·refine ⟨.inl h,?_⟩
   rcases h2 with h2|h2
   ·exact h2.Z2 (q9 p1 p1 (.inl ⟨rfl,rfl⟩))
   ·exact h2.Z2 aPO
 rw [if_neg he3]
 have he3:e3=0:=Decidable.not_not.1 he3
 have b7:d3.files c.file=⟨gK X 0 (gZ slot' s.length),X⟩:=by
  rcases g5 with ⟨_,h⟩|⟨h,_⟩
  ·exact h
  ·rw [he3] at h;cases h
 have hD:=N1 (d:=d3) (F:=c.file) hF g1
 obtain ⟨⟨d4,e4⟩,h4⟩:∃ x,bQ d3 c.file=x:=⟨_,rfl⟩
 rw [h4] at hD ⊢
 simp only at hD ⊢
 rw [b7] at hD
 obtain ⟨k1,k2,k3,k4⟩:=hD
 refine ⟨k1,λG hG=>(((a2 G hG).trans (c2 G hG)).trans (g2 G hG)).trans (k2 G hG),λh=>k3 (g3 (c3 (a3 h).1).1).1,rfl,λh=>⟨rfl,rfl,gK X 0 (gZ slot' s.length),?_,?_⟩,λh=>?_⟩
 ·rcases k4 with ⟨_,_,h'⟩|⟨h',_⟩
  ·exact h'
  ·simp only at h;rw [h] at h';omega
 ·have hne:gZ slot' s.length≠[]:=by intro e;have:=congrArg List.length e;cases this
  refine .inr ⟨aGu,hs,λi hi=>?_,λi hi=>?_⟩
  ·rw [MY hne (Nat.zero_le _) (by rw [qJ];omega),Nat.sub_zero]
  ·have hge:5<=eX slot':=by rcases aGu with rfl|rfl<;>decide
   rw [HD hne (by rw [qJ];omega)]
   exact p2 i hi
 ·rcases k4 with ⟨h',_⟩|⟨h',h2⟩
  ·exact absurd h' h
  ·exact ⟨h',h2.Z2 aPO⟩
theorem aCu {d:cC} {c:sL} {s:Bs} (hF:0<=c.file/\c.file<16) (hw:L4 d) (hs:s.length<=65536)
  (hN:kX (d.files c.file).now c.slot c.value) (hL:kX (d.files c.file).last c.slot c.value):aPN d c s (if c.slot=1 then 2 else 1) (lQ d c s):=by
 obtain ⟨k,hk⟩:∃ k:Nat,k=(if c.slot=1 then 2 else 1):=⟨_,rfl⟩
 unfold lQ
 rw [<-hk,if_neg (by omega:¬ 65536<s.length)]
 split
 ·obtain ⟨a1,a2,a3,a4⟩:=N1 (d:=d) (F:=c.file) hF hw
  obtain ⟨⟨d1,e1⟩,h1⟩:∃ x,bQ d c.file=x:=⟨_,rfl⟩
  rw [h1] at a1 a2 a3 a4 ⊢
  simp only at a1 a2 a3 a4 ⊢
  by_cases he:e1≠0
  ·rw [if_pos he]
   refine ⟨a1,a2,λh=>absurd (a3 h).2 he,rfl,λh=>absurd h he,λ_=>?_⟩
   rcases a4 with ⟨h,_⟩|⟨h,h2⟩
   ·exact absurd h he
   ·exact ⟨h,h2.Z2 (q9 hN hL (.inl ⟨rfl,rfl⟩))⟩
  ·rw [if_neg he]
   have he:e1=0:=Decidable.not_not.1 he
   have b:d1.files c.file=⟨(d.files c.file).now,(d.files c.file).now⟩:=by
    rcases a4 with ⟨_,_,h⟩|⟨h,_⟩
    ·exact h
    ·rw [he] at h;omega
   have h:=Z4 (d:=d1) (c:={ c with sure:=true }) (s:=s) (slot':=k) hF a1 hs hk (by show kX (d1.files c.file).now c.slot c.value;rw [b];exact hN) (by show kX (d1.files c.file).last c.slot c.value;rw [b];exact hN)
   exact ⟨h.w,λG hG=>(a2 G hG).trans (h.other G hG),λhh=>h.OZ (a3 hh).1,h.file,h.ok,h.bad⟩
 ·exact Z4 hF hw hs hk hN hL
end Go.Proofs.YtfccagphnfceiaaGreatDoor
end

section
namespace Go.Proofs.YtfccagphnfceiaaGreatDoor
open Go.Vc
structure rI where
 last:Int
 phase:Int
 check:ByteArray
 batch:Int
 mark:Int
 next:ByteArray
 lines:List aM
abbrev RM (last:Int) (check:ByteArray):rI:=⟨last,0,check,0,0,.empty,[]⟩
abbrev D6:rI:=RM 0 .empty
def tE (x:aM):ByteArray:=J0 { x with batch:=x.no }
def aX (l:List aM):Bs:=l.flatMap λx=>(tE x).data.toList
def DU (x:rI):Bs:=(cH x.last).data.toList++((cH x.phase).data.toList++(gM x.check).data.toList)
def a3g (x:rI):Bs:=(cH x.batch).data.toList++((cH x.mark).data.toList++((gM x.next).data.toList++((AO (x.lines.length:Int)).data.toList++aX x.lines)))
def kY (x:rI):Bs:=if x.phase=0 then DU x else DU x++a3g x
def iM (b:Int):Nat->iK->List aM->Option (List aM × iK)
 | 0,st,acc=>some (acc,st)
 | k+1,st,acc=>if st.1=[] then some (acc,st) else (r8 (aL st).1 b (aL st).2).bind λy=>if eD y.1.row=true then iM b k y.2 (acc++[y.1]) else none
def J2 (x:rI) (st:iK):Bool:=eJ st&&(decide (0<=x.last)&&(decide (0<=x.phase)&&(decide (x.phase<=2)&&(decide (x.phase=0)||decide (x.last<x.batch)))))
def KG (s:Bs) (x:rI) (st:iK):Option rI:=if (J2 x st&&decide (kY x=s))=true then some x else none
def V1 (s:Bs) (last phase:Int) (check:ByteArray) (st:iK):Option rI :=
 let e:=aL st
 let f:=aL e.2
 let g:=stepT f.2
 let h:=dW g.2
 (iM e.1 h.1.toNat h.2 []).bind λy=>KG s ⟨last,phase,check,e.1,f.1,g.1,y.1⟩ y.2
def tF (s:Bs):Option rI :=
 let a:=aL (s,false)
 let b:=aL a.2
 let c:=stepT b.2
 if b.1=0 then KG s ⟨a.1,b.1,c.1,0,0,.empty,[]⟩ c.2 else V1 s a.1 b.1 c.1 c.2
structure S7 (x:rI):Prop where
 last:0<=x.last/\aR x.last
 phase:x.phase=0\/x.phase=1\/x.phase=2
 check:x.check.size<=600
 idle:x.phase=0->x.batch=0/\x.mark=0/\x.next=.empty/\x.lines=[]
 batch:x.phase≠0->x.last<x.batch
 ints:aR x.batch/\aR x.mark
 next:x.next.size<=600
 line:∀ y∈x.lines,wI y/\y.batch=x.batch/\eD y.row=true
 few:x.lines.length<=18
theorem a1c {x:aM} (h:wI x):wI { x with batch:=x.no }:=⟨⟨h.NR.no,h.NR.no,h.NR.time,h.NR.n,h.NR.iR,h.NR.why⟩,h.val,h.row⟩
theorem V2 {l:List aM} (h:∀ x∈l,wI x):(aX l).length<=l.length*3330:=by
 have e:aX l=UR (l.map λx=>{ x with batch:=x.no }):=by
  unfold aX UR
  rw [List.flatMap_map];rfl
 rw [e]
 have:=UT (l:=l.map λx=>{ x with batch:=x.no }) λy hy=>by
  obtain ⟨x,hx,rfl⟩:=List.mem_map.1 hy
  exact a1c (h x hx)
 rw [List.length_map] at this
 exact this
theorem aCv {x:rI} (h:S7 x):(kY x).length<=65536:=by
 have h1:=cT h.last.2
 have h2:(cH x.phase).size<=21:=(cT (n:=x.phase) (by have:=h.phase;unfold aR;omega)).2
 have h3:=nZ (s:=x.check) (by have:=h.check;omega)
 have h4:=cT h.ints.1
 have h5:=cT h.ints.2
 have h6:=nZ (s:=x.next) (by have:=h.next;omega)
 have h7:=h.few
 have h8:=OK (n:=(x.lines.length:Int)) (by unfold aR;omega)
 have h9:=V2 (l:=x.lines) λy hy=>(h.line y hy).1
 have h10:=h.check
 have h11:=h.next
 unfold kY
 split
 ·unfold DU
  rw [List.length_append,List.length_append,fB,fB,fB];omega
 ·unfold DU a3g
  simp only [List.length_append,fB];omega
theorem aCw {nx no nx' no':Int} {st st':iK} {x:aM} (h:r8 nx no st=some (x,st')):r8 nx' no' st=some ({ x with no:=nx',batch:=no' },st'):=by
 obtain ⟨r,hr,he⟩:=OX h
 rw [D5 hr]
 unfold rdL at he ⊢
 injection he with e1 e2
 subst e1 e2
 rfl
theorem a5w {x:aM} {b:Int} {t:Bs} (h:wI x) (hb:x.batch=b):∃ u,aL ((tE x).data.toList++t,false)=(x.no,u)/\r8 x.no b u=some (x,(t,false)):=by
 have h1:=a9e (n:=x.no) (t:=t) (a1c h)
 have h2:(aL ((tE x).data.toList++t,false)).1=x.no:=by
  unfold tE
  rw [KE,jQ h.NR.no]
 refine ⟨(aL ((tE x).data.toList++t,false)).2,by rw [<-h2],?_⟩
 unfold aCl at h1
 have h3:=aCw (nx':=x.no) (no':=b) h1
 subst hb
 exact h3
theorem Z5 {b:Int}:∀ (l acc:List aM) (t:Bs),(∀ y∈l,wI y/\y.batch=b/\eD y.row=true)->iM b l.length (aX l++t,false) acc=some (acc++l,(t,false))
 | [],acc,t,_=>by rw [List.append_nil];rfl
 | x :: l,acc,t,h=>by
  obtain ⟨h1,h2,h3⟩:=h x (by simp)
  have e:aX (x :: l)++t=(tE x).data.toList++(aX l++t):=by simp [aX]
  obtain ⟨u,g1,g2⟩:=a5w (t:=aX l++t) h1 h2
  have hne:¬ (tE x).data.toList++(aX l++t)=[]:=by
   intro h0
   have:=congrArg List.length h0
   have h4:=cT h1.NR.no
   have h5:2<=(tE x).size:=by
    unfold tE J0
    simp only [aZ]
    omega
   rw [List.length_append,fB,List.length_nil] at this
   omega
  rw [e,List.length_cons]
  unfold iM
  rw [if_neg hne,g1]
  simp only
  rw [g2]
  simp only [Option.bind]
  rw [if_pos h3,Z5 l _ t λy hy=>h y (by simp [hy]),List.append_assoc]
  rfl
theorem a5x {x:rI} (h:S7 x):tF (kY x)=some x:=by
 have aPP:aR x.phase:=by have:=h.phase;unfold aR;omega
 have hc:x.check.size<=9223372036854775807:=by have:=h.check;omega
 have hn:x.next.size<=9223372036854775807:=by have:=h.next;omega
 have hf:(x.lines.length:Int)<=9223372036854775807:=by have:=h.few;omega
 unfold tF
 by_cases h0:x.phase=0
 ·obtain ⟨a1,a2,a3,a4⟩:=h.idle h0
  have e:kY x=(cH x.last).data.toList++((cH x.phase).data.toList++((gM x.check).data.toList++[])):=by
   unfold kY DU
   rw [if_pos h0,List.append_nil]
  have e2:tF (kY x)=tF (kY x):=rfl
  conv=>lhs;rw [e]
  rw [jQ h.last.2]
  simp only
  rw [jQ aPP]
  simp only
  rw [BZ hc]
  simp only
  rw [if_pos h0,<-e]
  have hx:(⟨x.last,x.phase,x.check,0,0,.empty,[]⟩:rI)=x:=by
   rw [<-a1];cases x;simp_all
  rw [hx]
  unfold KG J2
  rw [if_pos]
  have:=h.last
  simp [eJ,h0]
  omega
 ·have e:kY x=(cH x.last).data.toList++((cH x.phase).data.toList++((gM x.check).data.toList++((cH x.batch).data.toList++((cH x.mark).data.toList++((gM x.next).data.toList++((AO (x.lines.length:Int)).data.toList++(aX x.lines++[]))))))):=by
   unfold kY DU a3g
   rw [if_neg h0]
   simp only [List.append_assoc,List.append_nil]
  conv=>lhs;rw [e]
  rw [jQ h.last.2]
  simp only
  rw [jQ aPP]
  simp only
  rw [BZ hc]
  simp only
  rw [if_neg h0,<-e]
  unfold V1
  rw [jQ h.ints.1]
  simp only
  rw [jQ h.ints.2]
  simp only
  rw [BZ hn]
  simp only
  rw [MV hf]
  simp only [Int.toNat_natCast]
  rw [Z5 x.lines [] [] h.line]
  simp only [Option.bind,List.nil_append]
  unfold KG J2
  rw [if_pos]
  have h1:=h.last
  have h2:=h.phase
  have h3:=h.batch h0
  simp [eJ]
  omega
end Go.Proofs.YtfccagphnfceiaaGreatDoor
end

section
namespace Go.Proofs.YtfccagphnfceiaaGreatDoor
open Go.Vc
theorem KH {e:UInt8} (he:e.toNat=58\/e.toNat=59\/e.toNat=91) {least:Int} {st:iK} (h:(bR e least st).2.2=false) :
  st.2=false/\aR (bR e least st).1/\least<=(bR e least st).1/\st.1=Lib.itoa (bR e least st).1++e :: (bR e least st).2.1:=by
 cases hp:q8 e least st.1 with
 | none =>
  rw [uC hp] at h
  cases h
 | some x =>
  obtain ⟨n,r⟩:=x
  rw [D4 hp] at h ⊢
  obtain ⟨⟨h1,h2⟩,h3⟩:=(iL he).1 hp
  exact ⟨h,h1,h2,h3⟩
theorem iY {st:iK} (h:(aL st).2.2=false):st.2=false/\aR (aL st).1/\st.1=(cH (aL st).1).data.toList++(aL st).2.1:=by
 obtain ⟨h1,h2,_,h3⟩:=KH (.inr (.inl rfl)) h
 refine ⟨h1,h2,?_⟩
 rw [HA,List.append_assoc]
 exact h3
theorem V3 {st:iK} (h:(dW st).2.2=false):st.2=false/\aR (dW st).1/\0<=(dW st).1/\st.1=(AO (dW st).1).data.toList++(dW st).2.1:=by
 obtain ⟨h1,h2,h0,h3⟩:=KH (.inr (.inl rfl)) h
 refine ⟨h1,h2,h0,?_⟩
 unfold AO
 rw [if_neg (by have:(0:Int)<=(dW st).1:=h0;omega),HA,List.append_assoc]
 exact h3
theorem a5y {c:UInt8} {st:iK} (h:(oT c st).2=false):st.2=false/\st.1=c :: (oT c st).1:=by
 obtain ⟨l,b⟩:=st
 cases l with
 | nil=>cases h
 | cons x r =>
  unfold oT at h ⊢
  simp only at h ⊢
  by_cases hx:x=c
  ·rw [if_pos hx] at h ⊢
   exact ⟨h,by rw [hx]⟩
  ·rw [if_neg hx] at h
   cases h
theorem D7 {st:iK} (h:(stepT st).2.2=false):st.2=false/\st.1=(gM (stepT st).1).data.toList++(stepT st).2.1:=by
 unfold stepT at h ⊢
 simp only at h ⊢
 by_cases hlt:((bR 58 0 st).2.1.length:Int)<(bR 58 0 st).1
 ·rw [if_pos hlt] at h
  cases h
 rw [if_neg hlt] at h ⊢
 simp only at h ⊢
 obtain ⟨c1,c2⟩:=a5y h
 rw [h]
 simp only at c1 c2 ⊢
 obtain ⟨a1,a2,a3,a4⟩:=KH (.inl rfl) c1
 generalize (bR 58 0 st).1=n at *
 generalize (bR 58 0 st).2.1=r at *
 refine ⟨a1,?_⟩
 have hl:((bs (r.take n.toNat)).size:Int)=n:=by
  rw [show (bs (r.take n.toNat)).size=(r.take n.toNat).length from rfl,List.length_take]
  omega
 rw [if_neg (by simp),UX,hl,a4]
 simp only [List.append_assoc,List.cons_append]
 congr 2
 conv=>lhs;rw [<-List.take_append_drop n.toNat r,c2]
 rfl
theorem a5z {st:iK} (h:(dA st).2.2=false):st.2=false/\st.1=(FP (dA st).1).data.toList++(dA st).2.1:=by
 obtain ⟨a1,a2⟩:=D7 (st:=(aL (aL st).2).2) h
 obtain ⟨b1,_,b2⟩:=iY (st:=(aL st).2) a1
 obtain ⟨c1,_,c2⟩:=iY (st:=st) b1
 refine ⟨c1,?_⟩
 rw [c2,b2,a2]
 unfold FP dA
 simp [ByteArray.data_append]
theorem N2:∀ (k:Nat) (st:iK) (acc l:List cG) (st':iK),eN k st acc=some (l,st')->st'.2=false->st.2=false/\∃ m,l=acc++m/\m.length=k/\st.1=(m.flatMap λv=>(FP v).data.toList)++st'.1
 | 0,st,acc,l,st',h,hb=>by
  unfold eN at h
  obtain ⟨rfl,rfl⟩:=Prod.mk.inj (Option.some.inj h)
  exact ⟨hb,[],by simp,rfl,rfl⟩
 | k+1,st,acc,l,st',h,hb=>by
  unfold eN at h
  split at h
  ·cases h
  ·obtain ⟨h1,m,h2,h3,h4⟩:=N2 k _ _ _ _ h hb
   obtain ⟨g1,g2⟩:=a5z h1
   exact ⟨g1,(dA st).1 :: m,by rw [h2];simp,by simp [h3],by rw [g2,h4];simp⟩
theorem a1d {l:Bs} {r:List cG} (h:cV l=some r):l=WZ r:=by
 unfold cV at h
 split at h
 ·rename_i acc st hl
  split at h
  ·rename_i hd
   obtain rfl:=Option.some.inj h
   unfold eJ at hd
   simp only [Bool.and_eq_true,Bool.not_eq_true',decide_eq_true_eq] at hd
   obtain ⟨h1,m,h2,h3,h4⟩:=N2 _ _ _ _ _ hl hd.1
   obtain ⟨g1,g2,g3,g4⟩:=V3 h1
   rw [List.nil_append] at h2
   subst h2
   unfold WZ
   rw [h3,show (((dW (l,false)).1.toNat:Nat):Int)=(dW (l,false)).1 by omega]
   rw [h4,hd.2,List.append_nil] at g4
   exact g4
  ·cases h
 ·cases h
theorem a9g {b nx:Int} {st st':iK} {x:aM} (h:r8 nx b st=some (x,st')) (hb:st'.2=false):st.2=false/\x.no=nx/\x.batch=b/\(cH nx).data.toList++st.1=(tE x).data.toList++st'.1:=by
 obtain ⟨r,hr,he⟩:=OX h
 unfold rdL at he
 obtain ⟨e1,e2⟩:=Prod.mk.inj he
 rw [<-e2] at hb
 obtain ⟨a1,_,a2⟩:=iY hb
 obtain ⟨b1,_,b2⟩:=iY a1
 obtain ⟨c1,_,c2⟩:=iY b1
 obtain ⟨d1,d2⟩:=D7 c1
 obtain ⟨f1,_,f2⟩:=iY d1
 have hrow:=a1d hr
 subst e1
 refine ⟨f1,rfl,rfl,?_⟩
 unfold tE
 rw [KE,<-e2,f2,d2,c2,b2,a2]
 have hrb:D0 r=(stepT (aL st).2).1:=by
  unfold D0
  rw [<-hrow]
 rw [hrb]
theorem Z6 {b:Int}:∀ (k:Nat) (st:iK) (acc l:List aM) (st':iK),iM b k st acc=some (l,st')->st'.2=false->st.2=false/\∃ m,l=acc++m/\st.1=aX m++st'.1
 | 0,st,acc,l,st',h,hb=>by
  unfold iM at h
  obtain ⟨rfl,rfl⟩:=Prod.mk.inj (Option.some.inj h)
  exact ⟨hb,[],by simp,rfl⟩
 | k+1,st,acc,l,st',h,hb=>by
  unfold iM at h
  split at h
  ·obtain ⟨rfl,rfl⟩:=Prod.mk.inj (Option.some.inj h)
   exact ⟨hb,[],by simp,rfl⟩
  ·cases hl:r8 (aL st).1 b (aL st).2 with
   | none=>rw [hl] at h;cases h
   | some y =>
    obtain ⟨y,u⟩:=y
    rw [hl] at h
    simp only [Option.bind] at h
    split at h
    ·obtain ⟨h1,m,h2,h3⟩:=Z6 k _ _ _ _ h hb
     obtain ⟨g1,_,_,g2⟩:=a9g hl h1
     obtain ⟨f1,_,f2⟩:=iY g1
     refine ⟨f1,y :: m,by rw [h2];simp,?_⟩
     rw [f2,g2,h3]
     simp [aX]
    ·cases h
def LI (s:Bs):Option rI :=
 let a:=aL (s,false)
 let b:=aL a.2
 let c:=stepT b.2
 if (decide (a.1<0)||decide (b.1<0)||decide (2<b.1))=true then none
 else if b.1=0 then (if eJ c.2=true then some ⟨a.1,b.1,c.1,0,0,.empty,[]⟩ else none)
 else
  let e:=aL c.2
  let f:=aL e.2
  let g:=stepT f.2
  let h:=dW g.2
  (iM e.1 h.1.toNat h.2 []).bind λy=>if (eJ y.2&&(decide ((y.1.length:Int)=h.1)&&decide (a.1<e.1)))=true then some ⟨a.1,b.1,c.1,e.1,f.1,g.1,y.1⟩ else none
theorem a3h {st:iK}:eJ st=true ↔ st.2=false/\st.1=[]:=by
 unfold eJ
 simp only [Bool.and_eq_true,Bool.not_eq_true',decide_eq_true_eq]
theorem aCx {n m:Int} (hn:0<=n/\aR n) (hm:0<=m/\aR m) (h:(AO n).data.toList=(AO m).data.toList):n=m:=by
 have e1:=MV (n:=n.toNat) (r:=[]) (bad:=false) (by have:=hn.2.2;omega)
 have e2:=MV (n:=m.toNat) (r:=[]) (bad:=false) (by have:=hm.2.2;omega)
 rw [show ((n.toNat:Nat):Int)=n by omega,h] at e1
 rw [show ((m.toNat:Nat):Int)=m by omega,e1] at e2
 exact (Prod.mk.inj e2).1
theorem a3i (s:Bs) (hs:s.length<=1000000):LI s=tF s:=by
 unfold LI tF
 simp only
 generalize ha:aL (s,false)=a
 generalize hb:aL a.2=b
 generalize hc:stepT b.2=c
 have aH3:c.2.2=false->s=(cH a.1).data.toList++((cH b.1).data.toList++((gM c.1).data.toList++c.2.1)):=λh=>by
  obtain ⟨h1,h2⟩:=D7 (st:=b.2) (by rw [hc];exact h)
  obtain ⟨h3,_,h4⟩:=iY (st:=a.2) (by rw [hb];exact h1)
  obtain ⟨_,_,h5⟩:=iY (st:=(s,false)) (by rw [ha];exact h3)
  rw [hc] at h2
  rw [hb] at h4
  rw [ha] at h5
  have h5:s=_:=h5
  rw [h5,h4,h2]
 by_cases h0:b.1=0
 ·rw [if_pos h0,if_pos h0]
  unfold KG J2
  by_cases hd:eJ c.2=true
  ·obtain ⟨d1,d2⟩:=a3h.1 hd
   have hf:kY ⟨a.1,b.1,c.1,0,0,.empty,[]⟩=s:=by
    unfold kY DU
    rw [if_pos h0,aH3 d1,d2,List.append_nil]
   rw [hf,hd]
   by_cases hl:a.1<0
   ·rw [if_pos (by simp [hl]),if_neg]
    simp only [Bool.and_eq_true,decide_eq_true_eq]
    omega
   ·rw [if_neg (by simp only [Bool.or_eq_true,decide_eq_true_eq];omega),if_pos rfl,if_pos]
    simp [h0]
    omega
  ·have hd:eJ c.2=false:=by simpa using hd
   rw [hd]
   simp
 ·rw [if_neg h0,if_neg h0]
  unfold V1
  simp only
  generalize he:aL c.2=e
  generalize hf:aL e.2=f
  generalize hg:stepT f.2=g
  generalize hh:dW g.2=h
  by_cases hr:(decide (a.1<0)||decide (b.1<0)||decide (2<b.1))=true
  ·rw [if_pos hr]
   simp only [Bool.or_eq_true,decide_eq_true_eq] at hr
   cases hl:iM e.1 h.1.toNat h.2 [] with
   | none=>rfl
   | some y =>
    show none=KG s _ y.2
    unfold KG J2
    rw [if_neg]
    simp only [Bool.and_eq_true,decide_eq_true_eq]
    omega
  ·rw [if_neg hr]
   simp only [Bool.or_eq_true,decide_eq_true_eq,not_or] at hr
   cases hl:iM e.1 h.1.toNat h.2 [] with
   | none=>rfl
   | some y =>
    obtain ⟨l,u⟩:=y
    show (if (eJ u&&(decide ((l.length:Int)=h.1)&&decide (a.1<e.1)))=true then _ else none)=KG s ⟨a.1,b.1,c.1,e.1,f.1,g.1,l⟩ u
    unfold KG
    by_cases hd:eJ u=true
    ·obtain ⟨d1,d2⟩:=a3h.1 hd
     obtain ⟨h1,m,h2,h3⟩:=Z6 _ _ _ _ _ hl d1
     rw [List.nil_append] at h2
     subst h2
     obtain ⟨k1,k2,k3,k4⟩:=V3 (st:=g.2) (by rw [hh];exact h1)
     rw [hh] at k2 k3 k4
     obtain ⟨k5,k6⟩:=D7 (st:=f.2) (by rw [hg];exact k1)
     rw [hg] at k6
     obtain ⟨k7,_,k8⟩:=iY (st:=e.2) (by rw [hf];exact k5)
     rw [hf] at k8
     obtain ⟨k9,_,xD⟩:=iY (st:=c.2) (by rw [he];exact k7)
     rw [he] at xD
     have hS:=aH3 k9
     rw [xD,k8,k6,k4,h3,d2,List.append_nil] at hS
     have hll:(l.length:Int)<=1000000:=by
      have e1:=congrArg List.length hS
      have e2:l.length<=(aX l).length:=by
       clear hS hl h3 e1
       induction l with
       | nil=>exact Nat.zero_le _
       | cons x l ih =>
        have h5:1<=(tE x).data.toList.length:=by
         rw [fB]
         unfold tE J0 cH
         simp only [aZ]
         have:(ByteArray.mk #[59]).size=1:=rfl
         omega
        show l.length+1<=((tE x).data.toList++aX l).length
        rw [List.length_append]
        omega
      simp only [List.length_append] at e1
      omega
     have hform:kY ⟨a.1,b.1,c.1,e.1,f.1,g.1,l⟩=s ↔ (l.length:Int)=h.1:=by
      unfold kY DU a3g
      rw [if_neg h0,hS]
      simp only [List.append_assoc]
      constructor
      ·intro hq
       have hq:=List.append_cancel_left (List.append_cancel_left (List.append_cancel_left (List.append_cancel_left (List.append_cancel_left (List.append_cancel_left hq)))))
       exact aCx ⟨by omega,by unfold aR;omega⟩ ⟨k3,k2⟩ (List.append_cancel_right hq)
      ·intro hq
       rw [hq]
     unfold J2
     rw [hd,show decide (kY ⟨a.1,b.1,c.1,e.1,f.1,g.1,l⟩=s)=decide ((l.length:Int)=h.1) from decide_eq_decide.2 hform]
     by_cases hq:(l.length:Int)=h.1
     ·by_cases hlt:a.1<e.1
      ·rw [if_pos (by simp [hq,hlt]),if_pos]
       simp only [Bool.and_eq_true,Bool.or_eq_true,decide_eq_true_eq,Bool.true_and]
       omega
      ·rw [if_neg (by simp [hlt]),if_neg]
       simp only [Bool.and_eq_true,Bool.or_eq_true,decide_eq_true_eq,Bool.true_and]
       omega
     ·rw [if_neg (by simp [hq]),if_neg (by simp [hq])]
    ·have hd:eJ u=false:=by simpa using hd
     unfold J2
     rw [hd]
     simp
end Go.Proofs.YtfccagphnfceiaaGreatDoor
end

section
namespace Go.Proofs.YtfccagphnfceiaaGreatDoor
open Go.Vc
structure oU where
 cell:sL
 now:rI
 dN:Bool
 stop:Bool
def fQ (d:cC) (c:oU) (x:rI):cC × oU × Int :=
 let r:=lQ d c.cell (kY x)
 if r.2.2=0 then (r.1,⟨r.2.1,x,false,false⟩,0) else (r.1,⟨r.2.1,c.now,c.dN,decide (r.2.2≠6)⟩,r.2.2)
def zI (d:cC) (c:oU) (phase:Int) (r:rI × Int):cC × oU × Int :=
 if c.stop=true then (d,c,9) else if c.now.phase≠phase then (d,c,7) else if r.2≠0 then (d,c,r.2) else fQ d c r.1
def a1e (batch:Int) (y:aM):Bool:=decide (y.batch≠batch) || !eD y.row
def AU (c:oU) (batch mark:Int) (lines:List aM) (next:ByteArray):rI × Int :=
 if batch<=c.now.last then (D6,25) else if lines.any (a1e batch)=true then (D6,1) else (⟨c.now.last,1,c.now.check,batch,mark,next,lines⟩,0)
def pJ (d:cC) (c:oU) (batch mark:Int) (lines:List aM) (next:ByteArray):cC × oU × Int:=zI d c 0 (AU c batch mark lines next)
def C1 (c:oU) (s:j0):Int × j0:=if s.kind=0 then mY s c.now.batch c.now.lines else ((jV s c.now.batch c.now.lines).1,s)
def eW (c:oU) (s:j0):oU × j0 × Int :=
 if c.stop=true then (c,s,9) else if c.now.phase≠1 then (c,s,7) else ({ c with dN:=c.dN||decide ((C1 c s).1=0) },(C1 c s).2,(C1 c s).1)
def wZ (c:oU):rI × Int:=if c.dN=false then (D6,25) else ({ c.now with phase:=2 },0)
def kJ (d:cC) (c:oU):cC × oU × Int:=zI d c 1 (wZ c)
def D8 (s:j0) (b:Int) (L:List aM):Int × j0 :=
 if (uT s b).1≠4 then uT s b else if (mY s b L).1≠0 then mY s b L else uT (mY s b L).2 b
def C2 (c:oU) (s:j0):Int × j0:=if s.kind=0 then D8 s c.now.batch c.now.lines else jV s c.now.batch c.now.lines
def sE (d:cC) (c:oU) (s:j0):cC × oU × j0 × Int :=
 if c.stop=true then (d,c,s,9) else if c.now.phase≠2 then (d,c,s,7) else
 let r:=zI d c 2 (RM c.now.batch c.now.next,(C2 c s).1)
 (r.1,r.2.1,(C2 c s).2,r.2.2)
def yI (c:oU) (s:j0):j0:=if s.kind=0/\s.dN=c.now.batch then (AN s c.now.batch).2 else s
def D9 (d:cC) (c:oU) (s:j0):cC × oU × j0 × Int :=
 if c.stop=true then (d,c,s,9) else if c.now.phase≠1 then (d,c,s,7) else
 let r:=zI d c 1 (RM c.now.last c.now.check,0)
 (r.1,r.2.1,yI c s,r.2.2)
def mG (d:cC) (c:oU) (s:j0):cC × oU × j0 × Int :=
 if c.stop=true then (d,c,s,9) else if c.now.phase=1 then D9 d c s else if c.now.phase=2 then sE d c s else (d,c,s,0)
def GD (k:sL):Option oU × Int :=
 if k.slot=0 then (some ⟨k,D6,false,false⟩,0) else match tF k.value with
 | none=>(none,2)
 | some x=>(some ⟨k,x,false,false⟩,0)
def yJ (d:cC) (file:Int):Option oU × Int:=match mF d file with
 | (none,e)=>(none,e)
 | (some k,_)=>GD k
def iH (d:cC) (file:Int):cC × Option oU × Int :=
 let r:=bQ d file
 if r.2≠0 then (r.1,none,r.2) else (r.1,yJ r.1 file)
def yK (c:oU):ByteArray:=if c.now.phase=2 then c.now.next else c.now.check
def aPQ (s:Nat) (v:Bs) (x:rI):Prop:=(s=0/\x=D6)\/(s≠0/\v=kY x)
def vT (d:cC) (P:rI->Prop):Prop:=Z0 (d.files 3) λs v=>∃ x,aPQ s v x/\S7 x/\P x
theorem aCy {last:Int} {check:ByteArray} (h1:0<=last) (h2:aR last) (h3:check.size<=600):S7 (RM last check) :=
 ⟨⟨h1,h2⟩,.inl rfl,h3,λ_=>⟨rfl,rfl,rfl,rfl⟩,λh=>absurd rfl h,by show aR 0/\aR 0;unfold aR;decide,by show (0:Nat)<=600;decide,λy hy=>(by cases hy),Nat.zero_le _⟩
theorem aK7:S7 D6:=aCy (Int.le_refl 0) (by unfold aR;decide) (by show (0:Nat)<=600;decide)
structure DV (d:cC) (c:oU):Prop where
 file:c.cell.file=3
 now:kX (d.files 3).now c.cell.slot c.cell.value
 last:kX (d.files 3).last c.cell.slot c.cell.value
 enc:aPQ c.cell.slot c.cell.value c.now
 w:S7 c.now
theorem DV.Z2 {d:cC} {c:oU} (h:DV d c) {P:rI->Prop} (hP:P c.now):vT d P:=q9 h.now h.last ⟨c.now,h.enc,h.w,hP⟩
theorem vT.mono {d:cC} {P Q:rI->Prop} (h:vT d P) (hPQ:∀ x,P x->Q x):vT d Q:=Z0.mono h λs v ⟨x,h1,h2,h3⟩=>⟨x,h1,h2,hPQ x h3⟩
theorem vT.ev {d d':cC} {P:rI->Prop} (h:vT d P) (h1:Ev (d.files 3) (d'.files 3)):vT d' P:=h1.Z2 h
theorem vT.frame {d d':cC} {P:rI->Prop} (h:vT d P) (hf:d'.files=d.files):vT d' P:=by
 unfold vT;rw [hf];exact h
theorem vT.some {d:cC} {P:rI->Prop} (h:vT d P):∃ x,S7 x/\P x:=by
 obtain ⟨⟨s,v,_,x,_,h2,h3⟩,_⟩:=h
 exact ⟨x,h2,h3⟩
theorem DV.frame {d d':cC} {c:oU} (h:DV d c) (hf:d'.files=d.files):DV d' c:=⟨h.file,by rw [hf];exact h.now,by rw [hf];exact h.last,h.enc,h.w⟩
theorem aCz:vT bX λx=>x=D6:=q9 (s:=0) (v:=[]) (.inl ⟨rfl,rfl,rfl⟩) (.inl ⟨rfl,rfl,rfl⟩) ⟨D6,.inl ⟨rfl,rfl⟩,aK7,rfl⟩
structure aK8 (d:cC) (P:rI->Prop) (r:cC × Option oU × Int):Prop where
 w:L4 r.1
 OZ:L5 d->L5 r.1/\r.2.2=0
 or:(∃ c,r.2.1=some c/\r.2.2=0/\DV r.1 c/\P c.now/\c.dN=false/\c.stop=false)\/(r.2.1=none/\(r.2.2=9\/r.2.2=10)/\vT r.1 P)
theorem a9h {d:cC} {P:rI->Prop} (hw:L4 d) (h:vT d P):aK8 d P (iH d 3):=by
 have hb:(0:Int)<=3/\(3:Int)<16:=by decide
 unfold iH
 simp only
 obtain ⟨a1,a2,a3,a4⟩:=N1 (d:=d) (F:=3) hb hw
 obtain ⟨⟨d1,e1⟩,h1⟩:∃ x,bQ d 3=x:=⟨_,rfl⟩
 rw [h1] at a1 a2 a3 a4 ⊢
 simp only at a1 a2 a3 a4 ⊢
 by_cases he1:e1≠0
 ·rw [if_pos he1]
  rcases a4 with ⟨h',_⟩|⟨h',h2⟩
  ·exact absurd h' he1
  ·exact ⟨a1,λh=>absurd (a3 h).2 he1,.inr ⟨rfl,h',h.ev h2⟩⟩
 rw [if_neg he1]
 have he1:e1=0:=Decidable.not_not.1 he1
 obtain ⟨hdn,f1⟩:d1.down=false/\d1.files 3=⟨(d.files 3).now,(d.files 3).now⟩:=by
  rcases a4 with ⟨_,h1,h2⟩|⟨h,_⟩
  ·exact ⟨h1,h2⟩
  ·rw [he1] at h;omega
 obtain ⟨⟨s,v,k1,x,k2,k3,k4⟩,_⟩:=h
 have k5:kX (d1.files 3).now s v:=by rw [f1];exact k1
 have k6:kX (d1.files 3).last s v:=by rw [f1];exact k1
 have ho:=a3f hdn hb k5
 have e:yJ d1 3=(some ⟨⟨3,s,v,false⟩,x,false,false⟩,0):=by
  unfold yJ
  rw [ho]
  simp only
  unfold GD
  rcases k2 with ⟨rfl,rfl⟩|⟨hs,rfl⟩
  ·rw [if_pos rfl]
  ·rw [if_neg hs,a5x k3]
 rw [e]
 exact ⟨a1,λh=>⟨(a3 h).1,rfl⟩,.inl ⟨_,rfl,rfl,⟨rfl,k5,k6,k2,k3⟩,k4,rfl,rfl⟩⟩
structure aK9 (d:cC) (c:oU) (x:rI) (r:cC × oU × Int):Prop where
 w:L4 r.1
 OZ:L5 d->L5 r.1/\r.2.2=0
 or:(r.2.2=0/\r.2.1.now=x/\r.2.1.dN=false/\r.2.1.stop=false/\DV r.1 r.2.1)\/((r.2.2=9\/r.2.2=10)/\r.2.1.now=c.now/\r.2.1.stop=true/\vT r.1 λy=>y=c.now\/y=x)
theorem a9i {d:cC} {c:oU} {x:rI} (hw:L4 d) (h:DV d c) (hx:S7 x):aK9 d c x (fQ d c x):=by
 have hS:=aCu (d:=d) (c:=c.cell) (s:=kY x) (by rw [h.file];decide) hw (aCv hx) (by rw [h.file];exact h.now) (by rw [h.file];exact h.last)
 unfold fQ
 obtain ⟨⟨d1,c1,e1⟩,h1⟩:∃ x',lQ d c.cell (kY x)=x':=⟨_,rfl⟩
 rw [h1] at hS ⊢
 simp only
 have V0:(if c.cell.slot=1 then 2 else 1:Nat)≠0:=by split<;>decide
 by_cases he:e1=0
 ·rw [if_pos he]
  obtain ⟨g1,g2,X,g3,g4⟩:=hS.ok he
  simp only at g1 g2 g3
  rw [h.file] at g3
  have hf:c1.file=3:=hS.file.trans h.file
  refine ⟨hS.w,λhh=>⟨(hS.OZ hh).1,rfl⟩,.inl ⟨rfl,rfl,rfl,rfl,hf,?_,?_,.inr ⟨by show c1.slot≠0;rw [g1];exact V0,g2⟩,hx⟩⟩
  ·show kX (d1.files 3).now c1.slot c1.value
   rw [g3,g1,g2];exact g4
  ·show kX (d1.files 3).last c1.slot c1.value
   rw [g3,g1,g2];exact g4
 ·rw [if_neg he]
  obtain ⟨g1,g2⟩:=hS.bad he
  simp only at g1 g2
  rw [h.file] at g2
  refine ⟨hS.w,λhh=>absurd (hS.OZ hh).2 he,.inr ⟨g1,rfl,?_,?_⟩⟩
  ·show decide (e1≠6)=true
   rw [decide_eq_true_eq];omega
  ·refine Z0.mono g2 λs v hv=>?_
   rcases hv with ⟨rfl,rfl⟩|⟨rfl,rfl⟩
   ·exact ⟨c.now,h.enc,h.w,.inl rfl⟩
   ·exact ⟨x,.inr ⟨V0,rfl⟩,hx,.inr rfl⟩
theorem xG {d:cC} {c:oU} {phase:Int} {r:rI × Int} (hs:c.stop=false) (hp:c.now.phase=phase) (hr:r.2=0):zI d c phase r=fQ d c r.1:=by
 unfold zI
 rw [if_neg (by rw [hs];simp),if_neg (by simp [hp]),if_neg (by simp [hr])]
end Go.Proofs.YtfccagphnfceiaaGreatDoor
end

section
namespace Go.Proofs.YtfccagphnfceiaaGreatDoor
open Go.Vc
abbrev a5A (e:Int):Bool:=decide (e=9)||decide (e=10)
structure C3 where
 taken:List aM
 last:Int
 check:ByteArray
 batch:Int
 lines:List aM
 next:ByteArray
 HE:Bool
 sure:Bool
def a1f (x:C3) (kind batch:Int) (lines:List aM) (next:ByteArray) (e:Int) (dQ:Bool):C3 :=
 if dQ=true then x else if e≠0/\a5A e=false then x else
 if kind=0 then { x with batch:=batch,lines:=lines,next:=next,HE:=false,sure:=false } else if kind=2 then { x with HE:=true,sure:=decide (e=0) } else x
def aPR (x:C3):C3:={ x with taken:=x.taken++x.lines,last:=x.batch,check:=x.next }
def aCA (x:C3) (s:j0):Option C3 :=
 if yF s=x.last then (if s.lines=x.taken then some x else none) else
 if x.HE=false\/yF s≠x.batch\/x.batch<=x.last then none else
 if s.lines=x.taken++x.lines then some (aPR x) else none
def a7u (s:j0) (b:Int) (L:List aM):Prop:=s.dN=0\/(s.dN=b/\s.aside=L)
def aH4 (x:C3) (y:rI):Prop:=y.batch=x.batch/\y.lines=x.lines/\y.next=x.next
def OkY (s:j0) (x:C3) (y:rI):Prop :=
 (y.phase=0/\y.check=x.check/\y.last=x.last/\s.dN=0/\(x.sure=true->x.last=x.batch)) \/ (y.phase=1/\y.check=x.check/\y.last=x.last/\aH4 x y/\a7u s y.batch y.lines/\x.sure=false) \/ (y.phase=2/\x.HE=true/\aH4 x y/\((y.last=x.last/\rZ s y.batch y.lines=0/\a7u s y.batch y.lines)\/(x.last=y.batch/\x.check=y.next/\s.dN=0/\ML s y.batch=true)))
structure SkC (s:j0) (x:C3):Prop where
 i:WX s
 lines:s.lines=x.taken
 last:yF s=x.last
 kind:s.kind≠0->s.dN=0
 pre:aBx s
 aKr:s.aside.length<=18
structure CoI (d:cC) (c:oU) (s:j0) (x:C3) (dQ:Bool):Prop where
 stop:c.stop=dQ
 live:dQ=false->DV d c/\OkY s x c.now/\(c.dN=true->c.now.phase=1->rZ s c.now.batch c.now.lines=0)
 dead:dQ=true->(c.now.phase=0->c.now.check=x.check)/\(c.now.phase=2->x.HE=true)/\S7 c.now
theorem CoI.w {d:cC} {c:oU} {s:j0} {x:C3} {dQ:Bool} (h:CoI d c s x dQ):S7 c.now:=by
 cases dQ with
 | false=>exact (h.live rfl).1.w
 | true=>exact (h.dead rfl).2.2
theorem CoI.says {d:cC} {c:oU} {s:j0} {x:C3} {dQ:Bool} (h:CoI d c s x dQ):(c.now.phase=0->c.now.check=x.check)/\(c.now.phase=2->x.HE=true):=by
 cases dQ with
 | true=>exact ⟨(h.dead rfl).1,(h.dead rfl).2.1⟩
 | false =>
  rcases (h.live rfl).2.1 with h1|h1|h1
  ·exact ⟨λ_=>h1.2.1,λh2=>by rw [h1.1] at h2;cases h2⟩
  ·exact ⟨λh2=>(by rw [h1.1] at h2;cases h2),λh2=>by rw [h1.1] at h2;cases h2⟩
  ·exact ⟨λh2=>(by rw [h1.1] at h2;cases h2),λ_=>h1.2.1⟩
structure CoJ (d:cC) (co:Option oU) (s:j0) (x:C3) (dQ:Bool):Prop where
 w:L4 d
 sk:SkC s x
 Z2:vT d (OkY s x)
 co:∀ c,co=some c->CoI d c s x dQ
theorem a9j {x:C3} {s:j0} (h1:s.lines=x.taken) (h2:yF s=x.last):aCA x s=some x:=by
 unfold aCA
 rw [if_pos h2,if_pos h1]
theorem a9k {x:C3} {kind batch e:Int} {lines:List aM} {next:ByteArray} {dQ:Bool} (h:dQ=true\/(e≠0/\a5A e=false)\/(kind≠0/\kind≠2)):a1f x kind batch lines next e dQ=x:=by
 unfold a1f
 split
 ·rfl
 split
 ·rfl
 rename_i h1 h2
 rcases h with h|h|h
 ·exact absurd h h1
 ·exact absurd h h2
 ·rw [if_neg h.1,if_neg h.2]
structure aH6 (d:cC) (s:j0) (x:C3) (kind batch:Int) (lines:List aM) (next:ByteArray) (dQ:Bool) (r:cC × oU × j0 × Int):Prop where
 to:∃ x',aCA (a1f x kind batch lines next r.2.2.2 dQ) r.2.2.1=some x'/\CoJ r.1 (some r.2.1) r.2.2.1 x' (dQ||a5A r.2.2.2)
 OZ:L5 d->dQ=false->L5 r.1
theorem aH6.same {d:cC} {c:oU} {s:j0} {x:C3} {kind batch e:Int} {lines:List aM} {next:ByteArray} {dQ:Bool} (h:CoJ d (some c) s x dQ)
  (he:dQ=true\/(e≠0/\a5A e=false)\/(kind≠0/\kind≠2/\a5A e=false)):aH6 d s x kind batch lines next dQ (d,c,s,e):=by
 refine ⟨⟨x,?_,?_⟩,λh _=>h⟩
 ·rw [a9k (he.imp id (Or.imp id λh=>⟨h.1,h.2.1⟩))]
  exact a9j h.sk.lines h.sk.last
 ·have:(dQ||a5A e)=dQ:=by
   rcases he with h1|h1|h1
   ·rw [h1];rfl
   ·rw [h1.2,Bool.or_false]
   ·rw [h1.2.2,Bool.or_false]
  show CoJ d (some c) s x (dQ||a5A e)
  rw [this];exact h
section
variable {d:cC} {c:oU} {s:j0} {x:C3} {batch mark:Int} {lines:List aM} {next:ByteArray} {dQ:Bool}
end
end Go.Proofs.YtfccagphnfceiaaGreatDoor
end

section
namespace Go.Proofs.YtfccagphnfceiaaGreatDoor
open Go.Vc
section
variable {d:cC} {co:Option oU} {s:j0} {x:C3} {dQ:Bool}
structure CoD (d:cC) (s:j0) (x:C3):Prop where
 w:L4 d
 sk:SkC s x
 Z2:vT d (OkY s x)
theorem CoJ.b7Q (h:CoJ d co s x dQ):CoD d s x:=⟨h.w,h.sk,h.Z2⟩
theorem CoD.frame {d':cC} (h:CoD d s x) (hw:L4 d') (hf:d'.files=d.files):CoD d' s x:=⟨hw,h.sk,h.Z2.frame hf⟩
theorem CoD.Z1 (h:CoD d s x) (keep:List Int):CoD (cL d keep) s x:=⟨a1a h.w keep,h.sk,h.Z2.ev (GC h.w keep 3)⟩
theorem CoJ.frame {d':cC} (h:CoJ d co s x dQ) (hw:L4 d') (hf:d'.files=d.files):CoJ d' co s x dQ :=
 ⟨hw,h.sk,h.Z2.frame hf,λc e=>⟨(h.co c e).stop,λh2=>⟨((h.co c e).live h2).1.frame hf,((h.co c e).live h2).2⟩,(h.co c e).dead⟩⟩
end
end Go.Proofs.YtfccagphnfceiaaGreatDoor
end

