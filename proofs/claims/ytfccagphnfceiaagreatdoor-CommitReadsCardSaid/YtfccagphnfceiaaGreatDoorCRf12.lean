/-
 For every input erratalaw44.CommitReads returns true,does not panic,comes to an end,and leaves what came in as it was;the variables that its row lists are as the program's text lays them.
 Conditions: none beyond the given statement's own (CommitReadsCardSaid).
-/
import Derived.Test.YtfccagphnfceiaaGreatDoorCRf11
import Derived.Test.YtfccagphnfceiaaGreatDoorCRf7
import Derived.Test.YtfccagphnfceiaaGreatDoorCRf10
import Derived.Test.YtfccagphnfceiaaGreatDoorCRf6
import Derived.Test.YtfccagphnfceiaaGreatDoorCRf5
import Derived.Test.YtfccagphnfceiaaGreatDoorCRf9
import Derived.Test.YtfccagphnfceiaaGreatDoorCards
import Derived.MakeChecks
import Derived.Stop.LaidErr
import Derived.Lib.LaidTab
import Derived.Test.YtfccagphnfceiaaGreatDoorTie
import Derived.SevenTiedAt
import Derived.LaidMore
import Derived.ChangeMaps5
import Derived.Test.YtfccagphnfceiaaGreatDoorRows

set_option linter.unusedVariables false
set_option linter.unusedSimpArgs false
section
namespace Go.Proofs.YtfccagphnfceiaaGreatDoor
open Go.Vc
theorem aJw {last:Int} {check:ByteArray} (h2:aR last) (h3:check.size<=1000000000):StF (RM last check):=⟨⟨h2,by show aR 0;unfold aR;decide,by show aR 0;unfold aR;decide,by show aR 0;unfold aR;decide⟩,h3,by show (0:Nat)<=_;decide,λy hy=>(by cases hy),by show (0:Nat)<=_;decide⟩
section
variable {W w:World} {S R G:List Own} {Φ:PW} {k:KP} {s:j0} {p:RU} {q:uK} {d:cC} {c:oU} {n:Nat}
set_option maxHeartbeats 2000000 in
theorem a6k [aA Φ] (hE:CE Φ) (hF:∀ M w,Φ M w->CB p c M w) (hq:wK q d) (hk:RT Φ q d) (hw:S7 c.now) (cx:Ctx W w (fY p q c++(cJ q d++S)) Φ) {K:Ending->World->Prop}
  (hK:∀ u p' w',p'.cb=p.cb/\p'.kb=p.kb->wK (q.mv u) (kJ d c).1->Ctx W w' (fY p' q (kJ d c).2.1++(cJ (q.mv u) (kJ d c).1++S)) (λM w=>Φ M w/\CB p' (kJ d c).2.1 M w)->K (.returned (.int .i64 (kJ d c).2.2)) w') :
  Calls Tryz.prog F.eU #[.pointer (some ⟨p.cb,0,none⟩)] w K:=by
 refine (uD p.cb 0 (J:=λu w'=>K (.returned u) w') cx λk0 w G cx=>⟨_,cx.get 0 rfl rfl,λw G cx=>?_⟩).mono λe w' ⟨v,he,hj⟩=>by rw [he];exact hj
 have c5:Ctx W w ((fY p q c++(cJ q d++S))++G) (λM w=>Φ M w/\fZ k0 0 [.pointer (some ⟨p.cb,0,none⟩)] M w):=Ctx.G9 cx
 obtain ⟨Ω,NM⟩:∃ Ω:PW,(λM w=>Φ M w/\fZ k0 0 [.pointer (some ⟨p.cb,0,none⟩)] M w)=Ω:=⟨_,rfl⟩
 have RV:aA Ω:=by rw [<-NM];infer_instance
 rw [NM] at c5
 have f0:∀ M w,Ω M w->Φ M w:=by rw [<-NM];exact λM w h=>h.1
 have fc:∀ M w,Ω M w->fZ k0 0 [.pointer (some ⟨p.cb,0,none⟩)] M w:=by rw [<-NM];exact λM w h=>h.2
 clear NM cx
 have err:∀ er,kJ d c=(d,c,er)->∀ w,Ctx W w (fY p q c++(cJ q d++(S++G))) Ω->DG W G K (.returned (.int .i64 er)) w:=λer he w cx=>J7 cx λw cx=>by
  have:=hK q.un p w ⟨rfl,rfl⟩
  rw [he] at this
  exact this hq (cx.weak λM w h=>⟨f0 M w h,hF M w (f0 M w h)⟩)
 refine NL (S:=S++G) (K:=DG W G K) (by kernel_rfl) (c5.re (by simp)) (λhs=>err 9 (by unfold kJ zI;rw [if_pos hs])) (λhs hp=>err 7 (by unfold kJ zI;rw [if_neg (by rw [hs];simp),if_pos hp])) (λhs hp w G2 cx=>?_)
 have e0:kJ d c=if (wZ c).2≠0 then (d,c,(wZ c).2) else fQ d c (wZ c).1:=by
  unfold kJ zI
  rw [if_neg (by rw [hs];simp),if_neg (by simp [hp])]
 refine (sF k0 0 (J:=λv w'=>GN W p q d c G2 (DG W G K) (.returned v) w') cx ?_).mono λe w' ⟨v,he,hj⟩=>by rw [he];exact hj
 clear cx
 refine λ_ w G3 cx=>⟨_,cW (Φ:=Ω) (i:=0) (fc _ _ cx.gW) rfl,aJ p.cb 0 rfl λw G3 cx=>⟨c.dN,cx.get 0 rfl rfl,Br.intro (λh=>λw G3 cx=>?_) (λh=>λw G3 cx=>⟨_,cW (Φ:=Ω) (i:=0) (fc _ _ cx.gW) rfl,aJ p.cb 0 rfl λw G3 cx=>⟨c.now.last,c.now.phase,c.now.check,c.now.batch,c.now.mark,c.now.next,p.lp,c.now.lines.length,p.lc,cx.row 0 rfl (λj hj=>by rcases j with _|_|_|_|_|_|_|j<;>first|rfl|(simp at hj;omega)),λ_ w G3 cx=>?_⟩⟩)⟩⟩
 ·have h:c.dN=false:=by simpa using h
  refine ⟨D6,25,none,0,S++G,Ω,rfl,RV,cx.left,λ_=>err 25 (by rw [e0];unfold wZ;rw [if_pos h];rfl),λh=>by cases h⟩
 have h:c.dN=true:=by simpa using h
 have e1:kJ d c=fQ d c { c.now with phase:=2 }:=by
  have hb:wZ c=({ c.now with phase:=2 },0):=by unfold wZ;rw [if_neg (by rw [h];simp)]
  rw [e0,hb];rfl
 have hwf:=hw.f
 refine ⟨{ c.now with phase:=2 },0,p.lp,p.lc,S++G,Ω,rfl,RV,cx.left,λh=>absurd rfl h,λ_=>⟨hq,hk.weak f0,hE.weak f0,⟨⟨hwf.ints.1,by show aR 2;unfold aR;decide,hwf.ints.2.2.1,hwf.ints.2.2.2⟩,hwf.check,hwf.next,hwf.line,hwf.few⟩,λM w h=>hF M w (f0 M w h),λu w gG cx=>?_⟩⟩
 refine J7 (A:=fY (XG p p.lp p.lc (fQ d c { c.now with phase:=2 }).2.2) q (fQ d c { c.now with phase:=2 }).2.1) (X:=cJ (q.mv u) (fQ d c { c.now with phase:=2 }).1) cx λw cx=>?_
 rw [<-e1] at gG cx ⊢
 refine hK u _ w S9 gG (cx.weak λM w h=>⟨f0 M w h,?_⟩)
 have:=a1x (p:=p) (d:=d) (c:=c) (x:={ c.now with phase:=2 }) (lp:=p.lp) (lc:=p.lc) (Ψ:=Ω) (λM w h=>hF M w (f0 M w h)) (λM w h=>hF M w (f0 M w h)) M w h
 rw [<-e1] at this
 exact this
abbrev wL (W:World) (Φ:PW) (k:KP) (p:RU) (q:uK) (S:List Own) (K:Ending->World->Prop) (r:cC × oU × j0 × Int):Prop :=
 ∀ u p' k' w' aF,p'.cb=p.cb/\p'.kb=p.kb->k'.sb=k.sb->wK (q.mv u) r.1->AX k' r.2.2.1->aA aF->(∀ M w,aF M w->Φ M w/\(nF k' r.2.2.1 M w/\CB p' r.2.1 M w)) ->
  Ctx W w' (fY p' q r.2.1++(cJ (q.mv u) r.1++(dP k' r.2.2.1++S))) aF->K (.returned (.int .i64 r.2.2.2)) w'
set_option maxHeartbeats 4000000 in
theorem a6l [aA Φ] (hE:CE Φ) [hS:Has Φ (nF k s)] [hC:Has Φ (CB p c)] (hq:wK q d) (hk:RT Φ q d) (hw:S7 c.now) (QN:AX k s) (hI:WX s) (hs:KZ s n) (hn:n<=300000) (cx:Ctx W w (fY p q c++(cJ q d++(dP k s++S))) Φ) {K:Ending->World->Prop}
  (hK:wL W Φ k p q S K (sE d c s)) :
  Calls Tryz.prog F.gB #[.pointer (some ⟨p.cb,0,none⟩),snk k] w K:=by
 refine (uE p.cb 0 k.sb 0 (J:=λu w'=>K (.returned u) w') cx λk0 k1 w G cx=>⟨_,cx.get 1 rfl rfl,λw G cx=>?_⟩).mono λe w' ⟨v,he,hj⟩=>by rw [he];exact hj
 have c5:Ctx W w ((fY p q c++(cJ q d++(dP k s++S)))++G) (λM w=>(Φ M w/\fZ k1 0 [.pointer (some ⟨k.sb,0,none⟩)] M w)/\fZ k0 0 [.pointer (some ⟨p.cb,0,none⟩)] M w):=Ctx.G9 (Ctx.G9 cx)
 obtain ⟨Ω,NM⟩:∃ Ω:PW,(λM w=>(Φ M w/\fZ k1 0 [.pointer (some ⟨k.sb,0,none⟩)] M w)/\fZ k0 0 [.pointer (some ⟨p.cb,0,none⟩)] M w)=Ω:=⟨_,rfl⟩
 have RV:aA Ω:=by rw [<-NM];infer_instance
 rw [NM] at c5
 have f0:∀ M w,Ω M w->Φ M w:=by rw [<-NM];exact λM w h=>h.1.1
 have f1:∀ M w,Ω M w->fZ k1 0 [.pointer (some ⟨k.sb,0,none⟩)] M w:=by rw [<-NM];exact λM w h=>h.1.2
 have fc:∀ M w,Ω M w->fZ k0 0 [.pointer (some ⟨p.cb,0,none⟩)] M w:=by rw [<-NM];exact λM w h=>h.2
 clear NM cx
 have aHl:Has Ω (nF k s):=⟨λM w h=>hS.go M w (f0 M w h)⟩
 have a9Y:Has Ω (CB p c):=⟨λM w h=>hC.go M w (f0 M w h)⟩
 have err:∀ er,sE d c s=(d,c,s,er)->∀ w,Ctx W w (fY p q c++(cJ q d++(dP k s++(S++G)))) Ω->DG W G K (.returned (.int .i64 er)) w:=λer he w cx=>by
  refine J7 (A:=fY p q c) (X:=cJ q d) (S:=dP k s++S) (cx.re (by simp)) λw cx=>?_
  rw [he] at hK
  exact hK q.un p k w Ω ⟨rfl,rfl⟩ rfl hq QN RV (λM w h=>⟨f0 M w h,aHl.go M w h,a9Y.go M w h⟩) cx
 refine NL (S:=dP k s++(S++G)) (K:=DG W G K) (by kernel_rfl) (c5.re (by simp)) (λhs=>err 9 (by unfold sE;rw [if_pos hs])) (λhs hp=>err 7 (by unfold sE;rw [if_neg (by rw [hs];simp),if_pos hp])) (λhst hp w G2 cx=>?_)
 have hlen:=hw.few
 have fin:∀ {k':KP} {Ψ:PW} [aA Ψ],k'.sb=k.sb->AX k' (C2 c s).2->(∀ M w,Ψ M w->Ω M w/\nF k' (C2 c s).2 M w)->∀ w,Ctx W w ((dP k' (C2 c s).2++(fY p q c++(cJ q d++(S++G))))++G2) Ψ->GN W p q d c G2 (DG W G K) (.returned (.tuple #[stV (RM c.now.batch c.now.next) none 0,.int .i64 (C2 c s).1])) w:=fun {k' Ψ} II hsb KN M3 w cx=>by
  refine ⟨RM c.now.batch c.now.next,(C2 c s).1,none,0,dP k' (C2 c s).2++(S++G),Ψ,rfl,II,a1w cx,λhe w cx=>?_,λhe=>⟨hq,hk.weak λM w h=>f0 M w (M3 M w h).1,hE.weak λM w h=>f0 M w (M3 M w h).1,aJw hw.ints.1 (by have:=hw.next;omega),λM w h=>Sl.nil,λu w gG cx=>?_⟩⟩
  ·have e:sE d c s=(d,c,(C2 c s).2,(C2 c s).1):=by
    unfold sE
    rw [if_neg (by rw [hst];simp),if_neg (by simp [hp])]
    simp only
    unfold zI
    rw [if_neg (by rw [hst];simp),if_neg (by simp [hp]),if_pos he]
   rw [e] at hK
   refine J7 (A:=fY p q c) (X:=cJ q d) (S:=dP k' (C2 c s).2++S) (cx.re (by simp)) λw cx=>?_
   exact hK q.un p k' w Ψ ⟨rfl,rfl⟩ hsb hq KN II (λM w h=>⟨f0 M w (M3 M w h).1,(M3 M w h).2,a9Y.go M w (M3 M w h).1⟩) cx
  ·have e:sE d c s=((fQ d c (RM c.now.batch c.now.next)).1,(fQ d c (RM c.now.batch c.now.next)).2.1,(C2 c s).2,(fQ d c (RM c.now.batch c.now.next)).2.2):=by
    unfold sE
    rw [if_neg (by rw [hst];simp),if_neg (by simp [hp])]
    simp only
    rw [xG hst hp he]
   rw [e] at hK
   refine J7 (A:=fY (XG p none 0 (fQ d c (RM c.now.batch c.now.next)).2.2) q (fQ d c (RM c.now.batch c.now.next)).2.1) (X:=cJ (q.mv u) (fQ d c (RM c.now.batch c.now.next)).1) (S:=dP k' (C2 c s).2++S) (cx.re (by simp)) λw cx=>?_
   exact hK u _ k' w Ψ S9 hsb gG KN II (λM w h=>⟨f0 M w (M3 M w h).1,(M3 M w h).2,a1x (Ψ:=Ψ) (λM w h=>Sl.nil) (λM w h=>a9Y.go M w (M3 M w h).1) M w h⟩) cx
 refine (sG k1 0 k0 0 (J:=λv w'=>GN W p q d c G2 (DG W G K) (.returned v) w') (a7W cx) ?_).mono λe w' ⟨v,he,hj⟩=>by rw [he];exact hj
 clear cx
 refine λ_ w G3 cx=>⟨_,cW (Φ:=Ω) (i:=0) (f1 _ _ cx.gW) rfl,λw G3 cx=>?_⟩
 refine (a47 (st:=s) (q:=k)).WW (R:=(fY p q c++(cJ q d++(S++G)))++G2) (cx.re (by simp)) (Br.intro (λh=>?_) (λh=>?_))
 all_goals clear cx
 ·have eR:C2 c s=D8 s c.now.batch c.now.lines:=by unfold C2;rw [if_pos (of_decide_eq_true h)]
  refine λw G3 cx=>⟨_,cW (Φ:=Ω) (i:=0) (fc _ _ cx.gW) rfl,λw G3 cx=>⟨_,cW (Φ:=Ω) (i:=0) (f1 _ _ cx.gW) rfl,λw G3 cx=>?_⟩⟩
  refine a6j (p:=p) (q:=q) (c:=c) (R:=(cJ q d++(S++G))++G2) QN hI hs hn (by omega) (cx.re (by simp)) λk' Ψ hsb KN II M3=>?_
  clear cx
  rw [<-eR] at KN M3 ⊢
  refine ⟨[],tru,inferInstance,λw G cx=>fL cx (List.nil_sublist _),λw G3 cx=>⟨_,cW (Φ:=Ψ) (i:=0) (fc _ _ (M3 _ _ cx.gW).1) rfl,λw G3 cx=>⟨_,cW (Φ:=Ψ) (i:=0) (fc _ _ (M3 _ _ cx.gW).1) rfl,aJ p.cb 0 rfl (aJ p.cb 0 rfl λw G3 cx=>⟨c.now.batch,cx.get 3 rfl rfl,λw G3 cx=>⟨c.now.next,cx.get 3 rfl rfl,λw G cx=>fL cx (List.nil_sublist _),λw G3 cx=>?_⟩⟩)⟩⟩⟩
  exact fin hsb KN M3 w (cx.left.re (by simp))
 ·have eR:C2 c s=jV s c.now.batch c.now.lines:=by unfold C2;rw [if_neg (of_decide_eq_false h)]
  refine λw G3 cx=>⟨_,cW (Φ:=Ω) (i:=0) (fc _ _ cx.gW) rfl,λw G3 cx=>⟨_,cW (Φ:=Ω) (i:=0) (f1 _ _ cx.gW) rfl,λw G3 cx=>?_⟩⟩
  refine QS (p:=p) (q:=q) (c:=c) (R:=(cJ q d++(S++G))++G2) QN hI hs (by omega) (by omega) (cx.re (by simp)) λk' hsb KN II=>?_
  clear cx
  rw [<-eR] at KN II ⊢
  refine ⟨[],tru,inferInstance,λw G cx=>fL cx (List.nil_sublist _),λw G3 cx=>⟨_,cW (Φ:=Ω) (i:=0) (fc _ _ cx.gW.1) rfl,λw G3 cx=>⟨_,cW (Φ:=Ω) (i:=0) (fc _ _ cx.gW.1) rfl,aJ p.cb 0 rfl (aJ p.cb 0 rfl λw G3 cx=>⟨c.now.batch,cx.get 3 rfl rfl,λw G3 cx=>⟨c.now.next,cx.get 3 rfl rfl,λw G cx=>fL cx (List.nil_sublist _),λw G3 cx=>?_⟩⟩)⟩⟩⟩
  exact fin hsb KN (λM w h=>h) w (cx.left.re (by simp))
set_option maxHeartbeats 4000000 in
theorem a6m [aA Φ] (hE:CE Φ) [hS:Has Φ (nF k s)] [hC:Has Φ (CB p c)] (hq:wK q d) (hk:RT Φ q d) (hw:S7 c.now) (QN:AX k s) (hI:WX s) (hs:KZ s n) (hn:n<=300000) (cx:Ctx W w (fY p q c++(cJ q d++(dP k s++S))) Φ) {K:Ending->World->Prop}
  (hK:wL W Φ k p q S K (D9 d c s)) :
  Calls Tryz.prog F.gQ #[.pointer (some ⟨p.cb,0,none⟩),snk k] w K:=by
 refine (vB p.cb 0 k.sb 0 (J:=λu w'=>K (.returned u) w') cx λk0 k1 w G cx=>⟨_,cx.get 1 rfl rfl,λw G cx=>?_⟩).mono λe w' ⟨v,he,hj⟩=>by rw [he];exact hj
 have c5:Ctx W w ((fY p q c++(cJ q d++(dP k s++S)))++G) (λM w=>(Φ M w/\fZ k1 0 [.pointer (some ⟨k.sb,0,none⟩)] M w)/\fZ k0 0 [.pointer (some ⟨p.cb,0,none⟩)] M w):=Ctx.G9 (Ctx.G9 cx)
 obtain ⟨Ω,NM⟩:∃ Ω:PW,(λM w=>(Φ M w/\fZ k1 0 [.pointer (some ⟨k.sb,0,none⟩)] M w)/\fZ k0 0 [.pointer (some ⟨p.cb,0,none⟩)] M w)=Ω:=⟨_,rfl⟩
 have RV:aA Ω:=by rw [<-NM];infer_instance
 rw [NM] at c5
 have f0:∀ M w,Ω M w->Φ M w:=by rw [<-NM];exact λM w h=>h.1.1
 have f1:∀ M w,Ω M w->fZ k1 0 [.pointer (some ⟨k.sb,0,none⟩)] M w:=by rw [<-NM];exact λM w h=>h.1.2
 have fc:∀ M w,Ω M w->fZ k0 0 [.pointer (some ⟨p.cb,0,none⟩)] M w:=by rw [<-NM];exact λM w h=>h.2
 clear NM cx
 have aHl:Has Ω (nF k s):=⟨λM w h=>hS.go M w (f0 M w h)⟩
 have a9Y:Has Ω (CB p c):=⟨λM w h=>hC.go M w (f0 M w h)⟩
 have err:∀ er,D9 d c s=(d,c,s,er)->∀ w,Ctx W w (fY p q c++(cJ q d++(dP k s++(S++G)))) Ω->DG W G K (.returned (.int .i64 er)) w:=λer he w cx=>by
  refine J7 (A:=fY p q c) (X:=cJ q d) (S:=dP k s++S) (cx.re (by simp)) λw cx=>?_
  rw [he] at hK
  exact hK q.un p k w Ω ⟨rfl,rfl⟩ rfl hq QN RV (λM w h=>⟨f0 M w h,aHl.go M w h,a9Y.go M w h⟩) cx
 refine NL (S:=dP k s++(S++G)) (K:=DG W G K) (by kernel_rfl) (c5.re (by simp)) (λhs=>err 9 (by unfold D9;rw [if_pos hs])) (λhs hp=>err 7 (by unfold D9;rw [if_neg (by rw [hs];simp),if_pos hp])) (λhst hp w G2 cx=>?_)
 have fin:∀ {k':KP} {Ψ:PW} [aA Ψ],k'.sb=k.sb->AX k' (yI c s)->(∀ M w,Ψ M w->Ω M w/\nF k' (yI c s) M w)->∀ w,Ctx W w ((dP k' (yI c s)++(fY p q c++(cJ q d++(S++G))))++G2) Ψ->GN W p q d c G2 (DG W G K) (.returned (.tuple #[stV (RM c.now.last c.now.check) none 0,.int .i64 0])) w:=fun {k' Ψ} II hsb KN M3 w cx=>by
  refine ⟨RM c.now.last c.now.check,0,none,0,dP k' (yI c s)++(S++G),Ψ,rfl,II,a1w cx,λhe=>absurd rfl he,λhe=>⟨hq,hk.weak λM w h=>f0 M w (M3 M w h).1,hE.weak λM w h=>f0 M w (M3 M w h).1,aJw hw.last.2 (by have:=hw.check;omega),λM w h=>Sl.nil,λu w gG cx=>?_⟩⟩
  have e:D9 d c s=((fQ d c (RM c.now.last c.now.check)).1,(fQ d c (RM c.now.last c.now.check)).2.1,yI c s,(fQ d c (RM c.now.last c.now.check)).2.2):=by
   unfold D9
   rw [if_neg (by rw [hst];simp),if_neg (by simp [hp])]
   simp only
   rw [xG hst hp rfl]
  rw [e] at hK
  refine J7 (A:=fY (XG p none 0 (fQ d c (RM c.now.last c.now.check)).2.2) q (fQ d c (RM c.now.last c.now.check)).2.1) (X:=cJ (q.mv u) (fQ d c (RM c.now.last c.now.check)).1) (S:=dP k' (yI c s)++S) (cx.re (by simp)) λw cx=>?_
  exact hK u _ k' w Ψ S9 hsb gG KN II (λM w h=>⟨f0 M w (M3 M w h).1,(M3 M w h).2,a1x (Ψ:=Ψ) (λM w h=>Sl.nil) (λM w h=>a9Y.go M w (M3 M w h).1) M w h⟩) cx
 have stay:yI c s=s->∀ w G3,Ctx W w ((dP k s++((fY p q c++(cJ q d++(S++G)))++G2))++G3) Ω->∃ p82,w.cell? ⟨k0,0,none⟩=some (.pointer p82)/\∀ w G3,Ctx W w ((dP k s++((fY p q c++(cJ q d++(S++G)))++G2))++G3) Ω->∃ p85,w.cell? ⟨k0,0,none⟩=some (.pointer p85)/\jD none p82 λk86 k87=>jD none p85 λk88 k89=>∀ w G3,Ctx W w ((dP k s++((fY p q c++(cJ q d++(S++G)))++G2))++G3) Ω->∃ n92,w.cell? ⟨k86,k87+1,none⟩=some (.int .i64 n92)/\∀ w G3,Ctx W w ((dP k s++((fY p q c++(cJ q d++(S++G)))++G2))++G3) Ω->∃ s95,w.cell? ⟨k88,k89+3,none⟩=some (.string s95)/\∀ w G3,Ctx W w ((dP k s++((fY p q c++(cJ q d++(S++G)))++G2))++G3) Ω->GN W p q d c G2 (DG W G K) (.returned (.tuple #[.agg #[.int .i64 n92,.int .i64 0,.string s95,.int .i64 0,.int .i64 0,.string (ByteArray.mk #[]),.slice none 0 0],.int .i64 0])) w:=λhd w G3 cx =>
  ⟨_,cW (Φ:=Ω) (i:=0) (fc _ _ cx.gW) rfl,λw G3 cx=>⟨_,cW (Φ:=Ω) (i:=0) (fc _ _ cx.gW) rfl,aJ p.cb 0 rfl (aJ p.cb 0 rfl λw G3 cx=>⟨c.now.last,cx.get 3 rfl rfl,λw G3 cx=>⟨c.now.check,cx.get 3 rfl rfl,λw G3 cx=>by
   have:=fin (k':=k) (Ψ:=Ω) rfl (by rw [hd];exact QN) (λM w h=>⟨h,by rw [hd];exact aHl.go M w h⟩) w (by rw [hd];exact cx.left.re (by simp))
   exact this⟩⟩)⟩⟩
 refine (sU k1 0 k0 0 (J:=λv w'=>GN W p q d c G2 (DG W G K) (.returned v) w') (a7W cx) ?_).mono λe w' ⟨v,he,hj⟩=>by rw [he];exact hj
 clear cx
 refine λ_ w G3 cx=>⟨_,cW (Φ:=Ω) (i:=0) (f1 _ _ cx.gW) rfl,λw G3 cx=>?_⟩
 refine (a47 (st:=s) (q:=k)).WW (R:=(fY p q c++(cJ q d++(S++G)))++G2) (cx.re (by simp)) ⟨_,Ω,RV,λw G cx=>cx,Br.intro (λh=>?_) (λh=>?_)⟩
 all_goals clear cx
 ·have h:=of_decide_eq_true h
  refine ⟨some ⟨k.sb,0,none⟩,λw G cx=>⟨_,cW (Φ:=Ω) (i:=0) (f1 _ _ cx.gW) rfl,rfl⟩,some ⟨p.cb,0,none⟩,λw G cx=>⟨_,cW (Φ:=Ω) (i:=0) (fc _ _ cx.gW) rfl,rfl⟩,aJ p.cb 0 rfl ⟨c.now.batch,λw G cx=>⟨_,cx.get 3 rfl rfl,rfl⟩,λw G3 cx=>?_⟩⟩
  refine (a48 (st:=s) (q:=k)).WW (R:=(fY p q c++(cJ q d++(S++G)))++G2) cx ⟨λw G cx=>cx,Br.intro (λh2=>?_) (λh2=>?_)⟩
  ·have h2:=of_decide_eq_true h2
   have hd:yI c s=(AN s c.now.batch).2:=by unfold yI;rw [if_pos ⟨h,h2⟩]
   refine ⟨_,Ω,RV,λw G cx=>cx,some ⟨k.sb,0,none⟩,λw G cx=>⟨_,cW (Φ:=Ω) (i:=0) (f1 _ _ cx.gW) rfl,rfl⟩,some ⟨p.cb,0,none⟩,λw G cx=>⟨_,cW (Φ:=Ω) (i:=0) (fc _ _ cx.gW) rfl,rfl⟩,aJ p.cb 0 rfl ⟨c.now.batch,λw G cx=>⟨_,cx.get 3 rfl rfl,rfl⟩,λw G3 cx=>?_⟩⟩
   refine a9a (R:=(fY p q c++(cJ q d++(S++G)))++G2) (b:=c.now.batch) QN hI hs (by omega) cx λk' hsb KN II=>?_
   clear cx
   rw [<-hd] at KN II ⊢
   refine λw G3 cx=>⟨_,cW (Φ:=Ω) (i:=0) (fc _ _ cx.gW.1) rfl,λw G3 cx=>⟨_,cW (Φ:=Ω) (i:=0) (fc _ _ cx.gW.1) rfl,aJ p.cb 0 rfl (aJ p.cb 0 rfl λw G3 cx=>⟨c.now.last,cx.get 3 rfl rfl,λw G3 cx=>⟨c.now.check,cx.get 3 rfl rfl,λw G3 cx=>?_⟩⟩)⟩⟩
   exact fin hsb KN (λM w h=>h) w (cx.left.re (by simp))
  ·exact stay (by unfold yI;rw [if_neg λh3=>of_decide_eq_false h2 h3.2])
 ·exact stay (by unfold yI;rw [if_neg λh3=>of_decide_eq_false h h3.1])
theorem a39 [aA Φ] (hE:CE Φ) [hS:Has Φ (nF k s)] [hC:Has Φ (CB p c)] (hq:wK q d) (hk:RT Φ q d) (hw:S7 c.now) (QN:AX k s) (hI:WX s) (hs:KZ s n) (hn:n<=300000) (cx:Ctx W w (fY p q c++(cJ q d++(dP k s++S))) Φ) {K:Ending->World->Prop}
  (hK:wL W Φ k p q S K (mG d c s)) :
  Calls Tryz.prog F.bD #[.pointer (some ⟨p.cb,0,none⟩),snk k] w K:=by
 have err:∀ er,mG d c s=(d,c,s,er)->∀ w,Ctx W w (fY p q c++(cJ q d++(dP k s++S))) Φ->K (.returned (.int .i64 er)) w:=λer he w cx=>by
  rw [he] at hK
  exact hK q.un p k w Φ ⟨rfl,rfl⟩ rfl hq QN inferInstance (λM w h=>⟨h,hS.go M w h,hC.go M w h⟩) cx
 have pass:∀ {r:cC × oU × j0 × Int},mG d c s=r->∀ G,wL W Φ k p q (S++G) (DG W G K) r:=fun {r} he G u p' k' w' aF h1 h2 h3 h4 h5 h6 cx=>by
  rw [he] at hK
  exact J7 (A:=fY p' q r.2.1) (X:=cJ (q.mv u) r.1) (S:=dP k' r.2.2.1++S) (cx.re (by simp)) λw cx=>hK u p' k' w aF h1 h2 h3 h4 h5 h6 cx
 refine (sQ p.cb 0 k.sb 0 (J:=λu w'=>K (.returned u) w') cx λw G cx=>⟨c.stop,cx.get 0 rfl rfl,Br.intro (λh=>λw G cx=>err 9 (by unfold mG;rw [if_pos h]) w cx.left) (λh=>λw G cx=>⟨c.now.phase,cx.get 0 rfl rfl,Br.intro (λh2=>λw G cx=>?_) (λh2=>λw G cx=>⟨c.now.phase,cx.get 0 rfl rfl,Br.intro (λh3=>λw G cx=>?_) (λh3=>λw G cx=>?_)⟩)⟩)⟩).mono λe w' ⟨v,he,hj⟩=>by rw [he];exact hj
 ·exact a6m (S:=S++G) (K:=DG W G K) hE hq hk hw QN hI hs hn (cx.re (by simp)) (pass (by unfold mG;rw [if_neg (by rw [h];simp),if_pos (of_decide_eq_true h2)]) G)
 ·exact a6l (S:=S++G) (K:=DG W G K) hE hq hk hw QN hI hs hn (cx.re (by simp)) (pass (by unfold mG;rw [if_neg (by rw [h];simp),if_neg (of_decide_eq_false h2),if_pos (of_decide_eq_true h3)]) G)
 ·exact err 0 (by unfold mG;rw [if_neg (by rw [h];simp),if_neg (of_decide_eq_false h2),if_neg (of_decide_eq_false h3)]) w cx.left
end
end Go.Proofs.YtfccagphnfceiaaGreatDoor
end

section
namespace Go.Proofs.YtfccagphnfceiaaGreatDoor
open Go.Vc
structure OpC where
 kind:Int
 b:Int
 n:Int
 L:List aM
 next:ByteArray
 keep:List Int
 fit:Bool
instance:Gv OpC:=Gv.via (β:=Int × Int × Int × List aM × ByteArray × List Int × Bool) (λx=>(x.kind,x.b,x.n,x.L,x.next,x.keep,x.fit)) (λy=>⟨y.1,y.2.1,y.2.2.1,y.2.2.2.1,y.2.2.2.2.1,y.2.2.2.2.2.1,y.2.2.2.2.2.2⟩) (λ_=>rfl)
abbrev OpC.cells (x:OpC) (p:Option Addr) (c:Nat) (q:Option Addr) (e:Nat):List Value:=[.int .i64 x.kind,.int .i64 x.b,.int .i64 x.n,.slice p x.L.length c,.string x.next,.slice q x.keep.length e,.bool x.fit]
abbrev OpC.v (x:OpC) (p:Option Addr) (c:Nat) (q:Option Addr) (e:Nat):Value:=.agg #[.int .i64 x.kind,.int .i64 x.b,.int .i64 x.n,.slice p x.L.length c,.string x.next,.slice q x.keep.length e,.bool x.fit]
theorem KZ.more {s:j0} {n m:Nat} (h:KZ s n) (hm:n<=m):KZ s m:=⟨by have:=h.dZ;omega,by have:=h.lines;omega,by have:=h.aside;omega,by have:=h.key;omega⟩
theorem aEm {s:j0} {n:Nat} (h:KZ s n) {b:Int} {L:List aM} (hL:L.length<=18):KZ (nY s b L) (n+18) :=
 ⟨by have:=h.dZ;unfold nY;simp only [List.length_append,List.length_singleton];omega,by have:=h.lines;unfold nY;simp only [List.length_append];omega,by have:=h.aside;show s.aside.length<=_;omega,by have:=h.key;show s.key.length<=_;omega⟩
end Go.Proofs.YtfccagphnfceiaaGreatDoor
end

section
namespace Go.Proofs.YtfccagphnfceiaaGreatDoor
open Go.Vc
section
variable {W w:World} {S R G:List Own} {Φ:PW} {p:Option Addr} {cap:Nat} {L:List aM} {cs:List Value}
end
section
variable {W w:World} {S R G:List Own} {Φ:PW} {k:KP} {s:j0} {p:RU} {q:uK} {d:cC} {c:oU} {n:Nat}
end
end Go.Proofs.YtfccagphnfceiaaGreatDoor
end

section
namespace Go.Proofs.YtfccagphnfceiaaGreatDoor
open Go.Vc
abbrev cG.cells (x:cG):List Value:=[.int .i64 x.kind,.int .i64 x.num,.string x.text]
theorem aHm {M:List Nat} {w:World} {v:cG} (h:(aR v.kind/\aR v.num)/\v.text.size<=maxLen):Gv.rep M w v.cells v :=
 ⟨[.int .i64 v.kind],[.int .i64 v.num,.string v.text],rfl,⟨rfl,h.1.1⟩,[.int .i64 v.num],[.string v.text],rfl,⟨rfl,h.1.2⟩,rfl,h.2⟩
section
variable {Φ:PW} {p q:Option Addr} {cap cap2:Nat} {r a b:List cG} {W w:World} {R G:List Own}
end
end Go.Proofs.YtfccagphnfceiaaGreatDoor
end

section
namespace Go.Proofs.YtfccagphnfceiaaGreatDoor
open Go.Vc
theorem P9 {d:cC} {f:Int} {k:sL} {e:Int} (h:mF d f=(some k,e)):k.value.length<=65536:=by
 have hl:∀ (a:Int) (n:Nat),(b9 d f a n).1.length<=n:=λa n=>by
  unfold b9
  split
  ·exact Nat.zero_le _
  ·split
   ·exact Nat.zero_le _
   ·show (List.take _ _).length<=_
    rw [List.length_take];omega
 unfold mF at h
 split at h
 ·injection h with h1;cases h1
 split at h
 ·injection h with h1;cases h1;exact Nat.zero_le _
 split at h
 ·injection h with h1;cases h1
 split at h
 ·injection h with h1;cases h1
 split at h
 ·injection h with h1;cases h1
 split at h
 ·injection h with h1;cases h1
 ·injection h with h1;cases h1
  exact Nat.le_trans (hl _ _) (by omega)
section
variable {W w:World} {S R G:List Own} {Φ:PW}
theorem a0j [aA Φ] (hE:CE Φ) {q:uK} {d:cC} (hq:wK q d) (hk:RT Φ q d) {P:rI->Prop} (hf:vT d P) (cx:Ctx W w (cJ q d++S) Φ) {K:Ending->World->Prop}
  (hn:∀ u d' e w',e=9\/e=10->(L5 d->False)->d'=(iH d 3).1->(iH d 3).2=(none,e)->wK (q.mv u) d'->d'.keep=d.keep->vT d' P->Ctx W w' (cJ (q.mv u) d'++S) Φ->K (.returned (.tuple #[.pointer none,.int .i64 e])) w')
  (hs:∀ u p c d' w',d'=(iH d 3).1->(iH d 3).2=(some c,0)->(L5 d->L5 d')->wK (q.mv u) d'->d'.keep=d.keep->DV d' c->P c.now->c.dN=false->c.stop=false->Ctx W w' (fY p q c++(cJ (q.mv u) d'++S)) (λM w=>Φ M w/\CB p c M w)->K (.returned (.tuple #[.pointer (some ⟨p.cb,0,none⟩),.int .i64 0])) w') :
  Calls Tryz.prog F.nM #[.pointer (some ⟨q.db,0,none⟩),.int .i64 3] w K:=by
 have ho:=a9h hq.w hf
 have hkeep:(iH d 3).1.keep=d.keep:=by
  unfold iH
  simp only
  split
  ·exact jC d 3
  ·exact jC d 3
 refine a0i hE hq hk (λk e h=>Nat.le_trans (P9 h) (by decide)) cx (λu w hnone gG cx=>?_) (λu p c w hc he gG _ cx=>?_)
 ·rcases ho.or with ⟨c,h1,_⟩|⟨h1,h2,h3⟩
  ·rw [h1] at hnone;cases hnone
  ·exact hn u _ _ w h2 (λh=>by have:=(ho.OZ h).2;rw [this] at h2;omega) rfl (by rw [<-hnone]) gG hkeep h3 cx
 ·rcases ho.or with ⟨c',h1,h2,h3,h4,h5,h6⟩|⟨h1,_⟩
  ·rw [h1] at hc
   cases hc
   exact hs u p c _ w rfl (by rw [<-h1,<-he]) (λh=>(ho.OZ h).1) gG hkeep h3 h4 h5 h6 cx
  ·rw [h1] at hc;cases hc
theorem a9Z [aA Φ] (hE:CE Φ) {q:uK} {d:cC} (hq:wK q d) (hk:RT Φ q d) {P:rI->Prop} (hf:vT d P) {kp:Option Addr} {kc:Nat} {keep:List Int} (hkl:keep.length<=1000000) (NQ:∀ M w,Φ M w->Sl M w kp keep) (cx:Ctx W w (cJ q d++S) Φ) {K:Ending->World->Prop}
  (hn:∀ u d' e w',e=9\/e=10->(L5 (AR (cL d keep))->False)->wK (q.mv u) d'->d'.keep=d.keep->vT d' P->Ctx W w' (cJ (q.mv u) d'++S) Φ->K (.returned (.tuple #[.pointer none,.int .i64 e])) w')
  (hs:∀ u p c d' w',d'=(iH (AR (cL d keep)) 3).1->(L5 (AR (cL d keep))->L5 d')->wK (q.mv u) d'->d'.keep=d.keep->DV d' c->P c.now->c.dN=false->c.stop=false->Ctx W w' (fY p q c++(cJ (q.mv u) d'++S)) (λM w=>Φ M w/\CB p c M w)->K (.returned (.tuple #[.pointer (some ⟨p.cb,0,none⟩),.int .i64 0])) w') :
  Calls Tryz.prog F.aG #[.pointer (some ⟨q.db,0,none⟩),.slice kp keep.length kc] w K:=by
 refine (DB q.db 0 kp keep.length kc (J:=λu w'=>K (.returned u) w') cx λw G cx=>?_).mono λe w' ⟨v,he,hj⟩=>by rw [he];exact hj
 have hkc:(AR (cL d keep)).keep=d.keep:=KL d keep
 have hfc:vT (AR (cL d keep)) P:=(hf.ev (GC hq.w keep 3)).frame rfl
 refine P4 (S:=S++G) hq hkl NQ (cx.re (List.append_assoc _ _ _)) λu1 w hq1 cx=>⟨rfl,cJ (q.mv u1) (cL d keep)++S,Φ,inferInstance,cx.re (List.append_assoc _ _ _).symm,λw G cx=>?_⟩
 refine a9x (q:=q.mv u1) (S:=S++G) hq1 (cx.re (List.append_assoc _ _ _)) λw gG cx=>⟨rfl,cJ (q.mv u1) (AR (cL d keep))++S,Φ,inferInstance,cx.re (List.append_assoc _ _ _).symm,λw G cx=>?_⟩
 refine a0j (q:=q.mv u1) (S:=S++G) hE gG (hk.of hkc u1) hfc (cx.re (List.append_assoc _ _ _)) (λu d' e w he hno hd' _ RY hkp hf3 cx=>?_) (λu p c d' w hd' _ a3U RY hkp hl hP hpr hst cx=>?_)
 ·exact ⟨none,e,rfl,cJ (q.mv u) d'++S,Φ,inferInstance,Ctx.re (S:=cJ (q.mv u) d'++(S++G)) cx (List.append_assoc _ _ _).symm,λw G cx=>hn u d' e w he hno RY (hkp.trans hkc) hf3 cx.left⟩
 ·exact ⟨_,_,rfl,fY p q c++(cJ (q.mv u) d'++S),_,inferInstance,Ctx.re (S:=fY p q c++(cJ (q.mv u) d'++(S++G))) cx (by simp),λw G cx=>hs u p c d' w hd' a3U RY (hkp.trans hkc) hl hP hpr hst cx.left⟩
abbrev tM (no b:Int):aM:=⟨no,b,5,[⟨0,7,ByteArray.mk #[]⟩],1,0,0⟩
theorem a4a [aA Φ] {no b:Int} (h:aR no/\aR b):jP Φ Tryz.prog F.aH #[.int .i64 no,.int .i64 b] [tM no b] id:=⟨λW w S c=>by
 refine (EI no b (J:=λv w'=>∃ p c,v=.slice p 1 c/\1<=c/\c<=maxLen/\Ctx W w' S (λM w=>Φ M w/\Sl M w p [tM no b])) c λk0 k1 w G cx=>?_).mono λe w' ⟨v,he,p,c,hv,g1,g2,cx⟩=>⟨p,c,by rw [he,hv];rfl,g1,g2,cx⟩
 have c1:=cx.swap
 obtain ⟨c2,h2⟩:=Ctx.YE (α:=cG) (l:=[⟨0,7,ByteArray.mk #[]⟩]) c1 (aQ.one (aHm (v:=⟨0,7,ByteArray.mk #[]⟩) ⟨⟨by show aR 0;unfold aR;decide,by show aR 7;unfold aR;decide⟩,by show (ByteArray.mk #[]).size<=maxLen;decide⟩))
 have c3:=c2.add (Ψ:=λM w=>Sl M w (some ⟨k0,0,none⟩) ([⟨0,7,ByteArray.mk #[]⟩]:List cG)) h2
 have h4:aQ (dom (Own.blk k1 [.int .i64 no,.int .i64 b,.int .i64 5,.slice (some ⟨k0,0,none⟩) 1 1,.int .i64 1,.int .i64 0,.int .i64 0] 31 :: (S++G))) w [.int .i64 no,.int .i64 b,.int .i64 5,.slice (some ⟨k0,0,none⟩) 1 1,.int .i64 1,.int .i64 0,.int .i64 0] [tM no b] :=
  aQ.one (MK (x:=tM no b) (p:=some ⟨k0,0,none⟩) (c:=1) (Nat.le_refl _) (by unfold maxLen;decide) ⟨h.1,h.2,by show aR 5;unfold aR;decide,by show aR 1;unfold aR;decide,by show aR 0;unfold aR;decide,by show aR 0;unfold aR;decide⟩ c3.gW.2)
 obtain ⟨c5,h5⟩:=Ctx.YE (α:=aM) c3 h4
 exact ⟨some ⟨k1,0,none⟩,1,rfl,Nat.le_refl _,by unfold maxLen;decide,((c5.add (Ψ:=λM w=>Sl M w (some ⟨k1,0,none⟩) [tM no b]) h5).left).weak λM w h=>⟨h.1.1,h.2⟩⟩⟩
structure b8N where
 xb:Nat
 tp:Option Addr
 tc:Nat
 lp:Option Addr
 lc:Nat
end
end Go.Proofs.YtfccagphnfceiaaGreatDoor
end

section
namespace Go.Proofs.YtfccagphnfceiaaGreatDoor
open Go.Vc
section
variable {W w:World} {S R G:List Own} {Φ:PW}
theorem a90 [aA Φ] {p r:Option Addr} {cap cap2:Nat} {a b:List aM} (hA:∀ M w,Φ M w->Sl M w p a) (hB:∀ M w,Φ M w->Sl M w r b) (hlen:a.length<=1000000) (hrow:∀ x∈a,x.row.length<=1000000) :
  aU Φ Tryz.prog F.fA #[.slice p a.length cap,.slice r b.length cap2] (.bool (decide (a=b))):=by
 have h1:Has Φ (λM w=>Sl M w p a):=⟨hA⟩
 have h2:Has Φ (λM w=>Sl M w r b):=⟨hB⟩
 exact a07 hlen hrow
end
end Go.Proofs.YtfccagphnfceiaaGreatDoor
end

section
namespace Go.Proofs.YtfccagphnfceiaaGreatDoor
open Go.Vc
theorem KQ (d:cC) (c:sL) (s:Bs):(lQ d c s).1.keep=d.keep:=by
 have h2:∀ (d:cC) (c:sL) (sl:Nat),(sD d c s sl).1.keep=d.keep:=λd c sl=>by
  unfold sD
  split
  ·exact lS _ _ _ _
  split
  ·exact (jC _ _).trans (lS _ _ _ _)
  split
  ·exact (lS _ _ _ _).trans ((jC _ _).trans (lS _ _ _ _))
  ·exact (jC _ _).trans ((lS _ _ _ _).trans ((jC _ _).trans (lS _ _ _ _)))
 unfold lQ
 split
 ·rfl
 split
 ·split
  ·exact jC _ _
  ·exact (h2 _ _ _).trans (jC _ _)
 ·exact h2 _ _ _
theorem a6n (d:cC) (c:oU) (x:rI):(fQ d c x).1.keep=d.keep:=by
 unfold fQ
 simp only
 split
 ·exact KQ _ _ _
 ·exact KQ _ _ _
structure CoH (Φ:PW) (k:KP) (s:j0) (p:RU) (q:uK) (d:cC) (c:oU) (n:Nat):Prop where
 E:CE Φ
 hS:∀ M w,Φ M w->nF k s M w
 hC:∀ M w,Φ M w->CB p c M w
 hq:wK q d
 hk:RT Φ q d
 hw:S7 c.now
 QN:AX k s
 hI:WX s
 hs:KZ s n
theorem CoH.next {Φ aF:PW} {k k':KP} {s s':j0} {p p':RU} {q:uK} {d d':cC} {c c':oU} {n n':Nat} {u:DkU} (h:CoH Φ k s p q d c n) (eT:∀ M w,aF M w->Φ M w/\(nF k' s' M w/\CB p' c' M w)) (hq:wK (q.mv u) d') (QN:AX k' s') (hkp:d'.keep=d.keep) (hw:S7 c'.now) (hI:WX s') (hs:KZ s' n'):CoH aF k' s' p' (q.mv u) d' c' n' :=
 ⟨h.E.weak λM w x=>(eT M w x).1,λM w x=>(eT M w x).2.1,λM w x=>(eT M w x).2.2,hq,(h.hk.weak λM w x=>(eT M w x).1).of hkp u,hw,QN,hI,hs⟩
theorem wL.go {W:World} {Φ:PW} {k:KP} {p:RU} {q:uK} {S G:List Own} {d':cC} {c':oU} {s':j0} {er:Int} {X:Int->List Own->PW->Prop}
  (h:∀ u p' k' aF,p'.cb=p.cb/\p'.kb=p.kb->k'.sb=k.sb->wK (q.mv u) d'->AX k' s'->aA aF->(∀ M w,aF M w->Φ M w/\(nF k' s' M w/\CB p' c' M w))->X er (fY p' q c'++(cJ (q.mv u) d'++(dP k' s'++S))) aF) :
  wL W Φ k p q (S++G) (λe w'=>∃ n,e=.returned (.int .i64 n)/\∃ R aF,aA aF/\Ctx W w' (R++G) aF/\X n R aF) (d',c',s',er) :=
 λu p' k' w' aF h1 h2 h3 h4 h5 h6 cx=>⟨_,rfl,_,aF,h5,cx.re (by simp),h u p' k' aF h1 h2 h3 h4 h5 h6⟩
theorem a4b {A B X S G:List Own}:(A++(B++(X++S)))++G=A++(B++(X++(S++G))):=by simp
section
variable {W w:World} {S R G:List Own} {Φ:PW} {k:KP} {s:j0} {p:RU} {q:uK} {d:cC} {c:oU} {n:Nat}
variable {cb sb:Nat} {r:cC × oU × j0 × Int}
theorem VQ [aA Φ] (H:CoH Φ k s p q d c n) (hcb:p.cb=cb) {batch mark:Int} {lp:Option Addr} {lc:Nat} {lines:List aM} {next:ByteArray} (hL:∀ M w,Φ M w->Sl M w lp lines) (hlen:lines.length<=1000000) (hb:aR batch) (hm:aR mark) (hnx:next.size<=1000000000) {ln:Nat} (hln:lines.length=ln)
  (hr:((pJ d c batch mark lines next).1,(pJ d c batch mark lines next).2.1,s,(pJ d c batch mark lines next).2.2)=r)
  (cx:Ctx W w (fY p q c++(cJ q d++(dP k s++S))) Φ) {K:Ending->World->Prop} (hK:wL W Φ k p q S K r) :
  Calls Tryz.prog F.aD #[.pointer (some ⟨cb,0,none⟩),.int .i64 batch,.int .i64 mark,.slice lp ln lc,.string next] w K:=by
 subst hln hcb hr
 exact a9W (p:=p) (q:=q) (c:=c) (d:=d) H.E H.hC H.hq H.hk H.hw hL hlen hb hm hnx cx λu p' w hp gG cx=>hK u p' k w _ hp rfl gG H.QN inferInstance (λM w h=>⟨h.1,H.hS M w h.1,h.2⟩) cx
theorem a92 [aA Φ] (H:CoH Φ k s p q d c n) (hcb:p.cb=cb) (hsb:k.sb=sb) (hn:n<=300000) (hr:(d,(eW c s).1,(eW c s).2.1,(eW c s).2.2)=r) (cx:Ctx W w (fY p q c++(cJ q d++(dP k s++S))) Φ) {K:Ending->World->Prop} (hK:wL W Φ k p q S K r) :
  Calls Tryz.prog F.eF #[.pointer (some ⟨cb,0,none⟩),.pointer (some ⟨sb,0,none⟩)] w K:=by
 subst hcb hsb hr
 have hS:Has Φ (nF k s):=⟨H.hS⟩
 have hC:Has Φ (CB p c):=⟨H.hC⟩
 have cx2:Ctx W w ((dP k s++(fY p q c++(cJ q d++S)))++[]) Φ:=a7W (cx.re (by simp))
 refine aEl (p:=p) (q:=q) (c:=c) (k:=k) (s:=s) (S:=cJ q d++S) H.QN H.hI H.hs (by omega) (by have:=H.hw.few;omega) (cx2.re (by simp)) λk' w aF hsb KN st O1 cx=>?_
 have aM3:(eW c s).1.now=c.now:=by
  unfold eW
  split
  ·rfl
  split
  ·rfl
  rfl
 exact hK q.un p k' w aF ⟨rfl,rfl⟩ hsb H.hq KN st (λM w h=>⟨(O1 M w h).1,(O1 M w h).2,by show Sl M w p.lp (eW c s).1.now.lines;rw [aM3];exact H.hC M w (O1 M w h).1⟩) (Ctx.re (a1w (A:=fY p q (eW c s).1) (B:=cJ q d) (X:=dP k' (eW c s).2.1) (S:=S) (G:=[]) (cx.re (by simp))) (by simp;rfl))
theorem a4c [aA Φ] (H:CoH Φ k s p q d c n) (hcb:p.cb=cb) (hr:((kJ d c).1,(kJ d c).2.1,s,(kJ d c).2.2)=r) (cx:Ctx W w (fY p q c++(cJ q d++(dP k s++S))) Φ) {K:Ending->World->Prop} (hK:wL W Φ k p q S K r) :
  Calls Tryz.prog F.eU #[.pointer (some ⟨cb,0,none⟩)] w K:=by
 subst hcb hr
 exact a6k (p:=p) (q:=q) (c:=c) (d:=d) H.E H.hC H.hq H.hk H.hw cx λu p' w hp gG cx=>hK u p' k w _ hp rfl gG H.QN inferInstance (λM w h=>⟨h.1,H.hS M w h.1,h.2⟩) cx
theorem NN [aA Φ] (H:CoH Φ k s p q d c n) (hcb:p.cb=cb) (hsb:k.sb=sb) (hn:n<=300000) (hr:mG d c s=r) (cx:Ctx W w (fY p q c++(cJ q d++(dP k s++S))) Φ) {K:Ending->World->Prop} (hK:wL W Φ k p q S K r) :
  Calls Tryz.prog F.bD #[.pointer (some ⟨cb,0,none⟩),.pointer (some ⟨sb,0,none⟩)] w K:=by
 subst hcb hsb hr
 have hS:Has Φ (nF k s):=⟨H.hS⟩
 have hC:Has Φ (CB p c):=⟨H.hC⟩
 exact a39 (p:=p) (q:=q) (c:=c) (d:=d) (k:=k) (s:=s) H.E H.hq H.hk H.hw H.QN H.hI H.hs hn cx hK
theorem VR [aA Φ] (hcb:p.cb=cb) (cx:Ctx W w ((fY p q c++S)++G) Φ) {X:Int->List Own->PW->Prop} (hX:X c.now.phase (fY p q c++S) Φ) :
  Calls Tryz.prog F.aS #[.pointer (some ⟨cb,0,none⟩)] w λe w'=>∃ n,e=.returned (.int .i64 n)/\∃ R' aF,aA aF/\Ctx W w' (R'++G) aF/\X n R' aF:=by
 subst hcb
 exact (a7T (p:=p) (q:=q) (c:=c)).WW cx hX
theorem a0k [aA Φ] (hcb:p.cb=cb) (cx:Ctx W w ((fY p q c++S)++G) Φ) {X:Int->List Own->PW->Prop} (hX:X c.now.last (fY p q c++S) Φ) :
  Calls Tryz.prog F.bF #[.pointer (some ⟨cb,0,none⟩)] w λe w'=>∃ n,e=.returned (.int .i64 n)/\∃ R' aF,aA aF/\Ctx W w' (R'++G) aF/\X n R' aF:=by
 subst hcb
 exact (a7U (p:=p) (q:=q) (c:=c)).WW cx hX
theorem VS [aA Φ] (hcb:p.cb=cb) (cx:Ctx W w ((fY p q c++S)++G) Φ) {X:ByteArray->List Own->PW->Prop} (hX:X (yK c) (fY p q c++S) Φ) :
  Calls Tryz.prog F.dD #[.pointer (some ⟨cb,0,none⟩)] w λe w'=>∃ n,e=.returned (.string n)/\∃ R' aF,aA aF/\Ctx W w' (R'++G) aF/\X n R' aF:=by
 subst hcb
 exact (a7V (p:=p) (q:=q) (c:=c)).TV cx hX
theorem a1y [aA Φ] (hsb:k.sb=sb) {A B:List Own} (cx:Ctx W w ((A++(B++(dP k s++S)))++G) Φ) {X:Int->List Own->PW->Prop} (hX:X (s.lines.length:Int) (A++(B++(dP k s++S))) Φ) :
  Calls Tryz.prog F.fH #[.pointer (some ⟨sb,0,none⟩)] w λe w'=>∃ n,e=.returned (.int .i64 n)/\∃ R' aF,aA aF/\Ctx W w' (R'++G) aF/\X n R' aF:=by
 subst hsb
 exact ((aBy (st:=s) (q:=k)).WW (a7W cx) (K:=λn R Φ=>n=(s.lines.length:Int)/\R=dP k s++(A++(B++S))/\Φ=_) ⟨rfl,rfl,rfl⟩).mono λe w' ⟨m,he,R',aF,st,cx,h1,h2,h3⟩=>⟨m,he,A++(B++(dP k s++S)),Φ,inferInstance,by rw [h2,h3] at cx;exact a1w cx,by rw [h1];exact hX⟩
structure DH (d:cC) (c:oU) (x:rI):Prop where
 h:L5 d
 w:L4 d
 live:DV d c
 now:c.now=x
 stop:c.stop=false
theorem DH.wf {x:rI} (h:DH d c x):S7 x:=by rw [<-h.now];exact h.live.w
theorem DH.Z2 {x:rI} (h:DH d c x):vT d λy=>y=x:=h.live.Z2 h.now
theorem HK {x y:rI} (h:DH d c y) (hx:S7 x):∃ d' c',fQ d c x=(d',c',0)/\DH d' c' x/\c'.dN=false/\d'.keep=d.keep:=by
 have hn:=a9i h.w h.live hx
 have h0:=(hn.OZ h.h).2
 refine ⟨(fQ d c x).1,(fQ d c x).2.1,by rw [<-h0],?_⟩
 rcases hn.or with ⟨_,g2,g3,g4,g5⟩|⟨g1,_⟩
 ·exact ⟨⟨(hn.OZ h.h).1,hn.w,g5,g2,g4⟩,g3,a6n d c x⟩
 ·rw [h0] at g1;omega
theorem VT {y:rI} (h:DH d c y) (hp:y.phase=0) {batch mark:Int} {lines:List aM} {next:ByteArray} (hb:y.last<batch) (aDV:lines.any (a1e batch)=false) (hx:S7 ⟨y.last,1,y.check,batch,mark,next,lines⟩) :
  ∃ d' c',pJ d c batch mark lines next=(d',c',0)/\DH d' c' ⟨y.last,1,y.check,batch,mark,next,lines⟩/\c'.dN=false/\d'.keep=d.keep:=by
 obtain ⟨d',c',e,hf⟩:=HK h hx
 refine ⟨d',c',?_,hf⟩
 have hb0:AU c batch mark lines next=(⟨y.last,1,y.check,batch,mark,next,lines⟩,0):=by
  unfold AU
  rw [h.now,if_neg (by omega),if_neg (by rw [aDV];simp)]
 unfold pJ
 rw [hb0,xG h.stop (by rw [h.now];exact hp) rfl]
 exact e
theorem a4d {y:rI} (h:DH d c y) (hp:y.phase=1) (hpr:c.dN=true):∃ d' c',kJ d c=(d',c',0)/\DH d' c' { y with phase:=2 }/\c'.dN=false/\d'.keep=d.keep:=by
 have hw:=h.wf
 obtain ⟨d',c',e,hf⟩:=HK (x:={ y with phase:=2 }) h ⟨hw.last,.inr (.inr rfl),hw.check,(λh=>by cases h),λ_=>hw.batch (by rw [hp];decide),hw.ints,hw.next,hw.line,hw.few⟩
 refine ⟨d',c',?_,hf⟩
 have hb0:wZ c=({ y with phase:=2 },0):=by
  unfold wZ
  rw [h.now,if_neg (by rw [hpr];simp)]
 unfold kJ
 rw [hb0,xG h.stop (by rw [h.now];exact hp) rfl]
 exact e
theorem a4e {y:rI} (h:DH d c y) (hp:y.phase=2) {s':j0} (he:C2 c s=(0,s')):∃ d' c',sE d c s=(d',c',s',0)/\DH d' c' (RM y.batch y.next)/\c'.dN=false/\d'.keep=d.keep:=by
 have hw:=h.wf
 obtain ⟨d',c',e,hf⟩:=HK (x:=RM y.batch y.next) h (aCy (by have:=hw.last.1;have:=hw.batch (by rw [hp];decide);omega) hw.ints.1 hw.next)
 refine ⟨d',c',?_,hf⟩
 unfold sE
 rw [if_neg (by rw [h.stop];simp),if_neg (by rw [h.now];simp [hp])]
 simp only
 rw [he,xG h.stop (by rw [h.now];exact hp) rfl,h.now,e]
theorem a6o {y:rI} (h:DH d c y) (hp:y.phase=1):∃ d' c',D9 d c s=(d',c',yI c s,0)/\DH d' c' (RM y.last y.check)/\c'.dN=false/\d'.keep=d.keep:=by
 have hw:=h.wf
 obtain ⟨d',c',e,hf⟩:=HK (x:=RM y.last y.check) h (aCy hw.last.1 hw.last.2 hw.check)
 refine ⟨d',c',?_,hf⟩
 unfold D9
 rw [if_neg (by rw [h.stop];simp),if_neg (by rw [h.now];simp [hp])]
 simp only
 rw [xG h.stop (by rw [h.now];exact hp) rfl,h.now,e]
end
end Go.Proofs.YtfccagphnfceiaaGreatDoor
end

section
namespace Go.Proofs.YtfccagphnfceiaaGreatDoor
open Go.Vc
theorem DrK.of {Φ:PW} {q q':NH} {d d':cC} (h:DrK Φ q d) (e:d'.keep=d.keep) (k:q'.kp=q.kp):DrK Φ q' d':=⟨by rw [e];exact h.le,λM w hp=>by rw [e,k];exact h.sl M w hp⟩
theorem DrK.weak {Φ Ψ:PW} {q:NH} {d:cC} (h:DrK Φ q d) (e:∀ M w,Ψ M w->Φ M w):DrK Ψ q d:=⟨h.le,λM w hp=>h.sl M w (e M w hp)⟩
section
variable {W w:World} {S G:List Own} {Φ:PW} {q:NH} {d:cC}
theorem aJx [aA Φ] {o:Own} {D:List Own} (cx:Ctx W w ((o :: (D++S))++G) Φ):Ctx W w (D++(o :: (S++G))) Φ:=cx.perm (by
 show List.Perm (o :: ((D++S)++G)) _
 rw [List.append_assoc]
 exact List.perm_middle.symm)
theorem aEn [aA Φ] {o:Own} {D:List Own} (cx:Ctx W w (D++(o :: (S++G))) Φ):Ctx W w ((o :: (D++S))++G) Φ:=cx.perm (by
 show List.Perm _ (o :: ((D++S)++G))
 rw [List.append_assoc]
 exact List.perm_middle)
theorem aEo [aA Φ] (hq:AY q d) (hkk:DrK Φ q d) {f:Int} {o:Own} {db:Nat} (hdb:q.db=db) (cx:Ctx W w ((o :: (eB q d++S))++G) Φ) {X:Int->List Own->PW->Prop}
  (hX:∀ q',q'.db=db->q'.kp=q.kp->AY q' (bQ d f).1->DrK Φ q' (bQ d f).1->X (bQ d f).2 (o :: (eB q' (bQ d f).1++S)) Φ) :
  Calls Tryz.prog F.dI #[.pointer (some ⟨db,0,none⟩),.int .i64 f] w λe w'=>∃ n,e=.returned (.int .i64 n)/\∃ R' aF,aA aF/\Ctx W w' (R'++G) aF/\X n R' aF:=by
 subst hdb
 exact VN (S:=o :: (S++G)) hq hkk (aJx cx) λq' w h1 h2 KR cx=>⟨_,rfl,_,Φ,inferInstance,aEn cx,hX q' h1 h2 KR (hkk.of (jC d f) h2)⟩
theorem aEp [aA Φ] (hq:AY q d) (hkk:DrK Φ q d) {f a:Int} {s:Bs} (hs:s.length<=1000000000) {o:Own} {db:Nat} (hdb:q.db=db) (cx:Ctx W w ((o :: (eB q d++S))++G) Φ) {X:Int->List Own->PW->Prop}
  (hX:∀ q',q'.db=db->q'.kp=q.kp->AY q' (aY d f a s).1->DrK Φ q' (aY d f a s).1->X (aY d f a s).2 (o :: (eB q' (aY d f a s).1++S)) Φ) :
  Calls Tryz.prog F.eL #[.pointer (some ⟨db,0,none⟩),.int .i64 f,.int .i64 a,.string (bs s)] w λe w'=>∃ n,e=.returned (.int .i64 n)/\∃ R' aF,aA aF/\Ctx W w' (R'++G) aF/\X n R' aF:=by
 subst hdb
 exact a35 (S:=o :: (S++G)) hq hkk hs (aJx cx) λq' w h1 h2 KR cx=>⟨_,rfl,_,Φ,inferInstance,aEn cx,hX q' h1 h2 KR (hkk.of (lS d f a s) h2)⟩
end
end Go.Proofs.YtfccagphnfceiaaGreatDoor
end

section
namespace Go.Proofs.YtfccagphnfceiaaGreatDoor
open Go.Vc
theorem a94 {slot n:Nat} (h:n<=65536):[Value.int .u8 (IntKind.u8.wrap (slot:Int)),Value.int .u8 (IntKind.u8.wrap ((n:Int).tmod 256)),Value.int .u8 (IntKind.u8.wrap (((n:Int).tdiv 256).tmod 256)),Value.int .u8 (IntKind.u8.wrap ((n:Int).tdiv 65536)),Value.int .u8 0]=bB (gZ slot n):=by
 have e1:(n:Int).tmod 256=((n % 256:Nat):Int):=by rw [Int.tmod_eq_emod_of_nonneg (by omega)];omega
 have e2:(n:Int).tdiv 256=((n / 256:Nat):Int):=by rw [Int.tdiv_eq_ediv_of_nonneg (by omega)];omega
 have e3:((n / 256:Nat):Int).tmod 256=((n / 256 % 256:Nat):Int):=by rw [Int.tmod_eq_emod_of_nonneg (by omega)];omega
 have e4:(n:Int).tdiv 65536=((n / 65536:Nat):Int):=by rw [Int.tdiv_eq_ediv_of_nonneg (by omega)];omega
 have t1:(n % 256).toUInt8=n.toUInt8:=UInt8.toNat_inj.1 (by simp)
 have t2:(n / 256 % 256).toUInt8=(n / 256).toUInt8:=UInt8.toNat_inj.1 (by simp)
 have t3:n / 16777216=0:=by omega
 rw [e1,e2,e3,e4,C6,C6,C6,C6,t1,t2]
 unfold gZ bB
 rw [t3]
 rfl
section
variable {W w:World} {S G:List Own} {Φ:PW} {q:NH} {d:cC}
theorem aEq [aA Φ] {g c:Nat} {l:Bs} (cx:Ctx W w (.blk g (bB l) 5 :: S) Φ):Sem.run Tryz.prog (convert 129 9 (.slice (some ⟨g,0,none⟩) l.length c)) w=.ok (.string (bs l)) w:=by
 have hb:Lib.Bytes w g 0 (bs l):=λi hi=>by
  have hi':i<l.length:=by rw [aT] at hi;exact hi
  have:=cx.get 0 rfl (b:=g) (i:=i) (v:=.int .u8 (l[i].toNat:Int)) (by rw [List.getElem?_map,List.getElem?_eq_getElem hi'];rfl)
  rw [Nat.zero_add]
  exact this
 have hc:=Lib.run_convert_whole (P:=Tryz.prog) w 129 5 9 Tryz.underlying129 Tryz.underlying5 Tryz.underlying9 g 0 _ hb c
 rw [aT] at hc
 exact hc
abbrev DW (k db:Nat) (c:sL):Own:=.blk k [.pointer (some ⟨db,0,none⟩),.int .i64 c.file,.int .i64 (c.slot:Int),.string (bs c.value),.bool c.sure] 125
set_option maxRecDepth 20000 in
set_option maxHeartbeats 4000000 in
theorem a95 [aA Φ] (hq:AY q d) (hkk:DrK Φ q d) {k db:Nat} (hdb:q.db=db) {c:sL} (NQ:c.slot<=2) {s:Bs} (hs:s.length<=1000000) (cx:Ctx W w (DW k db c :: (eB q d++S)) Φ) {K:Ending->World->Prop}
  (hk:∀ q' w',q'.db=db->q'.kp=q.kp->AY q' (lQ d c s).1->DrK Φ q' (lQ d c s).1->Ctx W w' (DW k db (lQ d c s).2.1 :: (eB q' (lQ d c s).1++S)) Φ->K (.returned (.int .i64 (lQ d c s).2.2)) w') :
  Calls Tryz.prog F.jK #[.pointer (some ⟨k,0,none⟩),.string (bs s)] w K:=by
 refine (yX k 0 (bs s) (J:=λu w'=>K (.returned u) w') cx ?_).mono λe w' ⟨v,he,hj⟩=>by rw [he];exact hj
 clear cx
 refine Br.intro (λh=>λw G cx=>?_) (λh=>?_)
 ·have e:lQ d c s=(d,c,6):=by unfold lQ;rw [if_pos (by have:=of_decide_eq_true h;rw [aT] at this;omega)]
  rw [e] at hk
  exact hk q w hdb rfl hq hkk cx.left
 have h64:¬ (65536<s.length):=by have:=of_decide_eq_false h;rw [aT] at this;omega
 refine bY (λR' aF=>∃ (q':NH) (d':cC) (c':sL),R'=DW k db c' :: (eB q' d'++S)/\aF=Φ/\q'.db=db/\q'.kp=q.kp/\AY q' d'/\DrK Φ q' d'/\c'.file=c.file/\c'.slot=c.slot/\lQ d c s=sD d' c' s (if c'.slot=1 then 2 else 1)) ⟨?_,?_⟩
 ·refine λw G cx=>⟨c.sure,cx.get 0 rfl rfl,(c.slot:Int),λ_=>cx.get 0 rfl rfl,Br.intro (λhc=>⟨_,Φ,inferInstance,λw G cx=>cx,some ⟨db,0,none⟩,λw G cx=>⟨_,cx.get 0 rfl rfl,rfl⟩,c.file,λw G cx=>⟨_,cx.get 0 rfl rfl,rfl⟩,λw G cx=>?_⟩) (λhc=>⟨_,Φ,inferInstance,λw G cx=>cx,q,d,c,rfl,rfl,hdb,rfl,hq,hkk,rfl,rfl,?_⟩)⟩
  ·rw [Bool.and_eq_true] at hc
   have hc1:c.sure=false:=by simpa using hc.1
   have hc2:0<c.slot:=by have:=of_decide_eq_true hc.2;omega
   refine aEo hq hkk hdb cx (λq' h1 h2 h3 h4=>Br.intro (λh5=>λw G cx=>?_) (λh5=>λw G cx=>⟨cx.can 0 rfl (by show 4+1<=5;decide),λw' hw'=>?_⟩))
   ·have e:lQ d c s=((bQ d c.file).1,c,(bQ d c.file).2):=by unfold lQ;rw [if_neg h64,if_pos ⟨hc1,hc2⟩,if_pos (of_decide_eq_true h5)]
    rw [e] at hk
    exact hk q' w h1 h2 h3 h4 cx.left
   ·have c1:=cx.put 0 hw' rfl
    refine ⟨DW k db { c with sure:=true } :: (eB q' (bQ d c.file).1++S),Φ,inferInstance,c1,_,Φ,inferInstance,λw G cx=>cx,q',(bQ d c.file).1,{ c with sure:=true },rfl,rfl,h1,h2,h3,h4,rfl,rfl,?_⟩
    unfold lQ
    rw [if_neg h64,if_pos ⟨hc1,hc2⟩,if_neg (of_decide_eq_false h5)]
  ·unfold lQ
   rw [if_neg h64,if_neg]
   rintro ⟨h1,h2⟩
   rw [h1] at hc
   rw [Bool.and_eq_false_iff] at hc
   rcases hc with hc|hc
   ·cases hc
   ·exact of_decide_eq_false hc (by omega)
 rintro R1 bH st ⟨q1,d1,c1,rfl,rfl,aHn,aG2,hq1,b4k,hf1,hs1,eS⟩
 rw [eS] at hk
 rw [<-aG2] at hk
 clear eS hq hkk hdb
 refine bY (λn R' aF=>n=((if c1.slot=1 then 2 else 1:Nat):Int)/\R'=DW k db c1 :: (eB q1 d1++S)/\aF=bH) ⟨λw G cx=>⟨(c1.slot:Int),cx.get 0 rfl rfl,Br.intro (λh1=>⟨_,bH,st,λw G cx=>cx,by rw [if_pos (by have:=of_decide_eq_true h1;omega)];rfl,rfl,rfl⟩) (λh1=>⟨_,bH,st,λw G cx=>cx,by rw [if_neg (by have:=of_decide_eq_false h1;omega)];rfl,rfl,rfl⟩)⟩,?_⟩
 rintro n R1 pI pZ ⟨rfl,rfl,rfl⟩
 have hx:(if c1.slot=1 then 2 else 1:Nat)=1\/(if c1.slot=1 then 2 else 1:Nat)=2:=by split<;>omega
 generalize (if c1.slot=1 then 2 else 1:Nat)=slot at hx hk ⊢
 refine ⟨_,pI,pZ,λw G cx=>cx,some ⟨db,0,none⟩,λw G cx=>⟨_,cx.get 0 rfl rfl,rfl⟩,c1.file,λw G cx=>⟨_,cx.get 0 rfl rfl,rfl⟩,λw G cx=>?_⟩
 refine (VO hx).WW cx ⟨λw G cx=>cx,λw G cx=>?_⟩
 refine aEp hq1 b4k (by omega) aHn cx (λq2 a1 a2 gG aXb=>Br.intro (λh5=>λw G cx=>?_) (λh5=>⟨_,pI,pZ,λw G cx=>cx,some ⟨db,0,none⟩,λw G cx=>⟨_,cx.get 0 rfl rfl,rfl⟩,c1.file,λw G cx=>⟨_,cx.get 0 rfl rfl,rfl⟩,λw G cx=>?_⟩))
 ·have e:sD d1 c1 s slot=((aY d1 c1.file (eX slot) s).1,c1,(aY d1 c1.file (eX slot) s).2):=by unfold sD;rw [if_pos (of_decide_eq_true h5)]
  rw [e] at hk
  exact hk q2 w a1 a2 gG aXb cx.left
 have h5:=of_decide_eq_false h5
 refine aEo gG aXb a1 cx (λq3 b1 b2 RY aXc=>Br.intro (λh6=>λw G cx=>?_) (λh6=>?_))
 ·have e:sD d1 c1 s slot=((bQ (aY d1 c1.file (eX slot) s).1 c1.file).1,c1,(bQ (aY d1 c1.file (eX slot) s).1 c1.file).2):=by unfold sD;rw [if_neg h5,if_pos (of_decide_eq_true h6)]
  rw [e] at hk
  exact hk q3 w b1 (b2.trans a2) RY aXc cx.left
 have h6:=of_decide_eq_false h6
 have hI1:aR (((bs s).size:Int).tdiv 256):=by rw [aT,Int.tdiv_eq_ediv_of_nonneg (by omega)];unfold aR;omega
 have hI2:aR (((bs s).size:Int).tdiv 65536):=by rw [aT,Int.tdiv_eq_ediv_of_nonneg (by omega)];unfold aR;omega
 refine ⟨_,pI,pZ,λw G cx=>cx,by decide,by decide,hI1,by decide,hI2,by decide,some ⟨db,0,none⟩,λw G cx=>⟨_,cx.get 0 rfl rfl,rfl⟩,c1.file,λw G cx=>⟨_,cx.get 0 rfl rfl,rfl⟩,λk2=>⟨λw G cx=>cx.drop1,λw G cx=>?_⟩⟩
 rw [aT,a94 (by omega)] at cx
 have hr:=aEq (c:=5) cx
 refine ⟨_,w,hr,_,pI,pZ,Ctx.drop1 cx,λw G cx=>cx,λw G cx=>?_⟩
 have hh5:(gZ slot s.length).length<=1000000000:=by show 5<=1000000000;decide
 refine aEp (a:=0) RY aXc hh5 b1 cx (λq4 e1 e2 hq4 aM4=>Br.intro (λh7=>λw G cx=>?_) (λh7=>λw G cx=>⟨cx.can 0 rfl (by show 2+1<=5;decide),λw' hw'=>?_⟩))
 ·have e:sD d1 c1 s slot=((aY (bQ (aY d1 c1.file (eX slot) s).1 c1.file).1 c1.file 0 (gZ slot s.length)).1,c1,(aY (bQ (aY d1 c1.file (eX slot) s).1 c1.file).1 c1.file 0 (gZ slot s.length)).2):=by unfold sD;rw [if_neg h5,if_neg h6,if_pos (of_decide_eq_true h7)]
  rw [e] at hk
  exact hk q4 w e1 (e2.trans (b2.trans a2)) hq4 aM4 cx.left
 have h7:=of_decide_eq_false h7
 have eE:sD d1 c1 s slot=((bQ (aY (bQ (aY d1 c1.file (eX slot) s).1 c1.file).1 c1.file 0 (gZ slot s.length)).1 c1.file).1,⟨c1.file,slot,s,decide ((bQ (aY (bQ (aY d1 c1.file (eX slot) s).1 c1.file).1 c1.file 0 (gZ slot s.length)).1 c1.file).2=0)⟩,(bQ (aY (bQ (aY d1 c1.file (eX slot) s).1 c1.file).1 c1.file 0 (gZ slot s.length)).1 c1.file).2):=by unfold sD;rw [if_neg h5,if_neg h6,if_neg h7]
 rw [eE] at hk
 clear eE
 generalize (aY (bQ (aY d1 c1.file (eX slot) s).1 c1.file).1 c1.file 0 (gZ slot s.length)).1=d4 at hk hq4 aM4 cx
 have p1:=cx.put 0 hw' rfl
 refine ⟨.blk k [.pointer (some ⟨db,0,none⟩),.int .i64 c1.file,.int .i64 (slot:Int),.string (bs c1.value),.bool c1.sure] 125 :: (eB q4 d4++S),pI,pZ,p1,λw G cx=>⟨cx.can 0 rfl (by show 3+1<=5;decide),λw' hw'=>?_⟩⟩
 have p2:=cx.put 0 hw' rfl
 refine ⟨.blk k [.pointer (some ⟨db,0,none⟩),.int .i64 c1.file,.int .i64 (slot:Int),.string (bs s),.bool c1.sure] 125 :: (eB q4 d4++S),pI,pZ,p2,λw G cx=>⟨cx.can 0 rfl (by show 4+1<=5;decide),λw' hw'=>?_⟩⟩
 have p3:=cx.put 0 hw' rfl
 refine ⟨DW k db ⟨c1.file,slot,s,false⟩ :: (eB q4 d4++S),pI,pZ,p3,_,pI,pZ,λw G cx=>cx,some ⟨db,0,none⟩,λw G cx=>⟨_,cx.get 0 rfl rfl,rfl⟩,c1.file,λw G cx=>⟨_,cx.get 0 rfl rfl,rfl⟩,λw G cx=>?_⟩
 refine aEo hq4 aM4 e1 cx (λq5 g1 g2 hq5 b4l=>λw G cx=>⟨cx.can 0 rfl (by show 4+1<=5;decide),λw' hw'=>?_⟩)
 have p4:=cx.put 0 hw' rfl
 exact ⟨DW k db ⟨c1.file,slot,s,decide ((bQ d4 c1.file).2=0)⟩ :: (eB q5 (bQ d4 c1.file).1++S),pI,pZ,p4,λw G cx=>hk q5 w g1 (g2.trans (e2.trans (b2.trans a2))) hq5 b4l cx.left⟩
end
end Go.Proofs.YtfccagphnfceiaaGreatDoor
end

section
namespace Go.Proofs.YtfccagphnfceiaaGreatDoor
open Go.Vc
theorem VU {d:cC} (h:L5 d) (keep:List Int):L5 (AR (cL d keep)):=by
 unfold cL
 rw [if_neg (by rw [h.1];simp)]
 exact ⟨rfl,rfl,h.2.2⟩
abbrev c1B:ByteArray:=ByteArray.mk #[OfNat.ofNat 99,OfNat.ofNat 49]
abbrev c2B:ByteArray:=ByteArray.mk #[OfNat.ofNat 99,OfNat.ofNat 50]
theorem a7Y {no b:Int} (h:aR no/\aR b):wI (tM no b):=⟨⟨h.1,h.2,by show aR 5;unfold aR;decide,by show aR 1;unfold aR;decide,by show aR 0;unfold aR;decide,by show aR 0;unfold aR;decide⟩,λv hv=>by
 rw [List.mem_singleton.1 hv]
 exact ⟨⟨by show aR 0;unfold aR;decide,by show aR 7;unfold aR;decide⟩,by show (ByteArray.mk #[]).size<=200;decide⟩,by show 1<=12;decide⟩
theorem AA (no b:Int):eD (tM no b).row=true:=by show eD [⟨0,7,ByteArray.mk #[]⟩]=true;decide +kernel
abbrev xS1:rI:=⟨0,1,.empty,1,9,c1B,[tM 1 1]⟩
abbrev xS5:rI:=⟨1,1,c1B,2,9,c2B,[tM 2 2]⟩
theorem aJy:S7 xS1:=⟨⟨by decide,by unfold aR;decide⟩,.inr (.inl rfl),by decide,(λh=>by cases h),λ_=>by decide,⟨by unfold aR;decide,by unfold aR;decide⟩,by decide,λy hy=>by
 rw [List.mem_singleton.1 hy]
 exact ⟨a7Y ⟨by unfold aR;decide,by unfold aR;decide⟩,rfl,AA 1 1⟩,by decide⟩
theorem aXe:S7 xS5:=⟨⟨by decide,by unfold aR;decide⟩,.inr (.inl rfl),by decide,(λh=>by cases h),λ_=>by decide,⟨by unfold aR;decide,by unfold aR;decide⟩,by decide,λy hy=>by
 rw [List.mem_singleton.1 hy]
 exact ⟨a7Y ⟨by unfold aR;decide,by unfold aR;decide⟩,rfl,AA 2 2⟩,by decide⟩
abbrev sC0:j0:=MN 2 []
abbrev sC1:j0:=nY sC0 1 [tM 1 1]
theorem aHo:rZ sC0 1 [tM 1 1]=0:=by decide +kernel
theorem a4f:jV sC0 1 [tM 1 1]=(0,sC1):=by
 unfold jV
 rw [if_neg (by decide),if_neg (by decide),if_neg (by rw [aHo];decide)]
theorem aJz:WX sC1:=aKs (a2I 2 []) (by decide) (by decide) (by unfold aR;decide) λx hx=>by rw [List.mem_singleton.1 hx];exact AA 1 1
theorem a4g:KZ sC0 18:=⟨Nat.zero_le _,Nat.zero_le _,Nat.zero_le _,Nat.zero_le _⟩
theorem aJA:KZ sC1 36:=aEm a4g (by decide)
theorem a0l (no b:Int):([tM no b].any (a1e b))=false:=by
 rw [List.any_cons,List.any_nil,Bool.or_false]
 unfold a1e
 rw [AA,decide_eq_false (by simp)]
 rfl
section
variable {W w:World} {S R G:List Own} {Φ:PW} {k:KP} {s:j0} {p:RU} {q:uK} {d:cC} {c:oU} {n:Nat}
theorem VV [aA Φ] (H:CoH Φ k s p q d c n) {x:rI} (hf:DH d c x) {db:Nat} (hdb:q.db=db) {kp:Option Addr} {kc:Nat} {keep:List Int} (hkl:keep.length<=1000000) (NQ:∀ M w,Φ M w->Sl M w kp keep) {kn:Nat} (hkn:keep.length=kn)
  (cx:Ctx W w ((fY p q c++(cJ q d++(dP k s++S)))++G) Φ) {X:Option Addr->Int->List Own->PW->Prop}
  (hX:∀ u p' d' c',DH d' c' x->c'.dN=false->CoH (λM w=>Φ M w/\CB p' c' M w) k s p' (q.mv u) d' c' n->aA (λM w=>Φ M w/\CB p' c' M w)->X (some ⟨p'.cb,0,none⟩) 0 (fY p' q c'++(cJ (q.mv u) d'++(dP k s++S))) (λM w=>Φ M w/\CB p' c' M w)) :
  Calls Tryz.prog F.aG #[.pointer (some ⟨db,0,none⟩),.slice kp kn kc] w λe w'=>∃ p n,e=.returned (.tuple #[.pointer p,.int .i64 n])/\∃ R' aF,aA aF/\Ctx W w' (R'++G) aF/\X p n R' aF:=by
 subst hkn hdb
 refine a9Z (q:=q) (d:=d) (S:=dP k s++(S++G)) H.E H.hq H.hk hf.Z2 hkl NQ (Ctx.sub (S':=cJ q d++(dP k s++(S++G))) (cx.re a4b) (List.sublist_append_right _ _)) (λu d' e w he hno _ _ _ cx=>absurd (VU hf.h keep) hno) (λu p' c' d' w hd' a3U hq hkp hl hP hpr hst cx=>?_)
 have f':DH d' c' x:=⟨a3U (VU hf.h keep),hq.w,hl,hP,hst⟩
 have H':CoH (λM w=>Φ M w/\CB p' c' M w) k s p' (q.mv u) d' c' n:=H.next (λM w h=>⟨h.1,H.hS M w h.1,h.2⟩) hq H.QN hkp hl.w H.hI H.hs
 exact ⟨_,0,rfl,fY p' q c'++(cJ (q.mv u) d'++(dP k s++S)),_,inferInstance,Ctx.re (S:=fY p' q c'++(cJ (q.mv u) d'++(dP k s++(S++G)))) cx a4b.symm,hX u p' d' c' f' hpr H' inferInstance⟩
theorem CoH.weak {Ψ:PW} (H:CoH Φ k s p q d c n) (h:∀ M w,Ψ M w->Φ M w):CoH Ψ k s p q d c n:=⟨H.E.weak h,λM w x=>H.hS M w (h M w x),λM w x=>H.hC M w (h M w x),H.hq,H.hk.weak h,H.hw,H.QN,H.hI,H.hs⟩
set_option maxHeartbeats 4000000 in
theorem a6p [aA Φ] (hE:CE Φ):aU Φ Tryz.prog F.mT #[] (.bool true):=by
 refine dS DA λW R=>λw G cx=>a3F cx λq0 w hq0 cx=>⟨_,rfl,cJ q0 bX++R,λM w=>Φ M w/\dkF q0 bX M w,inferInstance,cx.re (List.append_assoc _ _ _).symm,λw G cx=>?_⟩
 have hnil:Has (λM w=>Φ M w/\dkF q0 bX M w) (λM w=>Sl M w none ([]:List Int)):=⟨λM w h=>Sl.nil⟩
 refine aKE (kind:=2) (key:=[]) (cap:=0) (p:=none) (by decide) cx (λh=>by cases h) (λk hok QN st1=>λw G cx=>?_)
 refine Br.intro (λh=>by cases h) (λ_=>λw G cx=>?_)
 have hk0:RT (λM w=>(Φ M w/\dkF q0 bX M w)/\nF k (MN 2 []) M w) q0 bX:=⟨Nat.zero_le _,λM w h=>h.1.2⟩
 refine a0j (q:=q0) (d:=bX) (S:=dP k (MN 2 [])++(R++G)) (hE.weak λM w h=>h.1.1) hq0 hk0 aCz (Ctx.re (Ctx.aU6 cx) (by simp)) (λu d' e w he hno _ _ _ _ _ cx=>absurd a7s hno) (λu0 p0 c0 d0 w hd0 _ aM5 hq1 aXf hl0 hP0 b8T vJ cx=>?_)
 have f0:DH d0 c0 D6:=⟨aM5 a7s,hq1.w,hl0,hP0,vJ⟩
 have kk0:d0.keep=[]:=aXf
 have H0:CoH (λM w=>((Φ M w/\dkF q0 bX M w)/\nF k (MN 2 []) M w)/\CB p0 c0 M w) k sC0 p0 (q0.mv u0) d0 c0 18:=⟨hE.weak λM w h=>h.1.1.1,λM w h=>h.1.2,λM w h=>h.2,hq1,(hk0.weak λM w h=>h.1).of aXf u0,hl0.w,QN,a2I 2 [],a4g⟩
 refine ⟨_,0,rfl,fY p0 q0 c0++(cJ (q0.mv u0) d0++(dP k sC0++R)),_,inferInstance,Ctx.re (S:=fY p0 q0 c0++(cJ (q0.mv u0) d0++(dP k sC0++(R++G)))) cx (by simp),Br.intro (λh=>by cases h) (λ_=>Br.intro (λ_=>λw G cx=>?_) (λh=>absurd rfl (of_decide_eq_false h)))⟩
 refine (a4a (no:=1) (b:=1) ⟨by unfold aR;decide,by unfold aR;decide⟩).to cx λlp lc g1 g2 pZ=>λw G cx=>?_
 obtain ⟨d1,c1,e1,f1,pr1,kp1⟩:=VT (batch:=1) (mark:=9) (lines:=[tM 1 1]) (next:=c1B) f0 rfl (by decide) (a0l 1 1) aJy
 have H0:=H0.weak (Ψ:=λM w=>(((Φ M w/\dkF q0 bX M w)/\nF k (MN 2 []) M w)/\CB p0 c0 M w)/\Sl M w lp [tM 1 1]) λM w h=>h.1
 refine VQ (S:=R++G) (r:=(d1,c1,sC0,0)) H0 rfl (λM w h=>h.2) (by decide) (by unfold aR;decide) (by unfold aR;decide) (by decide) rfl (by rw [e1]) (cx.re a4b) (wL.go λu1 p1 k1 Ψ1 hp1 a36 hq1 b4n st3 aXg=>?_)
 have H1:=H0.next aXg hq1 b4n kp1 (by rw [f1.now];exact aJy) (a2I 2 []) a4g
 refine Br.intro (λ_=>λw G cx=>?_) (λh=>absurd rfl (of_decide_eq_false h))
 have eg:C1 c1 sC0=(0,sC0):=by
  unfold C1
  rw [f1.now,if_neg (by decide)]
  show ((jV sC0 1 [tM 1 1]).1,sC0)=_
  rw [a4f]
 have e2:(d1,(eW c1 sC0).1,(eW c1 sC0).2.1,(eW c1 sC0).2.2)=(d1,{ c1 with dN:=true },sC0,(0:Int)):=by
  unfold eW
  rw [if_neg (by rw [f1.stop];simp),if_neg (by rw [f1.now];decide),eg]
  simp
 have f2:DH d1 { c1 with dN:=true } xS1:=⟨f1.h,f1.w,⟨f1.live.file,f1.live.now,f1.live.last,f1.live.enc,f1.live.w⟩,f1.now,f1.stop⟩
 refine a92 (S:=R++G) H1 hp1.1 a36 (by decide) e2 (cx.re a4b) (wL.go λu2 p2 k2 Ψ2 hp2 a38 gG aMY st4 aXh=>?_)
 have H2:=H1.next aXh gG aMY rfl f2.live.w (a2I 2 []) a4g
 refine Br.intro (λ_=>λw G cx=>?_) (λh=>absurd rfl (of_decide_eq_false h))
 obtain ⟨d3,c3,e3,f3,pr3,kp3⟩:=a4d f2 rfl rfl
 refine a4c (S:=R++G) (r:=(d3,c3,sC0,0)) H2 (hp2.1.trans hp1.1) (by rw [e3]) (cx.re a4b) (wL.go λu3 p3 k3 Ψ3 hp3 aEk RY b4o st5 aXi=>?_)
 have H3:=H2.next aXi RY b4o kp3 f3.live.w (a2I 2 []) a4g
 refine Br.intro (λ_=>λw G cx=>?_) (λh=>absurd rfl (of_decide_eq_false h))
 have ck3:yK c3=c1B:=by unfold yK;rw [f3.now];rfl
 refine VS (hp3.1.trans (hp2.1.trans hp1.1)) cx (λw G cx=>?_)
 rw [ck3]
 refine VV (keep:=[]) (X:=_) H3 f3 rfl (by decide) (λM w h=>Sl.nil) rfl cx (λu4 p4 d4 c4 f4 pr4 H4 st6=>?_)
 refine Br.intro (λh=>by cases h) (λ_=>Br.intro (λ_=>λw G cx=>?_) (λh=>absurd rfl (of_decide_eq_false h)))
 refine VR rfl cx (Br.intro (λ_=>λw G cx=>?_) (λh=>absurd (by rw [f4.now]) (of_decide_eq_false h)))
 have eE:C2 c4 sC0=(0,sC1):=by
  unfold C2
  rw [f4.now,if_neg (by decide)]
  exact a4f
 obtain ⟨d5,c5,e5,f5,pr5,kp5⟩:=a4e f4 rfl eE
 have e5:mG d4 c4 sC0=(d5,c5,sC1,0):=by
  unfold mG
  rw [if_neg (by rw [f4.stop];simp),if_neg (by rw [f4.now];decide),if_pos (by rw [f4.now])]
  exact e5
 refine NN (S:=R++G) H4 rfl (aEk.trans (a38.trans a36)) (by decide) e5 (cx.re a4b) (wL.go λu5 p5 k5 Ψ5 hp5 b4q hq5 b4r st7 aXj=>?_)
 have H5:=H4.next aXj hq5 b4r kp5 f5.live.w aJz aJA
 have hk5:=b4q.trans (aEk.trans (a38.trans a36))
 refine Br.intro (λ_=>λw G cx=>?_) (λh=>absurd rfl (of_decide_eq_false h))
 refine VR hp5.1 cx (Br.intro (λ_=>λw G cx=>?_) (λh=>absurd (by rw [f5.now]) (of_decide_eq_false h)))
 refine a0k hp5.1 cx (Br.intro (λ_=>λw G cx=>?_) (λh=>absurd (by rw [f5.now]) (of_decide_eq_false h)))
 refine a1y (s:=sC1) hk5 cx (λw G cx=>?_)
 refine (a4a (no:=2) (b:=2) ⟨by unfold aR;decide,by unfold aR;decide⟩).to cx λlp2 lc2 g3 g4 st8=>λw G cx=>?_
 obtain ⟨d6,c6,e6,f6,pr6,kp6⟩:=VT (batch:=2) (mark:=9) (lines:=[tM 2 2]) (next:=c2B) f5 rfl (by decide) (a0l 2 2) aXe
 have H5:=H5.weak (Ψ:=λM w=>Ψ5 M w/\Sl M w lp2 [tM 2 2]) λM w h=>h.1
 refine VQ (S:=R++G) (r:=(d6,c6,sC1,0)) H5 hp5.1 (λM w h=>h.2) (by decide) (by unfold aR;decide) (by unfold aR;decide) (by decide) rfl (by rw [e6]) (cx.re a4b) (wL.go λu6 p6 k6 Ψ6 hp6 b4s hq6 b4t st9 aXk=>λw G cx=>?_)
 have H6:=H5.next aXk hq6 b4t kp6 f6.live.w aJz aJA
 refine VV (keep:=[]) (X:=_) H6 f6 rfl (by decide) (λM w h=>Sl.nil) rfl cx (λu7 p7 d7 c7 f7 pr7 H7 b83=>?_)
 refine Br.intro (λh=>by cases h) (λ_=>Br.intro (λ_=>Br.intro (λ_=>Br.intro (λ_=>Br.intro (λ_=>λw G cx=>?_) (λh=>absurd rfl (of_decide_eq_false h))) (λh=>absurd rfl (of_decide_eq_false h))) (λh=>absurd rfl (of_decide_eq_false h))) (λh=>absurd rfl (of_decide_eq_false h)))
 obtain ⟨d8,c8,e8,f8,pr8,kp8⟩:=a6o (s:=sC1) f7 rfl
 have hdr:yI c7 sC1=sC1:=by unfold yI;rw [if_neg λh=>absurd h.1 (by decide)]
 rw [hdr] at e8
 have e8:mG d7 c7 sC1=(d8,c8,sC1,0):=by
  unfold mG
  rw [if_neg (by rw [f7.stop];simp),if_pos (by rw [f7.now])]
  exact e8
 refine NN (S:=R++G) H7 rfl (b4s.trans hk5) (by decide) e8 (cx.re a4b) (wL.go λu8 p8 k8 Ψ8 hp8 b85 hq8 b86 b87 b4u=>?_)
 refine Br.intro (λ_=>λw G cx=>?_) (λh=>absurd rfl (of_decide_eq_false h))
 refine a0k hp8.1 cx (Br.intro (λ_=>λw G cx=>?_) (λh=>absurd (by rw [f8.now]) (of_decide_eq_false h)))
 refine VS hp8.1 cx (λw G cx=>⟨?_,?_⟩)
 ·have ck8:yK c8=c1B:=by unfold yK;rw [f8.now];rfl
  rw [ck8,decide_eq_true rfl]
 ·have a6x:∀ M w,Ψ8 M w->Φ M w:=λM w h=>(aXk M w (b4u M w h).1.1).1.1 |> λh5=>(aXj M w h5).1.1 |> λh3=>(aXi M w h3).1 |> λh2=>(aXh M w h2).1 |> λh1=>(aXg M w h1).1.1.1.1.1
  exact (((Ctx.left cx).sub (((List.sublist_append_right _ _).trans (List.sublist_append_right _ _)).trans (List.sublist_append_right _ _))).weak a6x)
end
end Go.Proofs.YtfccagphnfceiaaGreatDoor
end

section
namespace Go.Proofs.YtfccagphnfceiaaGreatDoor
open Go.Vc
abbrev CkO (p:RU) (db:Nat) (c:oU):List Own:=[.blk p.cb (coB p c) 77,DW p.kb db c.cell]
section
variable {W w:World} {S G:List Own} {Φ:PW}
set_option maxHeartbeats 4000000 in
theorem VW [aA Φ] {q:NH} {d:cC} (hq:AY q d) (hkk:DrK Φ q d) (cx:Ctx W w (eB q d++S) Φ) {K:Ending->World->Prop}
  (hn:∀ q' w',q'.db=q.db->q'.kp=q.kp->(iH d 3).2.1=none->AY q' (iH d 3).1->Ctx W w' (eB q' (iH d 3).1++S) Φ->K (.returned (.tuple #[.pointer none,.int .i64 (iH d 3).2.2])) w')
  (hs:∀ q' p c w',q'.db=q.db->q'.kp=q.kp->(iH d 3).2.1=some c->(iH d 3).2.2=0->AY q' (iH d 3).1->c.now.lines.length<=65536->(c.now.lines.length<=p.lc/\p.lc<=maxLen)->(∀ y∈c.now.lines,y.batch=c.now.batch/\eD y.row=true)->Ctx W w' (CkO p q.db c++(eB q' (iH d 3).1++S)) (λM w=>Φ M w/\CB p c M w)->K (.returned (.tuple #[.pointer (some ⟨p.cb,0,none⟩),.int .i64 0])) w') :
  Calls Tryz.prog F.oD #[.pointer (some ⟨q.db,0,none⟩),.int .i64 3] w K:=by
 refine (EL q.db 0 3 (J:=λu w'=>K (.returned u) w') cx λw G cx=>?_).mono λe w' ⟨v,he,hj⟩=>by rw [he];exact hj
 refine VN (S:=S++G) hq hkk (cx.re (List.append_assoc _ _ _)) λq' w h1 h2 hq1 cx=>?_
 unfold iH at hn hs
 simp only at hn hs
 obtain ⟨⟨d1,e1⟩,hr⟩:∃ r,bQ d 3=r:=⟨_,rfl⟩
 rw [hr] at hq1 cx hn hs ⊢
 simp only at hq1 cx hn hs ⊢
 refine ⟨e1,rfl,eB q' d1++S,Φ,inferInstance,cx.re (List.append_assoc _ _ _).symm,Br.intro (λh=>λw G cx=>?_) (λh=>λw G cx=>?_)⟩
 ·rw [if_pos (of_decide_eq_true h)] at hn
  exact hn q' w h1 h2 rfl hq1 cx.left
 rw [if_neg (of_decide_eq_false h)] at hn hs
 simp only at hn hs
 rw [<-h1] at hs ⊢
 have hn:=λw=>hn q' w h1 h2
 have hs:=λp c w=>hs q' p c w rfl h2
 refine VP (S:=S++G) hq1 (cx.re (List.append_assoc _ _ _)) (λw ho cx=>?_) (λkb k w ho cx=>?_)
 ·have vG:yJ d1 3=(none,(mF d1 3).2):=by
   unfold yJ
   obtain ⟨⟨k,e⟩,hk⟩:∃ r,mF d1 3=r:=⟨_,rfl⟩
   rw [hk] at ho ⊢
   have ho:k=none:=ho
   rw [ho]
  rw [vG] at hn
  refine ⟨none,_,rfl,eB q' d1++S,Φ,inferInstance,cx.re (List.append_assoc _ _ _).symm,Br.intro (λh2=>λw G cx=>hn w rfl hq1 cx.left) (λh2=>?_)⟩
  exfalso
  have h2:(mF d1 3).2=0:=Decidable.not_not.1 (of_decide_eq_false h2)
  unfold mF at ho h2
  split at ho
  ·rename_i h3
   rw [if_pos h3] at h2
   exact h3 h2
  rename_i h3
  rw [if_neg h3] at h2
  split at ho
  ·cases ho
  rename_i h4
  rw [if_neg h4] at h2
  split at ho
  ·rename_i h5;rw [if_pos h5] at h2;cases h2
  rename_i h5
  rw [if_neg h5] at h2
  split at ho
  ·rename_i h6;rw [if_pos h6] at h2;cases h2
  rename_i h6
  rw [if_neg h6] at h2
  split at ho
  ·rename_i h7
   rw [if_pos h7] at h2
   exact h7 h2
  rename_i h7
  rw [if_neg h7] at h2
  split at ho
  ·rename_i h8;rw [if_pos h8] at h2;cases h2
  ·cases ho
 have hkl:=P9 ho
 have vG:yJ d1 3=GD k:=by unfold yJ;rw [ho]
 rw [vG] at hn hs
 refine ⟨some ⟨kb,0,none⟩,0,rfl,DW kb q'.db k :: (eB q' d1++S),Φ,inferInstance,cx.re (congrArg (_ :: ·) (List.append_assoc _ _ _).symm),Br.intro (λh=>by simp at h) (λ_=>λcb w G cx=>?_)⟩
 have J1:Ctx W w ([rcO kb q' k]++(kO cb (.pointer (some ⟨kb,0,none⟩)) 0 0 .empty 0 0 .empty none 0 0 :: (eB q' d1++S)++G)) Φ:=cx.swap
 refine (aHj.go W w _ J1).mono λe w ⟨he,cx⟩=>⟨_,_,he,kO cb (.pointer (some ⟨kb,0,none⟩)) 0 0 .empty 0 0 .empty none 0 0 :: (DW kb q'.db k :: (eB q' d1++S)),Φ,inferInstance,Ctx.swap cx,Br.intro (λh3=>λw G cx=>?_) (λh3=>λw G cx=>?_)⟩
 ·have h3:¬ k.slot=0:=λh=>by rw [h] at h3;simp at h3
  unfold GD at hn hs
  rw [if_neg h3] at hn hs
  refine a9O (S:=DW kb q'.db k :: (eB q' d1++S)) (s:=k.value) (by omega) cx (λhrd=>?_) (λx lp lc hrd har hal hc1 hc2 pZ=>?_)
  ·rw [a3i _ (by omega)] at hrd
   rw [hrd] at hn
   exact Br.intro (λ_=>λw G cx=>hn w rfl hq1 (Ctx.drop1 (Ctx.left cx))) (λh=>by cases h)
  ·rw [a3i _ (by omega)] at hrd
   rw [hrd] at hs
   exact Br.intro (λh=>by cases h) (λ_=>λw G cx=>hs ⟨cb,kb,lp,lc⟩ _ w rfl rfl hq1 (by show x.lines.length<=_;omega) ⟨hc1,hc2⟩ har (Ctx.left cx))
 ·have h3:k.slot=0:=by simpa using h3
  unfold GD at hs
  rw [if_pos h3] at hs
  exact hs ⟨cb,kb,none,0⟩ _ w rfl rfl hq1 (Nat.zero_le _) ⟨Nat.le_refl _,Nat.zero_le _⟩ (by intro y hy;cases hy) ((Ctx.left cx).weak λM w h=>⟨h,Sl.nil⟩)
theorem a96 [aA Φ] {p:RU} {db:Nat} {c:oU}:jU (CkO p db c) Φ Tryz.prog F.eZ #[.pointer (some ⟨p.cb,0,none⟩)] (.string (yK c)):=by
 refine rX (qP p.cb 0) λW R=>λw G cx=>⟨_,cx.get 0 rfl rfl,Br.intro (λh=>λw G cx=>⟨_,cx.get 0 rfl rfl,λw G cx=>⟨?_,cx.left⟩⟩) (λh=>λw G cx=>⟨_,cx.get 0 rfl rfl,λw G cx=>⟨?_,cx.left⟩⟩)⟩
 ·unfold yK;rw [if_pos (of_decide_eq_true h)]
 ·unfold yK;rw [if_neg (of_decide_eq_false h)]
end
end Go.Proofs.YtfccagphnfceiaaGreatDoor
end

section
namespace Go.Proofs.YtfccagphnfceiaaGreatDoor
open Go.Vc
section
variable {W w:World} {S R G:List Own} {Φ:PW}
theorem a6q [aA Φ] {p:RU} {q:uK} {c:oU} (hlen:c.now.lines.length<=1000000) (hrow:∀ x∈c.now.lines,x.row.length<=1000000) (hl:∀ M w,Φ M w->Sl M w p.lp c.now.lines) (cx:Ctx W w ((fY p q c++S)++G) Φ) {X:Int->Int->Option Addr->Nat->Nat->List Own->PW->Prop}
  (hX:∀ lp lc,aA (λM w=>Φ M w/\Sl M w lp c.now.lines)->X c.now.batch c.now.mark lp c.now.lines.length lc (fY p q c++S) (λM w=>Φ M w/\Sl M w lp c.now.lines)) :
  Calls Tryz.prog F.gP #[.pointer (some ⟨p.cb,0,none⟩)] w λe w'=>∃ n m lp k lc,e=.returned (.tuple #[.int .i64 n,.int .i64 m,.slice lp k lc])/\∃ R' aF,aA aF/\Ctx W w' (R'++G) aF/\X n m lp k lc R' aF:=by
 have hh:Has Φ (λM w=>Sl M w p.lp c.now.lines):=⟨hl⟩
 refine (vA p.cb 0 (R:=(fY p q c++S)++G) (J:=λu w'=>∃ n m lp k lc,(Ending.returned u)=.returned (.tuple #[.int .i64 n,.int .i64 m,.slice lp k lc])/\∃ R' aF,aA aF/\Ctx W w' (R'++G) aF/\X n m lp k lc R' aF) cx ?_).mono λe w' ⟨v,he,hj⟩=>by rw [he];exact hj
 clear cx
 refine ⟨(fY p q c++S)++G,Φ,inferInstance,λw G cx=>cx,c.now.batch,λw G cx=>⟨_,cx.get 0 rfl rfl,rfl⟩,c.now.mark,λw G cx=>⟨_,cx.get 0 rfl rfl,rfl⟩,p.lp,c.now.lines.length,p.lc,λw G cx=>⟨_,_,_,cx.get 0 rfl rfl,rfl⟩,λw G2 cx=>?_⟩
 exact (ZP (l:=c.now.lines) hlen hrow).to cx λlp lc g1 g2 st=>⟨λw G cx=>cx.weak λM w h=>h.1,λw G2 cx=>⟨_,_,lp,_,lc,rfl,fY p q c++S,_,st,Ctx.left cx,hX lp lc st⟩⟩
theorem sw2 [aA Φ] {A B C:List Own} (cx:Ctx W w ((A++(B++C))++G) Φ):Ctx W w ((B++(A++C))++G) Φ:=cx.perm ((List.perm_append_comm_assoc _ _ _).append_right G)
theorem pm5 {α:Type} {A B C D X G:List α}:(A++(B++(((C++D)++X)++G))).Perm ((C++(A++(B++(D++X))))++G):=by
 simp only [List.append_assoc]
 exact ((List.perm_append_comm_assoc B C _).append_left A).trans (List.perm_append_comm_assoc A C _)
theorem aEr {r:List cG} (h:eD r=true):r.length<=12:=by
 unfold eD at h
 rw [Bool.and_eq_true] at h
 have:=of_decide_eq_true h.1
 omega
set_option maxHeartbeats 4000000 in
theorem aEs [aA Φ] (hE:CE Φ) {value:ByteArray}:aU Φ Tryz.prog F.kK #[.string value] (.bool true):=by
 refine dS (vW value) λW R=>λw G cx=>?_
 refine (a6p hE).toB cx (Br.intro (λ_=>λw G cx=>⟨rfl,cx.left⟩) (λh=>λw G cx=>?_))
 obtain ⟨s,rfl⟩:∃ s:Bs,bs s=value:=⟨value.data.toList,aH0 _⟩
 have hs:s.length<=600:=by have:=of_decide_eq_false h;rw [aT] at this;omega
 refine a3F cx λq0 w hq0 cx=>⟨_,rfl,cJ q0 bX++R,λM w=>Φ M w/\dkF q0 bX M w,inferInstance,cx.re (List.append_assoc _ _ _).symm,λw G cx=>?_⟩
 refine a9Q cx λr0 w hr0 cx=>⟨_,rfl,eB r0 bX++(cJ q0 bX++R),λM w=>(Φ M w/\dkF q0 bX M w)/\Sl M w r0.kp bX.keep,inferInstance,cx.re (List.append_assoc _ _ _).symm,Br.intro (λh=>by cases h) (λ_=>λw G cx=>?_)⟩
 have hk0:RT (λM w=>(Φ M w/\dkF q0 bX M w)/\Sl M w r0.kp bX.keep) q0 bX:=⟨Nat.zero_le _,λM w h=>h.1.2⟩
 have hr1:DrK (λM w=>(Φ M w/\dkF q0 bX M w)/\Sl M w r0.kp bX.keep) r0 bX:=⟨Nat.zero_le _,λM w h=>h.2⟩
 have hE1:CE (λM w=>(Φ M w/\dkF q0 bX M w)/\Sl M w r0.kp bX.keep):=hE.weak λM w h=>h.1.1
 have YX:aA (λM w=>(Φ M w/\dkF q0 bX M w)/\Sl M w r0.kp bX.keep):=inferInstance
 have dn:∀ M w,(λM w=>(Φ M w/\dkF q0 bX M w)/\Sl M w r0.kp bX.keep) M w->Φ M w:=λM w h=>h.1.1
 generalize (λM w=>(Φ M w/\dkF q0 bX M w)/\Sl M w r0.kp bX.keep)=Ψ at *
 have fin:∀ {w:World} {X G:List Own} {Θ:PW},aA Θ->(∀ M w,Θ M w->Φ M w)->R.Sublist X->Ctx W w (X++G) Θ->Ctx W w R Φ:=fun {w X G Θ} st h hx cx=>by
  have:=st
  exact ((Ctx.left cx).sub hx).weak h
 have ho:mF bX 3=(some ⟨3,0,[],false⟩,0):=a3f (d:=bX) rfl ⟨by decide,by decide⟩ (.inl ⟨rfl,rfl,rfl⟩)
 refine ZM (S:=(eB r0 bX++R)++G) hq0 hE1.off (Ctx.re (sw2 cx) (List.append_assoc _ _ _)) (λe w h cx=>by rw [ho] at h;cases h) (λc cb w h cx=>?_)
 rw [ho] at h
 cases h
 refine ⟨_,_,rfl,(l8 cb q0 ⟨3,0,[],false⟩ :: cJ q0 bX)++(eB r0 bX++R),Ψ,YX,Ctx.re cx (by simp),λw G cx=>?_⟩
 refine VP (S:=((l8 cb q0 ⟨3,0,[],false⟩ :: cJ q0 bX)++R)++G) hr0 (Ctx.re (sw2 cx) (List.append_assoc _ _ _)) (λw h cx=>by rw [ho] at h;cases h) (λk c w h cx=>?_)
 rw [ho] at h
 cases h
 obtain ⟨cN,hcN⟩:∃ cN:sL,(⟨3,0,[],false⟩:sL)=cN:=⟨_,rfl⟩
 have NQ:cN.slot<=2:=by rw [<-hcN];exact Nat.zero_le _
 rw [hcN] at cx
 refine ⟨_,_,rfl,(DW k r0.db cN :: eB r0 bX)++((l8 cb q0 cN :: cJ q0 bX)++R),Ψ,YX,Ctx.re (S:=rcO k r0 cN :: (eB r0 bX++(((l8 cb q0 cN :: cJ q0 bX)++R)++G))) cx (by simp [rcO,DW,rcB]),?_⟩
 clear cx
 refine bY (λR' aF=>R'=(DW k r0.db cN :: eB r0 bX)++((l8 cb q0 cN :: cJ q0 bX)++R)/\aF=Ψ) ⟨λw G cx=>Br.intro (λh=>by cases h) (λ_=>⟨_,Ψ,YX,λw G cx=>cx,rfl,rfl⟩),?_⟩
 rintro R1 bH _ ⟨rfl,rfl⟩
 refine λw G cx=>a3R (cb:=cb) (q:=q0) (d:=bX) (c:=cN) (s:=s) (S:=((DW k r0.db cN :: eB r0 bX)++R)++G) hq0 hk0 hE1.off (Ctx.re (S:=((l8 cb q0 cN :: cJ q0 bX)++((DW k r0.db cN :: eB r0 bX)++R))++G) (sw2 cx) (by simp)) λu w hq1 cx=>?_
 refine ⟨_,rfl,(l8 cb q0 (lQ bX cN s).2.1 :: cJ (q0.mv u) (lQ bX cN s).1)++((DW k r0.db cN :: eB r0 bX)++R),bH,YX,Ctx.re cx (by simp),λw G cx=>?_⟩
 refine a95 (q:=r0) (d:=bX) (k:=k) (db:=r0.db) (c:=cN) (s:=s) (S:=((l8 cb q0 (lQ bX cN s).2.1 :: cJ (q0.mv u) (lQ bX cN s).1)++R)++G) hr0 hr1 rfl NQ (by omega) (Ctx.re (S:=((DW k r0.db cN :: eB r0 bX)++((l8 cb q0 (lQ bX cN s).2.1 :: cJ (q0.mv u) (lQ bX cN s).1)++R))++G) (sw2 cx) (by simp)) λr1 w aHn aG2 hr2 hrk cx=>?_
 have hkeep:(lQ bX cN s).1.keep=bX.keep:=KQ _ _ _
 have hk1:=hk0.of hkeep u
 obtain ⟨d1,hd1⟩:∃ d1,(lQ bX cN s).1=d1:=⟨_,rfl⟩
 obtain ⟨c1,hc1⟩:∃ c1,(lQ bX cN s).2.1=c1:=⟨_,rfl⟩
 rw [hd1] at hq1 hr2 hrk cx hk1
 rw [hc1] at cx
 refine ⟨_,rfl,(DW k r0.db c1 :: eB r1 d1)++((l8 cb q0 c1 :: cJ (q0.mv u) d1)++R),bH,YX,Ctx.re cx (by simp),λw G cx=>?_⟩
 have J1:Ctx W w ((cJ (q0.mv u) d1++(l8 cb q0 c1 :: (DW k r0.db c1 :: eB r1 d1)++R))++G) bH:=cx.perm (List.Perm.append_right G (by
  have h1:((DW k r0.db c1 :: eB r1 d1)++((l8 cb q0 c1 :: cJ (q0.mv u) d1)++R)).Perm ((l8 cb q0 c1 :: cJ (q0.mv u) d1)++((DW k r0.db c1 :: eB r1 d1)++R)):=List.perm_append_comm_assoc _ _ _
  have h2:((l8 cb q0 c1 :: cJ (q0.mv u) d1)++((DW k r0.db c1 :: eB r1 d1)++R)).Perm (cJ (q0.mv u) d1++(l8 cb q0 c1 :: ((DW k r0.db c1 :: eB r1 d1)++R))):=List.perm_middle.symm
  exact h1.trans h2))
 clear cx
 have ref:∀ {w:World} {A G:List Own} {Θ:PW},aA Θ->(∀ M w,Θ M w->bH M w)->Ctx W w ((A++(l8 cb q0 c1 :: (DW k r0.db c1 :: eB r1 d1)++R))++G) Θ->Ctx W w (eB r1 d1++((A++(l8 cb q0 c1 :: DW k r0.db c1 :: R))++G)) Θ:=fun {w A G Θ} st h cx=>by
  have:=st
  refine cx.perm ?_
  have h1:(A++(l8 cb q0 c1 :: DW k r0.db c1 :: (eB r1 d1++R))).Perm (eB r1 d1++(A++(l8 cb q0 c1 :: DW k r0.db c1 :: R))):=by
   have h2:(l8 cb q0 c1 :: DW k r0.db c1 :: (eB r1 d1++R)).Perm (eB r1 d1++(l8 cb q0 c1 :: DW k r0.db c1 :: R)):=List.perm_append_comm_assoc [l8 cb q0 c1,DW k r0.db c1] (eB r1 d1) R
   exact (h2.append_left A).trans (List.perm_append_comm_assoc _ _ _)
  have h3:=h1.append_right G
  rw [List.append_assoc (eB r1 d1)] at h3
  exact h3
 have hlen:∀ k e,mF (bQ d1 3).1 3=(some k,e)->k.value.length<=1000000:=λk e h=>Nat.le_trans (P9 h) (by decide)
 refine a0i (q:=q0.mv u) (S:=(l8 cb q0 c1 :: (DW k r0.db c1 :: eB r1 d1)++R)++G) hE1 hq1 hk1 hlen (Ctx.re J1 (List.append_assoc _ _ _)) (λu2 w hno gG cx=>?_) (λu2 p2 c2 w hso he2 gG hpc cx=>?_)
 ·obtain ⟨e2,he2⟩:∃ e2,(iH d1 3).2.2=e2:=⟨_,rfl⟩
  rw [he2]
  refine ⟨none,e2,rfl,cJ ((q0.mv u).mv u2) (iH d1 3).1++(l8 cb q0 c1 :: (DW k r0.db c1 :: eB r1 d1)++R),bH,YX,Ctx.re cx (List.append_assoc _ _ _).symm,λw G cx=>?_⟩
  rw [<-aHn]
  refine VW hr2 hrk (ref YX (λM w h=>h) cx) (λr2 w _ _ _ _ cx=>?_) (λr2 p3 c3 w _ _ hso=>by rw [hno] at hso;cases hso)
  rw [he2]
  refine ⟨none,e2,rfl,eB r2 (iH d1 3).1++(cJ ((q0.mv u).mv u2) (iH d1 3).1++(l8 cb q0 c1 :: DW k r0.db c1 :: R)),bH,YX,Ctx.re cx (by simp),?_⟩
  refine bY (λR' aF=>R'=eB r2 (iH d1 3).1++(cJ ((q0.mv u).mv u2) (iH d1 3).1++(l8 cb q0 c1 :: DW k r0.db c1 :: R))/\aF=bH) ⟨λw G cx=>Br.intro (λh=>by simp at h) (λ_=>⟨_,bH,YX,λw G cx=>cx,rfl,rfl⟩),?_⟩
  rintro R2 pI _ ⟨rfl,rfl⟩
  refine bY (λR' aF=>False) ⟨λw G cx=>Br.intro (λ_=>λw G cx=>⟨rfl,fin YX dn ?_ cx⟩) (λh=>by cases h),λ_ _ _ h=>h.elim⟩
  exact ((((List.Sublist.refl R).cons _).cons _).trans (List.sublist_append_right _ _)).trans (List.sublist_append_right _ _)
 ·obtain ⟨d2,hd2⟩:∃ d2,(iH d1 3).1=d2:=⟨_,rfl⟩
  rw [hd2] at gG cx
  have pZ:aA (λM w=>bH M w/\CB p2 c2 M w):=inferInstance
  refine ⟨some ⟨p2.cb,0,none⟩,0,rfl,fY p2 (q0.mv u) c2++(cJ ((q0.mv u).mv u2) d2++(l8 cb q0 c1 :: (DW k r0.db c1 :: eB r1 d1)++R)),_,pZ,Ctx.re (S':=(fY p2 (q0.mv u) c2++(cJ ((q0.mv u).mv u2) d2++(l8 cb q0 c1 :: (DW k r0.db c1 :: eB r1 d1)++R)))++G) cx (by simp),λw G cx=>?_⟩
  have cx3:=ref (A:=fY p2 (q0.mv u) c2++cJ ((q0.mv u).mv u2) d2) (G:=G) pZ (λM w h=>h.1) (Ctx.re cx (by simp))
  rw [<-aHn]
  refine VW hr2 (hrk.weak λM w h=>h.1) cx3 (λr2 w _ _ hno=>by rw [hso] at hno;cases hno) (λr2 p3 c3 w _ _ aXn _ hr3 hl3 b9a har cx=>?_)
  rw [hso] at aXn
  cases aXn
  rw [hd2] at cx
  have st3:aA (λM w=>(bH M w/\CB p2 c2 M w)/\CB p3 c2 M w):=inferInstance
  obtain ⟨Z,hZ⟩:∃ Z,eB r2 d2++(cJ ((q0.mv u).mv u2) d2++(l8 cb q0 c1 :: DW k r0.db c1 :: R))=Z:=⟨_,rfl⟩
  have hRZ:R.Sublist Z:=by
   rw [<-hZ]
   exact ((((List.Sublist.refl R).cons _).cons _).trans (List.sublist_append_right _ _)).trans (List.sublist_append_right _ _)
  refine ⟨some ⟨p3.cb,0,none⟩,0,rfl,fY p2 (q0.mv u) c2++(CkO p3 r1.db c2++Z),_,st3,Ctx.perm cx (by rw [<-hZ];exact pm5),?_⟩
  clear cx cx3 hZ
  refine bY (λR' aF=>R'=fY p2 (q0.mv u) c2++(CkO p3 r1.db c2++Z)/\aF=(λM w=>(bH M w/\CB p2 c2 M w)/\CB p3 c2 M w)) ⟨λw G cx=>Br.intro (λh=>by simp at h) (λ_=>⟨_,_,st3,λw G cx=>cx,rfl,rfl⟩),?_⟩
  rintro R2 pI _ ⟨rfl,rfl⟩
  refine bY (λR' aF=>R'=fY p2 (q0.mv u) c2++(CkO p3 r1.db c2++Z)/\aF=(λM w=>(bH M w/\CB p2 c2 M w)/\CB p3 c2 M w)) ⟨λw G cx=>Br.intro (λh=>by cases h) (λ_=>⟨_,_,st3,λw G cx=>cx,rfl,rfl⟩),?_⟩
  rintro R2 pI _ ⟨rfl,rfl⟩
  have hrow:∀ x∈c2.now.lines,x.row.length<=1000000:=λx hx=>by have:=aEr (har x hx).2;omega
  refine λw G cx=>a6q (S:=CkO p3 r1.db c2++Z) (by omega) hrow (λM w h=>h.1.2) cx (λlp lc st4=>?_)
  clear cx
  refine ⟨_,_,st4,λw G cx=>cx,Br.intro (λ_=>aJ p3.cb 0 rfl ⟨c2.now.phase,λw G cx=>⟨_,cx.get 2 rfl rfl,rfl⟩,λw G cx=>a7T.WW cx ⟨λw G cx=>cx,_,_,st4,λw G cx=>cx,Br.intro (λ_=>aJ p3.cb 0 rfl ⟨c2.now.last,λw G cx=>⟨_,cx.get 2 rfl rfl,rfl⟩,λw G cx=>a7U.WW cx ⟨λw G cx=>cx,_,_,st4,λw G cx=>cx,Br.intro (λ_=>λw G cx=>a7V.TV cx ⟨λw G cx=>cx,λw G cx=>a96.TV (R:=fY p2 (q0.mv u) c2++Z) (sw2 cx) ?_⟩) (λh=>absurd rfl (of_decide_eq_false h))⟩⟩) (λh=>absurd rfl (of_decide_eq_false h))⟩⟩) (λh=>by cases h)⟩
  refine ⟨_,_,st4,λw G cx=>cx,Br.intro (λ_=>aJ p3.cb 0 rfl ⟨c2.now.batch,λw G cx=>⟨_,cx.get 0 rfl rfl,rfl⟩,Br.intro (λ_=>aJ p3.cb 0 rfl ⟨c2.now.mark,λw G cx=>⟨_,cx.get 0 rfl rfl,rfl⟩,Br.intro (λ_=>aJ p3.cb 0 rfl ⟨p3.lp,c2.now.lines.length,p3.lc,λw G cx=>⟨_,_,_,cx.get 0 rfl rfl,rfl⟩,λw G cx=>?_⟩) (λh=>absurd rfl (of_decide_eq_false h))⟩) (λh=>absurd rfl (of_decide_eq_false h))⟩) (λh=>absurd rfl (of_decide_eq_false h))⟩
  refine (a90 (Φ:=λM w=>((bH M w/\CB p2 c2 M w)/\CB p3 c2 M w)/\Sl M w lp c2.now.lines) (a:=c2.now.lines) (b:=c2.now.lines) (λM w h=>h.2) (λM w h=>h.1.2) (by omega) hrow).toB cx λw G cx=>⟨by rw [decide_eq_true rfl],fin st4 (λM w h=>dn M w h.1.1.1) ?_ cx⟩
  exact (hRZ.trans (List.sublist_append_right _ _)).trans (List.sublist_append_right _ _)
end
end Go.Proofs.YtfccagphnfceiaaGreatDoor
end

section
namespace Go.Proofs.YtfccagphnfceiaaGreatDoor
open Go.Vc Go.RowKit
theorem aM6 (u:TypeId) (h:Tryz.prog.typeName? 3 u=some "*errors.errorString"):u=240 :=
 typeName_ptr_named (nm := "errors.errorString") (by rw [show "*" ++ "errors.errorString" = "*errors.errorString" by decide];kernel_rfl) (by kernel_rfl) (by decide) u (by rw [show "*" ++ "errors.errorString" = "*errors.errorString" by decide];exact h)
theorem aEt {n:String} {text:List UInt8} {r:List (String × DataW Unit)} {W:World} {g:Nat} (h:laidMet Tryz.prog ((n,.iface "*errors.errorString" (.ptr (.agg [.lit (.string text)]))) :: r) W)
  (hg:Tryz.prog.globalNamed n=some g) (ht:(Tryz.prog.globals[g]?).map (·.type)=some 167):QF g [] W:=by
 obtain ⟨a,s,hv,_⟩:=laid_sentinel h hg ht Tryz.underlying167 aM6 Tryz.underlying240 Tryz.underlying242 rfl rfl Tryz.underlying9 (by kernel_rfl) (by kernel_rfl)
 exact ⟨by simp,_,by have h0:=World.var?_cell hg hv 0;simpa using h0,.inr ⟨_,_,rfl⟩⟩
abbrev a7Z:PW:=λM w=>EH M w/\aDO M w
theorem aM7 {W:World} (h:laidMetH Tryz.prog Rows.commitAnywhereRow.laid W):a7Z [] W:=by
 rw [MakeChecks.laidMetH_plain Tryz.prog Rows.commitAnywhereRow.laid W (by kernel_rfl)] at h
 have h2:=h.tail.tail
 exact ⟨⟨Tab.start (Lib.tabIs_of_head (k:=.u64) (zs:=Lib.pow10Tab) (g:=1) (t:=229) (e:=216) (n:=20) (by kernel_rfl) (by kernel_rfl) (by kernel_rfl) (by kernel_rfl) (by kernel_rfl) (by kernel_rfl) h2),
  aEt h2.tail.tail.tail (by kernel_rfl) (by kernel_rfl),aEt h2.tail.tail (by kernel_rfl) (by kernel_rfl)⟩,
  Tab.start (Lib.tabIs_of_head (k:=.i64) (zs:=[0,64,131072]) (g:=0) (t:=123) (e:=3) (n:=3) (by kernel_rfl) (by kernel_rfl) (by kernel_rfl) (by kernel_rfl) (by kernel_rfl) (by kernel_rfl) h2.tail)⟩
end Go.Proofs.YtfccagphnfceiaaGreatDoor
end

section
namespace Go.Proofs.YtfccagphnfceiaaGreatDoor
open Go.ChangeShapes Go.WideShapes Go.ChangeAt Go.RowKit Go.Vc
theorem aM8:ownKnob Tryz.prog.godebug=none:=by kernel_rfl
theorem aHp:laidOutB Tryz.prog=true:=by kernel_rfl
theorem a97 {H:Type} {enc:TypeId × Value->H} {P:Program} {w:World} {base:Nat} {spare:Nat->Bool} {held:Bool} {t0:TypeId} {args:Array Value} {ds:List (DataW H)} {ps:List MemPlace} (h:DataW.TrodAll enc P w base spare held [t0] args.toList ds ps) :
  ∃ v0 d0 p0,args=#[v0]/\ds=[d0]/\ps=p0/\DataW.Trod enc P w base spare held t0 v0 d0 p0:=by
 obtain ⟨v0,vs0,d0,ds0,p0,q0,hargs,rfl,rfl,h0,h⟩:=trodAll_cons h
 obtain ⟨rfl,rfl,rfl⟩:=trodAll_nil h
 exact ⟨v0,d0,p0,by cases args;simp_all,rfl,by simp,h0⟩
theorem aEu (os:Os) (args:Array Value):laidMetH Tryz.prog Rows.commitReadsRow.laid ((World.doorLaid Tryz.prog 400 os).forCall (λ_ _=>0) ⟨#[],args,[]⟩).memory :=
 laidMetH_of_parts3 (fuel:=8) (laidMet_of_run' 8 (by kernel_rfl) (by kernel_rfl)) (by kernel_rfl) (by kernel_rfl)
set_option maxRecDepth 100000 in
theorem a6r (os:Os) (started:os.Started) (H:Type) (enc:TypeId × Value->H) :
  ReturnsInHanded {} Tryz.checked os 5 .any (λw args=>(Rows.commitReadsSpec.pre enc Tryz.prog Tryz.f5 Rows.commitReadsRow.domain false w args/\laidMetH Tryz.prog Rows.commitReadsRow.laid w)/\sizedMet enc Tryz.prog Tryz.f5 (OpenSpec.ofChange Rows.commitReadsSpec) false w args) (Rows.commitReadsSpec.post enc Tryz.prog Tryz.f5 false true false false):=by
 refine a2u (C:=Tryz.checked) (tb:=4) aM8 started (by kernel_rfl) Tryz.func5 aHp rfl ?_ rfl Tryz.underlying4 (by kernel_rfl)
  (ChangeSpec.witness_shaped (enc:=enc) (C:=Tryz.checked) (os:=os) (X:=λw _=>laidMetH Tryz.prog Rows.commitReadsRow.laid w) false (World.doorLaid Tryz.prog 400 os) #[.string .empty] 8 rfl (World.shaped_of_RefB (by kernel_rfl) (by kernel_rfl)) (by kernel_rfl) (by kernel_rfl) (by kernel_rfl) (aEu os _)) ?_
 ·intro ds hd
  match ds,hd with
  | [_],_=>exact ⟨rfl,rfl,rfl⟩
 ·intro W base args ds p aXo hA0 _ hL
  have hval:∀ (j:Nat) t v,Tryz.f5.params[j]? = some t->args[j]? = some v->Value.okWide Tryz.prog W .any base t v:=aXo
  have hA:DataW.TrodAll enc Tryz.prog W 0 (λ_=>true) true Tryz.f5.params.toList args.toList ds p:=hA0
  rw [Tryz.params5] at hA hval
  obtain ⟨v0,d0,p0,rfl,rfl,rfl,h0⟩:=a97 hA
  obtain ⟨value,rfl,rfl,rfl,b4x⟩:=Go.ChangeMaps.open_string Tryz.underlying9 (hval 0 9 v0 rfl rfl) h0
  have YX:aA (λM w=>a7Z M w):=inferInstance
  have fin:aU (λM w=>a7Z M w) Tryz.prog 5 _ (.bool true):=aEs (Φ:=(λM w=>a7Z M w)) ⟨λ_ _ h=>h.1,λ_ _ h=>h.2⟩ (value:=value)
  exact fin.law (aM7 hL)
theorem a98:Rows.CommitReadsSaid :=
 OpenClaim.holds_of_wide 5 Tryz.f5 rfl rfl rfl rfl rfl rfl rfl ⟨rfl,rfl,rfl,rfl,rfl⟩ rfl rfl rfl rfl rfl (by kernel_rfl) Tryz.func5 (by kernel_rfl)
  (of_decide_eq_true (by kernel_rfl)) (by unfold Func.isWrapper;first|(rw [if_pos (by decide +kernel)];kernel_rfl)|(rw [if_neg (by decide +kernel)];exact ⟨rfl,rfl⟩))
  (λos started H enc _=>a6r os started H enc)
theorem reads_holds:Rows.CommitReadsCardSaid :=
 Claim7.holds_tied_plain_at .later [] [.data,.data,.data,.data,.sentinel,.sentinel] true Rows.commitReadsCard.stood.harness true
  a98 (λ_ h=>by cases h) (by kernel_rfl) (λ_ h=>by cases h) commitReads_row_tie rfl ⟨rfl,rfl⟩ (by kernel_rfl) rfl
  (λf fn hf hfn=>by
   obtain rfl:f=5:=Option.some.inj ((show Tryz.prog.funcNamed Rows.commitReadsRow.func=some 5 by kernel_rfl).symm.trans hf) |>.symm
   obtain rfl:fn=Tryz.f5:=(Option.some.inj (Tryz.func5.symm.trans hfn)).symm
   exact ⟨by kernel_rfl,λj t ht=>by
    rw [Tryz.params5] at ht
    have hm:=Array.mem_of_getElem? ht
    have hall:((Tryz.f5.params.toList).all λu => !Tryz.prog.wantsStandIn u)=true:=by kernel_rfl
    rw [Tryz.params5] at hall
    exact (show Tryz.prog.wantsStandIn t=false by simpa using List.all_eq_true.1 hall t (by simpa using hm))⟩)
  (by kernel_rfl)
end Go.Proofs.YtfccagphnfceiaaGreatDoor
end

