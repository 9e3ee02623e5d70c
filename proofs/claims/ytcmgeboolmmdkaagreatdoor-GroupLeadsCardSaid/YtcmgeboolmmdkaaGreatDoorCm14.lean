/-
 For every input erratalaw09.GroupLeads returns true,does not panic,comes to an end,and leaves what came in as it was;the variables that its row lists are as the program's text lays them.
 Conditions: none beyond the given statement's own (GroupLeadsCardSaid).
-/
import Derived.Test.YtcmgeboolmmdkaaGreatDoorCm13
import Derived.Test.YtcmgeboolmmdkaaGreatDoorCm6
import Derived.Test.YtcmgeboolmmdkaaGreatDoorCm10
import Derived.Test.YtcmgeboolmmdkaaGreatDoorCm9
import Derived.Test.YtcmgeboolmmdkaaGreatDoorCards
import Derived.MakeChecks
import Derived.Stop.LaidErr
import Derived.Lib.LaidTab
import Derived.Test.YtcmgeboolmmdkaaGreatDoorTie
import Derived.SevenTiedAt
import Derived.LaidMore
import Derived.ChangeMaps5
import Derived.Test.YtcmgeboolmmdkaaGreatDoorRows
open Go.Proofs.Tryz
set_option linter.unusedVariables false
set_option linter.unusedSimpArgs false
section
namespace Go.Proofs.YtcmgeboolmmdkaaGreatDoor
open Go.Vc
theorem aMv{d f}(h:¬ j4 d f≠0):d.down=false:=by
 cases hd:d.down with
 | false=>rfl
 | true =>
  exfalso;apply h;unfold j4;rw [if_pos hd];decide
theorem aQd{d f}(h:(bN d f).2=0):(bN d f).1.down=false:=by
 unfold bN xk at h ⊢;by_cases hm:j4 (kS d) f≠0
 .rw [if_pos hm] at h;exact absurd h hm
 rw [if_neg hm] at h ⊢;by_cases hl:0<(kS d).lost
 .rw [if_pos hl] at h;simp at h
 rw [if_neg hl];exact aMv hm
theorem aA8{d c s k}(h:(vH d c s k).2.2=0):(vH d c s k).1.down=false:=by
 unfold vH at h ⊢;by_cases h1:(ct d c.file (dY k) s).2≠0
 .rw [if_pos h1] at h;exact absurd h h1
 rw [if_neg h1] at h ⊢;by_cases h2:(bN (ct d c.file (dY k) s).1 c.file).2≠0
 .rw [if_pos h2] at h;exact absurd h h2
 rw [if_neg h2] at h ⊢;by_cases h3:(ct (bN (ct d c.file (dY k) s).1 c.file).1 c.file 0 (eR k s.length)).2≠0
 .rw [if_pos h3] at h;exact absurd h h3
 rw [if_neg h3] at h ⊢;exact aQd h
theorem Yp{d c s}(h:(kE d c s).2.2=0):(kE d c s).1.down=false:=by
 unfold kE at h ⊢;by_cases h1:65536<s.length
 .rw [if_pos h1] at h;simp at h
 rw [if_neg h1] at h ⊢;by_cases h2:c.sure=false/\0<c.slot
 .rw [if_pos h2] at h ⊢;by_cases h3:(bN d c.file).2≠0
  .rw [if_pos h3] at h;exact absurd h h3
  rw [if_neg h3] at h ⊢;exact aA8 h
 .rw [if_neg h2] at h ⊢;exact aA8 h
theorem a4j{j l n r}(hr:r.2.2=0->r.1.down=false)(h:(nk j l n r).2.2=0):(nk j l n r).1.down=false:=by
 unfold nk at h ⊢;by_cases h1:r.2.2≠0
 .rw [if_pos h1] at h;exact absurd h h1
 .rw [if_neg h1];exact hr (Decidable.not_not.1 h1)
theorem aGZ{d j l}(hd:d.down=false)(h:(iG d j l).2.2=0):(iG d j l).1.down=false:=by
 unfold iG at h ⊢;by_cases h1:j.broken=true
 .rw [if_pos h1] at h;simp at h
 rw [if_neg h1] at h ⊢;by_cases h2:l=[]
 .rw [if_pos h2];exact hd
 rw [if_neg h2] at h ⊢;by_cases h3:1048576<j.bytes+(aK l).length
 .rw [if_pos h3] at h;simp at h
 rw [if_neg h3] at h ⊢;by_cases h4:(q8 d j l).2≠0
 .rw [if_pos h4] at h;exact absurd h h4
 rw [if_neg h4] at h ⊢;exact a4j (λh=>Yp h) h
theorem aHZ{d j n}(hd:d.down=false)(h:(dm d j n).2.2=0):(dm d j n).1.down=false:=by
 unfold dm at h ⊢;by_cases h1:j.broken=true
 .rw [if_pos h1] at h;simp at h
 rw [if_neg h1] at h ⊢;by_cases h2:n<0\/(j.list.length:Int)<n
 .rw [if_pos h2] at h;simp at h
 rw [if_neg h2] at h ⊢;by_cases h3:n=(j.list.length:Int)
 .rw [if_pos h3];exact hd
 rw [if_neg h3] at h ⊢;exact a4j (λh=>Yp h) h
theorem aPe{d u o}(hd:d.down=false)(h:(lW d u o).2.2=0):(lW d u o).1.down=false:=by
 unfold lW at h ⊢;by_cases h1:o.save=true
 .rw [if_pos h1] at h ⊢;exact Yp h
 .rw [if_neg h1];exact hd
theorem aMI{d u o}(hd:d.down=false)(h:(nK d u o).2.2=0):(nK d u o).1.down=false:=by
 unfold nK at h ⊢;by_cases h1:0<o.src
 .rw [if_pos h1] at h ⊢;simp only at h ⊢;by_cases h2:(dm d u.j (min (o.src - 1) (u.j.list.length:Int))).2.2≠0
  .rw [if_pos h2] at h;exact absurd h h2
  .rw [if_neg h2] at h ⊢;exact aGZ (aHZ hd (Decidable.not_not.1 h2)) h
 .rw [if_neg h1];exact hd
theorem aQR{d u o}(hd:d.down=false)(h:(ck d u o).2.2=0):(ck d u o).1.down=false:=by
 unfold ck at h ⊢;simp only at h ⊢;by_cases h1:(lW d u o).2.2≠0
 .rw [if_pos h1] at h;exact absurd h h1
 .rw [if_neg h1] at h ⊢;exact aMI (aPe hd (Decidable.not_not.1 h1)) h
theorem aQS(d u o):(ck d u o).2.1.r=u.r:=by
 unfold ck;simp only;split<;>rfl
theorem a7g{id d u}(h:(bM id d).2.1=some u):(bM id d).1.down=false:=by
 unfold bM at h ⊢;by_cases h1:(bN d 2).2≠0
 .rw [if_pos h1] at h;cases h
 rw [if_neg h1] at h ⊢;unfold FZ at h ⊢;split at h
 .cases h
 .unfold Fa at h ⊢;split at h
  .cases h
  .rename_i ho;exact a7e ho
def e3(G:aa):Prop:=∀ i,i<3->∀ u,(G.mem i).up=some u->(G.mem i).d.down=false
def iH(m:rG):Nat:=match m.up with
 | none=>0
 | some u=>bw u.r
def mb(G:aa):Nat:=iH (G.mem 0)+iH (G.mem 1)+iH (G.mem 2)
def dR(G:aa):Nat:=G.aD.aI.length+mb G
theorem As(G):(ek G).mem=G.mem/\(ek G).aD=G.aD:=by
 unfold ek;obtain ⟨m0,n0⟩:=wA G 0;obtain ⟨m1,n1⟩:=wA (gZ G 0) 1;obtain ⟨m2,n2⟩:=wA (gZ (gZ G 0) 1) 2;exact ⟨by rw [m2,m1,m0],by rw [n2,n1,n0]⟩
theorem H7(G):dR (ek G)=dR G:=by
 unfold dR mb;rw [(As G).1,(As G).2]
theorem FW{G}(h:e3 G):e3 (ek G):=λi hi u hu=>by
 rw [(As G).1] at hu ⊢;exact h i hi u hu
theorem e3.Ih{G}(h:e3 G){i m}(hm:∀ u,m.up=some u->m.d.down=false):e3 (ay G i m):=λj hj u hu=>by
 have hu:(put G.mem i m j).up=some u:=hu;show (put G.mem i m j).d.down=false;by_cases e:j=i
 .subst e;rw [cF] at hu ⊢;exact hm u hu
 .rw [dD _ _ e] at hu ⊢;exact h j hj u hu
theorem KL(G){i}(hi:i<3)(m):mb (ay G i m)+iH (G.mem i)=mb G+iH m:=by
 unfold mb
 match i,hi with
 | 0,_=>show (iH m+iH (G.mem 1)+iH (G.mem 2))+iH (G.mem 0)=_;omega
 | 1,_=>show (iH (G.mem 0)+iH m+iH (G.mem 2))+iH (G.mem 1)=_;omega
 | 2,_=>show (iH (G.mem 0)+iH (G.mem 1)+iH m)+iH (G.mem 2)=_;omega
theorem aA5(id):∀ (l:List aH) (n:pW),(n8 id n l).aI.length<=n.aI.length+l.length
 | [],n=>Nat.le_refl _
 | a :: l,n=>by
  have h1:=aA5 id l (o7 n id a.to (bs (j5 a))).1;have h2:(o7 n id a.to (bs (j5 a))).1.aI.length<=n.aI.length+1:=by
   unfold o7;split
   .simp
   split
   .simp
   split
   .simp
   .simp
  show (n8 id (o7 n id a.to (bs (j5 a))).1 l).aI.length<=_;rw [List.length_cons];omega
section
variable {G:aa}{i:Nat}
theorem a3v(hi:i<3){u}(hu:(G.mem i).up=some u)(x):dR (mA G i u x).1+bw u.r<=dR G+x.2.send.length+bw x.1:=by
 have e1:iH (G.mem i)=bw u.r:=by unfold iH;rw [hu]
 have hr:=aQS (G.mem i).d { u with r:=x.1 } x.2;unfold mA;simp only;split
 .rw [H7];have h1:=KL G hi ⟨(ck (G.mem i).d { u with r:=x.1 } x.2).1,some (ck (G.mem i).d { u with r:=x.1 } x.2).2.1⟩;have h2:=aA5 i x.2.send G.aD;have h3:iH ⟨(ck (G.mem i).d { u with r:=x.1 } x.2).1,some (ck (G.mem i).d { u with r:=x.1 } x.2).2.1⟩=bw x.1:=by
   show bw (ck (G.mem i).d { u with r:=x.1 } x.2).2.1.r=_;rw [hr]
  show (n8 i G.aD x.2.send).aI.length+mb (ay G i _)+_<=G.aD.aI.length+mb G+_+_;omega
 .rw [H7];have h1:=KL G hi ⟨(ck (G.mem i).d { u with r:=x.1 } x.2).1,none⟩;have h3:iH ⟨(ck (G.mem i).d { u with r:=x.1 } x.2).1,none⟩=0:=rfl;show G.aD.aI.length+mb (ay G i _)+_<=G.aD.aI.length+mb G+_+_;omega
theorem e3.do(h:e3 G)(hi:i<3){u}(hu:(G.mem i).up=some u)(x):e3 (mA G i u x).1:=by
 unfold mA;simp only;split
 .rename_i he;exact FW (G:={ ay G i ⟨_,some _⟩ with aD:=_ }) λj hj v hv=>(h.Ih (i:=i) (m:=⟨(ck (G.mem i).d { u with r:=x.1 } x.2).1,some (ck (G.mem i).d { u with r:=x.1 } x.2).2.1⟩) λw _=>aQR (h i hi u hu) he) j hj v hv
 .exact FW (h.Ih λw hw=>by cases hw)
theorem aKM(r m):(aU r m).2.send.length+bw (aU r m).1<=bw r+1:=by
 cases hy:kC r.id m with
 | true=>exact (a5K (sE.1 hy)).cnt
 | false=>rw [uj hy];show 0+bw r<=_;omega
theorem aB5{id f K}(hf:∀ r,(f r).2.send.length+bw (f r).1<=bw r+K):dR (qF G id f).1<=dR G+K:=by
 unfold qF;split
 .exact Nat.le_add_right _ _
 rename_i hid;split
 .exact Nat.le_add_right _ _
 .rename_i u hu;have:=a3v (oA hid) hu (f u.r);have:=hf u.r;omega
theorem e3.turn(h:e3 G)(id f):e3 (qF G id f).1:=by
 unfold qF;split
 .exact h
 rename_i hid;split
 .exact h
 .rename_i u hu;exact h.do (oA hid) hu _
theorem aGl(r):bw r<=1:=by unfold bw;split<;>omega
theorem aAv(id):dR (r9 G id).1<=dR G+3:=aB5 λr=>by
 have h1:=(ZO r).send;have h2:=aGl (cr r).1;omega
theorem aON(r data):(aq r data).2.2.2.send.length+bw (aq r data).1<=bw r+2:=by
 by_cases h1:r.role≠2
 .rw [yx h1];show 0+bw r<=_;omega
 by_cases h2:2000<(data.size:Int)
 .rw [Ay h1 h2];show 0+bw r<=_;omega
 by_cases h3:r.log.length=4000
 .rw [Az h1 h2 h3];show 0+bw r<=_;omega
 rw [yy h1 h2 h3];have:(bT (lU r data)).length<=2:=by
  unfold bT;rw [List.length_map];unfold bu;split<;>(try split)<;>simp
 show (bT (lU r data)).length+bw r<=_;omega
theorem aOT(id data):dR (iL G id data).1<=dR G+2:=by
 unfold iL;split
 .exact Nat.le_add_right _ _
 rename_i hid;split
 .exact Nat.le_add_right _ _
 .rename_i u hu;simp only;have h1:=a3v (oA hid) hu ((aq u.r data).1,(aq u.r data).2.2.2);have h2:=aON u.r data;have h1:dR (mA G id.toNat u ((aq u.r data).1,(aq u.r data).2.2.2)).1+bw u.r<=dR G+(aq u.r data).2.2.2.send.length+bw (aq u.r data).1:=h1;split
  .exact Nat.le_add_right _ _
  split
  .show dR (mA _ _ _ _).1<=_;omega
  .show dR (mA _ _ _ _).1<=_;omega
theorem e3.A'(h:e3 G)(id data):e3 (iL G id data).1:=by
 unfold iL;split
 .exact h
 rename_i hid;split
 .exact h
 .rename_i u hu;simp only;have h1:=h.do (oA hid) hu ((aq u.r data).1,(aq u.r data).2.2.2);split
  .exact h
  split<;>exact h1
theorem aQe(n){i p}(h:n.aI[i]? = some p):(takeN n i).aI.length+1=n.aI.length:=by
 have hl:i<n.aI.length:=by
  rcases Nat.lt_or_ge i n.aI.length with h1|h1
  .exact h1
  .rw [List.getElem?_eq_none h1] at h;cases h
 show (n.aI.eraseIdx i).length+1=_;rw [List.length_eraseIdx,if_pos hl];omega
theorem a3k(k):dR (me G k).1<=dR G:=by
 unfold me;split
 .exact Nat.le_refl _
 split
 .exact Nat.le_refl _
 .rename_i p hp;have h1:=aQe G.aD hp;have e:dR { G with aD:=takeN G.aD k.toNat }+1=dR G:=by
   show ((takeN G.aD k.toNat).aI.length+mb G)+1=G.aD.aI.length+mb G;omega
  simp only;split
  .show dR { G with aD:=takeN G.aD k.toNat }<=_;omega
  .have:=aB5 (G:={ G with aD:=takeN G.aD k.toNat }) (id:=p.to) (f:=λr=>aU r ((sB p.body.data.toList).getD Ak)) (K:=1) λr=>aKM _ _;omega
theorem e3.rP(h:e3 G)(k):e3 (me G k).1:=by
 unfold me;split
 .exact h
 split
 .exact h
 .have h1:e3 { G with aD:=takeN G.aD k.toNat }:=h;simp only;split
  .exact h1
  .exact h1.turn _ _
theorem a3z:∀ (k:Nat) {G:aa},dR (rQ k G).1<=dR G
 | 0,_=>Nat.le_refl _
 | k+1,G=>by
  unfold rQ;split
  .exact Nat.le_refl _
  .exact Nat.le_trans (a3z k) (a3k 0)
theorem e3.drain:∀ (k:Nat) {G:aa},e3 G->e3 (rQ k G).1
 | 0,_,h=>h
 | k+1,G,h=>by
  unfold rQ;split
  .exact h
  .exact e3.drain k (h.rP 0)
theorem aAQ(id):dR (nQ G id).1<=dR G:=by
 unfold nQ;split
 .exact Nat.le_refl _
 rename_i hid;split
 .rw [H7];exact Nat.le_refl _
 .rename_i hn;simp only;rw [H7];have hi:=oA hid;have h1:=KL G hi ⟨(bM id.toNat (dz (G.mem id.toNat).d)).1,(bM id.toNat (dz (G.mem id.toNat).d)).2.1⟩;have h2:iH ⟨(bM id.toNat (dz (G.mem id.toNat).d)).1,(bM id.toNat (dz (G.mem id.toNat).d)).2.1⟩=0:=by
   unfold iH;cases ho:(bM id.toNat (dz (G.mem id.toNat).d)).2.1 with
   | none=>rfl
   | some u =>
    show bw u.r=0;have:u.r.role=0:=by
     unfold bM at ho;split at ho
     .cases ho
     unfold FZ at ho;split at ho
     .cases ho
     unfold Fa at ho;split at ho
     .cases ho
     .injection ho with ho;rw [<-ho];rfl
    exact if_neg (by omega)
  show G.aD.aI.length+mb (ay G id.toNat _)<=G.aD.aI.length+mb G;omega
theorem e3.start(h:e3 G)(id):e3 (nQ G id).1:=by
 unfold nQ;split
 .exact h
 split
 .exact FW h
 .exact FW (h.Ih λu hu=>a7g hu)
theorem Ph(hi:i<3)(d):dR (ek (ay G i { G.mem i with d:=d }))=dR G:=by
 rw [H7];have h1:=KL G hi { G.mem i with d:=d };have h2:iH { G.mem i with d:=d }=iH (G.mem i):=rfl;show G.aD.aI.length+mb (ay G i _)=G.aD.aI.length+mb G;omega
theorem aNf(o):dR (vD G o).1<=dR G+3:=by
 unfold vD;generalize iA o.n (G.aD.aI.length:Int)=i;generalize iA o.kind 14=k;unfold FY;by_cases e0:k=0
 .rw [if_pos e0];exact aAv _
 rw [if_neg e0];by_cases e1:k=1
 .rw [if_pos e1];exact Nat.le_trans (aOT _ _) (by omega)
 rw [if_neg e1];by_cases e2:k=2\/k=3\/k=4
 .rw [if_pos e2];exact Nat.le_trans (a3k _) (by omega)
 rw [if_neg e2];by_cases bI:k=5
 .rw [if_pos bI];show dR (qa G i).1<=_;unfold qa;split
  .exact Nat.le_add_right _ _
  .have:=(Nk G.aD i.toNat).2;show (takeN G.aD i.toNat).aI.length+mb G<=G.aD.aI.length+mb G+3;omega
 rw [if_neg bI];by_cases bL:k=6
 .rw [if_pos bL];show dR (qZ G i).1<=_;unfold qZ;split
  .exact Nat.le_add_right _ _
  split
  .exact Nat.le_add_right _ _
  split
  .exact Nat.le_add_right _ _
  .rename_i p _ _;show (G.aD.aI++[p]).length+mb G<=G.aD.aI.length+mb G+3;rw [List.length_append,List.length_singleton];omega
 rw [if_neg bL];by_cases bz:k=7
 .rw [if_pos bz];exact Nat.le_add_right _ _
 rw [if_neg bz];by_cases eX:k=8
 .rw [if_pos eX];exact Nat.le_add_right _ _
 rw [if_neg eX];by_cases iT:k=9
 .rw [if_pos iT];show dR (uV G o.id o.keep).1<=_;unfold uV;split
  .exact Nat.le_add_right _ _
  .rename_i hid;rw [H7];have h1:=KL G (oA hid) ⟨dj (G.mem o.id.toNat).d o.keep,none⟩;have h2:iH ⟨dj (G.mem o.id.toNat).d o.keep,none⟩=0:=rfl;show G.aD.aI.length+mb (ay G o.id.toNat _)<=G.aD.aI.length+mb G+3;omega
 rw [if_neg iT];by_cases nB:k=10
 .rw [if_pos nB];exact Nat.le_trans (aAQ _) (by omega)
 rw [if_neg nB];by_cases mg:k=11
 .rw [if_pos mg];show dR (j0 G o.id o.n).1<=_;unfold j0;split
  .exact Nat.le_add_right _ _
  .rename_i hid;show dR (ek _)<=_;rw [Ph (oA hid)];exact Nat.le_add_right _ _
 rw [if_neg mg];by_cases p8:k=12
 .rw [if_pos p8];show dR (qU G o.id o.n o.keep).1<=_;unfold qU;split
  .exact Nat.le_add_right _ _
  .rename_i hid;show dR (ek _)<=_;rw [Ph (oA hid)];exact Nat.le_add_right _ _
 rw [if_neg p8];show dR (eJ G o.id (iA o.n 100)).1<=_;unfold eJ;exact Nat.le_trans (a3z _) (aAv _)
theorem e3.lose(h:e3 G)(id n):e3 (j0 G id n).1:=by
 unfold j0;split
 .exact h
 .rename_i hid;exact FW (h.Ih λu hu=>h _ (oA hid) u hu)
theorem e3.arm(h:e3 G)(id n keep):e3 (qU G id n keep).1:=by
 unfold qU;split
 .exact h
 .rename_i hid;exact FW (h.Ih λu hu=>h _ (oA hid) u hu)
theorem e3.op(h:e3 G)(o):e3 (vD G o).1:=by
 unfold vD;generalize iA o.n (G.aD.aI.length:Int)=i;generalize iA o.kind 14=k;unfold FY;by_cases e0:k=0
 .rw [if_pos e0];exact h.turn _ _
 rw [if_neg e0];by_cases e1:k=1
 .rw [if_pos e1];exact h.A' _ _
 rw [if_neg e1];by_cases e2:k=2\/k=3\/k=4
 .rw [if_pos e2];exact h.rP _
 rw [if_neg e2];by_cases bI:k=5
 .rw [if_pos bI];show e3 (qa G i).1;unfold qa;split<;>exact h
 rw [if_neg bI];by_cases bL:k=6
 .rw [if_pos bL];show e3 (qZ G i).1;unfold qZ;split
  .exact h
  split
  .exact h
  split<;>exact h
 rw [if_neg bL];by_cases bz:k=7
 .rw [if_pos bz];exact h
 rw [if_neg bz];by_cases eX:k=8
 .rw [if_pos eX];exact h
 rw [if_neg eX];by_cases iT:k=9
 .rw [if_pos iT];show e3 (uV G o.id o.keep).1;unfold uV;split
  .exact h
  .exact FW (h.Ih λu hu=>by cases hu)
 rw [if_neg iT];by_cases nB:k=10
 .rw [if_pos nB];exact h.start _
 rw [if_neg nB];by_cases mg:k=11
 .rw [if_pos mg];exact h.lose _ _
 rw [if_neg mg];by_cases p8:k=12
 .rw [if_pos p8];exact h.arm _ _ _
 rw [if_neg p8];exact e3.drain _ (h.turn _ _)
end
theorem aNd:e3 iU:=λi hi u hu=>a7g hu
theorem aH6:dR iU=0:=by
 have h:∀ i,iH (lT i)=0:=λi=>by
  obtain ⟨u,h1,_,h3,_⟩:=Cc i;unfold iH;rw [h1];show bw u.r=0;rw [h3];rfl
 show 0+(iH (lT 0)+iH (lT 1)+iH (lT 2))=0;rw [h,h,h]
def eS(G:aa)(i:Nat):aa:=(qU (j0 G i 0).1 i 0 []).1
def lV(G:aa)(i:Nat):aa:=if mN (eS G i) i=0 then eS G i else (nQ (eS G i) i).1
section
variable {N fq D:Nat}{B B':Int}{G G':aa}{C bC:cJ}{g g':fK}{A bK:Int->Nat->Nat}{i:Nat}{P:cR}
theorem aP0(hi:i<3):(eS G i).mem i={ G.mem i with d:=jR (k5 (G.mem i).d 0) 0 [] }/\(∀ j,j≠i->(eS G i).mem j=G.mem j)/\(eS G i).aD=G.aD:=by
 have hid:¬ ((i:Int)<0\/3<=(i:Int)):=by omega
 have e1:(j0 G i 0).1=ek (ay G i { G.mem i with d:=k5 (G.mem i).d 0 }):=by unfold j0;rw [if_neg hid,jo]
 have m1:(j0 G i 0).1.mem=put G.mem i { G.mem i with d:=k5 (G.mem i).d 0 }:=by rw [e1,(As _).1];rfl
 have n1:(j0 G i 0).1.aD=G.aD:=by rw [e1,(As _).2];rfl
 have e2:eS G i=ek (ay (j0 G i 0).1 i { (j0 G i 0).1.mem i with d:=jR ((j0 G i 0).1.mem i).d 0 [] }):=by unfold eS qU;rw [if_neg hid,jo]
 have m2:(eS G i).mem=put (j0 G i 0).1.mem i { (j0 G i 0).1.mem i with d:=jR ((j0 G i 0).1.mem i).d 0 [] }:=by rw [e2,(As _).1];rfl
 have n2:(eS G i).aD=(j0 G i 0).1.aD:=by rw [e2,(As _).2];rfl
 refine ⟨?_,λj hj=>?_,by rw [n2,n1]⟩
 .rw [m2,cF,m1,cF]
 .rw [m2,dD _ _ hj,m1,dD _ _ hj]
structure aG9(N:Nat)(B:Int)(D:Nat)(G:aa)(i:Nat)(G':aa):Prop where
 inv:∃ C g A,bG N B D G' C g A
 on:e3 G'
 up:∃ u,(G'.mem i).up=some u
 h:gl (G'.mem i).d
 ne:∀ j,j≠i->G'.mem j=G.mem j
 aD:G'.aD=G.aD
 cnt:dR G'<=dR G
 aQ:∃ s,G'.aQ=G.aQ++s
theorem eM.sy(h:eM N B D G g A G'):∃ bC g' bK,bG N B D G' bC g' bK:=by
 obtain ⟨bC,g',bK,a,_⟩:=h;exact ⟨bC,g',bK,a⟩
theorem Ra(h:bG N B D G C g A)(q3:e3 G)(hi:i<3):aG9 N B D G i (lV G i)/\(mN (eS G i) i≠0->(nQ (eS G i) i).2=0):=by
 have hid:¬ ((i:Int)<0\/3<=(i:Int)):=by omega
 obtain ⟨r1,r2,RX⟩:=aP0 (G:=G) hi;have Hq:e3 (eS G i):=(q3.lose _ _).arm _ _ _;have AM:eM N B D G g A (eS G i):=(h.lose i 0).then λbC g' bK h'=>h'.arm i 0 []
 have vo:dR (eS G i)<=dR G:=by
  have e2:eS G i=ek (ay (j0 G i 0).1 i { (j0 G i 0).1.mem i with d:=jR ((j0 G i 0).1.mem i).d 0 [] }):=by unfold eS qU;rw [if_neg hid,jo]
  have e1:(j0 G i 0).1=ek (ay G i { G.mem i with d:=k5 (G.mem i).d 0 }):=by unfold j0;rw [if_neg hid,jo]
  rw [e2,Ph hi,e1,Ph hi];exact Nat.le_refl _
 obtain ⟨y9,g1,zT,hg1,_,QN⟩:=AM;unfold lV;by_cases hu:mN (eS G i) i=0
 .rw [if_pos hu];refine ⟨⟨⟨y9,g1,zT,hg1⟩,Hq,?_,?_,r2,RX,vo,QN⟩,λh=>absurd hu h⟩
  .unfold mN at hu;rw [if_neg hid,jo] at hu;cases hm:((eS G i).mem i).up with
   | some u=>exact ⟨u,rfl⟩
   | none=>rw [hm] at hu;exact absurd hu (by decide)
  .unfold mN at hu;rw [if_neg hid,jo] at hu;cases hm:((eS G i).mem i).up with
   | none=>rw [hm] at hu;exact absurd hu (by decide)
   | some u =>
    have:=Hq i hi u hm;refine ⟨this,?_,?_⟩
    .rw [r1];rfl
    .rw [r1];rfl
 .rw [if_neg hu];have hn:((eS G i).mem i).up=none:=by
   unfold mN at hu;rw [if_neg hid,jo] at hu;cases hm:((eS G i).mem i).up with
   | none=>rfl
   | some u=>rw [hm] at hu;exact absurd rfl hu
  have hd:kj (dz ((eS G i).mem i).d) (sY N B D y9 i):=(hg1.j.qY i hi hn).frame rfl rfl;have hh:gl (dz ((eS G i).mem i).d):=by
   rw [r1];exact ⟨rfl,rfl,rfl⟩
  obtain ⟨u,ho,cn,Ex,_,_⟩:=aQE hg1.j hi hd hh;have es:nQ (eS G i) i=(ek (ay (eS G i) i ⟨(bM i (dz ((eS G i).mem i).d)).1,(bM i (dz ((eS G i).mem i).d)).2.1⟩),(bM i (dz ((eS G i).mem i).d)).2.2):=by
   unfold nQ;rw [if_neg hid,jo,hn]
  obtain ⟨GO,g2,zU,qg,_,s2,hcm2⟩:=hg1.start i;obtain ⟨s1,QN⟩:=QN;have em:(nQ (eS G i) i).1.mem=put (eS G i).mem i ⟨(bM i (dz ((eS G i).mem i).d)).1,(bM i (dz ((eS G i).mem i).d)).2.1⟩:=by rw [es];exact (As _).1
  have Ub:(nQ (eS G i) i).1.aD=(eS G i).aD:=by rw [es];exact (As _).2
  refine ⟨⟨⟨GO,g2,zU,qg⟩,Hq.start i,?_,?_,λj hj=>?_,?_,Nat.le_trans (aAQ _) vo,s1++s2,by rw [hcm2,QN,μ]⟩,λ_=>?_⟩
  .rw [em,cF];exact ⟨u,by rw [ho]⟩
  .rw [em,cF];exact Ex
  .rw [em,dD _ _ hj];exact r2 j hj
  .rw [Ub];exact RX
  .rw [es];show (bM i (dz ((eS G i).mem i).d)).2.2=0;rw [ho]
def pP(G:aa):aa:=lV (lV (lV (mj G) 0) 1) 2
theorem aP1(h:bG N B D G C g A)(q3:e3 G):∃ P,cl N B D (pP G) P/\P.sp=0/\dR (pP G)<=dR G/\∃ s,(pP G).aQ=G.aQ++s:=by
 obtain ⟨OS,g0,OP,h0,_,s0,e0⟩:=h.VO;have RE:e3 (mj G):=q3;have r4:=(Ra h0 RE (i:=0) (by decide)).1;obtain ⟨y9,g1,zT,h1⟩:=r4.inv;have r1:=(Ra h1 r4.on (i:=1) (by decide)).1;obtain ⟨GO,g2,zU,h2⟩:=r1.inv;have r2:=(Ra h2 r1.on (i:=2) (by decide)).1;obtain ⟨OT,g3,OQ,h3⟩:=r2.inv;have m0:(pP G).mem 0=(lV (mj G) 0).mem 0:=by
  show (lV (lV (lV (mj G) 0) 1) 2).mem 0=_;rw [r2.ne 0 (by decide),r1.ne 0 (by decide)]
 have m1:(pP G).mem 1=(lV (lV (mj G) 0) 1).mem 1:=r2.ne 1 (by decide);have Ub:(pP G).aD.split=0:=by
  show (lV (lV (lV (mj G) 0) 1) 2).aD.split=0;rw [r2.aD,r1.aD,r4.aD];rfl
 have gA:∀ i,i<3->∃ u,((pP G).mem i).up=some u:=λi hi=>by
  match i,hi with
  | 0,_=>rw [m0];exact r4.up
  | 1,_=>rw [m1];exact r1.up
  | 2,_=>exact r2.up
 have hh:∀ i,i<3->gl ((pP G).mem i).d:=λi hi=>by
  match i,hi with
  | 0,_=>rw [m0];exact r4.h
  | 1,_=>rw [m1];exact r1.h
  | 2,_=>exact r2.h
 obtain ⟨P,f1,f2,f3⟩:=bG.iu (G:=pP G) h3 gA hh;obtain ⟨s1,e1⟩:=r4.aQ;obtain ⟨s2,e2⟩:=r1.aQ;obtain ⟨en,bI⟩:=r2.aQ;refine ⟨P,f1,f3.trans Ub,Nat.le_trans r2.cnt (Nat.le_trans r1.cnt (Nat.le_trans r4.cnt (Nat.le_refl _))),s0++(s1++(s2++en)),?_⟩;show (lV (lV (lV (mj G) 0) 1) 2).aQ=_;rw [bI,e2,e1,e0];simp only [μ]
theorem cl.cnt(h:cl N B D G P):P.fl.length+ir P=dR G:=by
 have hl:P.fl.length=G.aD.aI.length:=by rw [h.aD,List.length_map]
 have e:∀ i,i<3->iH (G.mem i)=bw (P.r i):=λi hi=>by
  obtain ⟨u,hu,hr,_⟩:=h.Za hi;unfold iH;rw [hu];show bw u.r=_;rw [hr]
 unfold dR mb ir;rw [e 0 (by decide),e 1 (by decide),e 2 (by decide),hl]
theorem cl.ends(h:cl N B D G P):∀ m∈P.fl,(0<=m.src/\m.src<=2)/\(0<=m.to/\m.to<=2):=λm hm=>by
 obtain ⟨C,g,A,h,hs⟩:=h;exact (hs.ms m hm).2.2.2
theorem cl.EZ(h:cl N B D G P)(hsp:P.sp=0)(hc:dR G<=298):eL P:=⟨h.inv,hsp,h.ends,by rw [h.cnt];exact hc⟩
def jq:Nat->cR->cR
 | 0,P=>P
 | k+1,P=>(gD (jq k P) (k % 3) 100000).1
def BH:Nat->aa->aa
 | 0,G=>G
 | k+1,G=>(eJ (BH k G) ((k % 3:Nat):Int) 100000).1
structure a2G(N:Nat)(B:Int)(D:Nat)(G:aa)(P:cR)(k:Nat):Prop where
 iu:cl N (B+k) D (BH k G) (jq k P)
 EZ:eL (jq k P)
 fl:(jq k P).fl.length+ir (jq k P)<=200
 done:0<k->(jq k P).fl=[]
 calm:0<k->((jq k P).r ((k - 1) % 3)).role=2->Calm ((k - 1) % 3) (jq k P)
theorem cl.EU(h:cl N B D G P)(hB:B<100000):∀ k,k<3->(P.r k).log.length<=N/\(P.r k).term<1099511627776:=λk hk=>by
 have:=h.cb.rep k hk;have h1:=this.len;have h2:=this.term;exact ⟨h1,by have h2:(P.r k).term<=B:=h2;omega⟩
theorem turns(h:cl N B D G P)(hsp:P.sp=0)(hc:dR G<=200)(hN:N<=100)(hB:B<10000)(cH:N*(D+90)<=1048576):∀ k,k<=9->a2G N B D G P k
 | 0,_=>⟨by rw [show B+((0:Nat):Int)=B by omega];exact h,h.EZ hsp (by omega),by rw [show jq 0 P=P from rfl,h.cnt];exact hc,λh=>absurd h (by decide),λh=>absurd h (by decide)⟩
 | k+1,hk=>by
  have ih:=turns h hsp hc hN hB cH k (by omega);have hi:k % 3<3:=by omega
  have hb:=ih.iu.EU (by omega);have hfl:=ih.fl;have hmul:((jq k P).fl.length+2)*(4*N+10)<=202*410:=Nat.mul_le_mul (by omega) (by omega);have aKq:(ir (jq k P)+1)*(8*N+20)<=4*820:=Nat.mul_le_mul (by have:=Gx (jq k P);omega) (by omega);obtain ⟨d1,d2,d3⟩:=ih.EZ.settle hi (N:=N) (most:=100000) (by omega) (hb _ hi).2 (λj hj=>(hb j hj).1) (by
   show _<=100000;omega)
  have d2:(jq (k+1) P).fl=[]:=d2;have hf:=(ih.iu.settle cH hi 100000).1;refine ⟨?_,d1,?_,λ_=>d2,λ_ hr=>?_⟩
  .rw [show B+((k+1:Nat):Int)=B+(k:Int)+1 by omega];exact hf
  .have:=Gx (jq (k+1) P);rw [d2,List.length_nil];omega
  .have e:(k+1 - 1) % 3=k % 3:=rfl;rw [e] at hr ⊢;exact d3 hr
theorem aQg(l x):bB (l++[x]) (l++[x]).length=x.term:=by
 rw [List.length_append,List.length_singleton];exact BF (by rw [List.getElem?_append_right (Nat.le_refl _),Nat.sub_self];rfl)
structure a29(yB:aa)(L:List aS):Prop where
 aQ:yB.aQ=L.map aS.data
 all:∀ k:Nat,k<3->L.length<=(DF yB k).length/\(DF yB k).take L.length=L
theorem cl.said(h:cl N B D G P)(hi:i<3){T L}(h2:vW i T L P)(hc:(P.r i).υ=L.length)(hall:∀ k,k<3->L.length<=(P.r k).log.length/\(P.r k).log.take L.length=L):a29 G L:=by
 refine ⟨?_,λk hk=>?_⟩
 .have pG:=h2.li.tm;have:=h.aHM hi h2.ro (λk hk=>by rw [pG];exact h2.tm k hk) (by rw [hc,h2.log]);rw [h.aQ,this,h2.log]
 .rw [(h.role hk).2.2.2];exact hall k hk
theorem aMj(h:cl N B D G P)(hsp:P.sp=0)(hD:eL P)(hi:i<3)(hC:Calm i P)(hN:N+1<=100)(hB:B<100000)(cH:(N+1)*(D+90)<=1048576)(aSt:D<=2000){data}(hd:data.size<=D):
  (iL G i data).2=((((P.r i).log.length+1:Nat):Int),0)/\a29 (eJ (iL G i data).1 i 100000).1 ((P.r i).log++[⟨(P.r i).term,data⟩]):=by
 have hb:=h.EU hB;have CB:=Gx P;have hlen:=(hb i hi).1;obtain ⟨q1,bP,gC,jK,z1,a96⟩:=hD.A' hi hC.ro hC.tm (λm hm=>by rw [hC.fl] at hm;cases hm) (data:=data) (by omega) (by omega) (by rw [hC.fl,List.length_nil];omega);obtain ⟨f1,f2⟩:=h.A' cH hi hd jK;have hfl:(tf P i data).fl.length=2:=by rw [z1,hC.fl];rfl
 have VA:∀ k,k<3->((tf P i data).r k).log.length<=N+1:=λk hk=>(f1.EU hB k hk).1;obtain ⟨s1,s2,en,dL,iB,jm⟩:=bP.settle (N:=N+1) (most:=100000) hi q1 (by rw [aQg]) (by have:=Gx (tf P i data);omega) VA (by
  have aKq:ir (tf P i data)*(8*(N+1)+20)<=3*820:=Nat.mul_le_mul (Gx _) (by omega);rw [hfl];show _<=100000;omega)
 obtain ⟨g1,g2⟩:=f1.settle cH hi 100000;refine ⟨by rw [f2,gC],g1.said hi s2 dL jm⟩
end
section
variable {N fq D:Nat}{B B':Int}{G G':aa}{C bC:cJ}{g g':fK}{A bK:Int->Nat->Nat}{i:Nat}
theorem bG.aHP(h:bG N B D G C g A):∀ s∈G.aQ,s.size<=2000:=by
 obtain ⟨K,t,e,hK⟩:=h.j.aQ;rcases hK with h0|⟨t',p,uh,_,hn,hk⟩
 .rw [e,List.eq_nil_of_length_eq_zero h0];intro s hs;cases hs
 .intro s hs;rw [e] at hs;obtain ⟨x,hx,rfl⟩:=List.mem_map.1 hs;have h2:=hk.2;rw [List.take_length] at h2;rw [h2] at hx;exact (h.j.s.iq t').data x (List.mem_of_mem_take hx)
theorem bG.aHN(h:bG N B D G C g A):G.aQ.length<=8000:=by
 obtain ⟨a,b,ha,hb,hab,hst⟩:=aQU h.j;have h1:=(hst a (.inl rfl)).1;have h2:(tq (G.mem a).d).length<=4000:=by
  obtain ⟨t,v,hq⟩:=ZC (h.j.any ha);obtain ⟨bC,g',bK,jT⟩:=RP h.j.s ha hq.1;have:=(jT.s.m.wf.rep a ha).1.ok.len;rw [jT.rep] at this;exact this
 omega
end
end Go.Proofs.YtcmgeboolmmdkaaGreatDoor
end

section
namespace Go.Proofs.YtcmgeboolmmdkaaGreatDoor
set_option maxRecDepth 100000
open Go.Vc
theorem aFA(nt:Option Addr)(iW tT:Nat)(data:ByteArray):aR F.Uh #[.slice nt iW tT,.string data] λW R Φ J=>
 ο W R Φ F.Uj #[] λe2 q=>∃ c4,e2=.returned (.bool c4)/\q λag an=>ο W ag an F.Ui #[.slice nt iW tT,I 60] λmg q=>∃ su,mg=.returned (.bool su)/\q λeN jB=>γ (!su) (ι W eN jB J (.bool c4)) (γ (decide (50<(↑data.size:Int))) (ι W eN jB J (.bool c4)) (ο W eN jB F.Q9 #[] λKq q=>∃ n3,Kq=.returned (.pointer n3)/\q λoJ qK=>γ n3.isNone (ι W oJ qK J (.bool false)) (eE λ(T0:Int->List Own->θ->Nat->Prop)=>(iF W oJ qK (T0 0))/\∀ kY iE Jm rz,O Jm->T0 kY iE Jm rz->γ (decide (kY<(↑iW:Int))) (kQ kY iW nt λFI nJ=>π W iE Jm λJJ=>∃ xS qt n43 NR Mx I8 xM,bS JJ FI (nJ+kY.toNat*5) [I xS,I qt,I n43,.string NR,.slice Mx I8 xM]/\ο W iE Jm F.Pp #[.pointer n3,Value.agg #[I xS,I qt,I n43,.string NR,.slice Mx I8 xM]] λL2 q=>∃ aND An,L2=.returned (Value.tuple #[I aND,I An])/\q λsj sU=>κ (kY+1)/\eD W sj sU rz (T0 (kY+1))) (ο W iE Jm F.HN #[.pointer n3] λUQ q=>UQ=.returned (Value.tuple #[])/\q λsn rC=>eE λ(Bb:Int->List Own->θ->Nat->Prop)=>(iF W sn rC (Bb 0))/\∀ mL nZ Ok Ae,O Ok->Bb mL nZ Ok Ae->γ (decide (mL<3)) (ο W nZ Ok F.HO #[.pointer n3,I mL,I 0] λaIs q=>∃ q9,aIs=.returned (I q9)/\q λP4 aSX=>ο W P4 aSX F.HM #[.pointer n3,I mL,I 0,.slice none 0 0] λUS q=>∃ IP,US=.returned (I IP)/\q λGp GM=>ο W Gp GM F.LV #[.pointer n3,I mL] λaIy q=>∃ a3N,aIy=.returned (.bool a3N)/\q λE8 Di=>γ (!a3N) (ο W E8 Di F.HP #[.pointer n3,I mL] λU6 q=>∃ n102,U6=.returned (I n102)/\q λzf zN=>γ (decide (n102≠0)) (ι W zf zN J (.bool false)) (κ (mL+1)/\eD W zf zN Ae (Bb (mL+1)))) (κ (mL+1)/\eD W E8 Di Ae (Bb (mL+1)))) (eE λ(Sv:Int->List Own->θ->Nat->Prop)=>(iF W nZ Ok (Sv 0))/\∀ n123 sZ Oc xL,O Oc->Sv n123 sZ Oc xL->γ (decide (n123<9)) (((3 : Int)=0->False)/\ο W sZ Oc F.wo #[.pointer n3,I (n123.tmod 3),I 100000] λaI0 q=>∃ n131,aI0=.returned (I n131)/\q λaFi aSE=>ο W aFi aSE F.Q6 #[.pointer n3,I (n123.tmod 3)] λaI3 q=>∃ n138,aI3=.returned (I n138)/\q λJz aCH=>γ (decide (n138≠2)) (κ (n123+1)/\eD W Jz aCH xL (Sv (n123+1))) (ο W Jz aCH F.C8 #[.pointer n3,I (n123.tmod 3),.string data] λaI8 q=>∃ n150 n151,aI8=.returned (Value.tuple #[I n150,I n151])/\q λGh a0W=>ο W Gh a0W F.wo #[.pointer n3,I (n123.tmod 3),I 100000] λUC q=>∃ n158,UC=.returned (I n158)/\q λTG a0Y=>ο W TG a0Y F.Q4 #[.pointer n3] λKp q=>∃ Mo I4 FE,Kp=.returned (.slice Mo I4 FE)/\q λE3 GD=>γ c4 (γ (decide (n151=0)) (γ (decide ((↑I4:Int)=n150)) (γ (decide (0<n150)) (κ (n150 - 1)/\(0<=max (n150 - 1) 0/\max (n150 - 1) 0<(↑I4:Int))/\k9 none Mo λaM9 aMA=>π W E3 GD λaRV=>∃ a9i,aRV.cell? (Addr.mk aM9 (aMA+(max (n150 - 1) 0).toNat) none)=some (.string a9i)/\γ (decide (a9i=data)) (ο W E3 GD F.HQ #[.pointer n3,I 0] λaIF q=>∃ a8D a6G I5,aIF=.returned (.slice a8D a6G I5)/\q λGi GF=>ο W Gi GF F.HD #[.slice Mo I4 FE,.slice a8D a6G I5] λaII q=>∃ a30,aII=.returned (.bool a30)/\q λa1i aCK=>γ a30 (ο W a1i aCK F.HQ #[.pointer n3,I 1] λaIK q=>∃ a8I MH a6L,aIK=.returned (.slice a8I MH a6L)/\q λaFp aSK=>ο W aFp aSK F.HD #[.slice Mo I4 FE,.slice a8I MH a6L] λUF q=>∃ KT,UF=.returned (.bool KT)/\q λa1l aCL=>γ KT (ο W a1l aCL F.HQ #[.pointer n3,I 2] λaIN q=>∃ IX AX I7,aIN=.returned (.slice IX AX I7)/\q λqS oe=>ο W qS oe F.HD #[.slice Mo I4 FE,.slice IX AX I7] λaIP q=>∃ a34,aIP=.returned (.bool a34)/\q λBk zO=>ι W Bk zO J (.bool a34)) (ι W a1l aCL J (.bool false))) (∀ JI Oz,Ctx W JI (a1i++Oz) aCK -> J (.bool false) JI)) (ι W E3 GD J (.bool false))) (ι W E3 GD J (.bool false))) (ι W E3 GD J (.bool false))) (ι W E3 GD J (.bool false))) (ι W E3 GD J (.bool false)))) (ι W sZ Oc J (.bool false))))))):=aT {hV [0,1,4,5,6,7,8,9,10,11,12,13,22,26,30,42,60,62,73] with split:=[2,17,28],loops:=[(20,[(9,.one (.int .i64))],[]),(13,[(8,.one (.int .i64))],[]),(8,[(7,.one (.int .i64))],[])] }
def aFE:OW:=λW R Φ J=>
 ο W R Φ F.Q9 #[] λe2 q=>∃ bR,e2=.returned (.pointer bR)/\q λag an=>γ bR.isNone (ι W ag an J (.bool false)) (ο W ag an F.wo #[.pointer bR,I 1,I 99] λEc q=>∃ j6,Ec=.returned (I j6)/\q λjF kH=>ο W jF kH F.Q6 #[.pointer bR,I 1] λwk q=>∃ mJ,wk=.returned (I mJ)/\q λjv kI=>γ (decide (mJ=2)) (∀ oD iQ,Ctx W oD (jv++iQ) kI->Γ F.V2 #[.pointer bR,I 0] oD λUG vO=>∃ mK,UG=.returned (I mK)/\∃ ow y2,O y2/\Ctx W vO (ow ++ iQ) y2/\ο W ow y2 F.C8 #[.pointer bR,I 1,Value.string (ByteArray.mk #[OfNat.ofNat 97])] λUH q=>∃ oS kZ,UH=.returned (Value.tuple #[I oS,I kZ])/\q λgp kJ=>ο W gp kJ F.wo #[.pointer bR,I 1,I 99] λaIi q=>∃ qt,aIi=.returned (I qt)/\q λqT zQ=>ο W qT zQ F.C8 #[.pointer bR,I 0,Value.string (ByteArray.mk #[OfNat.ofNat 98])] λUL q=>∃ X5 v8,UL=.returned (Value.tuple #[I X5,I v8])/\q λjQ mU=>γ (decide (j6=8)) (γ (decide (mK=1)) (γ (decide (oS=1)) (γ (decide (kZ=0)) (γ (decide (qt=8)) (γ (decide (v8=24)) (ο W jQ mU F.Q4 #[.pointer bR] λzz q=>∃ Cw CU tP,zz=.returned (.slice Cw CU tP)/\q λuL uA=>∀ (MK:Nat) (G3:World) (E5:List Own),Ctx W G3 (Own.blk MK [Value.string (ByteArray.mk #[OfNat.ofNat 97])] 9 :: uL++E5) uA->Γ F.Pq #[.slice Cw CU tP,.slice (ie MK 0) 1 1] G3 λL3 xq=>∃ a3K,L3=.returned (.bool a3K)/\∃ so qN,O qN/\Ctx W xq (so++E5) qN/\ι W so qN J (.bool a3K)) (ι W jQ mU J (.bool false))) (ι W jQ mU J (.bool false))) (ι W jQ mU J (.bool false))) (ι W jQ mU J (.bool false))) (ι W jQ mU J (.bool false))) (ι W jQ mU J (.bool false))) (ο W jv kI F.C8 #[.pointer bR,I 1,Value.string (ByteArray.mk #[OfNat.ofNat 97])] λUS q=>∃ IP FQ,US=.returned (Value.tuple #[I IP,I FQ])/\q λKA Jc=>ο W KA Jc F.wo #[.pointer bR,I 1,I 99] λUW q=>∃ yo,UW=.returned (I yo)/\q λve uB=>ο W ve uB F.C8 #[.pointer bR,I 0,Value.string (ByteArray.mk #[OfNat.ofNat 98])] λaHv q=>∃ n103 n104,aHv=.returned (Value.tuple #[I n103,I n104])/\q λDx Da=>γ (decide (j6=8)) (ι W Dx Da J (.bool false)) (ι W Dx Da J (.bool false))))
theorem aFF:aR F.Uj #[] aFE:=aT {hV [0,1,2,3,4,5,6,8,11] with split:=[5,9] }
theorem aFC(nt:Option Addr)(iW tT:Nat)(n:Int):aR F.Ui #[.slice nt iW tT,.int .i64 n] λW R Φ J=>
 eE λ(js:Int->List Own->θ->Nat->Prop)=>(iF W R Φ (js 0))/\∀ bg cO jc fQ,O jc->js bg cO jc fQ->γ (decide (bg<(↑iW:Int))) (π W cO jc λtu=>kQ bg iW nt λq6 gy=>∃ NQ,tu.cell? (ν q6 (gy+bg.toNat*5+3))=some (.string NQ)/\((!decide (50<(↑NQ.size:Int)))=true->0<=bg/\bg<(↑iW:Int))/\k9 (some !decide (50<(↑NQ.size:Int))) nt λfe l8=>∃ (Fh:Option Addr) (nH l9:Nat),((!decide (50<(↑NQ.size:Int)))=true->tu.cell? (ν fe (l8+bg.toNat*5+4))=some (.slice Fh nH l9))/\γ (decide (50<(↑NQ.size:Int))||decide (20<(↑nH:Int))) (ι W cO jc J (.bool false)) (κ (bg+1)/\eD W cO jc fQ (js (bg+1)))) (ι W cO jc J (.bool (decide ((↑iW:Int)<=n)))):=aT {hV [0,1,4,5,9,27] with loops:=[(2,[(5,.one (.int .i64))],[])] }
theorem aFB(aX aY:Nat)(o0:Int)(o1:Int)(o2:Int)(gz:ByteArray)(qz:Option Addr)(qy qx:Nat):aR F.Pp #[ε aX aY,.agg #[.int .i64 o0,.int .i64 o1,.int .i64 o2,.string gz,.slice qz qy qx]] λW R Φ J=>
 ∀ (b:Nat),∃ R0 ψ,O ψ/\aE W R Φ R0 ψ/\ο W R Φ F.Q5 #[ε aX aY] λeX q=>∃ bt,eX=.returned (I bt)/\q λdh eV=>aE W dh eV R0 ψ/\ο W dh eV F.Ei #[I o2,I bt] λKo q=>∃ ff,Ko=.returned (I ff)/\q λju vT=>ο W ju vT F.Ei #[I o0,I 14] λKr q=>∃ dP,Kr=.returned (I dP)/\q λdJ eo=>γ (decide (dP=0)) (∀ oa ow,Ctx W oa (dJ++ow) eo->Γ F.Q7 #[ε aX aY,I o1] oa λKu sM=>∃ kX,Ku = .returned (I kX)/\∃ K6 a0g,O a0g/\Ctx W sM (K6++ow) a0g/\ι W K6 a0g J (Value.tuple #[I 0,I kX])) (γ (decide (dP=1)) (ο W dJ eo F.C8 #[ε aX aY,I o1,.string gz] λKy q=>∃ ym xS,Ky=.returned (Value.tuple #[I ym,I xS])/\q λBl Df=>ι W Bl Df J (Value.tuple #[I ym,I xS])) (γ (decide (dP=2)) (γ (decide (dP=2)) (ο W dJ eo F.Ep #[ε aX aY,I ff] λUM q=>∃ v8,UM=.returned (I v8)/\q λjQ mU=>ι W jQ mU J (Value.tuple #[I 0,I v8])) (γ (decide (dP=5)) (ο W dJ eo F.LS #[ε aX aY,I ff] λUN q=>∃ tU,UN=.returned (I tU)/\q λuL uA=>ι W uL uA J (Value.tuple #[I 0,I tU])) (γ (decide (dP=6)) (ο W dJ eo F.LR #[ε aX aY,I ff] λL4 q=>∃ vA,L4=.returned (I vA)/\q λoK rD=>ι W oK rD J (Value.tuple #[I 0,I vA])) (γ (decide (dP=7)) (ο W dJ eo F.LU #[ε aX aY,I o2] λEg q=>Eg=.returned (Value.tuple #[])/\q λyI GK=>ι W yI GK J (Value.tuple #[I 0,I 0])) (γ (decide (dP=8)) (ο W dJ eo F.HN #[ε aX aY] λaIu q=>aIu=.returned (Value.tuple #[])/\q λE7 aSY=>ι W E7 aSY J (Value.tuple #[I 0,I 0])) (γ (decide (dP=9)) (ο W dJ eo F.LQ #[ε aX aY,I o1,.slice qz qy qx] λUT q=>∃ oT,UT=.returned (I oT)/\q λwU aSb=>ι W wU aSb J (Value.tuple #[I 0,I oT])) (γ (decide (dP=10)) (ο W dJ eo F.HP #[ε aX aY,I o1] λU6 q=>∃ n102,U6=.returned (I n102)/\q λzf zN=>ι W zf zN J (Value.tuple #[I 0,I n102])) (γ (decide (dP=11)) (ο W dJ eo F.HO #[ε aX aY,I o1,I o2] λaHw q=>∃ n111,aHw=.returned (I n111)/\q λOu O6=>ι W Ou O6 J (Value.tuple #[I 0,I n111])) (γ (decide (dP=12)) (∀ aBW Ov,Ctx W aBW (dJ++Ov) eo -> Γ F.HM #[ε aX aY,I o1,I o2,.slice qz qy qx] aBW λUA DQ=>∃ n120,UA=.returned (I n120)/\∃ Jw JV,O JV/\Ctx W DQ (Jw++Ov) JV/\ι W Jw JV J (Value.tuple #[I 0,I n120])) (∃ Jx a0Q,O a0Q/\aE W dJ eo Jx a0Q/\ο W dJ eo F.Ei #[I o2,I 100] λaI1 q=>∃ n133,aI1=.returned (I n133)/\q λBj aCG=>aE W Bj aCG Jx a0Q/\∀ aBa Jz,Ctx W aBa (Bj++Jz) aCG->Γ F.wo #[ε aX aY,I o1,I n133] aBa λaI4 DU=>∃ n142,aI4=.returned (I n142)/\∃ a1a a0U, O a0U/\Ctx W DU (a1a++Jz) a0U/\ι W a1a a0U J (Value.tuple #[I n142,I 0]))))))))))) (γ (decide (dP=3)) (γ (decide (dP=3)) (ο W dJ eo F.Ep #[ε aX aY,I ff] λaI9 q=>∃ n151,aI9=.returned (I n151)/\q λGh a0W=>ι W Gh a0W J (Value.tuple #[I 0,I n151])) (γ (decide (dP=5)) (ο W dJ eo F.LS #[ε aX aY,I ff] λaIA q=>∃ n160,aIA=.returned (I n160)/\q λzh GC=>ι W zh GC J (Value.tuple #[I 0,I n160])) (γ (decide (dP=6)) (ο W dJ eo F.LR #[ε aX aY,I ff] λaIC q=>∃ n169,aIC=.returned (I n169)/\q λaFl aSG=>ι W aFl aSG J (Value.tuple #[I 0,I n169])) (γ (decide (dP=7)) (ο W dJ eo F.LU #[ε aX aY,I o2] λaIE q=>aIE=.returned (Value.tuple #[])/\q λaFm aSH=>ι W aFm aSH J (Value.tuple #[I 0,I 0])) (γ (decide (dP=8)) (ο W dJ eo F.HN #[ε aX aY] λaIH q=>aIH=.returned (Value.tuple #[])/\q λaFn aSI=>ι W aFn aSI J (Value.tuple #[I 0,I 0])) (γ (decide (dP=9)) (ο W dJ eo F.LQ #[ε aX aY,I o1,.slice qz qy qx] λaIJ q=>∃ n194,aIJ=.returned (I n194)/\q λaFo aSJ=>ι W aFo aSJ J (Value.tuple #[I 0,I n194])) (γ (decide (dP=10)) (∀ aBk a1j,Ctx W aBk (dJ++a1j) eo->Γ F.HP #[ε aX aY,I o1] aBk λaIM aRZ=>∃ n203,aIM=.returned (I n203) /\ ∃ K3 JX,O JX/\Ctx W aRZ (K3++a1j) JX/\ι W K3 JX J (Value.tuple #[I 0,I n203])) (γ (decide (dP=11)) (ο W dJ eo F.HO #[ε aX aY,I o1,I o2] λaIO q=>∃ n212,aIO=.returned (I n212)/\q λaFq aSL=>ι W aFq aSL J (Value.tuple #[I 0,I n212])) (γ (decide (dP=12)) (ο W dJ eo F.HM #[ε aX aY,I o1,I o2,.slice qz qy qx] λaIQ q=>∃ n221,aIQ=.returned (I n221)/\q λaFr aSM=>ι W aFr aSM J (Value.tuple #[I 0,I n221])) (∃ a1q a0c,O a0c/\aE W dJ eo a1q a0c/\ο W dJ eo F.Ei #[I o2,I 100] λaIR q=>∃ n234,aIR=.returned (I n234)/\q λK4 aCM=>aE W K4 aCM a1q a0c/\ο W K4 aCM F.wo #[ε aX aY,I o1,I n234] λaIT q=>∃ n243,aIT=.returned (I n243)/\q λaFs aSN=>ι W aFs aSN J (Value.tuple #[I n243,I 0]))))))))))) (γ (decide (dP=4)) (ο W dJ eo F.Ep #[ε aX aY,I ff] λaIU q=>∃ n252,aIU=.returned (I n252)/\q λaFt aSO=>ι W aFt aSO J (Value.tuple #[I 0,I n252])) (γ (decide (dP=5)) (ο W dJ eo F.LS #[ε aX aY,I ff] λaIV q=>∃ n261,aIV=.returned (I n261)/\q λaFu aSP=>ι W aFu aSP J (Value.tuple #[I 0,I n261])) (γ (decide (dP=6)) (∀ aBs a1t,Ctx W aBs (dJ++a1t) eo->Γ F.LR #[ε aX aY,I ff] aBs λaIW aRg=>∃ n270,aIW=.returned (I n270)/\∃ K5 a0e,O a0e /\ Ctx W aRg (K5++a1t) a0e/\ι W K5 a0e J (Value.tuple #[I 0,I n270])) (γ (decide (dP=7)) (ο W dJ eo F.LU #[ε aX aY,I o2] λaIX q=>aIX=.returned (Value.tuple #[])/\q λaFw aSQ=>ι W aFw aSQ J (Value.tuple #[I 0,I 0])) (γ (decide (dP=8)) (ο W dJ eo F.HN #[ε aX aY] λaIZ q=>aIZ=.returned (Value.tuple #[])/\q λaFx aSR=>ι W aFx aSR J (Value.tuple #[I 0,I 0])) (γ (decide (dP=9)) (∀ aBw a1w, Ctx W aBw (dJ++a1w) eo->Γ F.LQ #[ε aX aY,I o1,.slice qz qy qx] aBw λaIa aRl=>∃ n295,aIa=.returned (I n295)/\∃ E4 BU,O BU/\Ctx W aRl (E4++a1w) BU/\ι W E4 BU J (Value.tuple #[I 0,I n295])) (γ (decide (dP=10)) (ο W dJ eo F.HP #[ε aX aY,I o1] λaIb q=>∃ n304,aIb=.returned (I n304)/\q λaFy aSS=>ι W aFy aSS J (Value.tuple #[I 0,I n304])) (γ (decide (dP=11)) (ο W dJ eo F.HO #[ε aX aY,I o1,I o2] λaIc q=>∃ n313,aIc=.returned (I n313)/\q λaG0 aST=>ι W aG0 aST J (Value.tuple #[I 0,I n313])) (γ (decide (dP=12)) (ο W dJ eo F.HM #[ε aX aY,I o1,I o2,.slice qz qy qx] λaIe q=>∃ n322,aIe=.returned (I n322)/\q λaG1 aSU=>ι W aG1 aSU J (Value.tuple #[I 0,I n322])) (∃ a1x a0f,O a0f/\aE W dJ eo a1x a0f/\ο W dJ eo F.Ei #[I o2,I 100] λaIf q=>∃ n335,aIf=.returned (I n335)/\q λa1y aCN=>aE W a1y aCN a1x a0f/\ο W a1y aCN F.wo #[ε aX aY,I o1,I n335] λaIh q=>∃ n344,aIh=.returned (I n344)/\q λaG2 aSV=>ι W aG2 aSV J (Value.tuple #[I n344,I 0])))))))))))))):=aT {hV [0,3,4,5,6,14,22,28,38,45,50,55,61,65,73,79,87] with gO:=[3],iC:=[(1,[.held [(0,true),(2,true),(1,true),(3,false)],.bJ [] (some 4),.bJ [5] none]),(3,[.held [(0,true),(1,true),(3,true),(2,true),(4,true),(5,false)],.bJ [] (some 6),.bJ [7,8] none])] }
theorem aFG(nt:Option Addr)(iW tT:Nat)(IE:Option Addr)(Cb MP:Nat):aR F.HD #[.slice nt iW tT,.slice IE Cb MP] λW R Φ J=>
 γ (decide ((↑Cb:Int)<(↑iW:Int))) (ι W R Φ J (.bool false)) (eE λ(qP:Int->List Own->θ->Nat->Prop)=>(iF W R Φ (qP 0))/\∀ bt dh uE gW,O uE->qP bt dh uE gW->γ (decide (bt<(↑iW:Int))) (π W dh uE λgi=>kQ bt Cb IE λdW fe=>∃ wD,gi.cell? (ν dW (fe+bt.toNat*2+1))=some (.string wD)/\kQ bt iW nt λdK nH=>∃ Fo,gi.cell? (ν dK (nH+bt.toNat))=some (.string Fo)/\γ (decide (wD≠Fo)) (ι W dh uE J (.bool false)) (κ (bt+1)/\eD W dh uE gW (qP (bt+1)))) (ι W dh uE J (.bool true))):=aT {hV [0,1,4,5,10,14,26] with loops:=[(4,[(5,.one (.int .i64))],[])] }
theorem aFD(n:Int)(m:Int):aR F.Ei #[.int .i64 n,.int .i64 m] λW R Φ J=>
 γ (decide (m<1)) (ι W R Φ J (I 0)) ((m=0->False)/\γ (decide (n.tmod m<0)) (κ (n.tmod m+m)/\ι W R Φ J (I (n.tmod m+m))) (ι W R Φ J (I (n.tmod m)))):=aT (hV [0,1,4,6,11])
end Go.Proofs.YtcmgeboolmmdkaaGreatDoor
end

section
namespace Go.Proofs.YtcmgeboolmmdkaaGreatDoor
open Go.Vc
instance:aB ot:=aB.via (β:=Int × Int × Int × ByteArray × List Int) (λx=>(x.kind,x.id,x.n,x.data,x.keep)) (λU=>⟨U.1,U.2.1,U.2.2.1,U.2.2.2.1,U.2.2.2.2⟩) (λ_=>rfl)
abbrev ot.cells(x:ot)(p:Option Addr)(c:Nat):List Value:=[.int .i64 x.kind,.int .i64 x.id,.int .i64 x.n,.string x.data,.slice p x.keep.length c]
structure ot.bA(x:ot):Prop where
 kind:κ x.kind
 id:κ x.id
 n:κ x.n
theorem a7l{M w cs}{x:ot}(h:aB.rep M w cs x):∃ p c,cs=x.cells p c/\x.bA/\x.keep.length<=9223372036854775807/\Δ M w p x.keep:=by
 obtain ⟨c1,c2,rfl,⟨rfl,h1⟩,h2⟩:=h;obtain ⟨c3,c4,rfl,⟨rfl,h3⟩,h4⟩:=h2;obtain ⟨c5,rO,rfl,⟨rfl,h5⟩,h6⟩:=h4;obtain ⟨vi,nh,rfl,⟨rfl,h7⟩,h8⟩:=h6;obtain ⟨q,e,rfl,g4,g5,g6⟩:=a9T.1 h8;unfold maxLen at g5;have g4:x.keep.length<=e:=g4;exact ⟨q,e,rfl,⟨h1,h3,h5⟩,by omega,g6⟩
def El(l:List ot)(n:Int):Bool:=decide (∀ x∈l,x.data.size<=50/\x.keep.length<=20)&&decide ((l.length:Int)<=n)
theorem aJN{l n}(h:El l n=true):(∀ x∈l,x.data.size<=50/\x.keep.length<=20)/\(l.length:Int)<=n:=by
 unfold El at h;rw [Bool.and_eq_true] at h;exact ⟨aN h.1,aN h.2⟩
theorem a7m{M w b o cs}{l:List ot}(h:rH b o cs l M w){j}(hj:j<l.length):∃ p c,cs.getD j []=l[j].cells p c/\l[j].bA/\l[j].keep.length<=9223372036854775807:=by
 obtain ⟨p,c,h1,h2,h3,_⟩:=a7l (h j hj).2.2;exact ⟨p,c,h1,h2,h3⟩
theorem a7n{M w b o cs}{l:List ot}(h:rH b o cs l M w){j}(hj:j<l.length){p c}(he:cs.getD j []=l[j].cells p c):bS w b (o+j*5) (l[j].cells p c):=by
 have:=(h j hj).2.1;rw [he] at this;exact this
theorem aNq{M w b o cs}{l:List ot}(h:rH b o cs l M w){j}(hj:j<l.length){p c}(he:cs.getD j []=l[j].cells p c):Δ M w p l[j].keep:=by
 have:=(h j hj).2.2;rw [he] at this;obtain ⟨p',c',h1,_,_,h2⟩:=a7l this;simp only [ot.cells,List.cons.injEq,Value.slice.injEq,and_true,true_and] at h1;rw [h1.1];exact h2
theorem a7k{w b o}{x:ot}{p c}(h:bS w b o (x.cells p c)){i v}(hv:(x.cells p c)[i]? = some v):w.cell? ⟨b,o+i,none⟩=some v:=by
 obtain ⟨hi,he⟩:=List.getElem?_eq_some_iff.1 hv;rw [h i hi,he]
section
variable {W w:World}{S R Y:List Own}{Φ:θ}
theorem aJO[O Φ]{p cap l n b o cs}(hp:0<l.length->p=some ⟨b,o,none⟩)(cL:∀ M w,Φ M w->rH b o cs l M w)(hlen:l.length<=9223372036854775807):fL Φ prog F.Ui #[.slice p l.length cap,.int .i64 n] (.bool (El l n)):=by
 refine rW (aFC p l.length cap n) λW R=>?_;refine fD (λfH R' η k=>∃ i:Nat,fH=i/\i+k=l.length/\R'=R/\η=Φ/\∀ x∈l.take i,x.data.size<=50/\x.keep.length<=20) ⟨⟨_,Φ,l.length,δ,λw G y=>y,0,rfl,by omega,rfl,rfl,by simp⟩,?_⟩;rintro fH aW Φ k _ ⟨i,rfl,hik,rfl,rfl,hall⟩;refine γ.intro (λhlt=>λw G y=>?_) (λhge=>λw G y=>⟨?_,y.left⟩)
 .have hlt:i<l.length:=by have:=aN hlt;omega
  obtain ⟨k,rfl⟩:∃ m,k=m+1:=⟨k - 1,by omega⟩;have hp:=hp (by omega);have bad:(¬ (l[i].data.size<=50/\l[i].keep.length<=20))->El l n=false:=λh=>by
   unfold El;rw [decide_eq_false λh2=>h (h2 _ (List.getElem_mem hlt))];rfl
  obtain ⟨q,bW,he,_,_⟩:=a7m (cL _ _ y.cy) hlt;have row:=a7n (cL _ _ y.cy) hlt he;refine ⟨⟨by omega,by omega⟩,eu b o hp ⟨l[i].data,by rw [Int.toNat_natCast];exact a7k (i:=3) row rfl,λ_=>⟨by omega,by omega⟩,eu b o hp ⟨q,l[i].keep.length,bW,λ_=>by rw [Int.toNat_natCast];exact a7k (i:=4) row rfl,γ.intro (λa57=>λw G y=>⟨?_,y.left⟩) (λhok=>⟨by unfold κ;omega,_,Φ,k,δ,λw G y=>y,⟨i+1,by omega,by omega,rfl,rfl,λx hx=>?_⟩,Nat.lt_succ_self _⟩)⟩⟩⟩
  .rw [bad λh=>by
    rw [Bool.or_eq_true] at a57;rcases a57 with h1|h1
    .have:=aN h1;omega
    .have:=aN h1;omega]
  .rw [List.take_succ_eq_append_getElem hlt] at hx;rw [Bool.or_eq_false_iff] at hok;have h1:=Λ hok.1;have h2:=Λ hok.2;rcases List.mem_append.1 hx with hx|hx
   .exact hall x hx
   .rw [List.mem_singleton.1 hx];exact ⟨by omega,by omega⟩
 .have hge:i=l.length:=by have:=Λ hge;omega
  subst hge;rw [List.take_length] at hall;unfold El;rw [decide_eq_true hall,Bool.true_and]
theorem X1[O Φ]{n m}(hm:κ m):fL Φ prog F.Ei #[.int .i64 n,.int .i64 m] (.int .i64 (iA n m)):=by
 refine rW (aFD n m) λW R=>γ.intro (λh=>λw G y=>⟨?_,y.left⟩) (λh=>⟨λh0=>?_,γ.intro (λh2=>⟨?_,λw G y=>⟨?_,y.left⟩⟩) (λh2=>λw G y=>⟨?_,y.left⟩)⟩)
 .have h:=aN h;unfold iA;rw [if_pos h]
 .have h:=Λ h;omega
 .have h:=Λ h;have h2:=aN h2;have hp:=ZP (n:=n) (m:=m) (by omega);rw [if_pos h2] at hp;have h3:=Int.emod_nonneg n (show m≠0 by omega);have h4:=Int.emod_lt_of_pos n (show 0<m by omega);rw [hp];unfold κ at hm ⊢;have e:n % m=n.emod m:=rfl;omega
 .have h:=Λ h;have h2:=aN h2;have hp:=ZP (n:=n) (m:=m) (by omega);rw [if_pos h2] at hp;unfold iA;rw [if_neg h,hp]
 .have h:=Λ h;have h2:=Λ h2;have hp:=ZP (n:=n) (m:=m) (by omega);rw [if_neg h2] at hp;unfold iA;rw [if_neg h,hp]
def Ni(l:List ByteArray)(log:List aS):Bool:=decide (l.length<=log.length/\(log.take l.length).map aS.data=l)
theorem aQB[O Φ]{p q ac bc l log}(ha:∀ M w,Φ M w->Δ M w p l)(hb:∀ M w,Φ M w->Δ M w q log)(hl:l.length<=1000000000):
  fL Φ prog F.HD #[.slice p l.length ac,.slice q log.length bc] (.bool (Ni l log)):=by
 refine .there (λM w h=>(ha M w h).there) λM3=>.there (λM w h=>(hb M w h).there) λhtb=>?_;refine rW (aFG p l.length ac q log.length bc) λW R=>γ.intro (λh=>λw G y=>⟨?_,y.left⟩) (λh=>?_)
 .have h:=aN h;unfold Ni;rw [decide_eq_false λe=>by have:=e.1;omega]
 have h:l.length<=log.length:=by have:=Λ h;omega
 refine fD (λn R' η k=>∃ i:Nat,n=i/\i+k=l.length/\R'=R/\η=Φ/\(log.take i).map aS.data=l.take i) ⟨⟨_,Φ,l.length,δ,λw G y=>y,0,rfl,by omega,rfl,rfl,by simp⟩,?_⟩;rintro n aW Φ k _ ⟨i,rfl,hik,rfl,rfl,htk⟩;refine γ.intro (λhlt=>λw G y=>?_) (λhge=>λw G y=>⟨?_,y.left⟩)
 .have hlt:i<l.length:=by have:=aN hlt;omega
  have CJ:i<log.length:=by omega
  obtain ⟨k,rfl⟩:∃ m,k=m+1:=⟨k - 1,by omega⟩;obtain ⟨g,o,rfl⟩:=M3 (by omega);obtain ⟨g2,o2,rfl⟩:=htb (by omega);refine ⟨⟨by omega,by omega⟩,eu g2 o2 rfl ⟨log[i].data,?_,⟨by omega,by omega⟩,eu g o rfl ⟨l[i],by rw [Int.toNat_natCast];exact Nf (ha _ _ y.cy) hlt,γ.intro (λhne=>λw G y=>⟨?_,y.left⟩) (λhe=>?_)⟩⟩⟩
  .have:=J3 (hb _ _ y.cy) CJ;rw [Int.toNat_natCast];exact this 1 (by simp)
  .have hne:=aN hne;unfold Ni;rw [decide_eq_false λe=>hne ?_];have h2:=e.2;have h3:((log.take l.length).map aS.data)[i]? = l[i]? := by rw [h2]
   rw [List.getElem?_map,List.getElem?_take_of_lt hlt,List.getElem?_eq_getElem CJ,List.getElem?_eq_getElem hlt] at h3;exact Option.some.inj h3
  .refine ⟨by unfold κ;omega,_,Φ,k,δ,λw G y=>y,⟨i+1,by omega,by omega,rfl,rfl,?_⟩,Nat.lt_succ_self _⟩;rw [List.take_succ_eq_append_getElem hlt,List.take_succ_eq_append_getElem CJ,List.map_append,htk];have:=Decidable.not_not.1 (Λ he);show _++[log[i].data]=_;rw [this]
 .have hge:i=l.length:=by have:=Λ hge;omega
  subst hge;rw [List.take_length] at htk;unfold Ni;rw [decide_eq_true ⟨h,htk⟩]
end
section
variable {W w:World}{S:List Own}{Φ:θ}{L:gQ}{G:aa}{N D:Nat}{B:Int}{C:cJ}{g:fK}{A:Int->Nat->Nat}
theorem bG.sets(h:bG N B D G C g A)(cH:N*(D+90)<=1048576)(hD:D<=2000)[O Φ](iw:oo Φ)(hF:bf Φ L G){id most}(hm:κ most)(y:Ctx W w (Ξ L G++S) Φ){K}(hk:∀ L' w',L'.gb=L.gb->bf Φ L' (eJ G id most).1->Ctx W w' (Ξ L' (eJ G id most).1++S) Φ->K (.returned (.int .i64 ((eJ G id most).2:Int))) w'):
  Γ F.wo #[ε L.gb 0,.int .i64 id,.int .i64 most] w K:=by
 refine aEs iw.off iw.num hF h.rN hm (λu hid hu=>h.aB1 cH hid hu) (λG'=>∃ bC g' bK,bG N (B+1) D G' bC g' bK) (λG' ⟨bC,g',bK,h'⟩=>⟨h'.rN,λp hp=>h'.pkt cH hD hp⟩) (λG' ⟨bC,g',bK,h'⟩=>(h'.rP cH 0).sy) (h.tick cH id).sy y λL' w hgb hg y=>hk L' w hgb (hg Φ hF) y
set_option maxHeartbeats 1000000 in
theorem aEl[O Φ](iw:oo Φ)(hF:bf Φ L G)(h:bG N B D G C g A)(cH:(N+1)*(D+90)<=1048576)(hD:D<=2000){o}(ho:o.bA)(hd:o.data.size<=D)(a5R:o.keep.length<=1000000){p c}(bp:∀ M w,Φ M w->Δ M w p o.keep)(y:Ctx W w (Ξ L G++S) Φ){K}(hk:∀ L' Ψ w',L'.gb=L.gb->O Ψ->(∀ M w,Ψ M w->Φ M w)->bf Ψ L' (vD G o).1->Ctx W w' (Ξ L' (vD G o).1++S) Ψ->K (.returned (.tuple #[.int .i64 (vD G o).2.1,.int .i64 (vD G o).2.2])) w'):
  Γ F.Pp #[ε L.gb 0,.agg #[.int .i64 o.kind,.int .i64 o.id,.int .i64 o.n,.string o.data,.slice p o.keep.length c]] w K:=by
 have Ev:N*(D+90)<=1048576:=Nat.le_trans (Nat.mul_le_mul_right _ (Nat.le_succ N)) cH;have CG:=hF.jx;refine ak (aFB L.gb 0 o.kind o.id o.n o.data p o.keep.length c (J:=K∘.returned) y λb=>⟨[],lE,δ,λw Y y=>dS y (List.nil_sublist _),λw Y y=>?_⟩);rw [μ] at y;refine a14 y λw y=>⟨_,rfl,Ξ L G++S,Φ,δ,by rw [μ];exact y,λw Y y=>dS y (List.nil_sublist _),λw Y y=>(X1 (by unfold κ;omega)).use y λw y=>⟨_,rfl,Ξ L G++S,Φ,δ,y,λw Y y=>(X1 (by unfold κ;omega)).use y λw y=>⟨_,rfl,Ξ L G++S,Φ,δ,y,?_⟩⟩⟩
 have p9:vD G o=FY G o (iA o.n G.aD.aI.length) (iA o.kind 14):=rfl;rw [p9] at hk;clear p9 y;generalize iA o.n (G.aD.aI.length:Int)=i at hk ⊢;generalize iA o.kind 14=k at hk ⊢;unfold FY at hk;refine γ.intro (λh0=>λw Y y=>?_) (λh0=>γ.intro (λh1=>λw Y y=>?_) (λh1=>?_))
 .rw [if_pos (aN h0)] at hk;rw [μ] at y;refine a17 iw.off iw.tab hF h.rN (λu hid hu=>h.aB1 Ev hid hu) y λL' w hgb hg y=>⟨_,rfl,Ξ L' (r9 G o.id).1++S,Φ,δ,by rw [μ];exact y,λw Y y=>hk L' Φ w hgb δ (λ_ _ h=>h) (hg Φ hF) y.left⟩
 .rw [if_neg (Λ h0),if_pos (aN h1)] at hk;rw [μ] at y;refine OY iw.off iw.tab hF h.rN (λu hid hu=>h.S8 cH hd hid hu) (λu hne=>RU hne) y λL' w hgb hg y=>⟨_,_,rfl,Ξ L' (iL G o.id o.data).1++S,Φ,δ,by rw [μ];exact y,λw Y y=>hk L' Φ w hgb δ (λ_ _ h=>h) (hg Φ hF) y.left⟩
 rw [if_neg (Λ h0),if_neg (Λ h1)] at hk;have del:(k=2\/k=3\/k=4)->∀ (w:World) (Y:List Own),Ctx W w ((Ξ L G++S)++Y) Φ->Γ F.Ep #[ε L.gb 0,.int .i64 i] w λe w'=>∃ n,e=.returned (.int .i64 n)/\∃ R' η,O η/\Ctx W w' (R'++Y) η/\∀ (w3:World) (R:List Own),Ctx W w3 (R'++R) η->K (.returned (.tuple #[.int .i64 0,.int .i64 n])) w3:=λh2 w Y y=>by
  rw [if_pos h2] at hk;rw [μ] at y;exact a0z iw.off iw.num hF h.rN (λp hp=>h.pkt Ev hD hp) y λL' w hgb hg y=>⟨_,rfl,Ξ L' (me G i).1++S,Φ,δ,by rw [μ];exact y,λw Y y=>hk L' Φ w hgb δ (λ_ _ h=>h) (hg Φ hF) y.left⟩
 refine γ.intro (λh2=>γ.intro (λ_=>del (.inl (aN h2))) (λh=>absurd (aN h2) (Λ h))) (λh2=>γ.intro (λh3=>γ.intro (λ_=>del (.inr (.inl (aN h3)))) (λh=>absurd (aN h3) (Λ h))) (λh3=>γ.intro (λh4=>del (.inr (.inr (aN h4)))) (λh4=>?_)));have n2:¬ (k=2\/k=3\/k=4):=by
  have:=Λ h2;have:=Λ h3;have:=Λ h4;omega
 rw [if_neg n2] at hk;refine γ.intro (λh5=>λw Y y=>?_) (λh5=>γ.intro (λh6=>λw Y y=>?_) (λh6=>γ.intro (λh7=>λw Y y=>?_) (λh7=>γ.intro (λh8=>λw Y y=>?_) (λh8=>γ.intro (λh9=>λw Y y=>?_) (λh9=>γ.intro (λh10=>λw Y y=>?_) (λh10=>γ.intro (λh11=>λw Y y=>?_) (λh11=>γ.intro (λh12=>λw Y y=>?_) (λh12=>?_))))))))
 .rw [if_pos (aN h5)] at hk;rw [μ] at y;exact aEr hF y λw hg y=>⟨_,rfl,Ξ L (qa G i).1++S,Φ,δ,by rw [μ];exact y,λw Y y=>hk L Φ w rfl δ (λ_ _ h=>h) (hg Φ hF) y.left⟩
 .rw [if_neg (Λ h5),if_pos (aN h6)] at hk;rw [μ] at y;exact aEq hF y λL' w hgb hg y=>⟨_,rfl,Ξ L' (qZ G i).1++S,Φ,δ,by rw [μ];exact y,λw Y y=>hk L' Φ w hgb δ (λ_ _ h=>h) (hg Φ hF) y.left⟩
 .rw [if_neg (Λ h5),if_neg (Λ h6),if_pos (aN h7)] at hk;rw [μ] at y;exact aEt y λw hg y=>⟨rfl,Ξ L (J5 G o.n)++S,Φ,δ,by rw [μ];exact y,λw Y y=>hk L Φ w rfl δ (λ_ _ h=>h) (hg Φ hF) y.left⟩
 .rw [if_neg (Λ h5),if_neg (Λ h6),if_neg (Λ h7),if_pos (aN h8)] at hk;rw [μ] at y;exact a10 y λw hg y=>⟨rfl,Ξ L (mj G)++S,Φ,δ,by rw [μ];exact y,λw Y y=>hk L Φ w rfl δ (λ_ _ h=>h) (hg Φ hF) y.left⟩
 .rw [if_neg (Λ h5),if_neg (Λ h6),if_neg (Λ h7),if_neg (Λ h8),if_pos (aN h9)] at hk;rw [μ] at y;exact aEo hF h.rN a5R bp y λL' Ψ w hgb hst hw hg y=>⟨_,rfl,Ξ L' (uV G o.id o.keep).1++S,Ψ,hst,by rw [μ];exact y,λw Y y=>by haveI:=hst;exact hk L' Ψ w hgb hst hw hg y.left⟩
 .rw [if_neg (Λ h5),if_neg (Λ h6),if_neg (Λ h7),if_neg (Λ h8),if_neg (Λ h9),if_pos (aN h10)] at hk;rw [μ] at y;exact a16 iw.off iw.num hF h.rN (λi hi=>h.aAN hi) y λL' Ψ w hgb hst hw hg y=>⟨_,rfl,Ξ L' (nQ G o.id).1++S,Ψ,hst,by rw [μ];exact y,λw Y y=>by haveI:=hst;exact hk L' Ψ w hgb hst hw hg y.left⟩
 .rw [if_neg (Λ h5),if_neg (Λ h6),if_neg (Λ h7),if_neg (Λ h8),if_neg (Λ h9),if_neg (Λ h10),if_pos (aN h11)] at hk;rw [μ] at y;exact a11 hF h.rN ho.n y λL' Ψ w hgb hst hw hg y=>⟨_,rfl,Ξ L' (j0 G o.id o.n).1++S,Ψ,hst,by rw [μ];exact y,λw Y y=>by haveI:=hst;exact hk L' Ψ w hgb hst hw hg y.left⟩
 .rw [if_neg (Λ h5),if_neg (Λ h6),if_neg (Λ h7),if_neg (Λ h8),if_neg (Λ h9),if_neg (Λ h10),if_neg (Λ h11),if_pos (aN h12)] at hk;rw [μ] at y;exact a0x hF h.rN ho.n a5R bp y λL' Ψ w hgb hst hw hg y=>⟨_,rfl,Ξ L' (qU G o.id o.n o.keep).1++S,Ψ,hst,by rw [μ];exact y,λw Y y=>by haveI:=hst;exact hk L' Ψ w hgb hst hw hg y.left⟩
 .rw [if_neg (Λ h5),if_neg (Λ h6),if_neg (Λ h7),if_neg (Λ h8),if_neg (Λ h9),if_neg (Λ h10),if_neg (Λ h11),if_neg (Λ h12)] at hk;refine ⟨[],lE,δ,λw Y y=>dS y (List.nil_sublist _),λw Y y=>(X1 (by unfold κ;omega)).use y λw y=>⟨_,rfl,Ξ L G++S,Φ,δ,y,λw Y y=>dS y (List.nil_sublist _),λw Y y=>?_⟩⟩;have hp:=a8l (n:=o.n) (m:=100) (by decide);rw [μ] at y;exact h.sets Ev hD iw hF (by unfold κ;omega) y λL' w hgb hg y=>⟨_,rfl,Ξ L' (eJ G o.id (iA o.n 100)).1++S,Φ,δ,by rw [μ];exact y,λw Y y=>hk L' Φ w hgb δ (λ_ _ h=>h) hg y.left⟩
end
section
variable {r:aG}{m:aH}
theorem aRJ(hm:m.eO r.id)(hk:m.kind=0)(ht:r.term<m.term)(hf:HK r.log m=true):(aU r m).1={ jr r m with ρ:=m.src }/\(aU r m).2.send=[⟨1,r.id,m.src,m.term,0,0,0,true,[]⟩]:=by
 obtain ⟨e1,e2⟩:=Hg hm;rw [e1,e2,He hk,SC ht];have hc:(decide (m.term=(jr r m).term)&&(decide ((jr r m).ρ = -1)||decide ((jr r m).ρ=m.src))&&C6 (jr r m) m)=true:=by
  rw [aJd];have bI:HK (jr r m).log m=true:=hf;have bL:(jr r m).term=m.term:=rfl;have bz:(jr r m).ρ = -1:=rfl;rw [bI,bL,bz];simp
 unfold cV;rw [if_pos hc];exact ⟨rfl,rfl⟩
end
theorem aNI{D}:∃ P,cl 0 0 D iU P/\(∀ j,P.r j=fR j 0 (-1) [])/\P.fl=[]/\P.sp=0:=by
 obtain ⟨P,f1,f2,f3⟩:=bG.iu (D:=D) Uv (λi _=>by
  obtain ⟨u,h1,_⟩:=Cc i;exact ⟨u,h1⟩) (λi _=>(Cc i).choose_spec.2.2.2)
 refine ⟨P,f1,λj=>f2 j,?_,f3⟩;have:=f1.aD;have h:P.fl.map vG=[]:=this.symm;exact List.map_eq_nil_iff.1 h
section
variable {sp:Int}{a o c:Nat}
end
def Xt:cR:=⟨λj=>fR j 0 (-1) [],[],0,[]⟩
abbrev ew:ByteArray:=ByteArray.mk #[97]
abbrev aA1:ByteArray:=ByteArray.mk #[98]
def Aw:cR × Nat:=gD Xt 1 99
def a8j:cR:=tf Aw.1 1 ew
def Ax:cR × Nat:=gD a8j 1 99
theorem a8k:Aw.2=8/\(Aw.1.r 1).role=2/\(Aw.1.r 0).term=1/\(aq (Aw.1.r 1) ew).2.1=1/\(aq (Aw.1.r 1) ew).2.2.1=0/\Ax.2=8/\(Ax.1.r 0).role≠2/\Ax.1.aQ.length=1/\(Ax.1.aQ.map ByteArray.size)=[1]/\(Ax.1.aQ.map λs=>s.data.toList)=[[97]]:=by decide +kernel
theorem aOC{D}:cl 0 0 D iU Xt:=by
 obtain ⟨P,f,h1,h2,h3⟩:=aNI (D:=D);have hc:=f.aQ;obtain ⟨r,fl,sp,aQ⟩:=P;have h2:fl=[]:=h2;have h3:sp=0:=h3;have hc:[]=aQ:=hc;have h1:r=λj=>fR j 0 (-1) []:=funext h1;rw [h1,h2,h3,<-hc] at f;exact f
theorem aOD:Ax.1.aQ=[ew]:=by
 have h:=a8k.2.2.2.2.2.2.2.2.2;generalize Ax.1.aQ=l at h;cases l with
 | nil=>cases h
 | cons a l =>
  cases l with
  | nil =>
   simp only [List.map_cons,List.map_nil,List.cons.injEq,and_true] at h;have:a=ew:=ByteArray.ext (Array.toList_inj.1 h);rw [this]
  | cons b l=>simp at h
theorem aOR{G:aa}{i}(hi:i<3){u}(hu:(G.mem i).up=some u)(hr:u.r.role≠2)(data):iL G i data=(G,0,24):=by
 unfold iL;rw [if_neg (by omega),jo,hu];simp only;rw [yx hr,if_pos (show (24:Int)≠0 by decide)]
section
variable {W w:World}{S:List Own}{Φ:θ}{L:gQ}{G:aa}{N D:Nat}{B:Int}{P:cR}
theorem cl.sy(h:cl N B D G P):∃ C g A,bG N B D G C g A:=by
 obtain ⟨C,g,A,h,_⟩:=h;exact ⟨C,g,A,h⟩
theorem aQ6[O Φ](iw:oo Φ):fL Φ prog F.Uj #[] (.bool true):=by
 obtain ⟨e1,e2,bI,bL,bz,eX,iT,_,_,_⟩:=a8k;have f0:cl 0 0 1 iU Xt:=aOC;obtain ⟨OS,g0,OP,h0⟩:=f0.sy;obtain ⟨f1,c1⟩:=f0.settle (i:=1) (by decide) (by decide) 99;have f1:cl 0 1 1 (eJ iU 1 99).1 Aw.1:=f1;obtain ⟨y9,g1,zT,h1⟩:=f1.sy;obtain ⟨f2,c2⟩:=f1.A' (i:=1) (data:=ew) (by decide) (by decide) (by decide) bz;have f2:cl 1 1 1 (iL (eJ iU 1 99).1 1 ew).1 a8j:=f2;obtain ⟨GO,g2,zU,h2⟩:=f2.sy;obtain ⟨f3,c3⟩:=f2.settle (i:=1) (by decide) (by decide) 99
 have f3:cl 1 2 1 (eJ (iL (eJ iU 1 99).1 1 ew).1 1 99).1 Ax.1:=f3;obtain ⟨OT,g3,OQ,h3⟩:=f3.sy;have n1:((eJ iU 1 99).2:Int)=8:=by
  have:(eJ iU 1 99).2=Aw.2:=c1;rw [this,e1];rfl
 have cN:((eJ (iL (eJ iU 1 99).1 1 ew).1 1 99).2:Int)=8:=by
  have:(eJ (iL (eJ iU 1 99).1 1 ew).1 1 99).2=Ax.2:=c3;rw [this,eX];rfl
 have r1:D8 (eJ iU 1 99).1 1=2:=by
  have:=(f1.role (i:=1) (by decide)).1;exact this.trans e2
 have t1:DG (eJ iU 1 99).1 0=1:=by
  have:=(f1.role (i:=0) (by decide)).2.1;exact this.trans bI
 have p1:(iL (eJ iU 1 99).1 1 ew).2=(1,0):=by
  have c2:(iL (eJ iU 1 99).1 1 ew).2=((aq (Aw.1.r 1) ew).2.1,0):=c2;rw [c2,bL]
 have bR:iL (eJ (iL (eJ iU 1 99).1 1 ew).1 1 99).1 0 aA1=((eJ (iL (eJ iU 1 99).1 1 ew).1 1 99).1,0,24):=by
  obtain ⟨u,hu,hr,_⟩:=f3.Za (i:=0) (by decide);exact aOR (i:=0) (by decide) hu (by rw [hr];exact iT) aA1
 have b8:(eJ (iL (eJ iU 1 99).1 1 ew).1 1 99).1.aQ=[ew]:=by rw [f3.aQ,aOD]
 refine rW aFF λW R=>λw Y y=>?_;refine a13 (S:=R++Y) iw.off iw.num y λL0 Ψ w hst hw hF y=>?_
 haveI:=hst
 have wz:oo Ψ:=iw.weak hw;refine ⟨_,rfl,Ξ L0 iU++R,Ψ,hst,by rw [μ];exact y,γ.intro (λh=>by cases h) (λ_=>λw Y y=>?_)⟩;rw [μ] at y;refine h0.sets (by decide) (by decide) wz hF (by unfold κ;decide) y λaz w VV tD y=>⟨_,rfl,Ξ az (eJ iU 1 99).1++R,Ψ,hst,by rw [μ];exact y,λw Y y=>?_⟩;rw [n1,<-VV];rw [μ] at y;generalize eJ iU 1 99=s1 at *;refine a15 y λw y=>⟨_,rfl,Ξ az s1.1++R,Ψ,hst,by rw [μ];exact y,γ.intro (λ_=>λw Y y=>?_) (λh=>absurd r1 (Λ h))⟩
 rw [μ] at y;refine aEw y λw y=>⟨_,rfl,Ξ az s1.1++R,Ψ,hst,by rw [μ];exact y,λw Y y=>?_⟩;rw [t1];rw [μ] at y;refine OY wz.off wz.tab tD h1.rN (λu hid hu=>h1.S8 (by decide) (by decide) hid hu) (λu hne=>RU hne) y λoq w F0 hg y=>⟨_,_,rfl,Ξ oq (iL s1.1 1 ew).1++R,Ψ,hst,by rw [μ];exact y,λw Y y=>?_⟩;rw [p1,<-F0];have A8:=hg Ψ tD;rw [μ] at y;generalize iL s1.1 1 ew=s2 at *;refine h2.sets (by decide) (by decide) wz A8 (by unfold κ;decide) y λuG w Ls tE y=>⟨_,rfl,Ξ uG (eJ s2.1 1 99).1++R,Ψ,hst,by rw [μ];exact y,λw Y y=>?_⟩
 rw [cN,<-Ls];rw [μ] at y;generalize eJ s2.1 1 99=en at *;refine OY wz.off wz.tab tE h3.rN (λu hid hu=>h3.S8 (by decide) (by decide) hid hu) (λu hne=>RU hne) y λGa w VW hg y=>?_;rw [bR] at hg y ⊢;have a4p:=hg Ψ tE;refine ⟨_,_,rfl,Ξ Ga en.1++R,Ψ,hst,by rw [μ];exact y,?_⟩;refine γ.intro (λ_=>γ.intro (λ_=>γ.intro (λ_=>γ.intro (λ_=>γ.intro (λ_=>γ.intro (λ_=>λw Y y=>?_) (λh=>absurd rfl (Λ h))) (λh=>absurd rfl (Λ h))) (λh=>absurd rfl (Λ h))) (λh=>absurd rfl (Λ h))) (λh=>absurd rfl (Λ h))) (λh=>absurd rfl (Λ h))
 rw [μ,<-VW] at *;refine a0y (λs hs=>by rw [b8] at hs;rw [List.mem_singleton.1 hs];decide) (by rw [b8];decide) y λp c w hc y=>?_;rw [b8] at hc y ⊢;refine ⟨_,_,_,rfl,Ξ Ga en.1++R,_,vv Ψ (λM w=>Δ M w p [ew]),by rw [μ];exact y,λk w Y y=>?_⟩;obtain ⟨ep,hs⟩:=Ctx.LJ (α:=ByteArray) (l:=[ew]) y (L6 (l:=[ew]) λx hx=>by rw [List.mem_singleton.1 hx];decide);have lQ:=ep.add (Ψ:=λM w=>Δ M w (some ⟨k,0,none⟩) [ew]) hs
 have hsame:fL (λM w=>(Ψ M w/\Δ M w p [ew])/\Δ M w (some ⟨k,0,none⟩) [ew]) prog F.Pq #[.slice p 1 c,.slice (some ⟨k,0,none⟩) 1 1] (.bool (decide ([ew]=[ew]))):=aGD (a:=[ew]) (b:=[ew]) (λM w h=>h.1.2) (λM w h=>h.2) (by decide);refine hsame.use lQ λw y=>⟨_,rfl,Ξ Ga en.1++R,_,δ,y,λw Y y=>⟨?_,?_⟩⟩
 .rw [decide_eq_true rfl]
 .exact (Ctx.right (S:=Ξ Ga en.1) y.left).weak λM w h=>hw M w h.1.1
end
section
variable {W w:World}{S R Y:List Own}{Φ:θ}
set_option maxHeartbeats 1000000 in
theorem aNu[O Φ](iw:oo Φ){lp}{l:List ot}{b o cs}(AK:0<l.length->lp=some ⟨b,o,none⟩)(CK:∀ M w,Φ M w->rH b o cs l M w)(CG:∀ x∈l,x.data.size<=50/\x.keep.length<=20)(vr:l.length<=60){L0}{Ψ:θ}[O Ψ](hw0:∀ M w,Ψ M w->Φ M w)(Le:bf Ψ L0 iU){a25:List Own->θ->Prop}(hk:∀ (L:gQ) (G:aa) (C:cJ) (g:fK) (A:Int->Nat->Nat) (η:θ),O η->L.gb=L0.gb->(∀ M w,η M w->Φ M w)->bf η L G->bG l.length l.length 50 G C g A->e3 G->dR G<=3*l.length->a25 (Ξ L G++R) η):
  eE λ(Sz:Int->List Own->θ->Nat->Prop)=>(∃ (dJ:List Own),∃ (eo:θ),∃ (AY:Nat),O eo/\(∀ (nR:World) (jf:List Own),Ctx W nR ((Ξ L0 iU++R)++jf) Ψ->Ctx W nR (dJ++jf) eo)/\Sz 0 dJ eo AY)/\∀ (k7:Int) (lq:List Own)
   (Jl:List Nat->World->Prop) (nr:Nat),O Jl->Sz k7 lq Jl nr->γ (decide (k7<((l.length:Nat):Int))) ((0<=k7/\k7<((l.length:Nat):Int))/\k9 none lp λ(ry qn:Nat)=>∀ (BK:World) (wR:List Own),Ctx W BK (lq++wR) Jl->∃ (Al:Int),∃ (Am:Int),∃ (ym:Int),∃ (Iw:ByteArray),∃ (yu:Option Addr),∃ (Aa:Nat),∃ (tO:Nat),bS BK ry
    (qn+k7.toNat*5) [Value.int IntKind.i64 Al,Value.int IntKind.i64 Am,Value.int IntKind.i64 ym,Value.string Iw,Value.slice yu Aa tO]/\∀ (wH:World) (lN:List Own),Ctx W
    wH (lq++lN) Jl->Γ F.Pp #[Value.pointer (some ⟨L0.gb,0,none⟩),Value.agg #[Value.int IntKind.i64 Al,Value.int IntKind.i64 Am,Value.int IntKind.i64 ym,Value.string Iw,
    Value.slice yu Aa tO]] wH λ(UL:Ending) (tw:World)=>∃ (X5:Int),∃ (v8:Int),UL=Ending.returned (Value.tuple #[Value.int IntKind.i64 X5,Value.int IntKind.i64 v8]) /\
    ∃ (jQ:List Own),∃ (mU:θ),O mU/\Ctx W tw (jQ++lN) mU/\κ (k7+1)/\∃ (kO:List Own),∃ (iP:θ),∃ (Qt:Nat),O iP/\(∀ (pS:World) (oz:List Own),
    Ctx W pS (jQ++oz) mU->Ctx W pS (kO++oz) iP)/\Sz (k7+1) kO iP Qt/\Qt<nr) (a25 lq Jl):=by
 refine fD (λfH R' η bY=>∃ (i:Nat) (L:gQ) (G:aa) (C:cJ) (g:fK) (A:Int->Nat->Nat),fH=i/\i<=l.length/\bY=l.length - i/\R'=Ξ L G++R/\L.gb=L0.gb/\(∀ M w,η M w->Φ M w)/\bf η L G/\bG i i 50 G C g A/\e3 G/\dR G<=3*i)
  ⟨⟨_,Ψ,_,δ,λw Y y=>y,0,L0,iU,EW,LL,_,rfl,Nat.zero_le _,rfl,rfl,rfl,hw0,Le,Uv,aNd,by rw [aH6];exact Nat.zero_le _⟩,?_⟩
 clear hw0 Le;rintro fH aW ψ bY uq ⟨i,L,G,C,g,A,rfl,hi,rfl,rfl,hgb,hw1,tD,HU,q3,a5C⟩
 haveI:=uq
 have wz:oo ψ:=iw.weak hw1;refine γ.intro (λhlt=>?_) (λhge=>?_)
 rotate_left 1
 .have e:i=l.length:=by have:=Λ hge;omega
  subst e;exact hk L G C g A ψ uq hgb hw1 tD HU q3 a5C
 have hlt:i<l.length:=by have:=aN hlt;omega
 have AK:=AK (by omega);refine ⟨⟨by omega,by omega⟩,eu b o AK λw Y y=>?_⟩;obtain ⟨p1,c1,he,hok,_⟩:=a7m (CK _ _ (hw1 _ _ y.cy)) hlt;have row:=a7n (CK _ _ (hw1 _ _ y.cy)) hlt he;have hbd:=CG _ (List.getElem_mem hlt);refine ⟨_,_,_,_,_,_,_,by rw [Int.toNat_natCast];exact row,λw Y y=>?_⟩;have cH:(i+1)*(50+90)<=1048576:=by omega
 obtain ⟨bC,g',bK,a4s,_,s,aKA⟩:=HU.op cH l[i] (by exact hbd.1);rw [<-hgb];rw [μ] at y;refine aEl wz tD HU cH (by decide) hok hbd.1 (by omega) (λM w h=>aNq (CK M w (hw1 M w h)) hlt he) y λoq dF w F0 q4 dw A8 y=>?_;have a5Z:=q3.op l[i];have aK7:=aNf (G:=G) l[i];generalize (vD G l[i]).2=rs;generalize (vD G l[i]).1=G' at a4s aKA A8 y a5Z aK7;refine ⟨_,_,rfl,Ξ oq G'++R,dF,q4,by rw [μ];exact y,by unfold κ;omega,_,dF,_,q4,λw Y y=>y,⟨i+1,oq,G',bC,g',bK,by omega,hlt,rfl,rfl,F0,λM w h=>hw1 M w (dw M w h),A8,?_,a5Z,by omega⟩,by omega⟩
 have e:((i:Int)+1)=((i+1:Nat):Int):=by omega
 rw [<-e];exact a4s
end
section
variable {r r':aG}{m:aH}{s:List aH}
theorem fW.ge(h:fW r m r' s):m.term<=r'.term:=by
 have t7:=BG r m;have ha:=wZ (cB r m);cases h with
 | ρ v U _=>show _<=(af r m).term;omega
 | mute vs _=>show _<=(af r m).term;omega
 | lead _ _ h=>show _<=r.term;omega
 | old _ _=>omega
 | deaf _ _ _=>omega
 | pE _ _ _ _=>show _<=(af r m).term;omega
 | done _ _ _ _ _ _=>show _<=(af r m).term;omega
 | mZ r2 _ _ _ _ _ h=>omega
 | back _ _ h _=>show _<=r.term;omega
 | fwd s _ _ h _ _ _=>rw [(wY (cB r m)).2.2.2.2.2.1];show _<=r.term;omega
theorem fW.kd(h:fW r m r' s):∀ a∈s,a.kind≠0/\(a.kind=1->m.kind=0/\a.to=m.src):=by
 have one:∀ {a:aH},(a.kind≠0/\(a.kind=1->m.kind=0/\a.to=m.src))->∀ b∈[a],b.kind≠0/\(b.kind=1->m.kind=0/\b.to=m.src):=λe b hb=>by rw [List.mem_singleton.1 hb];exact e
 have HC:∀ (q:aG) (k:Nat),(entriesOf q k).kind≠0/\((entriesOf q k).kind=1->m.kind=0/\(entriesOf q k).to=m.src):=λq k=>⟨by show (2:Int)≠0;decide,λh=>by cases h⟩;cases h with
 | ρ v U h=>exact one ⟨by show (1:Int)≠0;decide,λ_=>⟨h,rfl⟩⟩
 | lead _ _ _ =>
  intro a ha;unfold bT at ha;obtain ⟨k,_,rfl⟩:=List.mem_map.1 ha;exact HC _ k
 | mute vs _=>intro a ha;cases ha
 | deaf _ _ _=>intro a ha;cases ha
 | done _ _ _ _ _ _=>intro a ha;cases ha
 | old _ _=>exact one ⟨by show (3:Int)≠0;decide,λh=>by cases h⟩
 | pE _ _ _ _=>exact one ⟨by show (3:Int)≠0;decide,λh=>by cases h⟩
 | mZ r2 _ _ _ _ _ _=>exact one ⟨by show (3:Int)≠0;decide,λh=>by cases h⟩
 | back _ _ _ _=>exact one (HC _ _)
 | fwd s _ _ _ _ _ hs =>
  rcases hs with ⟨_,rfl⟩|⟨_,rfl⟩
  .exact one (HC _ _)
  .intro a ha;cases ha
theorem fW.asked(h:fW r m r' s)(h0:m.kind=0):∃ v U,r'={ af r m with ρ:=v }/\s=[⟨1,(af r m).id,m.src,(af r m).term,0,0,0,U,[]⟩]:=by
 cases h with
 | ρ v U _=>exact ⟨v,U,rfl,rfl⟩
 | mute vs h=>rcases h with h|⟨h,_⟩<;>omega
 | lead h _ _=>omega
 | old h _=>omega
 | deaf h _ _=>omega
 | pE h _ _ _=>omega
 | done h _ _ _ _ _=>omega
 | mZ r2 h _ _ _ _ _=>omega
 | back h _ _ _=>omega
 | fwd s h _ _ _ _ _=>omega
theorem fW.A5(h:fW r m r' s)(h1:m.kind≠1)(h2:r.role≠2):r'.role≠2/\∀ a∈s,a.to=m.src:=by
 have one:∀ {a:aH} {t:Int},a.to=t->∀ b∈[a],b.to=t:=fun {a t} e b hb=>by rw [List.mem_singleton.1 hb,e]
 have S7:(af r m).role≠2:=by
  rcases SB r m with h|h
  .omega
  .rw [h.1];exact h2
 cases h with
 | ρ v U _=>exact ⟨S7,one rfl⟩
 | mute vs _=>exact ⟨S7,λa ha=>by cases ha⟩
 | lead h _ _=>exact absurd h h1
 | old _ _=>exact ⟨h2,one rfl⟩
 | deaf _ h _=>exact absurd h h2
 | pE _ _ _ _=>exact ⟨by show (0:Int)≠2;decide,one rfl⟩
 | done _ _ _ _ _ _=>exact ⟨by show (0:Int)≠2;decide,λa ha=>by cases ha⟩
 | mZ r2 _ _ _ _ h _=>exact ⟨by omega,one rfl⟩
 | back _ h _ _=>exact absurd h h2
 | fwd s _ h _ _ _ _=>exact absurd h h2
end
def a1L(i k:Nat)(P:cR)(fl:List aH):Prop:=(P.r k).term<=(P.r i).term\/(∃ m∈fl,m.kind=0/\m.eO k)\/∃ m∈fl,m.eO i/\(P.r k).term<=m.term
structure RK(i:Nat)(M:Int)(P:cR):Prop where
 ms:∀ m∈P.fl,(m.kind=0->m.src=i)/\(m.kind=1->m.to=i)/\(m.to=(i:Int)\/m.src=i)
 nl:∀ k,k<3->k≠i->(P.r k).role≠2
 to:EB P P.fl
 tb:∀ k,k<3->(P.r k).term<=M
 Ww:∀ m∈P.fl,m.term<=M
 hY:∀ k,k<3->k≠i->a1L i k P P.fl
def uI(k:Nat)(T:Int)(P:cR):Prop:=T<=(P.r k).term\/∃ m∈P.fl,m.kind=0/\m.eO k/\m.term=T
section
variable {i j:Nat}{M T:Int}{P P':cR}{m:aH}{rest:List aH}
theorem vk{p:aH->Prop}{send}(h:∃ x∈m :: rest,p x)(hn:¬ p m):∃ x∈rest++send,p x:=by
 obtain ⟨x,hx,hp⟩:=h;rcases List.mem_cons.1 hx with rfl|hx
 .exact absurd hp hn
 .exact ⟨x,List.mem_append_left _ hx,hp⟩
theorem lM.sF(ha:lM P m rest j P'):P'.r j=(aU (P.r j) m).1:=by rw [ha.r,cF]
theorem lM.rk(ha:lM P m rest j P'){k}(h:k≠j):P'.r k=P.r k:=by rw [ha.r,dD _ _ h]
theorem uI.step{k}(h:uI k T P)(he:P.fl=m :: rest)(ha:lM P m rest j P'):uI k T P':=by
 rcases h with h|h
 .exact .inl (Int.le_trans h (ha.up k))
 .rw [he] at h;by_cases hm:m.kind=0/\m.eO k/\m.term=T
  .have tI:j=k:=by have:=ha.to;have:=hm.2.1.to;omega
   subst tI;rcases ha.out with ⟨hk,_⟩|⟨_,_,hn⟩
   .refine .inl ?_;rw [ha.sF,<-hm.2.2];exact hk.ge
   .exact absurd hm.2.1 hn
  .refine .inr ?_;rw [ha.fl];exact vk h hm
theorem RK.step(hi:i<3)(h:RK i M P)(he:P.fl=m :: rest)(ha:lM P m rest j P'):RK i M P':=by
 have hm0:m∈P.fl:=by rw [he];simp
 obtain ⟨m1,m2,m3⟩:=h.ms m hm0;have aT3:=ha.to;have nq:∀ x∈rest,x∈P.fl:=λx hx=>by rw [he];exact List.mem_cons_of_mem _ hx
 have gA:=ha.up;have aLN:j≠i->m.src=i:=λe=>by rcases m3 with h|h<;>omega
 have snd:∀ x∈(aU (P.r j) m).2.send,(x.kind=0->x.src=i)/\(x.kind=1->x.to=i)/\(x.to=(i:Int)\/x.src=i):=λx hx=>by
  obtain ⟨s1,_⟩:=ha.NZ x hx;rcases ha.out with ⟨hk,hr⟩|⟨_,e2,_⟩
  .obtain ⟨q1,bP⟩:=hk.kd x hx;by_cases e:j=i
   .subst e;exact ⟨λh=>absurd h q1,λh=>absurd (m1 (bP h).1) hr.src.1,.inr s1⟩
   .have hkm:m.kind≠1:=λh=>by have:=m2 h;omega
    have hto:=(hk.A5 hkm (h.nl j ha.hj e)).2 x hx;have hsi:m.src=i:=by rcases m3 with h|h<;>omega
    exact ⟨λh=>absurd h q1,λ_=>by omega,.inl (by omega)⟩
  .rw [e2] at hx;cases hx
 have rj:=h.Ww m hm0;have yg:(P'.r j).term<=M:=by
  rw [ha.sF];have:=h.tb j ha.hj;rcases ha.out with ⟨hk,_⟩|⟨e1,_,_⟩
  .have:=hk.term.2;omega
  .rw [e1];exact this
 refine ⟨λx hx=>?_,λk hk hki=>?_,?_,λk hk=>?_,λx hx=>?_,λk hk hki=>?_⟩
 .rw [ha.fl] at hx;rcases List.mem_append.1 hx with hx|hx
  .exact h.ms x (nq x hx)
  .exact snd x hx
 .by_cases e:k=j
  .subst e;rw [ha.sF];rcases ha.out with ⟨hk,hr⟩|⟨e1,_,_⟩
   .exact (hk.A5 (λh=>by have:=m2 h;omega) (h.nl k ha.hj hki)).1
   .rw [e1];exact h.nl k ha.hj hki
  .rw [ha.rk e];exact h.nl k hk hki
 .rw [ha.fl];exact EB.more (l:=rest) (λx hx=>h.to x (nq x hx)) ha
 .by_cases e:k=j
  .subst e;exact yg
  .rw [ha.rk e];exact h.tb k hk
 .rw [ha.fl] at hx;rcases List.mem_append.1 hx with hx|hx
  .exact h.Ww x (nq x hx)
  .rw [(ha.NZ x hx).2];exact yg
 .have hY:=h.hY k hk hki;rw [he] at hY;have ti:=gA i;rw [ha.fl];unfold a1L;by_cases a47:k=j
  .subst a47;have Ua:P'.r i=P.r i:=ha.rk (Ne.symm hki);have a7W:¬ m.eO i:=λq=>by have:=q.to;omega
   rcases ha.out with ⟨hkk,hr⟩|⟨e1,_,hn⟩
   .by_cases h0:m.kind=0
    ·-- the answer
     obtain ⟨v,U,x1,x2⟩:=hkk.asked h0;rw [ha.sF,x1,x2];have hid:(af (P.r k) m).id=k:=by rw [(wG (P.r k) m).1];exact ha.id
     have tt:=BG (P.r k) m;have Vw:=hr.term;have a5h:=ha.wf.ok.gf;rw [m1 h0,hid];exact .inr (.inr ⟨_,List.mem_append_right _ (List.mem_singleton.2 rfl),ES (id:=k) (to:=i) (kind:=1) hk hi hki (by decide) (by omega) (by omega) (by decide) (by decide) U,Int.le_refl _⟩)
    .have hsi:m.src=i:=aLN hki;have hto:=h.to m hm0;rw [hsi,jo] at hto;have aLP:=hkk.term;rw [<-ha.sF] at aLP;by_cases hgt:(P'.r k).term<=(P'.r i).term
     .exact .inl hgt
     .have A0:(P'.r k).term=(P.r k).term:=by rw [Ua] at hgt;omega
      rw [A0,Ua];rcases hY with o|o|o
      .exact .inl o
      .exact .inr (.inl (vk o λq=>h0 q.1))
      .exact .inr (.inr (vk o λq=>a7W q.1))
   .have A0:P'.r k=P.r k:=by rw [ha.sF,e1]
    rw [A0,Ua];rcases hY with o|o|o
    .exact .inl o
    .exact .inr (.inl (vk o λq=>hn q.2))
    .exact .inr (.inr (vk o λq=>a7W q.1))
  .rw [ha.rk a47];have aNP:¬ m.eO k:=λq=>by have:=q.to;omega
   by_cases hw:m.eO i/\(P.r k).term<=m.term
   .have aJ8:j=i:=by have:=hw.1.to;omega
    subst aJ8;rcases ha.out with ⟨hkk,_⟩|⟨_,_,hn⟩
    .refine .inl ?_;rw [ha.sF];have:=hkk.ge;omega
    .exact absurd hw.1 hn
   .rcases hY with o|o|o
    .exact .inl (Int.le_trans o ti)
    .exact .inr (.inl (vk o λq=>aNP q.2))
    .exact .inr (.inr (vk o hw))
structure Jg(i j:Nat)(T:Int)(L:Nat->List aS)(P:cR):Prop where
 tm:(P.r i).term=T
 b5:(P.r i).role=2\/((P.r i).role=1/\(P.r i).bh i=true/\(∀ k,k<3->(P.r k).log=L k)/\(∀ m∈P.fl,m.kind=0\/m.kind=1) /\
  (GN (L i) (L j)->(∀ m∈P.fl,m.kind=0->m.eO j->m.term=T/\HK (L j) m=true)/\(((P.r j).term<T/\∃ m∈P.fl,m.kind=0/\m.eO j)\/∃ m∈P.fl,m.kind=1/\m.src=j/\m.eO i/\m.term=T/\m.yes=true)))
theorem Jg.step{L}(hi:i<3)(ri:j<3)(hji:j≠i){n}(hR:RK i T P)(h:Jg i j T L P)(he:P.fl=m :: rest)(ha:lM P m rest n P'):Jg i j T L P':=by
 have hm0:m∈P.fl:=by rw [he];simp
 obtain ⟨m1,m2,m3⟩:=hR.ms m hm0;have hnt:=ha.to;have rj:=hR.Ww m hm0;have pG:=h.tm;have aLR:(P'.r i).term=T:=by
  by_cases e:i=n
  .subst e;rw [ha.sF];rcases ha.out with ⟨hk,_⟩|⟨e1,_,_⟩
   .have:=hk.term;omega
   .rw [e1];exact pG
  .rw [ha.rk e];exact pG
 refine ⟨aLR,?_⟩;rcases h.b5 with h2|⟨h1,hv,hl,Lu,hA⟩
 .refine .inl ?_;by_cases e:i=n
  .subst e;rw [ha.sF];rcases ha.out with ⟨hk,_⟩|⟨e1,_,_⟩
   .exact hk.MO h2 (by omega)
   .rw [e1];exact h2
  .rw [ha.rk e];exact h2
 have nq:∀ x∈rest,x∈P.fl:=λx hx=>by rw [he];exact List.mem_cons_of_mem _ hx
 rcases ha.out with ⟨hk,hr⟩|⟨e1,e2,hn⟩
 rotate_left 1
 ·-- nothing is heard
  have uo:∀ k,P'.r k=P.r k:=λk=>by
   by_cases e:k=n
   .subst e;rw [ha.sF,e1]
   .exact ha.rk e
  have Hi:P'.fl=rest:=by rw [ha.fl,e2,List.append_nil]
  refine .inr ⟨by rw [uo];exact h1,by rw [uo];exact hv,λk hk=>by rw [uo];exact hl k hk,λx hx=>Lu x (nq x (by rw [<-Hi];exact hx)),λAB=>?_⟩;obtain ⟨a1,a2⟩:=hA AB;rw [he] at a2;rw [Hi,uo];refine ⟨λx hx=>a1 x (nq x hx),?_⟩;have a7L:∀ q:Nat,m.eO q->False:=λq hq=>hn (by
   have:q=n:=by have:=hq.to;omega
   rw [<-this];exact hq)
  have kp:∀ {p:aH->Prop},(∃ x∈m :: rest,p x)->¬ p m->∃ x∈rest,p x:=λhx hp=>by
   have:=vk (send:=[]) hx hp
   rwa [List.append_nil] at this
  rcases a2 with ⟨b1,b2⟩|b
  .exact .inl ⟨b1,kp b2 λq=>a7L _ q.2⟩
  .exact .inr (kp b λq=>a7L _ q.2.2.1)
 by_cases hni:n=i
 .subst hni;have lS:m.kind=1:=by
   rcases Lu m hm0 with h|h
   .exact absurd (m1 h) hr.src.1
   .exact h
  have hx:aU (P.r n) m=aU (P.r n) m:=rfl;obtain ⟨e1,e2⟩:=Hg (r:=P.r n) (m:=m) (by rw [ha.id];exact hr);rw [Hf lS,JD (by omega)] at e1 e2;have pN:∀ k,k≠n->P'.r k=P.r k:=λk hk=>ha.rk hk;have fin:∀ q:aG,P'.r n=q->P'.fl=rest->q.role=1->q.bh n=true->q.log=(P.r n).log->¬ (m.src=j/\m.term=T/\m.yes=true)->(P'.r n).role=1/\(P'.r n).bh n=true/\(∀ k,k<3->(P'.r k).log=L k)/\(∀ m∈P'.fl,m.kind=0\/m.kind=1)/\(GN (L n) (L j)->(∀ m∈P'.fl,m.kind=0->m.eO j->m.term=T/\HK (L j) m=true)/\(((P'.r j).term<T/\∃ m∈P'.fl,m.kind=0/\m.eO j)\/∃ m∈P'.fl,m.kind=1/\m.src=j/\m.eO n/\m.term=T/\m.yes=true)):=λq hq hf h1 hv Vh hw=>by
   rw [hq,hf,pN j hji];refine ⟨h1,hv,λk fy=>?_,λx hx=>Lu x (nq x hx),λAB=>?_⟩
   .by_cases e:k=n
    .rw [e,hq,Vh];exact hl n hi
    .rw [pN k e];exact hl k fy
   .obtain ⟨a1,a2⟩:=hA AB;rw [he] at a2;refine ⟨λx hx=>a1 x (nq x hx),?_⟩;have kp:∀ {p:aH->Prop},(∃ x∈m :: rest,p x)->¬ p m->∃ x∈rest,p x:=λhx hp=>by
     have:=vk (send:=[]) hx hp
     rwa [List.append_nil] at this
    rcases a2 with ⟨b1,b2⟩|b
    .exact .inl ⟨b1,kp b2 λq=>by have:=q.1;omega⟩
    .exact .inr (kp b λq=>hw ⟨q.2.1,q.2.2.2.1,q.2.2.2.2⟩)
  by_cases hc:(decide ((P.r n).role≠1)||decide (m.term≠(P.r n).term) || !m.yes)=true
  .rw [DN hc] at e1 e2;have e2:(aU (P.r n) m).2.send=[]:=e2;refine .inr (fin (P.r n) (by rw [ha.sF,e1]) (by rw [ha.fl,e2,List.append_nil]) h1 hv rfl λq=>?_);rw [q.2.2,h1,q.2.1,pG] at hc;simp at hc
  have hc:(decide ((P.r n).role≠1)||decide (m.term≠(P.r n).term) || !m.yes)=false:=by simpa using hc
  by_cases h2:ni (fU (P.r n) m).bh<2
  .rw [DL hc h2] at e1 e2;have e2:(aU (P.r n) m).2.send=[]:=e2;have a5l:(fU (P.r n) m).bh n=true:=by
    show put (P.r n).bh m.src.toNat true n=true;by_cases e:n=m.src.toNat
    .rw [<-e,cF]
    .rw [dD _ _ e];exact hv
   refine .inr (fin (fU (P.r n) m) (by rw [ha.sF,e1]) (by rw [ha.fl,e2,List.append_nil]) h1 a5l rfl λq=>?_);refine absurd h2 (aHU hi ri (Ne.symm hji) a5l ?_);show put (P.r n).bh m.src.toNat true j=true;rw [q.1,jo,cF]
  .rw [DM hc h2] at e1;refine .inl ?_;rw [ha.sF,e1];rfl
 ·-- another one is asked
  have e9:m.kind=0:=by
   rcases Lu m hm0 with h|h
   .exact h
   .exact absurd (m2 h) (by omega)
  have hin:i≠n:=Ne.symm hni;obtain ⟨v,U,x1,x2⟩:∃ v U,(aU (P.r n) m).1={ af (P.r n) m with ρ:=v }/\(aU (P.r n) m).2.send=[⟨1,(af (P.r n) m).id,m.src,(af (P.r n) m).term,0,0,0,U,[]⟩]:=hk.asked e9;have tl:=(wG (P.r n) m).2.1;rw [ha.rk hin];refine .inr ⟨h1,hv,λk fy=>?_,λx hx=>?_,λAB=>?_⟩
  .by_cases e:k=n
   .subst e;rw [ha.sF,x1];exact tl.trans (hl k fy)
   .rw [ha.rk e];exact hl k fy
  .rw [ha.fl] at hx;rcases List.mem_append.1 hx with hx|hx
   .exact Lu x (nq x hx)
   .rw [x2] at hx;rw [List.mem_singleton.1 hx];exact .inr rfl
  .obtain ⟨a1,a2⟩:=hA AB;rw [he] at a2;rw [ha.fl];refine ⟨λx hx hx0 aLa=>?_,?_⟩
   .rcases List.mem_append.1 hx with hx|hx
    .exact a1 x (nq x hx) hx0 aLa
    .rw [x2] at hx;rw [List.mem_singleton.1 hx] at hx0;cases hx0
   by_cases e:j=n
   .subst e;rcases a2 with ⟨b1,b2⟩|b
    .obtain ⟨c1,c2⟩:=a1 m hm0 e9 hr;obtain ⟨Sc,z2⟩:=aRJ (r:=P.r j) (m:=m) (by rw [ha.id];exact hr) e9 (by omega) (by rw [hl j ri];exact c2);refine .inr ⟨⟨1,(P.r j).id,m.src,m.term,0,0,0,true,[]⟩,List.mem_append_right _ (by rw [z2];exact List.mem_singleton.2 rfl),rfl,by show (((P.r j).id:Nat):Int)=j;rw [ha.id],?_,c1,rfl⟩;have Vw:=hr.term;rw [m1 e9,ha.id];exact ES (id:=j) (to:=i) (kind:=1) ri hi hji (by decide) Vw.1 Vw.2 (by decide) (by decide) true
    .exact .inr (vk b λq=>by have:=q.1;omega)
   .rw [ha.rk e];rcases a2 with ⟨b1,b2⟩|b
    .exact .inl ⟨b1,vk b2 λq=>by have:=q.2.to;omega⟩
    .exact .inr (vk b λq=>by have:=q.1;omega)
structure Bo(i:Nat)(P P':cR):Prop where
 nl:∀ k,k<3->k≠i->(P'.r k).role≠2
 top:∀ k,k<3->(P'.r k).term<=(P'.r i).term
 EU:∀ M,(∀ k,k<3->(P.r k).term<=M)->(P.r i).term+1<=M->∀ k,k<3->(P'.r k).term<=M
 up:∀ k,(P.r k).term<=(P'.r k).term
 eq:(∀ k,k<3->(P.r k).term<=(P.r i).term)->∀ k,k<3->(P'.r k).term=(P.r i).term+1
 el:(∀ k,k<3->(P.r k).term<=(P.r i).term)->(P'.r i).role=2\/((∀ k,k<3->(P'.r k).log=(P.r k).log)/\∀ j,j<3->j≠i->¬ GN (P.r i).log (P.r j).log)
theorem aPN(hD:eL P)(hi:i<3)(hfl:P.fl=[])(pF:∀ k,k<3->(P.r k).role≠2)(hc:P.fl.length+ir P+3<=298)(ht:(P.r i).term<1099511627776){most}(hf:(gD P i most).1.fl=[]):Bo i P (gD P i most).1:=by
 obtain ⟨d0,d1,d2⟩:=hD.tick hi hc;obtain ⟨g,A,hs⟩:=hD.inv;obtain ⟨hw,hid⟩:=hs.m.wf.rep i hi;have hw:(P.r i).bq:=hw;have hid:(P.r i).id=i:=hid;have hok:=PI hw.ok (pF i hi) (by omega);rw [DH (pF i hi) (by omega)] at d1 d2;have d1:(jL P i).r=put P.r i (e8 (P.r i)):=d1;have d2:(jL P i).fl=P.fl++(bu (P.r i).id).map λk=>jS (e8 (P.r i)) k:=d2;rw [hfl,List.nil_append,hid] at d2;have r1:(e8 (P.r i)).role=1:=rfl
 have t1:(e8 (P.r i)).term=(P.r i).term+1:=rfl;have l1:(e8 (P.r i)).log=(P.r i).log:=rfl;have i1:(e8 (P.r i)).id=i:=hid;have v1:(e8 (P.r i)).bh i=true:=by show decide (i=(P.r i).id)=true;rw [hid];simp
 have t0:=hw.ok.jn;generalize e8 (P.r i)=q at *;have AL:∀ m∈(jL P i).fl,∃ k,k<3/\k≠i/\m=jS q k:=λm hm=>by
  rw [d2] at hm;obtain ⟨k,hk,rfl⟩:=List.mem_map.1 hm;obtain ⟨a,b⟩:=(IG hi).1 hk;exact ⟨k,a,b,rfl⟩
 have hin:∀ k,k<3->k≠i->jS q k∈(jL P i).fl/\(jS q k).eO k:=λk hk hki =>
  ⟨by rw [d2];exact List.mem_map_of_mem ((IG hi).2 ⟨hk,hki⟩),a2h hok (by omega) hk (by rw [i1];omega)⟩
 have D7:(jL P i).r i=q:=by rw [d1,cF]
 have rk:∀ k,k≠i->(jL P i).r k=P.r k:=λk hk=>by rw [d1,dD _ _ hk]
 have start:∀ M,(∀ k,k<3->(P.r k).term<=M)->(P.r i).term+1<=M->RK i M (jL P i):=λM gu hT =>
  ⟨λm hm=>by
   obtain ⟨k,_,_,rfl⟩:=AL m hm;exact ⟨λ_=>by show ((q.id:Nat):Int)=i;rw [i1],λh=>(by cases h),.inr (by show ((q.id:Nat):Int)=i;rw [i1])⟩,
  λk hk hki=>by rw [rk k hki];exact pF k hk,λm hm=>by
   obtain ⟨k,_,_,rfl⟩:=AL m hm;show q.term<=((jL P i).r ((q.id:Nat):Int).toNat).term;rw [jo,i1,D7];exact Int.le_refl _,λk hk=>by
   by_cases e:k=i
   .subst e;rw [D7];omega
   .rw [rk k e];exact gu k hk,λm hm=>by
   obtain ⟨k,_,_,rfl⟩:=AL m hm;show q.term<=M;omega,λk hk hki=>.inr (.inl ⟨_,(hin k hk hki).1,rfl,(hin k hk hki).2⟩)⟩
 have keep:∀ M,(∀ k,k<3->(P.r k).term<=M)->(P.r i).term+1<=M->RK i M (gD P i most).1:=λM gu hT =>
  (C1 (Q:=RK i M) (λP m rest j _ h he ha _=>h.step hi he ha) most.toNat d0 (start M gu hT)).2
 have mx:∃ M,(∀ k,k<3->(P.r k).term<=M)/\(P.r i).term+1<=M:=⟨1099511627776,λk hk=>(hs.m.wf.rep k hk).1.ok.gf,by omega⟩;have aNw:∀ k,k<3->k≠i->(P.r i).term+1<=((gD P i most).1.r k).term:=λk hk hki=>by
  have:=(C1 (Q:=uI k ((P.r i).term+1)) (λP m rest j _ h he ha _=>h.step he ha) most.toNat d0 (.inr ⟨_,(hin k hk hki).1,rfl,(hin k hk hki).2,t1⟩)).2;rcases this with h|⟨x,hx,_⟩
  .exact h
  .have hx:x∈(gD P i most).1.fl:=hx;rw [hf] at hx;cases hx
 have up:∀ k,((jL P i).r k).term<=((gD P i most).1.r k).term:=λk =>
  (C1 (Q:=λOo=>((jL P i).r k).term<=(Oo.r k).term) (λP m rest j _ h he ha _=>Int.le_trans h (ha.up k)) most.toNat d0 (Int.le_refl _)).2
 refine ⟨?_,λk hk=>?_,λM gu hT=>(keep M gu hT).tb,λk=>Int.le_trans ?_ (up k),λQi k hk=>?_,λQi=>?_⟩
 .obtain ⟨M,h1,h2⟩:=mx;exact (keep M h1 h2).nl
 .obtain ⟨M,h1,h2⟩:=mx;by_cases e:k=i
  .subst e;exact Int.le_refl _
  .rcases (keep M h1 h2).hY k hk e with h|⟨x,hx,_⟩|⟨x,hx,_⟩
   .exact h
   .rw [hf] at hx;cases hx
   .rw [hf] at hx;cases hx
 .by_cases e:k=i
  .subst e;rw [D7];omega
  .rw [rk k e];exact Int.le_refl _
 .have h1:=(keep _ (λk hk=>Int.le_trans (Qi k hk) (by omega)) (Int.le_refl _)).tb k hk;by_cases e:k=i
  .subst e;have:=up k;rw [D7] at this;omega
  .have:=aNw k hk e;omega
 .have aLE:=start ((P.r i).term+1) (λk hk=>Int.le_trans (Qi k hk) (by omega)) (Int.le_refl _);have el:∀ j,j<3->j≠i->Jg i j ((P.r i).term+1) (λk=>(P.r k).log) (gD P i most).1:=λj hj hji =>
   (C1 (Q:=λOo=>RK i ((P.r i).term+1) Oo/\Jg i j ((P.r i).term+1) (λk=>(P.r k).log) Oo) (λP m rest n _ h he ha _=>⟨h.1.step hi he ha,h.2.step hi hj hji h.1 he ha⟩) most.toNat d0 ⟨aLE,by rw [D7];exact t1,.inr ⟨by rw [D7];exact r1,by rw [D7];exact v1,λk hk=>by
    by_cases e:k=i
    .subst e;rw [D7];exact l1
    .rw [rk k e],λm hm=>by
    obtain ⟨k,_,_,rfl⟩:=AL m hm;exact .inl rfl,λAB=>⟨λm hm _ hr=>by
    obtain ⟨k,_,_,rfl⟩:=AL m hm;refine ⟨t1,?_⟩;unfold HK;show (decide (bB (P.r j).log (P.r j).log.length<bB q.log q.log.length)||decide (bB q.log q.log.length=bB (P.r j).log (P.r j).log.length)&&decide (((P.r j).log.length:Int)<=((q.log.length:Nat):Int)))=true;rw [l1];rcases AB with h|⟨h,h2⟩
    .rw [decide_eq_true h];rfl
    .rw [decide_eq_true h,decide_eq_true (show (((P.r j).log.length:Nat):Int)<=((P.r i).log.length:Nat) by omega)];simp,.inl ⟨by rw [rk j hji];have:=Qi j hj;omega,_,(hin j hj hji).1,rfl,(hin j hj hji).2⟩⟩⟩⟩).2.2
  by_cases h2:((gD P i most).1.r i).role=2
  .exact .inl h2
  .refine .inr ⟨?_,λj hj hji AB=>?_⟩
   .obtain ⟨j,hj,hji⟩:∃ j,j<3/\j≠i:=by
     by_cases e:i=0
     .exact ⟨1,by decide,by omega⟩
     .exact ⟨0,by decide,by omega⟩
    rcases (el j hj hji).b5 with h|⟨_,_,h,_⟩
    .exact absurd h h2
    .exact h
   .rcases (el j hj hji).b5 with h|⟨_,_,_,_,h⟩
    .exact h2 h
    .rcases (h AB).2 with ⟨_,x,hx,_⟩|⟨x,hx,_⟩
     .rw [hf] at hx;cases hx
     .rw [hf] at hx;cases hx
end
section
variable {i k:Nat}{P P':cR}{m:aH}{rest:List aH}
structure Om(i k:Nat)(P:cR):Prop where
 ms:∀ m∈P.fl,(m.kind=0->m.src=i)/\(m.kind=1->m.to=i)
 nl:(P.r k).role≠2
theorem Om.step{j}(hki:k≠i)(h:Om i k P)(he:P.fl=m :: rest)(ha:lM P m rest j P'):Om i k P':=by
 obtain ⟨m1,m2⟩:=h.ms m (by rw [he];simp);refine ⟨λx hx=>?_,?_⟩
 .rw [ha.fl] at hx;rcases List.mem_append.1 hx with hx|hx
  .exact h.ms x (by rw [he];exact List.mem_cons_of_mem _ hx)
  .rcases ha.out with ⟨hk,hr⟩|⟨_,e2,_⟩
   .obtain ⟨q1,bP⟩:=hk.kd x hx;exact ⟨λh=>absurd h q1,λh=>by rw [(bP h).2];exact m1 (bP h).1⟩
   .rw [e2] at hx;cases hx
 .by_cases e:k=j
  .subst e;rw [ha.sF];rcases ha.out with ⟨hk,hr⟩|⟨e1,_,_⟩
   .exact (hk.A5 (λh=>by have:=m2 h;have:=ha.to;omega) h.nl).1
   .rw [e1];exact h.nl
  .rw [ha.rk e];exact h.nl
theorem aNM(hD:eL P)(hi:i<3)(hki:k≠i)(hfl:P.fl=[])(hc:P.fl.length+ir P+3<=298)(hk:(P.r k).role≠2)(most):((gD P i most).1.r k).role≠2:=by
 obtain ⟨d0,d1,d2⟩:=hD.tick hi hc;obtain ⟨g,A,hs⟩:=hD.inv;have hid:(P.r i).id=i:=(hs.m.wf.rep i hi).2;refine (C1 (Q:=Om i k) (λP m rest j _ h he ha _=>h.step hki he ha) most.toNat d0 ⟨λm hm=>?_,by rw [d1,dD _ _ hki];exact hk⟩).2.nl;rw [d2,hfl,List.nil_append] at hm;by_cases h2:(P.r i).role=2
 .rw [DI h2] at hm;have hm:m∈(bu (P.r i).id).map λk=>entriesOf (P.r i) k:=hm;obtain ⟨x,_,rfl⟩:=List.mem_map.1 hm;exact ⟨λh=>(by cases h),λh=>(by cases h)⟩
 .by_cases h3:(P.r i).term=1099511627776
  .rw [JB h2 h3] at hm;cases hm
  .rw [DH h2 h3] at hm;have hm:m∈(bu (P.r i).id).map λk=>jS (e8 (P.r i)) k:=hm;obtain ⟨x,_,rfl⟩:=List.mem_map.1 hm;exact ⟨λ_=>by show (((e8 (P.r i)).id:Nat):Int)=i;exact congrArg _ hid,λh=>(by cases h)⟩
theorem aGP(a b):GN a b\/GN b a:=by
 unfold GN;omega
end
theorem aPO{aFW Oq vY Gd Js a1O}(RX:Bo 0 aFW Oq)(NG:Bo 1 Oq vY)(Y8:Bo 2 vY Gd)(a9C:Bo 0 Gd Js)(aOp:Bo 1 Js a1O)(h7:(Js.r 0).role≠2)(h8:(a1O.r 1).role≠2):False:=by
 have all:∀ {p:Nat->Prop},p 0->p 1->p 2->∀ k,k<3->p k:=λh0 h1 h2 k hk=>by
  have:k=0\/k=1\/k=2:=by omega
  rcases this with rfl|rfl|rfl
  .exact h0
  .exact h1
  .exact h2
 have a5:((vY.r 0).term=(vY.r 1).term)/\(vY.r 2).term<=(vY.r 1).term:=by
  have t4:=RX.top;by_cases hm:(Oq.r 1).term+1<=(Oq.r 0).term
  .have b:=NG.EU _ t4 hm;have u:=NG.up 0;have b1:=b 1 (by decide);have o4:=NG.top 0 (by decide);have p2:=NG.top 2 (by decide);have b0:=b 0 (by decide);omega
  .have e:=NG.eq (λk hk=>by have:=t4 k hk;omega);rw [e 0 (by decide),e 1 (by decide),e 2 (by decide)];exact ⟨rfl,Int.le_refl _⟩
 have a6:∀ k,k<3->(Gd.r k).term<=(Gd.r 0).term:=by
  have t5:∀ k,k<3->(vY.r k).term<=(vY.r 0).term:=all (p:=λk=>(vY.r k).term<=(vY.r 0).term) (Int.le_refl _) (by omega) (by omega);by_cases hm:(vY.r 2).term+1<=(vY.r 0).term
  .have b:=Y8.EU _ t5 hm;have u:=Y8.up 0;exact λk hk=>Int.le_trans (b k hk) u
  .have e:=Y8.eq (λk hk=>by have:=t5 k hk;omega);exact λk hk=>by rw [e k hk,e 0 (by decide)];exact Int.le_refl _
 have iT:=a9C.eq a6;have a7:∀ k,k<3->(Js.r k).term<=(Js.r 1).term:=λk hk=>by rw [iT k hk,iT 1 (by decide)];exact Int.le_refl _
 rcases a9C.el a6 with h|⟨hl,hn⟩
 .exact h7 h
 rcases aOp.el a7 with h|⟨_,hn2⟩
 .exact h8 h
 have q1:=hn 1 (by decide) (by decide);have bP:=hn2 0 (by decide) (by decide);rw [hl 0 (by decide),hl 1 (by decide)] at bP;rcases aGP (Gd.r 0).log (Gd.r 1).log with h|h
 .exact q1 h
 .exact bP h
section
variable {N D:Nat}{B:Int}{G:aa}{P:cR}
theorem aMf{R:Nat->cR}(hno:∀ k,k<9->((R (k+1)).r (k % 3)).role≠2)(nl:∀ k j,1<=k->k<9->j≠k % 3->((R k).r j).role≠2->((R (k+1)).r j).role≠2)(rd:∀ k,3<=k->k<9->(∀ j,j<3->((R k).r j).role≠2)->Bo (k % 3) (R k) (R (k+1))):False:=by
 have z3:∀ j,j<3->((R 3).r j).role≠2:=λj hj=>by
  have a3:=nl 2 0 (by decide) (by decide) (by decide) (nl 1 0 (by decide) (by decide) (by decide) (hno 0 (by decide)));have b3:=nl 2 1 (by decide) (by decide) (by decide) (hno 1 (by decide));have c3:=hno 2 (by decide);have ri:j=0\/j=1\/j=2:=by omega
  rcases ri with rfl|rfl|rfl
  .exact a3
  .exact b3
  .exact c3
 have nN:∀ k,3<=k->k<9->(∀ j,j<3->((R k).r j).role≠2)->∀ j,j<3->((R (k+1)).r j).role≠2:=λk h3 hk hz j hj=>by
  by_cases e:j=k % 3
  .subst e;exact hno k hk
  .exact (rd k h3 hk hz).nl j hj e
 have z4:=nN 3 (by decide) (by decide) z3;have z5:=nN 4 (by decide) (by decide) z4;have aC9:=nN 5 (by decide) (by decide) z5;have aS6:=nN 6 (by decide) (by decide) aC9;exact aPO (rd 3 (by decide) (by decide) z3) (rd 4 (by decide) (by decide) z4) (rd 5 (by decide) (by decide) z5) (rd 6 (by decide) (by decide) aC9) (rd 7 (by decide) (by decide) aS6) (hno 6 (by decide)) (hno 7 (by decide))
theorem aQs(h:cl N B D G P)(hsp:P.sp=0)(hc:dR G<=200)(hN:N<=100)(hB:B<10000)(cH:N*(D+90)<=1048576):∃ k,k<9/\((jq (k+1) P).r (k % 3)).role=2:=by
 refine Classical.byContradiction λhno=>?_;have ts:∀ k,jq (k+1) P=(gD (jq k P) (k % 3) 100000).1:=λk=>rfl;have T:∀ k,k<=9->a2G N B D G P k:=λk hk=>turns h hsp hc hN hB cH k hk;have a52:∀ k,1<=k->k<=9->(jq k P).fl.length+ir (jq k P)+3<=298:=λk h1 hk=>by
  have:=Gx (jq k P);rw [(T k hk).done h1,List.length_nil];omega
 refine aMf (R:=λk=>jq k P) (λk hk e=>hno ⟨k,hk,e⟩) (λk j h1 hk hj hr=>?_) (λk h3 hk hz=>?_)
 .show ((jq (k+1) P).r j).role≠2;rw [ts];exact aNM (T k (by omega)).EZ (Nat.mod_lt _ (by decide)) hj ((T k (by omega)).done h1) (a52 k h1 (by omega)) hr 100000
 .show Bo (k % 3) (jq k P) (jq (k+1) P);have hf:=(T (k+1) (by omega)).done (by omega);rw [ts] at hf ⊢;exact aPN (T k (by omega)).EZ (Nat.mod_lt _ (by decide)) ((T k (by omega)).done (by omega)) hz (a52 k (by omega) (by omega)) ((T k (by omega)).iu.EU (by omega) _ (Nat.mod_lt _ (by decide))).2 hf
end
def D4(G:aa):Nat->aa
 | 0=>G
 | k+1=>lV (D4 G k) k
section
variable {W w:World}{S R Y:List Own}{Φ:θ}
theorem aQm(k:Nat):((k:Int).tmod 3)=((k % 3:Nat):Int):=by
 rw [Int.tmod_eq_emod_of_nonneg (by omega)];omega
set_option maxHeartbeats 4000000 in
theorem aMk[O Φ](iw:oo Φ){lp lc}{l:List ot}{b o cs}(AK:0<l.length->lp=some ⟨b,o,none⟩)(CK:∀ M w,Φ M w->rH b o cs l M w)(vr:l.length<=9223372036854775807)(data):
  fL Φ prog F.Uh #[.slice lp l.length lc,.string data] (.bool true):=by
 refine rW (aFA lp l.length lc data) λW R=>λw Y y=>(aQ6 iw).use y λw y=>⟨true,rfl,R,Φ,δ,y,λw Y y=>(aJO AK CK vr).use y λw y=>⟨El l 60,rfl,R,Φ,δ,y,γ.intro (λh=>λw Y y=>⟨rfl,y.left⟩) (λCG=>γ.intro (λh=>λw Y y=>⟨rfl,y.left⟩) (λhk=>λw Y y=>?_))⟩⟩;have hd:data.size<=50:=by have:=Λ hk;omega
 have CG:=aJN (by simpa using CG);have aKg:l.length<=60:=by have:=CG.2;omega
 refine a13 (S:=R++Y) iw.off iw.num y λL0 Ψ w hst hw0 Le y=>?_
 haveI:=hst
 refine ⟨_,rfl,Ξ L0 iU++R,Ψ,hst,by rw [μ];exact y,γ.intro (λh=>by cases h) (λ_=>?_)⟩;clear y;refine aNu iw AK CK CG.1 aKg hw0 Le λL G C g A aA kW a5P hw1 hF HU q3 a5C=>λw Y y=>?_;clear hst hw0 Le;rw [<-a5P];clear a5P;rw [μ] at y;refine a10 y λw hh y=>⟨rfl,Ξ L (mj G)++R,aA,kW,by rw [μ];exact y,?_⟩;clear y;obtain ⟨OS,g0,OP,a4t⟩:=HU.VO.sy;have RE:e3 (mj G):=q3;refine fD (λM7 R' η bY=>∃ (j:Nat) (az:gQ) (C:cJ) (g:fK) (A:Int->Nat->Nat),M7=j/\j<=3/\bY=3 - j/\R'=Ξ az (D4 (mj G) j)++R/\az.gb=L.gb/\(∀ M w,η M w->Φ M w)/\bf η az (D4 (mj G) j)/\bG l.length l.length 50 (D4 (mj G) j) C g A/\e3 (D4 (mj G) j))
  ⟨⟨_,_,_,kW,λw Y y=>y,0,L,OS,g0,OP,rfl,Nat.zero_le _,rfl,rfl,rfl,hw1,hh _ hF,a4t,RE⟩,?_⟩
 clear hF hw1 kW a4t RE hh OP g0 OS;rintro M7 aW ψ bY uq ⟨j,az,y9,g1,zT,rfl,hj,rfl,rfl,hgb,hw1,tD,Lf,Hq⟩
 haveI:=uq
 have wz:oo ψ:=iw.weak hw1;refine γ.intro (λhlt=>λw Y y=>?_) (λhge=>?_)
 .have hlt:j<3:=by have:=aN hlt;omega
  obtain ⟨⟨⟨Sn,g4,Sm,HV⟩,a5a,_,_,_,_,_,_⟩,aL1⟩:=Ra Lf Hq hlt;generalize wu:D4 (mj G) j=av at *;have uZ:D4 (mj G) (j+1)=lV av j:=by rw [<-wu];rfl
  obtain ⟨GO,g2,zU,a4u⟩:=(Lf.lose j 0).sy;obtain ⟨OT,g3,OQ,Et⟩:=(a4u.arm j 0 []).sy;have Et:bG l.length l.length 50 (eS av j) OT g3 OQ:=Et;rw [<-hgb];rw [μ] at y;refine a11 tD Lf.rN (by unfold κ;decide) y λoq dF w F0 q4 dw A8 y=>?_
  haveI:=q4
  refine ⟨_,rfl,Ξ oq (j0 av j 0).1++R,dF,q4,by rw [μ];exact y,λw Y y=>?_⟩;rw [<-F0];rw [μ] at y;refine a0x (l:=[]) (p:=none) (c:=0) A8 a4u.rN (by unfold κ;decide) (by decide) (λM w h=>Δ.nil) y λuG hO w Ls qi F8 tE y=>?_
  haveI:=qi
  have tE:bf hO uG (eS av j):=tE;have y:Ctx W w (Ξ uG (eS av j)++(R++Y)) hO:=y;have W7:∀ M w,hO M w->ψ M w:=λM w h=>dw M w (F8 M w h);have QH:oo hO:=wz.weak W7;refine ⟨_,rfl,Ξ uG (eS av j)++R,hO,qi,by rw [μ];exact y,λw Y y=>?_⟩;rw [<-Ls];rw [μ] at y;refine Sr y λw y=>⟨_,rfl,Ξ uG (eS av j)++R,hO,qi,by rw [μ];exact y,γ.intro (λgA=>λw Y y=>?_) (λgA=>?_)⟩
  .have gA:mN (eS av j) j≠0:=by
    unfold Fx at gA;intro e;rw [e] at gA;simp at gA
   rw [μ] at y;refine a16 QH.off QH.num tE Et.rN (λi hi=>Et.aAN hi) y λa1G gG w aKX a5f aLZ a4q y=>?_;have mC:lV av j=(nQ (eS av j) j).1:=by unfold lV;rw [if_neg gA]
   rw [<-mC] at a4q y;rw [aL1 gA];exact ⟨_,rfl,Ξ a1G (lV av j)++R,gG,a5f,by rw [μ];exact y,γ.intro (λh=>by cases h) (λ_=>⟨by unfold κ;omega,_,_,_,a5f,λw Y y=>y,⟨j+1,a1G,Sn,g4,Sm,by omega,hlt,rfl,by rw [uZ],aKX,λM w h=>hw1 M w (W7 M w (aLZ M w h)),by rw [uZ];exact a4q,by rw [uZ];exact HV,by rw [uZ];exact a5a⟩,by omega⟩)⟩
  .have gA:mN (eS av j) j=0:=by
    unfold Fx at gA;simpa using gA
   have mC:lV av j=eS av j:=by unfold lV;rw [if_pos gA]
   rw [<-mC] at tE;exact ⟨by unfold κ;omega,_,_,_,qi,λw Y y=>y,⟨j+1,uG,Sn,g4,Sm,by omega,hlt,rfl,by rw [uZ,mC],rfl,λM w h=>hw1 M w (W7 M w h),by rw [uZ];exact tE,by rw [uZ];exact HV,by rw [uZ];exact a5a⟩,by omega⟩
 have ri:j=3:=by have:=Λ hge;omega
 subst ri;obtain ⟨P,f,hsp,a5A,_⟩:=aP1 HU q3;have bI:D4 (mj G) 3=pP G:=rfl;rw [bI] at tD Lf;have VM:dR (pP G)<=200:=by omega
 have hB:(l.length:Int)<10000:=by omega
 have hN:l.length<=100:=by omega
 have cH:l.length*(50+90)<=1048576:=by omega
 have Lh:(l.length+1)*(50+90)<=1048576:=by omega
 refine fD (λa6d R' η bY=>∃ (k:Nat) (oq:gQ),a6d=k/\k<=9/\bY=9 - k/\R'=Ξ oq (BH k (pP G))++R/\oq.gb=L.gb/\(∀ M w,η M w->Φ M w)/\bf η oq (BH k (pP G))/\∀ m,m<k->((jq (m+1) P).r (m % 3)).role≠2)
  ⟨⟨_,_,_,uq,λw Y y=>y,0,az,rfl,Nat.zero_le _,rfl,rfl,hgb,hw1,tD,λm hm=>absurd hm (Nat.not_lt_zero _)⟩,?_⟩
 clear tD hw1 wz hgb hge uq Hq Lf zT g1 y9;rintro a6d aW dF bY q4 ⟨k,oq,rfl,a5S,rfl,rfl,hgb,dw,A8,hno⟩
 haveI:=q4
 have Lg:oo dF:=iw.weak dw;refine γ.intro (λhlt=>⟨λh=>by omega,λw Y y=>?_⟩) (λhge=>?_)
 rotate_left 1
 .exfalso;have hk:k=9:=by have:=Λ hge;omega
  subst hk;obtain ⟨m,hm,hr⟩:=aQs f hsp VM hN hB cH;exact hno m hm hr
 have hlt:k<9:=by have:=aN hlt;omega
 have hi:k % 3<3:=Nat.mod_lt _ (by decide);rw [aQm];have t0:=turns f hsp VM hN hB cH k (by omega);have t1:=turns f hsp VM hN hB cH (k+1) (by omega);obtain ⟨OT,g3,OQ,Et⟩:=t0.iu.sy;obtain ⟨Sn,g4,Sm,HV⟩:=t1.iu.sy;rw [<-hgb];rw [μ] at y;refine Et.sets cH (by decide) Lg A8 (by unfold κ;decide) y λuG w Ls tE y=>?_;have tE:bf dF uG (BH (k+1) (pP G)):=tE;have y:Ctx W w (Ξ uG (BH (k+1) (pP G))++(R++Y)) dF:=y
 refine ⟨_,rfl,Ξ uG (BH (k+1) (pP G))++R,dF,q4,by rw [μ];exact y,λw Y y=>?_⟩;rw [<-Ls];rw [μ] at y;have hro:=(t1.iu.role hi).1;refine a15 y λw y=>⟨_,rfl,Ξ uG (BH (k+1) (pP G))++R,dF,q4,by rw [μ];exact y,?_⟩;rw [hro];refine γ.intro (λhr=>⟨by unfold κ;omega,_,_,_,q4,λw Y y=>y,⟨k+1,uG,by omega,hlt,rfl,rfl,rfl,dw,tE,λm hm=>?_⟩,by omega⟩) (λhr=>λw Y y=>?_)
 .by_cases e:m=k
  .subst e;exact aN hr
  .exact hno m (by omega)
 have hr:((jq (k+1) P).r (k % 3)).role=2:=Decidable.not_not.1 (Λ hr);have a5B:Calm (k % 3) (jq (k+1) P):=by
  have:=t1.calm (Nat.succ_pos k);rw [Nat.add_sub_cancel] at this;exact this hr
 obtain ⟨hp,Qf⟩:=aMj t1.iu t1.EZ.sp t1.EZ hi a5B (by omega) (by omega) Lh (by decide) hd;obtain ⟨aSf,g5,aSd,a4v⟩:=(HV.A' Lh ((k % 3:Nat):Int) hd).sy;obtain ⟨aSg,g6,aSe,V7⟩:=(a4v.settle Lh ((k % 3:Nat):Int) 100000).sy;clear t0 t1 hro a5B Et hr hno A8 hgb;generalize BH (k+1) (pP G)=aEn at *;generalize ((jq (k+1) P).r (k % 3))=q at *;rw [μ] at y;refine OY Lg.off Lg.tab tE HV.rN (λu hid hu=>HV.S8 Lh hd hid hu) (λu hne=>RU hne) y λGa w VW hg y=>?_
 rw [hp];have a4p:=hg dF tE;generalize (iL aEn ((k % 3:Nat):Int) data).1=Sp at *;refine ⟨_,_,rfl,Ξ Ga Sp++R,dF,q4,by rw [μ];exact y,λw Y y=>?_⟩;rw [<-VW];rw [μ] at y;refine a4v.sets Lh (by decide) Lg a4p (by unfold κ;decide) y λzb w aKW aJq y=>?_;generalize (eJ Sp ((k % 3:Nat):Int) 100000).2=cnt at *;generalize (eJ Sp ((k % 3:Nat):Int) 100000).1=oH at *;refine ⟨_,rfl,Ξ zb oH++R,dF,q4,by rw [μ];exact y,λw Y y=>?_⟩
 rw [<-aKW];rw [μ] at y;have aKB:=V7.aHP;have cW:=V7.aHN;refine a0y (λs hs=>Nat.le_trans (aKB s hs) (by unfold maxLen;omega)) (by omega) y λp2 c2 w _ y=>?_;have hlc:oH.aQ.length=q.log.length+1:=by rw [Qf.aQ,List.length_map,List.length_append];rfl
 have aKh:∀ h:q.log.length<oH.aQ.length,oH.aQ[q.log.length]=data:=λh=>by
  have:=Qf.aQ;simp only [this,List.map_append,List.map_cons,List.map_nil];rw [List.getElem_append_right (by simp)];simp
 obtain ⟨hO,M6⟩:∃ hO:θ,hO=λM w=>dF M w/\Δ M w p2 oH.aQ:=⟨_,rfl⟩;have qi:O hO:=by rw [M6];exact vv dF (λM w=>Δ M w p2 oH.aQ)
 have W6:∀ M w,hO M w->dF M w:=by rw [M6];exact λM w h=>h.1
 have W1:∀ M w,hO M w->Δ M w p2 oH.aQ:=by rw [M6];exact λM w h=>h.2
 rw [<-M6] at y;clear M6
 haveI:=qi
 have aJr:bf hO zb oH:=aJq.weak W6;have QH:oo hO:=Lg.weak W6;have st:∀ (id:Nat),id<3->∀ (Dj:θ),O Dj->(∀ M w,Dj M w->hO M w)->∀ (w:World) (Y:List Own),Ctx W w ((Ξ zb oH++R)++Y) Dj->Γ F.HQ #[ε zb.gb 0,.int .i64 (id:Int)] w λe w'=>∃ p k k',e=Ending.returned (Value.slice p k k')/\∃ qS oe,O oe/\Ctx W w' (qS++Y) oe/\∀ SO a1n,Ctx W SO (qS++a1n) oe->Γ F.HD #[.slice p2 oH.aQ.length c2,.slice p k k'] SO λe w'=>∃ c,e=Ending.returned (Value.bool c)/\∃ Bk zO,O zO/\Ctx W w' (Bk++a1n) zO/\c=true/\Bk=Ξ zb oH++R/\∀ M w,zO M w->hO M w:=λid hid Dj aLO Hw w Y y=>by
  haveI:=aLO
  have a4w:oo Dj:=QH.weak Hw;rw [μ] at y;refine aEv (id:=(id:Int)) a4w.off a4w.num (aJr.weak Hw) (λk hk=>aQH (V7.j.any hk)) y λmM c9 w y=>?_;have l7:=Qf.all id hid;have hcm:=Qf.aQ;generalize DF oH (id:Int)=J8 at *;have a5g:O (λM w=>Dj M w/\Δ M w mM J8):=vv Dj (λM w=>Δ M w mM J8);refine ⟨mM,_,c9,rfl,Ξ zb oH++R,_,a5g,by rw [μ];exact y,λw Y y=>?_⟩;refine (aQB (Φ:=λM w=>Dj M w/\Δ M w mM J8) (l:=oH.aQ) (log:=J8) (λM w h=>W1 M w (Hw M w h.1)) (λM w h=>h.2) (by omega)).use y λw y=>⟨_,rfl,Ξ zb oH++R,_,a5g,y,?_,rfl,λM w h=>Hw M w h.1⟩
  unfold Ni;have mG:oH.aQ.length=(q.log++[(⟨q.term,data⟩:aS)]).length:=by rw [hcm,List.length_map]
  rw [mG,l7.2];exact decide_eq_true ⟨l7.1,hcm.symm⟩
 refine ⟨p2,_,c2,rfl,Ξ zb oH++R,hO,qi,by rw [μ];exact y,γ.intro (λ_=>γ.intro (λ_=>γ.intro (λ_=>γ.intro (λ_=>?_) (λh=>absurd (Λ h) (by omega))) (λh=>absurd (Λ h) (by omega))) (λh=>absurd rfl (Λ h))) (λh=>by cases h)⟩;obtain ⟨gb,go,rfl⟩:=(W1 _ _ y.cy).there (by omega);clear y;refine ⟨by unfold κ;omega,⟨by omega,by omega⟩,eu gb go rfl λw Y y=>⟨data,?_,γ.intro (λ_=>λw Y y=>?_) (λh=>absurd rfl (Λ h))⟩⟩
 .have hx:(max (((q.log.length+1:Nat):Int) - 1) 0).toNat=q.log.length:=by omega
  have hq:q.log.length<oH.aQ.length:=by omega
  rw [hx,<-aKh hq];exact Nf (W1 _ _ y.cy) hq
 refine (st 0 (by decide) hO qi (λ_ _ h=>h) w Y y).mono λe w' ⟨p,k,k',e1,aW,OO,s1,c1,h1⟩=>⟨p,k,k',e1,aW,OO,s1,c1,λw Y y=>(h1 w Y y).mono λe w' ⟨c,e2,dM,y7,s2,c2,hc,hR,hw⟩=>⟨c,e2,dM,y7,s2,c2,?_⟩⟩;subst hc hR;refine γ.intro (λ_=>λw Y y=>?_) (λh=>by cases h);refine (st 1 (by decide) y7 s2 hw w Y y).mono λe w' ⟨p,k,k',e1,aW,OO,s1,c1,h1⟩=>⟨p,k,k',e1,aW,OO,s1,c1,λw Y y=>(h1 w Y y).mono λe w' ⟨c,e2,dM,aCP,en,c2,hc,hR,F8⟩=>⟨c,e2,dM,aCP,en,c2,?_⟩⟩
 subst hc hR;refine γ.intro (λ_=>λw Y y=>?_) (λh=>by cases h);refine (st 2 (by decide) aCP en F8 w Y y).mono λe w' ⟨p,k,k',e1,aW,OO,s1,c1,h1⟩=>⟨p,k,k',e1,aW,OO,s1,c1,λw Y y=>(h1 w Y y).mono λe w' ⟨c,e2,dM,aSc,dL,c2,hc,hR,aLY⟩=>⟨c,e2,dM,aSc,dL,c2,λw Y y=>?_⟩⟩;subst hc hR;exact ⟨rfl,(Ctx.right (S:=Ξ zb oH) y.left).weak λM w h=>dw M w (W6 M w (aLY M w h))⟩
theorem aF5[O Φ](iw:oo Φ){lp lc}{l:List ot}(hl:∀ M w,Φ M w->Δ M w lp l)(vr:l.length<=9223372036854775807)(data):
  fL Φ prog F.Uh #[.slice lp l.length lc,.string data] (.bool true) :=
 fL.pinned hl λb o cs hp=>aMk (iw.weak λM w h=>h.1) hp (λM w h=>h.2) vr data
end
end Go.Proofs.YtcmgeboolmmdkaaGreatDoor
end

section
namespace Go.Proofs.YtcmgeboolmmdkaaGreatDoor
open Go.Vc Go.RowKit
theorem aMQ(u)(h:prog.typeName? 3 u=some "*errors.errorString"):u=218 :=
 typeName_ptr_named (nm := "errors.errorString") (by rw [show "*" ++ "errors.errorString" = "*errors.errorString" by decide];kernel_rfl) (by kernel_rfl) (by decide) u (by rw [show "*" ++ "errors.errorString" = "*errors.errorString" by decide];exact h)
theorem a6g{n text r W g}(h:laidMet prog ((n,.iface "*errors.errorString" (.ptr (.agg [.lit (.string text)]))) :: r) W)(hg:prog.globalNamed n=some g)(ht:(prog.globals[g]?).map (·.type)=some 181):BZ g [] W:=by
 obtain ⟨a,s,hv,_⟩:=laid_sentinel h hg ht underlying181 aMQ underlying218 underlying220 rfl rfl underlying9 (by kernel_rfl) (by kernel_rfl);exact ⟨by simp,_,by have h0:=World.var?_cell hg hv 0;simpa using h0,.inr ⟨_,_,rfl⟩⟩
abbrev Jp:θ:=λM w=>jt M w/\jO M w
theorem aMP{W}(h:laidMetH prog Rows.groupLeadsRow.laid W):Jp [] W:=by
 rw [MakeChecks.laidMetH_plain prog Rows.groupLeadsRow.laid W (by kernel_rfl)] at h;have h2:=h.tail.tail;exact ⟨⟨Bq.start (Lib.tabIs_of_head (k:=.u64) (zs:=Lib.pow10Tab) (g:=4) (t:=212) (e:=201) (n:=20) (by kernel_rfl) (by kernel_rfl) (by kernel_rfl) (by kernel_rfl) (by kernel_rfl) (by kernel_rfl) h2),
  a6g h2.tail.tail.tail (by kernel_rfl) (by kernel_rfl),a6g h2.tail.tail (by kernel_rfl) (by kernel_rfl)⟩,
  Bq.start (Lib.tabIs_of_head (k:=.i64) (zs:=[0,64,131072]) (g:=0) (t:=110) (e:=3) (n:=3) (by kernel_rfl) (by kernel_rfl) (by kernel_rfl) (by kernel_rfl) (by kernel_rfl) (by kernel_rfl) h2.tail)⟩
end Go.Proofs.YtcmgeboolmmdkaaGreatDoor
end

section
namespace Go.Proofs.YtcmgeboolmmdkaaGreatDoor
open Go.ChangeShapes Go.WideShapes Go.ChangeAt Go.RowKit Go.Vc
theorem aHg:ownKnob prog.godebug=none:=by kernel_rfl
theorem a3m:laidOutB prog=true:=by kernel_rfl
theorem aQp{H}{enc:TypeId × Value->H}{P w base spare held t0 t1 args ds ps}(h:DataW.TrodAll enc P w base spare held [t0,t1] args.toList ds ps):
  ∃ v0 v1 d0 d1 o4 p1,args=#[v0,v1]/\ds=[d0,d1]/\ps=o4++p1/\DataW.Trod enc P w base spare held t0 v0 d0 o4/\DataW.Trod enc P w base spare held t1 v1 d1 p1:=by
 obtain ⟨v0,aTY,d0,aSl,o4,q0,hargs,rfl,rfl,h0,h⟩:=trodAll_cons h;obtain ⟨v1,aBS,d1,p7,p1,q1,rfl,rfl,rfl,h1,h⟩:=trodAll_cons h;obtain ⟨rfl,rfl,rfl⟩:=trodAll_nil h;exact ⟨v0,v1,d0,d1,o4,p1,by cases args;simp_all,rfl,by simp,h0,h1⟩
theorem aHn(os args):laidMetH prog Rows.groupLeadsRow.laid ((World.doorLaid prog 400 os).forCall (λ_ _=>0) ⟨#[],args,[]⟩).memory :=
 laidMetH_of_parts3 (fuel:=8) (laidMet_of_run' 8 (by kernel_rfl) (by kernel_rfl)) (by kernel_rfl) (by kernel_rfl)
set_option maxRecDepth 100000 in
theorem aMU(os)(started:os.Started)(H)(enc:TypeId × Value->H):
  ReturnsInHanded {} Tryz.checked os 3 .any (λw args=>(Rows.groupLeadsSpec.pre enc prog Tryz.f3 Rows.groupLeadsRow.domain false w args/\laidMetH prog Rows.groupLeadsRow.laid w)/\sizedMet enc prog Tryz.f3 (OpenSpec.ofChange Rows.groupLeadsSpec) false w args) (Rows.groupLeadsSpec.post enc prog Tryz.f3 false true false false):=by
 refine aMT (C:=Tryz.checked) (tb:=4) aHg started (by kernel_rfl) func3 a3m rfl ?_ rfl underlying4 (by kernel_rfl)
  (ChangeSpec.witness_shaped (enc:=enc) (C:=Tryz.checked) (os:=os) (X:=λw _=>laidMetH prog Rows.groupLeadsRow.laid w) false (World.doorLaid prog 400 os) #[.slice none 0 0,.string .empty] 8 rfl (World.shaped_of_RefB (by kernel_rfl) (by kernel_rfl)) (by kernel_rfl) (by kernel_rfl) (by kernel_rfl) (aHn os _)) ?_
 .intro ds hd
  match ds,hd with
  | [_,_],_=>exact ⟨rfl,rfl,rfl⟩
 .intro W base args ds p aLT a4o _ hL;have hval:∀ (j:Nat) t v,Tryz.f3.params[j]? = some t->args[j]? = some v->Value.okWide prog W .any base t v:=aLT;have hA:DataW.TrodAll enc prog W 0 (λ_=>true) true Tryz.f3.params.toList args.toList ds p:=a4o;rw [Tryz.params3] at hA hval;obtain ⟨v0,v1,d0,d1,o4,p1,rfl,rfl,rfl,h0,h1⟩:=aQp hA;obtain ⟨lp,lc,l,rfl,la,lb,s0⟩:=aNp (α:=ot) 12 underlying22 (hval 0 22 v0 rfl rfl) (by kernel_rfl) h0
  obtain ⟨data,rfl,rfl,rfl,aSk⟩:=Go.ChangeMaps.open_string underlying9 (hval 1 9 v1 rfl rfl) h1;have aTT:O (λM w=>Δ M w lp l):=δ;have aTU:O (λM w=>Jp M w/\Δ M w lp l):=vv (λM w=>Jp M w) (λM w=>Δ M w lp l);have fin:fL (λM w=>Jp M w/\Δ M w lp l) prog 3 _ (.bool true):=aF5 (Φ:=(λM w=>Jp M w/\Δ M w lp l)) ⟨λ_ _ h=>h.1.1,λ_ _ h=>h.1.2⟩ (lp:=lp) (lc:=lc) (l:=l) (λ_ _ h=>h.2) (by unfold maxLen at *;omega) data
  exact fin.law ⟨aMP hL,s0⟩
theorem aLu:(mapsRowed prog)=true:=by kernel_rfl
theorem aM0:((Rows.groupLeadsRow.inPlace == prog.inPlace 3))=true:=by kernel_rfl
theorem aLr:((Rows.groupLeadsRow.unfollowed == prog.unfollowed 3))=true:=by kernel_rfl
theorem aLs:((Rows.groupLeadsRow.recurses == prog.recurses 3))=true:=by kernel_rfl
theorem aLt:((Rows.groupLeadsRow.named == prog.varsNamed 3))=true:=by kernel_rfl
theorem aLv:((Rows.groupLeadsRow.plainKeys == prog.plainKeys))=true:=by kernel_rfl
theorem aLw:(prog.stopsHeard)=true:=by kernel_rfl
theorem aLx:(prog.mayEnter)=true:=by kernel_rfl
theorem aLy:((Rows.groupLeadsRow.lifted == prog.liftsFinal))=true:=by kernel_rfl
theorem aLz:((prog.make == some Rows.groupLeadsRow.make))=true:=by kernel_rfl
theorem iz{a b}(h:a=true)(k:b=true):(a&&b)=true:=by rw [h,k];rfl
theorem aM1:joinedFacts prog 3 Tryz.f3 Rows.groupLeadsSpec Rows.groupLeadsRow=true:=by
 unfold joinedFacts;exact (iz (iz (iz (iz (iz (iz (iz (iz (iz (iz (iz (iz (iz (iz (iz (iz (iz (iz (iz (iz (iz (iz (iz (iz (iz (iz (iz (iz (iz (iz (iz (by kernel_rfl) a3m) aLu) (by kernel_rfl)) (by kernel_rfl)) (by kernel_rfl)) (by kernel_rfl)) (by kernel_rfl)) (by kernel_rfl)) aM0) aLr) aLs) aLt) (by kernel_rfl)) (by kernel_rfl)) (by kernel_rfl)) (by kernel_rfl)) (by kernel_rfl)) (by kernel_rfl)) (by kernel_rfl)) (by kernel_rfl)) (by kernel_rfl)) aLv) (by kernel_rfl)) aLw) aLx) aLy) aLz) (by kernel_rfl)) (by kernel_rfl)) (by kernel_rfl)) (by kernel_rfl))
theorem a5u:prog.funcNamed Rows.groupLeadsRow.func=some 3:=by kernel_rfl
theorem aM4:prog.mainIs=some (Rows.groupLeadsCard.stood.harness.1,Rows.groupLeadsCard.stood.harness.2.toList):=by kernel_rfl
theorem aM3:Rows.groupLeadsCard.stood.looks=prog.looks []:=by kernel_rfl
theorem aM2:false=Rows.groupLeadsRow.goesBy prog:=by kernel_rfl
theorem aPQ:Rows.GroupLeadsSaid :=
 OpenClaim.holds_of_wide 3 Tryz.f3 rfl rfl rfl rfl rfl rfl rfl ⟨rfl,rfl,rfl,rfl,rfl⟩ rfl rfl rfl rfl rfl a5u func3 aM1
  (aN (by kernel_rfl)) (by unfold Func.isWrapper;first|(rw [if_pos (by decide +kernel)];kernel_rfl)|(rw [if_neg (by decide +kernel)];exact ⟨rfl,rfl⟩))
  (λos started H enc _=>aMU os started H enc)
theorem leads_holds:Rows.GroupLeadsCardSaid :=
 Claim7.holds_tied_plain_at .later [] [.data,.data,.data,.data,.sentinel,.sentinel] true Rows.groupLeadsCard.stood.harness true
  aPQ (λ_ h=>by cases h) (by kernel_rfl) (λ_ h=>by cases h) groupLeads_row_tie rfl ⟨rfl,rfl⟩ aM4 rfl
  (λf fn hf hfn=>by
   obtain rfl:f=3:=Option.some.inj (a5u.symm.trans hf) |>.symm;obtain rfl:fn=Tryz.f3:=(Option.some.inj (func3.symm.trans hfn)).symm;exact ⟨aM3,λj t ht=>by
    rw [Tryz.params3] at ht;have hm:=Array.mem_of_getElem? ht;have hall:((Tryz.f3.params.toList).all λu => !prog.wantsStandIn u)=true:=by kernel_rfl
    rw [Tryz.params3] at hall;exact (show prog.wantsStandIn t=false by simpa using List.all_eq_true.1 hall t (by simpa using hm))⟩)
  aM2
end Go.Proofs.YtcmgeboolmmdkaaGreatDoor
end

