/-
 What a member stores: walked.
-/
import Derived.Test.YtnlkemjhgdbfkaaGreatDoorCh10
open Go.Proofs.Tryz
set_option linter.unusedVariables false
set_option linter.unusedSimpArgs false
section
namespace Go.Proofs.YtnlkemjhgdbfkaaGreatDoor
open Go.Vc
abbrev b0H (o:lT) (p1:Option Addr) (c1:Nat) (p2:Option Addr) (c2:Nat):List Value:=[.bool o.save,.int .i64 o.term,.int .i64 o.aQ,.int .i64 o.src,.slice p1 o.aF.length c1,.slice p2 o.send.length c2]
abbrev kO (k1:Nat) (oc:List Value):Own:=.blk k1 oc 146
abbrev kL (k:Nat) (p:Option Addr) (n c:Nat):Own:=.blk k [.slice p n c] 40
section
variable {W w:World} {S:List Own} {Φ:PW}
theorem aIa [aB Φ] (hoff:∀ M w,Φ M w->rM M w) (hT:∀ M w,Φ M w->yB M w) {k0 k1 gb mO cs oc q d x j n} (hcs:cs[mO+1]? = some (pA x.jb)) (hoc:oc[3]? = some (.int .i64 n)) (hn:aX (n - 1)) (hq:oR q d) (hkp:J6 Φ q d) (hsb:SB x.p x.cap j.list x.o) (hf:(aO j.list).length<=1000000000) (cx:Ctx W w (kM k0 gb mO :: kO k1 oc :: kG gb cs :: (eI x q j++(aZ q d++S))) Φ) {K} (hk:∀ u p c o w',SB p c (j4 d j (min (n - 1) (j.list.length:Int))).2.1.list o->oR (q.mv u) (j4 d j (min (n - 1) (j.list.length:Int))).1->Ctx W w' (kM k0 gb mO :: kO k1 oc :: kG gb cs :: (eI (x.mv p c o) q (j4 d j (min (n - 1) (j.list.length:Int))).2.1++(aZ (q.mv u) (j4 d j (min (n - 1) (j.list.length:Int))).1++S))) Φ->K (.returned (.int .i64 (j4 d j (min (n - 1) (j.list.length:Int))).2.2)) w'):
  aD F.fE #[pA k0,pA k1] w K:=by
 have sA:∀ Y:List Own,List.Sublist [kM k0 gb mO,kO k1 oc,kG gb cs] ([kM k0 gb mO,kO k1 oc,kG gb cs]++Y):=λY=>List.sublist_append_left _ _
 refine fW (z8 k0 0 k1 0 (J:=K∘.returned) cx ⟨[kM k0 gb mO,kO k1 oc,kG gb cs],VI,aL,λw G cx=>bX cx (sA _),some ⟨gb,mO,none⟩,λw G cx=>⟨_,cx.get 0 rfl rfl,rfl⟩,some ⟨gb,mO,none⟩,λw G cx=>⟨_,cx.get 0 rfl rfl,rfl⟩,aU gb mO rfl ⟨n,λw G cx=>⟨_,cx.get 1 rfl hoc,rfl⟩,aU gb mO rfl ⟨hn,some ⟨x.jb,0,none⟩,λw G cx=>⟨_,cx.get 2 rfl hcs,rfl⟩,some ⟨x.jb,0,none⟩,λw G cx=>⟨_,cx.get 2 rfl hcs,rfl⟩,λw G cx=>?_⟩⟩⟩)
 have c1:Ctx W w (eI x q j++([kM k0 gb mO,kO k1 oc,kG gb cs]++((aZ q d++S)++G))) Φ:=J7 (A:=[kM k0 gb mO,kO k1 oc,kG gb cs]) cx
 refine aLw c1 λw cx=>⟨_,rfl,[kM k0 gb mO,kO k1 oc,kG gb cs]++(eI x q j++(aZ q d++S)),Φ,aL,tT cx,λw G cx=>bX cx (sA _),λw G cx=>?_⟩
 have c2:Ctx W w (eI x q j++(aZ q d++([kM k0 gb mO,kO k1 oc,kG gb cs]++(S++G)))) Φ:=by
  have c3:Ctx W w (([kM k0 gb mO,kO k1 oc,kG gb cs]++((eI x q j++aZ q d)++S))++G) Φ:=by rw [b9 (eI x q j)];exact cx
  rw [<-b9 (eI x q j)]
  exact J7 c3
 refine aLu hq hkp hoff hT hsb hf c2 λu p c o w a7u hq1 cx=>⟨_,rfl,[kM k0 gb mO,kO k1 oc,kG gb cs]++(eI (x.mv p c o) q (j4 d j (min (n - 1) (j.list.length:Int))).2.1++(aZ (q.mv u) (j4 d j (min (n - 1) (j.list.length:Int))).1++S)),Φ,aL,by
  rw [<-b9 (eI _ q _)] at cx ⊢
  exact tT cx,λw G cx=>hk u p c o w a7u hq1 cx.left⟩
theorem aIb [aB Φ] (hoff:∀ M w,Φ M w->rM M w) (hT:∀ M w,Φ M w->yB M w) {k0 k gb mO cs q d x j lp lc l} (hcs:cs[mO+1]? = some (pA x.jb)) (hq:oR q d) (hkp:J6 Φ q d) (hsb:SB x.p x.cap j.list x.o) (kZ:∀ M w,Φ M w->Sl M w lp l) (hf:(aO l).length<=1000000000) (hb:j.bytes<=1000000000) (hn:j.list.length+l.length<100000000) (cx:Ctx W w (kM k0 gb mO :: kL k lp l.length lc :: kG gb cs :: (eI x q j++(aZ q d++S))) Φ) {K} (hk:∀ u p c o w',SB p c (dU d j l).2.1.list o->oR (q.mv u) (dU d j l).1->Ctx W w' (kM k0 gb mO :: kL k lp l.length lc :: kG gb cs :: (eI (x.mv p c o) q (dU d j l).2.1++(aZ (q.mv u) (dU d j l).1++S))) Φ->K (.returned (.int .i64 (dU d j l).2.2)) w'):
  aD F.fG #[pA k0,pA k] w K:=by
 have sA:∀ Y:List Own,List.Sublist [kM k0 gb mO,kL k lp l.length lc,kG gb cs] ([kM k0 gb mO,kL k lp l.length lc,kG gb cs]++Y):=λY=>List.sublist_append_left _ _
 refine fW (zB k0 0 k 0 (J:=K∘.returned) cx ⟨[kM k0 gb mO,kL k lp l.length lc,kG gb cs],VI,aL,λw G cx=>bX cx (sA _),some ⟨gb,mO,none⟩,λw G cx=>⟨_,cx.get 0 rfl rfl,rfl⟩,lp,l.length,lc,λw G cx=>⟨_,_,_,cx.get 1 rfl rfl,rfl⟩,aU gb mO rfl ⟨some ⟨x.jb,0,none⟩,λw G cx=>⟨_,cx.get 2 rfl hcs,rfl⟩,λw G cx=>?_⟩⟩)
 have c2:Ctx W w (eI x q j++(aZ q d++([kM k0 gb mO,kL k lp l.length lc,kG gb cs]++(S++G)))) Φ:=by
  have c3:Ctx W w (([kM k0 gb mO,kL k lp l.length lc,kG gb cs]++((eI x q j++aZ q d)++S))++G) Φ:=by rw [b9 (eI x q j)];exact cx
  rw [<-b9 (eI x q j)]
  exact J7 c3
 refine a98 hq hkp hoff hT hsb kZ hf hb hn c2 λu p c o w a7u hq1 cx=>⟨_,rfl,[kM k0 gb mO,kL k lp l.length lc,kG gb cs]++(eI (x.mv p c o) q (dU d j l).2.1++(aZ (q.mv u) (dU d j l).1++S)),Φ,aL,by
  rw [<-b9 (eI _ q _)] at cx ⊢
  exact tT cx,λw G cx=>hk u p c o w a7u hq1 cx.left⟩
theorem aAo (d j n):((j4 d j n).2.1.bytes=j.bytes\/(j4 d j n).2.1.bytes<=(aO j.list).length)/\(j4 d j n).2.1.list.length<=j.list.length:=by
 unfold j4
 split
 .exact ⟨.inl rfl,Nat.le_refl _⟩
 split
 .exact ⟨.inl rfl,Nat.le_refl _⟩
 split
 .exact ⟨.inl rfl,Nat.le_refl _⟩
 unfold IX
 split
 .exact ⟨.inl rfl,Nat.le_refl _⟩
 .refine ⟨.inr (a0s _ _),?_⟩
  show (j.list.take n.toNat).length<=_
  rw [List.length_take]
  omega
structure aLI (u:WN) (o:lT):Prop where
 ints:(aX o.term/\aX o.aQ)/\aX (o.src - 1)
 aF:∀ x∈o.aF,aX x.term/\x.data.size<=1000000
 aVI:o.aF.length<=100000
 aVJ:(aO (o.aF.map gX)).length<=1000000000
 aVK:(aO u.j.list).length<=1000000000
 aPU:u.j.bytes<=1000000000
 b0I:u.j.list.length<=1000000
theorem aNc (A J D S G) (C:Own):((A++(J++(D++(C :: S))))++G).Perm (C :: (D++((A++J)++(S++G)))):=by
 have e:(A++(J++(D++(C :: S))))++G=((A++J)++D)++(C :: (S++G)):=by simp only [b9,List.cons_append]
 rw [e]
 refine List.perm_middle.trans (.cons _ ?_)
 rw [b9 (A++J)]
 exact List.perm_append_comm_assoc _ _ _
theorem aIc (a) (J D T:List Own):(a :: (J++(D++T))).Perm (J++(D++(a :: T))):=by
 have e:∀ X:List Own,J++(D++X)=(J++D)++X:=λX=>(b9 _ _ _).symm
 rw [e,e]
 exact List.perm_middle.symm
def v8 (d:gZ) (j:sE) (n:Int) (l:List ByteArray):gZ × sE × Int :=
 if (j4 d j (min (n - 1) (j.list.length:Int))).2.2≠0 then j4 d j (min (n - 1) (j.list.length:Int)) else dU (j4 d j (min (n - 1) (j.list.length:Int))).1 (j4 d j (min (n - 1) (j.list.length:Int))).2.1 l
def b0J (d:gZ) (q:DkP) (x:JoP) (j:sE) (n:Int) (l:List ByteArray) (k0 gb mO:Nat) (cs:List Value) (S:List Own) (Φ:PW) (r:Int) (R:List Own) (aV:PW):Prop :=
 aV=Φ/\r=(v8 d j n l).2.2/\∃ (Bx:List Own) (v:DkU) (p:Option Addr) (c:Nat) (o:Own),SB p c (v8 d j n l).2.1.list o/\oR (q.mv v) (v8 d j n l).1/\(v8 d j n l).1.keep=d.keep /\
  R=Bx++(kM k0 gb mO :: kG gb cs :: (eI (x.mv p c o) q (v8 d j n l).2.1++(aZ (q.mv v) (v8 d j n l).1++S)))
theorem aPV [aB Φ] (hoff:∀ M w,Φ M w->rM M w) (hT:∀ M w,Φ M w->yB M w) {k0 k1 k gb mO cs oc q d x j n lp lc l} (hcs:cs[mO+1]? = some (pA x.jb)) (hoc:oc[3]? = some (.int .i64 n)) (hn:aX (n - 1)) (hq:oR q d) (hkp:J6 Φ q d) (hsb:SB x.p x.cap j.list x.o) (hf:(aO j.list).length<=1000000000) (hb:j.bytes<=1000000000) (hjl:j.list.length<=1000000) (kZ:∀ M w,Φ M w->Sl M w lp l) (hlf:(aO l).length<=1000000000) (hll:l.length<=1000000):
  a0m W (b0J d q x j n l k0 gb mO cs S Φ) [(F.fE,#[pA k0,pA k1]),(F.fG,#[pA k0,pA k])] (kL k lp l.length lc :: kO k1 oc :: kM k0 gb mO :: kG gb cs :: (eI x q j++(aZ q d++S))) Φ:=by
 obtain ⟨hb1,hl1⟩:=aAo d j (min (n - 1) (j.list.length:Int))
 refine ⟨by kernel_rfl,λw G cx=>?_⟩
 have p1:∀ (J D:List Own),((kL k lp l.length lc :: kO k1 oc :: kM k0 gb mO :: kG gb cs :: (J++(D++S)))++G).Perm (kM k0 gb mO :: kO k1 oc :: kG gb cs :: (J++(D++(kL k lp l.length lc :: (S++G))))):=λJ D=>by
  have e:(kL k lp l.length lc :: kO k1 oc :: kM k0 gb mO :: kG gb cs :: (J++(D++S)))++G=kL k lp l.length lc :: kO k1 oc :: kM k0 gb mO :: kG gb cs :: (J++(D++(S++G))):=by simp only [b9,List.cons_append]
  rw [e]
  refine ((List.perm_append_comm_assoc [kL k lp l.length lc] [kO k1 oc,kM k0 gb mO,kG gb cs] _).trans ?_)
  refine ((aIc (kL k lp l.length lc) J D (S++G)).append_left [kO k1 oc,kM k0 gb mO,kG gb cs]).trans ?_
  exact .swap _ _ _
 refine aIa hoff hT hcs hoc hn hq hkp hsb hf (cx.perm (p1 _ _)) λv p c o w a7u hq1 cx=>?_
 have a0p:=aDV d j (min (n - 1) (j.list.length:Int))
 obtain ⟨⟨d1,j1,e1⟩,hx⟩:∃ y,j4 d j (min (n - 1) (j.list.length:Int))=y:=⟨_,rfl⟩
 rw [hx] at a7u hq1 cx a0p hb1 hl1
 simp only at a7u hq1 cx a0p hb1 hl1
 refine ⟨e1,by rw [hx],kL k lp l.length lc :: kO k1 oc :: kM k0 gb mO :: kG gb cs :: (eI (x.mv p c o) q j1++(aZ (q.mv v) d1++S)),Φ,aL,cx.perm (p1 _ _).symm,λhne=>?_,λhe=>?_⟩
 .have eb:v8 d j n l=(d1,j1,e1):=by unfold v8;rw [hx,if_pos hne]
  refine ⟨rfl,by rw [eb],[kL k lp l.length lc,kO k1 oc],v,p,c,o,by rw [eb];exact a7u,by rw [eb];exact hq1,by rw [eb];exact a0p,by rw [eb];rfl⟩
 have eb:v8 d j n l=dU d1 j1 l:=by unfold v8;rw [hx,if_neg (by simp [he])]
 refine ⟨by kernel_rfl,λw G cx=>?_⟩
 have p2:∀ (J D:List Own),((kL k lp l.length lc :: kO k1 oc :: kM k0 gb mO :: kG gb cs :: (J++(D++S)))++G).Perm (kM k0 gb mO :: kL k lp l.length lc :: kG gb cs :: (J++(D++(kO k1 oc :: (S++G))))):=λJ D=>by
  have e:(kL k lp l.length lc :: kO k1 oc :: kM k0 gb mO :: kG gb cs :: (J++(D++S)))++G=kL k lp l.length lc :: kO k1 oc :: kM k0 gb mO :: kG gb cs :: (J++(D++(S++G))):=by simp only [b9,List.cons_append]
  rw [e]
  refine (List.Perm.swap _ _ _).trans ((List.perm_append_comm_assoc [kO k1 oc] [kL k lp l.length lc,kM k0 gb mO,kG gb cs] _).trans ?_)
  refine ((aIc (kO k1 oc) J D (S++G)).append_left [kL k lp l.length lc,kM k0 gb mO,kG gb cs]).trans ?_
  exact .swap _ _ _
 refine aIb (x:=x.mv p c o) hoff hT hcs hq1 (hkp.of a0p v) a7u kZ hlf (by omega) (by omega) (cx.perm (p2 _ _)) λv2 p3 c3 o3 w aPW qP cx=>?_
 have aPX:=a4B d1 j1 l
 rw [<-eb] at aPW qP cx aPX ⊢
 exact ⟨_,rfl,kL k lp l.length lc :: kO k1 oc :: kM k0 gb mO :: kG gb cs :: (eI (x.mv p3 c3 o3) q (v8 d j n l).2.1++(aZ (q.mv v2) (v8 d j n l).1++S)),Φ,aL,Ctx.perm cx (p2 _ _).symm,λ_=>⟨rfl,rfl,[kL k lp l.length lc,kO k1 oc],v2,p3,c3,o3,aPW,qP,aPX.trans a0p,rfl⟩,λh0=>⟨rfl,h0.symm,[kL k lp l.length lc,kO k1 oc],v2,p3,c3,o3,aPW,qP,aPX.trans a0p,rfl⟩⟩
theorem aAp (d u o):(qL d u o).1.keep=d.keep:=by
 unfold qL
 split
 .exact a2Q _ _ _
 .rfl
theorem aId (d u o) (h:0<o.src):sO d u o=v8 d u.j o.src (o.aF.map gX):=by unfold sO;rw [if_pos h];rfl
theorem aPY {x}:bs (vS x)=gX x:=rfl
abbrev aPZ (gb:Nat) (cs:List Value) (q:DkP) (v:DkU) (x:JoP) (cb:Nat) (d:gZ) (j:sE) (c:IM) (S:List Own):List Own:=kG gb cs :: (eI x q j++(aZ (q.mv v) d++(eS cb q c :: S)))
theorem aEc [aB Φ] (hoff:∀ M w,Φ M w->rM M w) (hT:∀ M w,Φ M w->yB M w) {gb mO cb cs q d x u o p1 p2 c1 c2} (hm:mO+4<=cs.length) (hs1:cs[mO+1]? = some (pA x.jb)) (hs2:cs[mO+2]? = some (pA cb)) (hq:oR q d) (hkp:J6 Φ q d) (hsb:SB x.p x.cap u.j.list x.o) (hb:aLI u o) (kZ:∀ M w,Φ M w->Sl M w p1 o.aF) (cx:Ctx W w (kG gb cs :: (eI x q u.j++(aZ q d++(eS cb q u.c :: S)))) Φ) {K} (hk:∀ v p c oo w',SB p c (cY d u o).2.1.j.list oo->oR (q.mv v) (cY d u o).1->(cY d u o).1.keep=d.keep->Ctx W w' (aPZ gb (if (cY d u o).2.2=0 then cs else F3 cs mO) q v (x.mv p c oo) cb (cY d u o).1 (cY d u o).2.1.j (cY d u o).2.1.c S) Φ->K (.returned (.int .i64 (cY d u o).2.2)) w'):
  aD F.lJ #[.pointer (some ⟨gb,mO,none⟩),WL o p1 c1 p2 c2] w K:=by
 have hth:a2n p1 o.aF.length:=(kZ _ _ cx.tX).there
 have b5p:=fU hb.ints.1.1
 have b5q:=fU hb.ints.1.2
 have hkeep:=aAp d u o
 refine fW (CI gb mO o.save o.term o.aQ o.src p1 o.aF.length c1 p2 o.send.length c2 (J:=K∘.returned) cx λk0 k1=>?_)
 obtain ⟨oc,hoc⟩:∃ oc,b0H o p1 c1 p2 c2=oc:=⟨_,rfl⟩
 have UX:oc[3]? = some (.int .i64 o.src):=by rw [<-hoc];rfl
 have ho4:oc[4]? = some (.slice p1 o.aF.length c1):=by rw [<-hoc];rfl
 have ho0:oc[0]? = some (.bool o.save):=by rw [<-hoc];rfl
 have rT:oc[1]? = some (.int .i64 o.term):=by rw [<-hoc];rfl
 have GC:oc[2]? = some (.int .i64 o.aQ):=by rw [<-hoc];rfl
 have eK:∀ R:List Own,Own.blk k1 [.bool o.save,.int .i64 o.term,.int .i64 o.aQ,.int .i64 o.src,.slice p1 o.aF.length c1,.slice p2 o.send.length c2] 146 :: Own.blk k0 [.pointer (some ⟨gb,mO,none⟩)] 139 :: R=kO k1 oc :: kM k0 gb mO :: R:=λR=>by rw [<-hoc]
 rw [eK]
 have sA:∀ Y:List Own,List.Sublist [kO k1 oc,kM k0 gb mO,kG gb cs] ([kO k1 oc,kM k0 gb mO,kG gb cs]++Y):=λY=>List.sublist_append_left _ _
 obtain ⟨⟨d1,cc,e1⟩,ha⟩:∃ a,qL d u o=a:=⟨_,rfl⟩
 rw [ha] at hkeep
 simp only at hkeep
 refine dF (λn R' aV=>n=e1/\aV=Φ/\∃ v:DkU,oR (q.mv v) d1/\R'=kO k1 oc :: kM k0 gb mO :: kG gb cs :: (eI x q u.j++(aZ (q.mv v) d1++(eS cb q cc :: S)))) ⟨λw G cx=>⟨o.save,cx.get 0 rfl ho0,Br.intro (λhsv=>?_) (λhsv=>?_)⟩,?_⟩
 ·-- the hard state is stored
  refine ⟨[kO k1 oc,kM k0 gb mO,kG gb cs],VI,aL,λw G cx=>bX cx (sA _),some ⟨gb,mO,none⟩,λw G cx=>⟨_,cx.get 1 rfl rfl,rfl⟩,aU gb mO rfl ⟨o.term,λw G cx=>⟨_,cx.get 0 rfl rT,rfl⟩,o.aQ,λw G cx=>⟨_,cx.get 0 rfl GC,rfl⟩,some ⟨cb,0,none⟩,λw G cx=>⟨_,cx.get 2 rfl hs2,rfl⟩,λw G cx=>?_⟩⟩
  refine (NL (Φ:=Φ) (.inl ⟨hT,hb.ints.1.1⟩)).use cx λw cx=>⟨_,rfl,_,Φ,aL,cx,λw G cx=>bX cx (sA _),λw G cx=>(NL (Φ:=Φ) (.inl ⟨hT,hb.ints.1.2⟩)).use cx λw cx=>⟨_,rfl,_,Φ,aL,cx,λw G cx=>bX cx (sA _),by show (oO o.term).size+(oO o.aQ).size<=_;omega,λw G cx=>?_⟩⟩
  have eh:oO o.term++oO o.aQ=bs (CR o.term o.aQ):=by
   apply ByteArray.ext
   apply Array.toList_inj.1
   simp [CR,bs]
  rw [eh]
  have es:wY d u.c (CR o.term o.aQ)=(d1,cc,e1):=by rw [<-ha];unfold qL;rw [if_pos hsv]
  refine a7k (S:=([kO k1 oc,kM k0 gb mO,kG gb cs]++eI x q u.j)++(S++G)) hq hkp hoff (cx.perm (aNc [kO k1 oc,kM k0 gb mO,kG gb cs] (eI x q u.j) (aZ q d) S G (eS cb q u.c))) λv w hq1 cx=>?_
  rw [es] at hq1 cx ⊢
  simp only at hq1 cx ⊢
  refine ⟨e1,rfl,kO k1 oc :: kM k0 gb mO :: kG gb cs :: (eI x q u.j++(aZ (q.mv v) d1++(eS cb q cc :: S))),Φ,aL,cx.perm (aNc [kO k1 oc,kM k0 gb mO,kG gb cs] (eI x q u.j) (aZ (q.mv v) d1) S G (eS cb q cc)).symm,_,Φ,aL,λw G cx=>cx,rfl,rfl,v,hq1,rfl⟩
 .have es:(d,u.c,(0:Int))=(d1,cc,e1):=by rw [<-ha];unfold qL;rw [if_neg (by rw [hsv];simp)]
  injection es with fM RH
  injection RH with RH es3
  subst fM RH es3
  exact ⟨_,Φ,aL,λw G cx=>cx,rfl,rfl,q.un,hq,rfl⟩
 .rintro n R' aV hst ⟨rfl,rfl,v,hq1,rfl⟩ w G cx
  have aPL:J6 aV (q.mv v) d1:=hkp.of hkeep v
  have zF:∀ r:gZ × WN × Int,cY d u o=r->r.2.1.c=cc/\True:=λr hr=>by
   refine ⟨?_,trivial⟩
   rw [<-hr]
   unfold cY
   rw [ha]
   simp only
   split<;>rfl
  refine ⟨o.src,λ_=>cx.get 0 rfl UX,Br.intro (λhsr=>λk w G cx=>⟨_,_,_,cx.get 1 rfl ho4,?_⟩) (λhsr=>?_)⟩
  rotate_left 1
  ·-- nothing for the journal,or a failure
   refine Br.intro (λhne=>λw G cx=>⟨_,cx.get 1 rfl rfl,λw G cx=>?_⟩) (λhe=>λw G cx=>?_)
   .have hne:n≠0:=eC hne
    have er:cY d u o=(d1,{ u with c:=cc },n):=by unfold cY;rw [ha];simp only;rw [if_pos hne]
    rw [er] at hk
    refine a0n hm (S:=kO k1 oc :: kM k0 gb mO :: (eI x q u.j++(aZ (q.mv v) d1++(eS cb q cc :: S)))++G) (cx.perm (List.perm_append_comm_assoc [kO k1 oc,kM k0 gb mO] [kG gb cs] _)) λw cx=>⟨rfl,aPZ gb (F3 cs mO) q v x cb d1 u.j cc S,aV,aL,cx.sub (by
     show List.Sublist (kG gb (F3 cs mO) :: ((eI x q u.j++(aZ (q.mv v) d1++(eS cb q cc :: S)))++G)) (kG gb (F3 cs mO) :: kO k1 oc :: kM k0 gb mO :: ((eI x q u.j++(aZ (q.mv v) d1++(eS cb q cc :: S)))++G))
     exact .cons_cons _ (((List.Sublist.refl _).cons _).cons _)),λw G cx=>?_⟩
    have:=hk v x.p x.cap x.o w hsb hq1 hkeep
    rw [if_neg hne] at this
    exact this cx.left
   .have he:n=0:=by simpa using cS he
    subst he
    have hsr:¬ 0<o.src:=by simpa using hsr
    have er:cY d u o=(d1,{ u with c:=cc },0):=by
     unfold cY
     rw [ha]
     simp only
     rw [if_neg (by simp)]
     unfold sO
     rw [if_neg hsr]
    rw [er] at hk
    have:=hk v x.p x.cap x.o w hsb hq1 hkeep
    rw [if_pos rfl] at this
    exact this (cx.left.sub (((List.Sublist.refl _).cons _).cons _))
  .have hs0:n=0/\0<o.src:=by simpa using hsr
   clear hsr
   obtain ⟨rfl,hs0⟩:=hs0
   have er:cY d u o=((v8 d1 u.j o.src (o.aF.map gX)).1,{ u with c:=cc,j:=(v8 d1 u.j o.src (o.aF.map gX)).2.1 },(v8 d1 u.j o.src (o.aF.map gX)).2.2):=by
    unfold cY
    rw [ha]
    simp only
    rw [if_neg (by simp),aId _ _ _ hs0]
   rw [er] at hk
   simp only at hk
   obtain ⟨B,hB⟩:∃ B,B=kO k1 oc :: kM k0 gb mO :: kG gb cs :: (eI x q u.j++(aZ (q.mv v) d1++(eS cb q cc :: S))):=⟨_,rfl⟩
   rw [<-hB]
   refine dF (λnI R' Ψ κ=>∃ (i:Nat) (p:Option Addr) (c:Nat),nI=i/\i<=o.aF.length/\κ=o.aF.length - i/\Ψ=aV/\R'=kL k p i c :: .buf p i c (dL ((o.aF.take i).map gX)) 9 1 :: B) ⟨⟨_,_,_,hst,λw G cx=>((cx.aCA 9 1).perm (.swap _ _ _)),0,none,0,rfl,Nat.zero_le _,rfl,rfl,rfl⟩,?_⟩
   rintro nI R1 Ψ κ _ ⟨i,p,c,rfl,hi,rfl,rfl,rfl⟩
   refine Br.intro (λhlt=>?_) (λhge=>λk3 w G cx=>?_)
   .have hlt:i<o.aF.length:=by have:=eC hlt;omega
    obtain ⟨g,og,rfl⟩:=hth (by omega)
    have hx:=hb.aF _ (List.getElem_mem hlt)
    refine ⟨⟨by omega,by omega⟩,aU g og rfl λw G cx=>⟨o.aF[i].term,o.aF[i].data,by rw [Int.toNat_natCast];exact TG (kZ _ _ cx.tX) hlt,λ_=>⟨[kL k p i c],VI,aL,λw G cx=>bX cx (by simp),p,i,c,λw G cx=>⟨_,_,_,cx.get 0 rfl rfl,rfl⟩,λw G cx=>?_⟩⟩⟩
    have sk:∀ (a:Own) (Y:List Own),List.Sublist [a] (a :: Y):=λa Y=>.cons_cons _ (List.nil_sublist _)
    refine (VK (Φ:=Ψ) hT hx.1 (by omega)).use cx λw cx=>⟨_,rfl,_,Ψ,aL,cx,λw G cx=>bX cx (sk _ _),λk4=>⟨λw G cx=>bX cx (.cons _ (sk _ _)),λw G cx=>?_⟩⟩
    have hlen:(dL ((o.aF.take i).map gX)).length=i*1:=by rw [List.length_map,List.length_map,List.length_take];omega
    have hrl:=hb.aVI
    obtain ⟨p',c',w',hr,_,BK⟩:=(cx.perm (show (Own.blk k4 [Value.string (bs (vS o.aF[i]))] 9 :: (kL k p i c :: .buf p i c (dL ((o.aF.take i).map gX)) 9 1 :: B)++G).Perm (Own.blk k4 [Value.string (bs (vS o.aF[i]))] 9 :: .buf p i c (dL ((o.aF.take i).map gX)) 9 1 :: (kL k p i c :: B++G)) from .cons _ (.swap _ _ _))).Z9 (ts:=40) (ty:=40) (kb:=#[false,false]) (bytes:=16) (P:=prog) (by kernel_rfl) (by omega) rfl rfl (by omega) (by omega)
    have et:dL ((o.aF.take i).map gX)++[Value.string (bs (vS o.aF[i]))]=dL ((o.aF.take (i+1)).map gX):=by
     rw [List.take_succ_eq_append_getElem hlt,List.map_append]
     simp only [dL,List.map_append,List.map_cons,List.map_nil]
     rfl
    rw [et] at BK
    refine ⟨_,_,_,w',hr,.buf p' (i+1) c' (dL ((o.aF.take (i+1)).map gX)) 9 1 :: kL k p i c :: B,Ψ,aL,BK,λw G cx=>⟨cx.can 1 rfl (by show 0+1<=1;omega),λw' hw'=>⟨.buf p' (i+1) c' (dL ((o.aF.take (i+1)).map gX)) 9 1 :: kL k p' (i+1) c' :: B,Ψ,aL,cx.put 1 hw' rfl,by unfold aX;omega,kL k p' (i+1) c' :: .buf p' (i+1) c' (dL ((o.aF.take (i+1)).map gX)) 9 1 :: B,Ψ,_,aL,λw G cx=>cx.perm (.swap _ _ _),⟨i+1,p',c',by omega,by omega,rfl,rfl,rfl⟩,by omega⟩⟩⟩
   .have he:i=o.aF.length:=by have:=cS hge;omega
    subst he
    rw [List.take_length] at cx
    have hml:o.aF.length=(o.aF.map gX).length:=by rw [List.length_map]
    have c5:Ctx W w (.buf p o.aF.length c (dL (o.aF.map gX)) 9 1 :: (.blk k3 (aAd [(F.fE,#[pA k0,pA k1]),(F.fG,#[pA k0,pA k])]) 258 :: kL k p o.aF.length c :: B++G)) Ψ:=cx.perm ((List.perm_append_comm_assoc [_,kL k p o.aF.length c] [.buf p o.aF.length c (dL (o.aF.map gX)) 9 1] (B++G)))
    obtain ⟨c6,hs,_⟩:=Ctx.freeze (α:=ByteArray) c5 (yK λy hy=>by
     obtain ⟨z,hz,rfl⟩:=List.mem_map.1 hy
     have:=hb.aF z hz
     have h9:=a0i this.1 (by omega)
     rw [<-aPY,bJ]
     unfold maxLen
     omega)
    obtain ⟨Ξ,hΞ⟩:∃ Ξ:PW,Ξ=λM w=>Ψ M w/\Sl M w p (o.aF.map gX):=⟨_,rfl⟩
    haveI:aB Ξ:=by rw [hΞ];infer_instance
    have hw1:∀ M w,Ξ M w->Ψ M w:=by rw [hΞ];exact λM w h=>h.1
    have zY:∀ M w,Ξ M w->Sl M w p (o.aF.map gX):=by rw [hΞ];exact λM w h=>h.2
    have c7:Ctx W w (.blk k3 (aAd [(F.fE,#[pA k0,pA k1]),(F.fG,#[pA k0,pA k])]) 258 :: (kL k p (o.aF.map gX).length c :: kO k1 oc :: kM k0 gb mO :: kG gb cs :: (eI x q u.j++(aZ (q.mv v) d1++((eS cb q cc :: S)++G))))) Ξ:=by
     have c8:=c6.add (Ψ:=λM w=>Sl M w p (o.aF.map gX)) hs
     rw [<-hΞ,hB] at c8
     rw [<-hml]
     have e9:(kO k1 oc :: kM k0 gb mO :: kG gb cs :: (eI x q u.j++(aZ (q.mv v) d1++(eS cb q cc :: S))))++G=kO k1 oc :: kM k0 gb mO :: kG gb cs :: (eI x q u.j++(aZ (q.mv v) d1++((eS cb q cc :: S)++G))):=by simp only [b9,List.cons_append]
     rw [<-e9]
     exact c8
    refine a2W (fs:=[(F.fE,#[pA k0,pA k1]),(F.fG,#[pA k0,pA k])]) (by show 2<=1000;omega) c7 (aPV (λM w h=>hoff M w (hw1 M w h)) (λM w h=>hT M w (hw1 M w h)) hs1 UX hb.ints.2 hq1 (aPL.weak hw1) hsb hb.aVK hb.aPU hb.b0I zY hb.aVJ (by rw [List.length_map];have:=hb.aVI;omega)) λn S' AP w a8I hJ cx=>?_
    obtain ⟨rfl,rfl,Bx,v2,p3,c3,o3,g1,g2,g3,rfl⟩:=hJ
    obtain ⟨⟨d2,j2,e2⟩,hy⟩:∃ y,v8 d1 u.j o.src (o.aF.map gX)=y:=⟨_,rfl⟩
    rw [hy] at hk g1 g2 g3 cx ⊢
    simp only at hk g1 g2 g3 cx ⊢
    have c9:Ctx W w ((kM k0 gb mO :: kG gb cs :: (eI (x.mv p3 c3 o3) q j2++(aZ (q.mv v2) d2++(eS cb q cc :: S))))++G) Ψ:=by
     have c10:=(cx.sub (List.sublist_append_right Bx _)).weak hw1
     have e9:(kM k0 gb mO :: kG gb cs :: (eI (x.mv p3 c3 o3) q j2++(aZ (q.mv v2) d2++(eS cb q cc :: S))))++G=kM k0 gb mO :: kG gb cs :: (eI (x.mv p3 c3 o3) q j2++(aZ (q.mv v2) d2++((eS cb q cc :: S)++G))):=by simp only [b9,List.cons_append]
     rw [e9]
     exact c10
    refine ⟨e2,rfl,_,Ψ,aL,c9,Br.intro (λhne=>λw G cx=>⟨_,cx.get 0 rfl rfl,λw G cx=>?_⟩) (λhe=>λw G cx=>?_)⟩
    .have hne:e2≠0:=eC hne
     refine a0n hm (S:=(kM k0 gb mO :: (eI (x.mv p3 c3 o3) q j2++(aZ (q.mv v2) d2++(eS cb q cc :: S))))++G) (cx.perm (.swap _ _ _)) λw cx=>⟨rfl,aPZ gb (F3 cs mO) q v2 (x.mv p3 c3 o3) cb d2 j2 cc S,Ψ,aL,cx.sub (by
      show List.Sublist (kG gb (F3 cs mO) :: ((eI (x.mv p3 c3 o3) q j2++(aZ (q.mv v2) d2++(eS cb q cc :: S)))++G)) (kG gb (F3 cs mO) :: kM k0 gb mO :: ((eI (x.mv p3 c3 o3) q j2++(aZ (q.mv v2) d2++(eS cb q cc :: S)))++G))
      exact .cons_cons _ ((List.Sublist.refl _).cons _)),λw G cx=>?_⟩
     have:=hk v2 p3 c3 o3 w g1 g2 (g3.trans hkeep)
     rw [if_neg hne] at this
     exact this cx.left
    .have he:e2=0:=by simpa using cS he
     have:=hk v2 p3 c3 o3 w g1 g2 (g3.trans hkeep)
     rw [if_pos he] at this
     exact this (cx.left.sub ((List.Sublist.refl _).cons _))
end
theorem aLJ {M w b o cs} {l:List bR} (h:Pin b o cs l M w) {j} (hj:j<l.length):∃ p c,cs.getD j []=l[j].cells p c/\l[j].aF.length<=c/\c<=maxLen/\l[j].Ok:=by
 obtain ⟨_,h1,h2⟩:=h j hj
 obtain ⟨p,c,e,g1,g2,g3,_⟩:=a2q h2
 exact ⟨p,c,e,g1,g2,g3⟩
theorem aEd {M w b o cs} {l:List bR} (h:Pin b o cs l M w) {j} (hj:j<l.length) {p c} (e:cs.getD j []=l[j].cells p c):Sl M w p l[j].aF:=by
 have:=(h j hj).2.2
 rw [e] at this
 exact aPr this
theorem aEe {M w b o cs} {l:List bR} (h:Pin b o cs l M w) {j} (hj:j<l.length) {p c} (e:cs.getD j []=l[j].cells p c):bL w b (o+j*9) (l[j].cells p c):=by
 have:=(h j hj).2.1
 rw [e] at this
 exact this
theorem aLK {W w S} {Φ:PW} [aB Φ] {b r p c} (cx:Ctx W w (aS b r p c++S) Φ) (hok:∀ x∈r.log,x.Ok) (hlen:r.log.length<=4000) {K} (hK:∀ q cap w',r.log.length<=cap->cap<=maxLen->Ctx W w' (aS b r p c++S) (λM w=>Φ M w/\Sl M w q r.log)->K (.returned (.slice q r.log.length cap)) w'):
  aD F.oH #[.pointer (some ⟨b,0,none⟩)] w K:=by
 refine fW (AW b 0 (J:=K∘.returned) cx ?_)
 refine λw G cx=>⟨p,r.log.length,c,cx.get 0 rfl rfl,λw G cx=>?_⟩
 have jL:Ctx W w (S++G) (Go.Vc.iS W (aS b r p c) Φ):=Ctx.aside (cx.re (b9 _ _ _))
 refine y4 jL (λM w h=>a9C h (n:=r.log.length) (c:=c) (by simp) hok) (by omega) λq cap w cx=>?_
 obtain ⟨_,a2r,hcap2⟩:=cx.sU 0 rfl
 have BK:Ctx W w (.buf q r.log.length cap (aY r.log) 216 2 :: (aS b r p c++(S++G))) Φ:=cx.A9.perm List.perm_middle
 obtain ⟨WW,hs,_⟩:=Ctx.freeze (α:=bQ) BK (tI hok)
 have hst:aB (λM w=>Φ M w/\Sl M w q r.log):=dM Φ (λM w=>Sl M w q r.log)
 exact ⟨q,_,cap,rfl,aS b r p c++S,λM w=>Φ M w/\Sl M w q r.log,hst,gr (WW.add hs),λw G cx=>hK q cap w a2r hcap2 cx.left⟩
theorem aP0 {w b r p c} (h:ZG w b r p c):aD F.gL #[.pointer (some ⟨b,0,none⟩)] w λe w'=>e=.returned (.int .i64 r.role)/\w'=w :=
 (zD b 0 w (λu w'=>u=.int .i64 r.role/\w'=w) ⟨r.role,h.at 4 rfl,rfl,rfl⟩).mono λe w' ⟨v,h1,h2,h3⟩=>⟨by rw [h1,h2],h3⟩
theorem a7v {w b r p c} (h:ZG w b r p c):aD F.dQ #[.pointer (some ⟨b,0,none⟩)] w λe w'=>e=.returned (.int .i64 r.aE)/\w'=w :=
 (wU b 0 w (λu w'=>u=.int .i64 r.aE/\w'=w) ⟨r.aE,h.at 5 rfl,rfl,rfl⟩).mono λe w' ⟨v,h1,h2,h3⟩=>⟨by rw [h1,h2],h3⟩
theorem aAq {W w S} {Φ:PW} [aB Φ] {b r p c} (cx:Ctx W w (aS b r p c++S) Φ) {K} (hK:∀ w',Ctx W w' (aS b r p c++S) Φ->K (.returned (.int .i64 r.aE)) w'):
  aD F.dQ #[.pointer (some ⟨b,0,none⟩)] w K :=
 (a7v (E3 cx)).mono λe w' ⟨h1,h2⟩=>by subst h2;rw [h1];exact hK _ cx
theorem aIe {W w S} {Φ:PW} [aB Φ] {b r p c} (cx:Ctx W w (aS b r p c++S) Φ) {K} (hK:∀ w',Ctx W w' (aS b r p c++S) Φ->K (.returned (.agg #[.int .i64 r.term,.int .i64 r.aQ])) w'):
  aD F.nE #[.pointer (some ⟨b,0,none⟩)] w K:=by
 refine fW (yS b 0 (J:=K∘.returned) cx ?_)
 exact λ_ w G cx=>⟨r.term,r.aQ,cx.row 0 rfl (A8 (vs:=[.int .i64 r.term,.int .i64 r.aQ]) rfl),λw G cx=>hK w cx.left⟩
structure RM where
 q:DkP
 x:JoP
 cb:Nat
 rb:Nat
 rp:Option Addr
 rc:Nat
def oA (u:Bool) (b:Nat):Option Addr:=if u=true then some ⟨b,0,none⟩ else none
abbrev EH (P:RM) (u:Bool):List Value:=[.pointer (some ⟨P.q.db,0,none⟩),.pointer (oA u P.x.jb),.pointer (oA u P.cb),.pointer (oA u P.rb)]
def upO (P:RM) (d:gZ) (u:WN):List Own:=aS P.rb u.r P.rp P.rc++(eI P.x P.q u.j++(aZ P.q d++[eS P.cb P.q u.c]))
def gY (P:RM) (m:RC):List Own:=match m.up with
 | none=>aZ P.q m.d
 | some u=>upO P m.d u
structure O0 (Φ:PW) (P:RM) (m:RC):Prop where
 dq:oR P.q m.d
 dk:J6 Φ P.q m.d
 sb:∀ u,m.up=some u->SB P.x.p P.x.cap u.j.list P.x.o
structure L9 where
 gb:Nat
 N:aHT
 cp:Option Addr
 cc:Nat
 P:Nat->RM
abbrev grT (L:L9) (fV:List ByteArray):List Value:=[.pointer (some ⟨L.N.nb,0,none⟩),.slice L.cp fV.length L.cc]
def kW (L:L9) (G:gP):List Value:=EH (L.P 0) (G.mem 0).up.isSome++(EH (L.P 1) (G.mem 1).up.isSome++(EH (L.P 2) (G.mem 2).up.isSome++grT L G.fV))
abbrev U2 (L:L9) (fV:List ByteArray):Own:=.buf L.cp fV.length L.cc (dL fV) 9 1
def J9 (L:L9) (G:gP):List Own:=gY (L.P 0) (G.mem 0)++(gY (L.P 1) (G.mem 1)++gY (L.P 2) (G.mem 2))
def cR (L:L9) (G:gP):List Own:=kG L.gb (kW L G) :: (fO L.N G.eX++(U2 L G.fV :: J9 L G))
def aAr (L:L9) (G:gP) (i:Nat):List Own:=if i=0 then gY (L.P 1) (G.mem 1)++gY (L.P 2) (G.mem 2) else if i=1 then gY (L.P 0) (G.mem 0)++gY (L.P 2) (G.mem 2) else gY (L.P 0) (G.mem 0)++gY (L.P 1) (G.mem 1)
def zG (L:L9) (G:gP) (i:Nat):List Own:=fO L.N G.eX++(U2 L G.fV :: aAr L G i)
structure mT (Φ:PW) (L:L9) (G:gP):Prop where
 mem:∀ i,i<3->O0 Φ (L.P i) (G.mem i)
 U3:G.eX.aM.length<=500
section
variable {L:L9} {G:gP} {i:Nat}
theorem a2Z (L G) (hi:i<3):(J9 L G).Perm (gY (L.P i) (G.mem i)++aAr L G i):=by
 unfold J9 aAr
 match i,hi with
 | 0,_=>exact .refl _
 | 1,_=>exact List.perm_append_comm_assoc _ _ _
 | 2,_ =>
  rw [if_neg (by decide),if_neg (by decide),<-b9]
  exact List.perm_append_comm
theorem RN (L G) (hi:i<3) (F):(cR L G++F).Perm (kG L.gb (kW L G) :: (gY (L.P i) (G.mem i)++(zG L G i++F))):=by
 unfold cR zG
 rw [List.cons_append]
 refine .cons _ ?_
 rw [<-b9 (gY _ _)]
 refine List.Perm.append_right F ?_
 refine (((a2Z L G hi).cons _).append_left _).trans ?_
 refine ((List.perm_middle (a:=U2 L G.fV) (l₁:=gY (L.P i) (G.mem i)) (l₂:=aAr L G i)).symm.append_left _).trans ?_
 exact List.perm_append_comm_assoc _ _ _
theorem aAs (L G):(kW L G).length=14:=rfl
theorem CW (L G) (hi:i<3) {k} (hk:k<4):(kW L G)[i*4+k]? = (EH (L.P i) (G.mem i).up.isSome)[k]? := by
 match i,hi,k,hk with
 | 0,_,0,_=>rfl
 | 0,_,1,_=>rfl
 | 0,_,2,_=>rfl
 | 0,_,3,_=>rfl
 | 1,_,0,_=>rfl
 | 1,_,1,_=>rfl
 | 1,_,2,_=>rfl
 | 1,_,3,_=>rfl
 | 2,_,0,_=>rfl
 | 2,_,1,_=>rfl
 | 2,_,2,_=>rfl
 | 2,_,3,_=>rfl
def fL (L:L9) (i:Nat) (P:RM):L9:={ L with P:=put L.P i P }
theorem aLL (P m) (hi:i<3):zG (fL L i P) (cV G i m) i=zG L G i:=by
 unfold zG aAr
 match i,hi with
 | 0,_=>rfl
 | 1,_=>rfl
 | 2,_=>rfl
theorem a7w {P d} (hP:P.q.db=(L.P i).q.db) (hi:i<3):F3 (kW L G) (i*4)=kW (fL L i P) (cV G i ⟨d,none⟩):=by
 have e:kW (fL L i P) (cV G i ⟨d,none⟩)=kW (fL L i { P with q:={ P.q with db:=(L.P i).q.db } }) (cV G i ⟨d,none⟩):=by rw [<-hP]
 rw [e]
 match i,hi with
 | 0,_=>rfl
 | 1,_=>rfl
 | 2,_=>rfl
theorem aP1 {P d u} (hP:P.q.db=(L.P i).q.db) (hi:i<3):up3 (kW L G) (i*4) P.x.jb P.cb P.rb=kW (fL L i P) (cV G i ⟨d,some u⟩):=by
 have e:kW (fL L i P) (cV G i ⟨d,some u⟩)=kW (fL L i { P with q:={ P.q with db:=(L.P i).q.db } }) (cV G i ⟨d,some u⟩):=by rw [<-hP]
 rw [e]
 match i,hi with
 | 0,_=>rfl
 | 1,_=>rfl
 | 2,_=>rfl
theorem JA {P m} (hP:P.q.db=(L.P i).q.db) (hj:P.x.jb=(L.P i).x.jb) (hc:P.cb=(L.P i).cb) (hr:P.rb=(L.P i).rb) (hu:m.up.isSome=(G.mem i).up.isSome) (hi:i<3):kW L G=kW (fL L i P) (cV G i m):=by
 have key:EH P m.up.isSome=EH (L.P i) (G.mem i).up.isSome:=by rw [hu];simp only [EH];rw [hP,hj,hc,hr]
 have e:∀ j,EH ((fL L i P).P j) ((cV G i m).mem j).up.isSome=EH (L.P j) (G.mem j).up.isSome:=λj=>by
  by_cases hij:j=i
  .subst hij
   show EH (put L.P j P j) ((put G.mem j m j)).up.isSome=_
   rw [cZ,cZ]
   exact key
  .show EH (put L.P i P j) ((put G.mem i m j)).up.isSome=_
   rw [gN _ _ hij,gN _ _ hij]
 unfold kW
 rw [e,e,e]
 rfl
theorem X4 (P m) (hi:i<3) (F):(kG L.gb (kW (fL L i P) (cV G i m)) :: (gY P m++(zG L G i++F))).Perm (cR (fL L i P) (cV G i m)++F):=by
 have h:=RN (fL L i P) (cV G i m) hi F
 rw [aLL P m hi] at h
 have e1:(fL L i P).P i=P:=cZ _ _ _
 have e2:(cV G i m).mem i=m:=cZ _ _ _
 rw [e1,e2] at h
 exact h.symm
theorem mT.put {Φ} (h:mT Φ L G) {P m} (hm:O0 Φ P m):mT Φ (fL L i P) (cV G i m):=⟨λj hj=>by
 by_cases e:j=i
 .subst e
  have e1:(fL L j P).P j=P:=cZ _ _ _
  have e2:(cV G j m).mem j=m:=cZ _ _ _
  rw [e1,e2]
  exact hm
 .have e1:(fL L i P).P j=L.P j:=gN _ _ e
  have e2:(cV G i m).mem j=G.mem j:=gN _ _ e
  rw [e1,e2]
  exact h.mem j hj,h.U3⟩
theorem O0.weak {Φ Ψ P m} (h:O0 Φ P m) (e:∀ M w,Ψ M w->Φ M w):O0 Ψ P m:=⟨h.dq,h.dk.weak e,h.sb⟩
theorem mT.weak {Φ Ψ} (h:mT Φ L G) (e:∀ M w,Ψ M w->Φ M w):mT Ψ L G:=⟨λi hi=>(h.mem i hi).weak e,h.U3⟩
end
def zH (L:L9) (cp:Option Addr) (cc:Nat):L9:={ L with cp:=cp,cc:=cc }
def U4 (G:gP) (l:List ByteArray):gP:={ G with fV:=l }
section
variable {L:L9} {G:gP} {i:Nat}
abbrev LA (L:L9) (G:gP) (i:Nat) (u:WN) (F:List Own):List Own:=kG L.gb (kW L G) :: ((eI (L.P i).x (L.P i).q u.j++(aZ (L.P i).q (G.mem i).d++[eS (L.P i).cb (L.P i).q u.c]))++(zG L G i++F))
theorem O1 (hi:i<3) {u} (hu:(G.mem i).up=some u) (F):(cR L G++F).Perm (aS (L.P i).rb u.r (L.P i).rp (L.P i).rc++LA L G i u F):=by
 refine (RN L G hi F).trans ?_
 have e:gY (L.P i) (G.mem i)=aS (L.P i).rb u.r (L.P i).rp (L.P i).rc++(eI (L.P i).x (L.P i).q u.j++(aZ (L.P i).q (G.mem i).d++[eS (L.P i).cb (L.P i).q u.c])):=by unfold gY;rw [hu];rfl
 rw [e,b9]
 exact List.perm_middle.symm
abbrev a4F (L:L9) (G:gP) (F:List Own):List Own:=kG L.gb (kW L G) :: (fO L.N G.eX++(J9 L G++F))
theorem aIf (L G F):(cR L G++F).Perm (U2 L G.fV :: a4F L G F):=by
 have e:cR L G++F=(kG L.gb (kW L G) :: fO L.N G.eX)++(U2 L G.fV :: (J9 L G++F)):=by
  unfold cR
  simp only [b9,List.cons_append]
 rw [e]
 exact List.perm_middle
def EI (G:gP):Nat->gP
 | 0=>G
 | i+1=>iE (EI G i) i
theorem a27 (G):∀ i,(EI G i).mem=G.mem/\(EI G i).eX=G.eX
 | 0=>⟨rfl,rfl⟩
 | i+1=>by
  have h:=a27 G i
  unfold EI iE
  split
  .exact h
  .split<;>exact h
theorem aIg (L G S F):a4F L G S++F=a4F L G (S++F):=by simp only [a4F,List.cons_append,b9]
abbrev aP2 (L:L9) (G:gP) (i:Nat) (u:WN) (F:List Own):List Own:=(kG L.gb (kW L G) :: fO L.N G.eX)++(((eI (L.P i).x (L.P i).q u.j++(aZ (L.P i).q (G.mem i).d++[eS (L.P i).cb (L.P i).q u.c]))++aAr L G i)++F)
theorem aLM (hi:i<3) {u} (hu:(G.mem i).up=some u) (F):(a4F L G F).Perm (aS (L.P i).rb u.r (L.P i).rp (L.P i).rc++aP2 L G i u F):=by
 have e:gY (L.P i) (G.mem i)=aS (L.P i).rb u.r (L.P i).rp (L.P i).rc++(eI (L.P i).x (L.P i).q u.j++(aZ (L.P i).q (G.mem i).d++[eS (L.P i).cb (L.P i).q u.c])):=by unfold gY;rw [hu];rfl
 have h:=(a2Z L G hi).append_right F
 rw [e,b9,b9] at h
 have h2:=h.append_left (kG L.gb (kW L G) :: fO L.N G.eX)
 refine List.Perm.trans h2 ?_
 rw [<-b9 (eI (L.P i).x (L.P i).q u.j++_) (aAr L G i) F]
 exact List.perm_append_comm_assoc _ _ _
abbrev kX (k:Nat) (vs:List Value):Own:=.blk k vs 132
theorem aIh {w0 rb r p c} (h:ZG w0 rb r p c) {w} (e:∃ k,w=w0.drewN k):aD F.dQ #[.pointer (some ⟨rb,0,none⟩)] w λe w'=>e=.returned (.int .i64 r.aE)/\∃ k,w'=w0.drewN k:=by
 obtain ⟨k,rfl⟩:=e
 exact (a7v (h.drew k)).mono λe w' ⟨h1,h2⟩=>⟨h1,k,h2⟩
theorem U5 {W w S} {Φ:PW} [aB Φ] (hw:∀ i,i<3->∀ u,(G.mem i).up=some u->u.r.Ok) (cx:Ctx W w (cR L G++S) Φ) {K} (hk:∀ cp cc w',Ctx W w' (cR (zH L cp cc) (iX G)++S) Φ->K (.returned (.tuple #[])) w'):aD F.kN #[.pointer (some ⟨L.gb,0,none⟩)] w K:=by
 refine fW (FR L.gb 0 (J:=K∘.returned) cx λw G1 cx=>?_)
 refine ⟨some ⟨(L.P 0).q.db,0,none⟩,oA (G.mem 0).up.isSome (L.P 0).x.jb,oA (G.mem 0).up.isSome (L.P 0).cb,oA (G.mem 0).up.isSome (L.P 0).rb,some ⟨(L.P 1).q.db,0,none⟩,oA (G.mem 1).up.isSome (L.P 1).x.jb,oA (G.mem 1).up.isSome (L.P 1).cb,oA (G.mem 1).up.isSome (L.P 1).rb,some ⟨(L.P 2).q.db,0,none⟩,oA (G.mem 2).up.isSome (L.P 2).x.jb,oA (G.mem 2).up.isSome (L.P 2).cb,oA (G.mem 2).up.isSome (L.P 2).rb,?_,?_⟩
 .exact cx.row 0 rfl (A8 (cs:=kW L G) (vs:=[.pointer (some ⟨(L.P 0).q.db,0,none⟩),.pointer (oA (G.mem 0).up.isSome (L.P 0).x.jb),.pointer (oA (G.mem 0).up.isSome (L.P 0).cb),.pointer (oA (G.mem 0).up.isSome (L.P 0).rb),.pointer (some ⟨(L.P 1).q.db,0,none⟩),.pointer (oA (G.mem 1).up.isSome (L.P 1).x.jb),.pointer (oA (G.mem 1).up.isSome (L.P 1).cb),.pointer (oA (G.mem 1).up.isSome (L.P 1).rb),.pointer (some ⟨(L.P 2).q.db,0,none⟩),.pointer (oA (G.mem 2).up.isSome (L.P 2).x.jb),.pointer (oA (G.mem 2).up.isSome (L.P 2).cb),.pointer (oA (G.mem 2).up.isSome (L.P 2).rb)]) rfl)
 clear cx
 refine dF (λnI R' Ψ κ=>∃ (i:Nat) (cp:Option Addr) (cc:Nat),nI=i/\i<=3/\κ=3 - i/\Ψ=Φ/\R'=cR (zH L cp cc) (EI G i)++S) ⟨⟨_,Φ,_,aL,λw G cx=>cx,0,L.cp,L.cc,rfl,Nat.zero_le _,rfl,rfl,rfl⟩,?_⟩
 rintro nI R' Ψ κ _ ⟨i,cp,cc,rfl,hi,rfl,rfl,rfl⟩
 refine Br.intro (λhlt=>⟨by have:=eC hlt;omega,λk w F cx=>?_⟩) (λhge=>λw F cx=>?_)
 rotate_left 1
 .have he:i=3:=by have:=cS hge;omega
  subst he
  exact hk cp cc w cx.left
 have hi:i<3:=by have:=eC hlt;omega
 obtain ⟨L1,L8⟩:∃ L1,zH L cp cc=L1:=⟨_,rfl⟩
 obtain ⟨G1,hG1⟩:∃ G1,EI G i=G1:=⟨_,rfl⟩
 have hmem:G1.mem=G.mem:=by rw [<-hG1];exact (a27 G i).1
 have hLP:L1.P=L.P:=by rw [<-L8];rfl
 have hgb:L1.gb=L.gb:=by rw [<-L8];rfl
 have aIi:EI G (i+1)=iE G1 i:=by rw [<-hG1];rfl
 have key:List.take 4 (List.drop (0+((i:Nat):Int).toNat*4) [Value.pointer (some ⟨(L.P 0).q.db,0,none⟩),.pointer (oA (G.mem 0).up.isSome (L.P 0).x.jb),.pointer (oA (G.mem 0).up.isSome (L.P 0).cb),.pointer (oA (G.mem 0).up.isSome (L.P 0).rb),.pointer (some ⟨(L.P 1).q.db,0,none⟩),.pointer (oA (G.mem 1).up.isSome (L.P 1).x.jb),.pointer (oA (G.mem 1).up.isSome (L.P 1).cb),.pointer (oA (G.mem 1).up.isSome (L.P 1).rb),.pointer (some ⟨(L.P 2).q.db,0,none⟩),.pointer (oA (G.mem 2).up.isSome (L.P 2).x.jb),.pointer (oA (G.mem 2).up.isSome (L.P 2).cb),.pointer (oA (G.mem 2).up.isSome (L.P 2).rb)])=EH (L1.P i) (G1.mem i).up.isSome:=by
  rw [hmem,hLP]
  match i,hi with
  | 0,_=>rfl
  | 1,_=>rfl
  | 2,_=>rfl
 have hb:∀ (P:RM) (u:Bool),((EH P u).length.beq 4&&(EH P u).all mU)=true:=λ_ _=>rfl
 rw [L8,hG1] at cx
 rw [key,hb]
 refine ⟨cx.can 0 rfl (by show 0+4<=4;omega),λw' hw'=>⟨kX k (EH (L1.P i) (G1.mem i).up.isSome) :: (cR L1 G1++S),Ψ,aL,cx.F6 0 hw' rfl,λw F cx=>?_⟩⟩
 have next:∀ {Q:List Own},aX ((i:Int)+1):=fun {_}=>by unfold aX;omega
 cases hu:(G1.mem i).up with
 | none =>
  have e1:iE G1 i=G1:=by unfold iE;rw [hu]
  rw [hu] at cx
  refine ⟨none,cx.get 0 rfl rfl,none,λh=>(by cases h),0,λh=>(by cases h),none,0,0,λh=>(by cases h),Br.intro (λ_=>⟨by unfold aX;omega,cR L1 G1++S,Ψ,3 - (i+1),aL,λw G cx=>(Ctx.drop1 cx),⟨i+1,cp,cc,by omega,by omega,rfl,rfl,by rw [L8,aIi,e1]⟩,by omega⟩) (λh=>by cases h)⟩
 | some u =>
  have hok:u.r.Ok:=hw i hi u (by rw [<-hmem];exact hu)
  have rW:=hok.aE
  have hlen:=hok.len
  have Y7:∀ x∈u.r.log,x.Ok:=hok.aF
  rw [hu] at cx
  have hrb:oA (some u).isSome (L1.P i).rb=some ⟨(L1.P i).rb,0,none⟩:=rfl
  have pr:∀ (vs:List Value) (F:List Own),((kX k vs :: (cR L1 G1++S))++F).Perm (aS (L1.P i).rb u.r (L1.P i).rp (L1.P i).rc++(kX k vs :: LA L1 G1 i u (S++F))):=λvs F=>by
   rw [List.cons_append,b9]
   exact ((O1 hi hu (S++F)).cons _).trans List.perm_middle.symm
  have hh:=E3 (cx.perm (pr _ F))
  have e13:(kW L1 G1)[13]? = some (.slice L1.cp G1.fV.length L1.cc):=rfl
  refine ⟨_,cx.get 0 rfl rfl,_,λ_=>cx.get 0 rfl rfl,u.r.aE,λ_ w h=>aIh hh h,_,_,_,λ_=>by rw [<-hgb];exact cx.get 1 rfl e13,Br.intro (λh=>?_) (λh=>λw F cx=>?_)⟩
  .have h:(u.r.aE:Int)<=G1.fV.length:=by
    have h:(false||decide ((u.r.aE:Int)<=(G1.fV.length:Int)))=true:=h
    simpa using h
   have e1:iE G1 i=G1:=by unfold iE;rw [hu];simp only;rw [if_neg (by omega)]
   exact ⟨by unfold aX;omega,cR L1 G1++S,Ψ,3 - (i+1),aL,λw G cx=>(Ctx.drop1 cx),⟨i+1,cp,cc,by omega,by omega,rfl,rfl,by rw [L8,aIi,e1]⟩,by omega⟩
  .have h:¬ (u.r.aE:Int)<=G1.fV.length:=by
    have h:(false||decide ((u.r.aE:Int)<=(G1.fV.length:Int)))=false:=h
    simpa using h
   have e1:iE G1 i=U4 G1 ((u.r.log.take u.r.aE).map bQ.data):=by unfold iE;rw [hu];simp only;rw [if_pos (by omega)];rfl
   obtain ⟨vs,hvs⟩:∃ vs,vs=EH (L1.P i) (some u).isSome:=⟨_,rfl⟩
   have hv3:vs[3]? = some (.pointer (some ⟨(L1.P i).rb,0,none⟩)):=by rw [hvs];rfl
   rw [<-hvs] at cx
   have c1:Ctx W w (kX k vs :: a4F L1 G1 (S++F)) Ψ:=by
    have c2:=cx.perm (show ((kX k vs :: (cR L1 G1++S))++F).Perm (U2 L1 G1.fV :: (kX k vs :: a4F L1 G1 (S++F))) from by
     rw [List.cons_append,b9]
     exact ((aIf L1 G1 (S++F)).cons _).trans (.swap _ _ _))
    exact Ctx.drop1 c2
   obtain ⟨Z,hZ⟩:∃ Z:Option Addr->Nat->List ByteArray->List Own->List Own,Z=λcp cc l F=>a4F (zH L1 cp cc) (U4 G1 l) F:=⟨_,rfl⟩
   have zA:∀ cp cc l S F,Z cp cc l S++F=Z cp cc l (S++F):=λcp cc l S F=>by rw [hZ];exact aIg _ _ _ _
   have zR:∀ cp cc l F,(Z cp cc l F).Perm (aS (L1.P i).rb u.r (L1.P i).rp (L1.P i).rc++aP2 (zH L1 cp cc) (U4 G1 l) i u F):=λcp cc l F=>by rw [hZ];exact aLM (L:=zH L1 cp cc) (G:=U4 G1 l) hi hu F
   have zW:∀ {w w':World} {cp cc l RO RP l2 F} {Ξ:PW} [aB Ξ],Ctx W w (kX k vs :: Z cp cc l F) Ξ->w'=w.setCell (Addr.mk L.gb (0+13) none) (.slice RO (List.length l2) RP)->Ctx W w' (kX k vs :: Z RO RP l2 F) Ξ:=fun {w w' cp cc l RO RP l2 F Ξ} _ c e=>by
    rw [hZ] at c ⊢
    rw [<-hgb] at e
    exact c.put 1 e rfl
   have zC:∀ {w:World} {cp cc l F} {Ξ:PW},Ctx W w (kX k vs :: Z cp cc l F) Ξ->aG w L.gb (0+13) 1:=fun {w cp cc l F Ξ} c=>by
    rw [hZ] at c
    rw [<-hgb]
    exact c.can 1 rfl (by show 0+13+1<=14;omega)
   have c1:Ctx W w (kX k vs :: Z L1.cp L1.cc G1.fV (S++F)) Ψ:=by rw [hZ];exact c1
   have hk0:∀ Y:List Own,List.Sublist [kX k vs] (kX k vs :: Y):=λY=>.cons_cons _ (List.nil_sublist _)
   refine ⟨zC c1,λw' hw'=>⟨kX k vs :: Z none 0 [] S,Ψ,aL,by
    rw [List.cons_append,zA]
    exact zW c1 hw',[kX k vs],VI,aL,λw G cx=>bX cx (hk0 _),some ⟨(L1.P i).rb,0,none⟩,λw G cx=>⟨_,cx.get 0 rfl hv3,rfl⟩,some ⟨(L1.P i).rb,0,none⟩,λw G cx=>⟨_,cx.get 0 rfl hv3,rfl⟩,λw F cx=>?_⟩⟩
   have pz:∀ F,((kX k vs :: Z none 0 [] S)++F).Perm (aS (L1.P i).rb u.r (L1.P i).rp (L1.P i).rc++(kX k vs :: aP2 (zH L1 none 0) (U4 G1 []) i u (S++F))):=λF=>by
    rw [List.cons_append,zA]
    exact ((zR none 0 [] (S++F)).cons _).trans List.perm_middle.symm
   refine aLK (cx.perm (pz F)) Y7 hlen λq cap w a2r hcap2 cx=>?_
   obtain ⟨Ξ,hΞ⟩:∃ Ξ:PW,Ξ=λM w=>Ψ M w/\Sl M w q u.r.log:=⟨_,rfl⟩
   haveI:aB Ξ:=by rw [hΞ];infer_instance
   have hw1:∀ M w,Ξ M w->Ψ M w:=by rw [hΞ];exact λM w h=>h.1
   have zY:∀ M w,Ξ M w->Sl M w q u.r.log:=by rw [hΞ];exact λM w h=>h.2
   rw [<-hΞ] at cx
   have hth:a2n q u.r.log.length:=(zY _ _ cx.tX).there
   refine ⟨q,u.r.log.length,cap,rfl,kX k vs :: Z none 0 [] S,Ξ,aL,cx.perm (pz F).symm,λw G cx=>bX cx (hk0 _),λw F cx=>aAq (cx.perm (pz F)) λw cx=>⟨u.r.aE,rfl,kX k vs :: Z none 0 [] S,Ξ,aL,cx.perm (pz F).symm,λw G cx=>bX cx (hk0 _),by omega,?_⟩⟩
   obtain ⟨D,hD⟩:∃ D:Nat->List ByteArray,D=λj=>(u.r.log.take j).map bQ.data:=⟨_,rfl⟩
   have hDl:∀ j,j<=u.r.aE->(D j).length=j:=λj hj=>by rw [hD];show ((u.r.log.take j).map bQ.data).length=j;rw [List.length_map,List.length_take];omega
   have hD0:D 0=[]:=by rw [hD];rfl
   refine dF (λnI R' Ψ2 κ=>∃ (j:Nat) (cp:Option Addr) (cc:Nat),nI=j/\j<=u.r.aE/\κ=u.r.aE - j/\Ψ2=Ξ/\R'=kX k vs :: .buf cp j cc (dL (D j)) 9 1 :: Z cp cc (D j) S) ⟨⟨_,Ξ,_,aL,λw G cx=>(cx.aCA 9 1).perm (.swap _ _ _),0,none,0,rfl,Nat.zero_le _,rfl,rfl,by rw [hD0]⟩,?_⟩
   rintro nI R2 Ψ2 κ2 _ ⟨j,RO,RP,rfl,hj,rfl,rfl,rfl⟩
   rw [Int.toNat_natCast]
   refine Br.intro (λhlt=>?_) (λhge=>?_)
   .have hlt:j<u.r.aE:=by have:=eC hlt;omega
    have hll:j<u.r.log.length:=by omega
    obtain ⟨g,og,rfl⟩:=hth (by omega)
    have es:cJ (some (⟨g,og,none⟩:Addr)) 2 0 cap=some ⟨g,og,none⟩:=by
     unfold cJ
     split
     .rfl
     .rw [Option.map_some,Nat.zero_mul];rfl
    rw [es]
    refine ⟨by omega,aU g og rfl λw F cx=>⟨u.r.log[j].term,u.r.log[j].data,by rw [Int.toNat_natCast];exact TG (zY _ _ cx.tX) hll,λ_=>?_⟩⟩
    have zS:∀ (cp:Option Addr) (cc:Nat) (l:List ByteArray) (Y:List Own),∃ T,Z cp cc l Y=kG L1.gb (kW (zH L1 cp cc) (U4 G1 l)) :: T:=λcp cc l Y=>by rw [hZ];exact ⟨_,rfl⟩
    obtain ⟨T,hT⟩:=zS RO RP (D j) S
    have e13:∀ cp cc l,(kW (zH L1 cp cc) (U4 G1 l))[13]? = some (.slice cp l.length cc):=λ_ _ _=>rfl
    have sG:∀ A:List Own,List.Sublist [kG L1.gb (kW (zH L1 RO RP) (U4 G1 (D j)))] (A++Z RO RP (D j) S):=λA=>by
     rw [hT]
     exact (List.Sublist.cons_cons _ (List.nil_sublist _)).trans (List.sublist_append_right A _)
    refine ⟨[kG L1.gb (kW (zH L1 RO RP) (U4 G1 (D j)))],VI,aL,λw G cx=>bX cx (sG [_,_]),RO,j,RP,λw G cx=>⟨_,_,_,by
     rw [<-hgb]
     have:=cx.get 0 rfl (e13 RO RP (D j))
     rw [hDl j hj] at this
     exact this,rfl⟩,λk5=>⟨λw G cx=>bX cx (sG [_,_,_]),λw F cx=>?_⟩⟩
    obtain ⟨p',c',w',hr,_,BK⟩:=(cx.perm (show (Own.blk k5 [Value.string u.r.log[j].data] 9 :: (kX k vs :: .buf RO j RP (dL (D j)) 9 1 :: Z RO RP (D j) S)++F).Perm (Own.blk k5 [Value.string u.r.log[j].data] 9 :: .buf RO j RP (dL (D j)) 9 1 :: (kX k vs :: Z RO RP (D j) S++F)) from .cons _ (.swap _ _ _))).Z9 (ts:=40) (ty:=40) (kb:=#[false,false]) (bytes:=16) (P:=prog) (by kernel_rfl) (by omega) rfl rfl (by omega) (by omega)
    have ed:D j++[u.r.log[j].data]=D (j+1):=by
     rw [hD]
     show (u.r.log.take j).map bQ.data++[u.r.log[j].data]=(u.r.log.take (j+1)).map bQ.data
     rw [List.take_succ_eq_append_getElem hll,List.map_append]
     rfl
    have et:dL (D j)++[Value.string u.r.log[j].data]=dL (D (j+1)):=by
     rw [<-ed]
     simp only [dL,List.map_append,List.map_cons,List.map_nil]
    rw [et] at BK
    refine ⟨_,_,_,w',hr,.buf p' (j+1) c' (dL (D (j+1))) 9 1 :: kX k vs :: Z RO RP (D j) S,Ψ2,aL,BK,λw G cx=>bX cx (sG [_,_]),λw F cx=>?_⟩
    have c3:Ctx W w (kX k vs :: Z RO RP (D j) (S++F++[.buf p' (j+1) c' (dL (D (j+1))) 9 1])) Ψ2:=cx.perm (by
     show (Own.buf p' (j+1) c' (dL (D (j+1))) 9 1 :: kX k vs :: (Z RO RP (D j) S++F)).Perm _
     rw [zA,<-zA RO RP (D j) (S++F)]
     exact (List.perm_append_comm (l₁:=[Own.buf p' (j+1) c' (dL (D (j+1))) 9 1]) (l₂:=kX k vs :: Z RO RP (D j) (S++F))))
    refine ⟨zC c3,λw' hw'=>⟨kX k vs :: .buf p' (j+1) c' (dL (D (j+1))) 9 1 :: Z p' c' (D (j+1)) S,Ψ2,aL,?_,by unfold aX;omega,_,Ψ2,_,aL,λw G cx=>cx,⟨j+1,p',c',by omega,by omega,rfl,rfl,rfl⟩,by omega⟩⟩
    have hd1:=hDl (j+1) (by omega)
    have hw3:w'=w.setCell (Addr.mk L.gb (0+13) none) (.slice p' (D (j+1)).length c'):=by rw [hd1];exact hw'
    have c4:=zW (l2:=D (j+1)) c3 hw3
    refine c4.perm ?_
    have e9:Z p' c' (D (j+1)) (S++F++[.buf p' (j+1) c' (dL (D (j+1))) 9 1])=(Z p' c' (D (j+1)) S++F)++[.buf p' (j+1) c' (dL (D (j+1))) 9 1]:=by rw [zA,zA]
    rw [e9]
    show (kX k vs :: ((Z p' c' (D (j+1)) S++F)++[_])).Perm (kX k vs :: .buf p' (j+1) c' (dL (D (j+1))) 9 1 :: (Z p' c' (D (j+1)) S++F))
    exact .cons _ List.perm_append_comm
   .have he:j=u.r.aE:=by have:=cS hge;omega
    subst he
    refine ⟨by unfold aX;omega,cR (zH L1 RO RP) (U4 G1 (D u.r.aE))++S,Ψ,3 - (i+1),aL,λw F cx=>?_,⟨i+1,RO,RP,by omega,by omega,rfl,rfl,by rw [aIi,e1,<-L8,hD];rfl⟩,by omega⟩
    have c5:Ctx W w (.buf RO u.r.aE RP (dL (D u.r.aE)) 9 1 :: a4F (zH L1 RO RP) (U4 G1 (D u.r.aE)) (S++F)) Ψ2:=by
     have c6:Ctx W w (.buf RO u.r.aE RP (dL (D u.r.aE)) 9 1 :: (Z RO RP (D u.r.aE) S++F)) Ψ2:=Ctx.drop1 cx
     rw [zA,hZ] at c6
     exact c6
    have e7:U2 (zH L1 RO RP) (U4 G1 (D u.r.aE)).fV=.buf RO u.r.aE RP (dL (D u.r.aE)) 9 1:=by
     show Own.buf RO (D u.r.aE).length RP _ 9 1=_
     rw [hDl _ (Nat.le_refl _)]
     rfl
    have pc:=aIf (zH L1 RO RP) (U4 G1 (D u.r.aE)) (S++F)
    rw [e7] at pc
    rw [b9]
    exact (c5.weak hw1).perm pc.symm
end
def aIj (m:bR):Prop:=m.kind=1/\m.yes=true
structure a7x (r:dX) (x:dX × lT):Prop where
 keep:r.term=x.1.term->r.aQ ≠ -1->x.1.aQ=r.aQ
 yes:∀ m∈x.2.send,aIj m->m.src=r.id/\m.term=x.1.term/\m.to=x.1.aQ/\0<=m.to
theorem pJ (r):∀ m∈cW r,m.kind=2:=λm hm=>by
 unfold cW at hm
 obtain ⟨i,_,rfl⟩:=List.mem_map.1 hm
 rfl
theorem aAt {l:List bR} {k} (hk:k≠1) (h:∀ m∈l,m.kind=k) {P:bR->Prop}:∀ m∈l,aIj m->P m:=λm hm hy=>absurd ((h m hm).symm.trans hy.1) hk
theorem aP3 (r):a7x r (eG r):=by
 unfold eG
 split
 .exact ⟨λ_ _=>rfl,aAt (by decide) (pJ r)⟩
 split
 .exact ⟨λ_ _=>rfl,λm hm=>by cases hm⟩
 .refine ⟨λh=>?_,λm hm hy=>?_⟩
  .have:r.term=r.term+1:=h
   omega
  .obtain ⟨i,_,rfl⟩:=List.mem_map.1 hm
   cases hy.1
theorem aP4 (r data):a7x r ((aK r data).1,(aK r data).2.2.2):=by
 unfold aK
 split
 .exact ⟨λ_ _=>rfl,λm hm=>by cases hm⟩
 split
 .exact ⟨λ_ _=>rfl,λm hm=>by cases hm⟩
 split
 .exact ⟨λ_ _=>rfl,λm hm=>by cases hm⟩
 .exact ⟨λ_ _=>rfl,aAt (by decide) (pJ _)⟩
theorem aP5 (r m) (h0:0<=m.src):a7x r (dG r m)/\(dG r m).1.term=r.term:=by
 unfold dG
 split
 .rename_i hc
  simp only [Bool.and_eq_true,Bool.or_eq_true,decide_eq_true_eq] at hc
  refine ⟨⟨λ_ hv=>?_,λv hv hy=>?_⟩,rfl⟩
  .rcases hc.1.2 with h|h
   .exact absurd h hv
   .exact h.symm
  .rw [List.mem_singleton.1 hv]
   exact ⟨rfl,rfl,rfl,h0⟩
 .refine ⟨⟨λ_ _=>rfl,λv hv hy=>?_⟩,rfl⟩
  rw [List.mem_singleton.1 hv] at hy
  cases hy.2
structure a7y (r:dX) (x:dX × lT):Prop where
 term:x.1.term=r.term
 aQ:x.1.aQ=r.aQ
 send:∀ m∈x.2.send,m.kind≠1
theorem a29 {r r'} (h1:r'.term=r.term) (h2:r'.aQ=r.aQ):a7y r (r',kR):=⟨h1,h2,λm hm=>by cases hm⟩
theorem aAu (r m):a7y r (cU r m):=by
 unfold cU
 split
 .exact a29 rfl rfl
 simp only
 split
 .exact a29 rfl rfl
 .exact ⟨rfl,rfl,λv hv=>by rw [pJ _ v hv];decide⟩
theorem VN (r m):a7y r (b8 r m):=by
 have h3:∀ {r':dX} {a:bR},r'.term=r.term->r'.aQ=r.aQ->a.kind=3->a7y r (r',mW [a]):=λh1 h2 h=>⟨h1,h2,λv hv=>by rw [List.mem_singleton.1 hv,h];decide⟩
 unfold b8
 split
 .exact h3 rfl rfl rfl
 split
 .exact a29 rfl rfl
 simp only
 split
 .exact h3 rfl rfl rfl
 split
 .split
  .exact a29 rfl rfl
  .exact ⟨rfl,rfl,λv hv=>by rw [List.mem_singleton.1 hv];show (3:Int)≠1;decide⟩
 .exact h3 rfl rfl rfl
theorem a4G (r):(bA r).term=r.term/\(bA r).aQ=r.aQ:=by
 unfold bA
 split<;>exact ⟨rfl,rfl⟩
theorem M0 (r m):a7y r (aW r m):=by
 have h2:∀ {r':dX} {a:bR},r'.term=r.term->r'.aQ=r.aQ->a.kind=2->a7y r (r',mW [a]):=λh1 h2 h=>⟨h1,h2,λv hv=>by rw [List.mem_singleton.1 hv,h];decide⟩
 unfold aW
 split
 .exact a29 rfl rfl
 simp only
 split
 .exact h2 rfl rfl rfl
 split
 .exact h2 (a4G _).1 (a4G _).2 rfl
 .exact a29 (a4G _).1 (a4G _).2
theorem a7y.v {r r1 x} (h:a7y r1 x) (h1:r1.term=r.term->r1.aQ=r.aQ):a7x r x :=
 ⟨λht _=>by rw [h.aQ,h1 (by rw [<-h.term,<-ht])],λm hm hy=>absurd hy.1 (h.send m hm)⟩
theorem aVL {r x} (h:a7x r x):a7x r (BF r x):=by
 unfold BF
 split
 .exact h
 .exact ⟨h.keep,h.yes⟩
theorem aP6 (r m):a7x r (cX r m):=by
 cases hy:iT r.id m with
 | false=>rw [wW hy];exact ⟨λ_ _=>rfl,λv hv=>by cases hv⟩
 | true =>
  have hm:=mH.1 hy
  rw [pF hy]
  refine aVL ?_
  obtain ⟨r1,IC⟩:∃ r1,(if r.term<m.term then upR r m else r)=r1:=⟨_,rfl⟩
  have h1:r1.term=r.term->r1.aQ=r.aQ:=by
   rw [<-IC]
   split
   .rename_i hlt
    intro h
    have:m.term=r.term:=h
    omega
   .exact λ_=>rfl
  have hid:r1.id=r.id:=by rw [<-IC];split<;>rfl
  rw [IC]
  unfold dJ
  split
  .obtain ⟨⟨hk,hs⟩,ht⟩:=aP5 r1 m hm.src.2.1
   refine ⟨λh hv=>?_,λv hv hyv=>?_⟩
   .have e:=h1 (by rw [<-ht,<-h])
    rw [hk (by rw [ht]) (by rw [e];exact hv),e]
   .rw [<-hid];exact hs v hv hyv
  split
  .exact (aAu r1 m).v h1
  split
  .exact (VN r1 m).v h1
  .exact (M0 r1 m).v h1
def qV (LL:Int->List bQ) (l:List bQ):Prop:=∀ p x,l[p]? = some x->l.take (p+1)=(LL x.term).take (p+1)
def Ext (LL VO:Int->List bQ):Prop:=∀ t,∃ s,VO t=LL t++s
theorem Ext.refl (LL):Ext LL LL:=λt=>⟨[],(List.append_nil _).symm⟩
theorem a7z (LL):qV LL []:=λp x h=>by simp at h
theorem a3a {LL l} (h:qV LL l) (n):qV LL (l.take n):=λp x hx=>by
 rw [List.getElem?_take] at hx
 split at hx
 .rename_i hp
  rw [List.take_take,Nat.min_eq_left (by omega)]
  exact h p x hx
 .cases hx
theorem take_len {LL:Int->List bQ} {l:List bQ} {p t} (hp:p<l.length) (h:l.take (p+1)=(LL t).take (p+1)):p<(LL t).length:=by
 have:=congrArg List.length h
 rw [List.length_take,List.length_take] at this
 omega
theorem JB {LL VO} (he:Ext LL VO) {l} (h:qV LL l):qV VO l:=λp x hx=>by
 have h1:=h p x hx
 have hp:=(List.getElem?_eq_some_iff.1 hx).1
 have h2:=take_len hp h1
 obtain ⟨s,hs⟩:=he x.term
 rw [hs,List.take_append_of_le_length (by omega)]
 exact h1
theorem a0w {LL a b} (ha:qV LL a) (hb:qV LL b) {p x y} (hx:a[p]? = some x) (hy:b[p]? = some y) (e:x.term=y.term):a.take (p+1)=b.take (p+1):=by
 rw [ha p x hx,hb p y hy,e]
theorem qN {l p x} (h:l[p]? = some x):bG l (p+1)=x.term:=by
 show (match l[p]? with
  | some x=>x.term
  | none=>0)=x.term
 rw [h]
theorem a0x {l s p} (h:p<=l.length):bG (l++s) p=bG l p:=by
 cases p with
 | zero=>rfl
 | succ p =>
  have hp:p<l.length:=h
  obtain ⟨x,hx⟩:∃ x,l[p]? = some x:=⟨_,List.getElem?_eq_getElem hp⟩
  rw [qN hx,qN (x:=x) (by rw [List.getElem?_append_left hp];exact hx)]
theorem aIk {LL a b} (ha:qV LL a) (hb:qV LL b) {ix} (h1:ix<=a.length) (h2:ix<=b.length) (e:bG a ix=bG b ix):a.take ix=b.take ix:=by
 cases ix with
 | zero=>simp
 | succ p =>
  obtain ⟨x,hx⟩:∃ x,a[p]? = some x:=⟨_,List.getElem?_eq_getElem h1⟩
  obtain ⟨y,hy⟩:∃ y,b[p]? = some y:=⟨_,List.getElem?_eq_getElem h2⟩
  rw [qN hx,qN hy] at e
  exact a0w ha hb hx hy e
theorem VP {LL l M aF ix} (hl:qV LL l) (hM:qV LL M) (h1:ix<=l.length) (h2:ix+aF.length<=M.length) (hr:aF=(M.drop ix).take aF.length) (e:bG l ix=bG M ix):
  l.take (ix+agree (l.drop ix) aF)=M.take (ix+agree (l.drop ix) aF):=by
 rcases Nat.eq_zero_or_pos (agree (l.drop ix) aF) with h0|h0
 .rw [h0]
  exact aIk hl hM h1 (by omega) e
 .obtain ⟨k,hk⟩:∃ k,agree (l.drop ix) aF=k+1:=⟨agree (l.drop ix) aF - 1,by omega⟩
  rw [hk]
  obtain ⟨ha,hb,ht⟩:=v7 (l.drop ix) aF k (by omega)
  have hx:l[ix+k]? = some (l.drop ix)[k]:=by
   rw [List.getElem_drop]
   exact List.getElem?_eq_getElem _
  have hy:M[ix+k]? = some aF[k]:=by
   have h3:aF[k]? = some aF[k]:=List.getElem?_eq_getElem hb
   have h4:((M.drop ix).take aF.length)[k]? = some aF[k]:=by rw [<-hr];exact h3
   rw [List.getElem?_take_of_lt hb,List.getElem?_drop] at h4
   exact h4
  exact a0w hl hM hx hy ht
theorem aAv {M aF:List bQ} {ix k} (hr:aF=(M.drop ix).take aF.length):aF.drop k=(M.drop (ix+k)).take (aF.length - k):=by
 have h:((M.drop ix).take aF.length).drop k=(M.drop (ix+k)).take (aF.length - k):=by rw [List.drop_take,List.drop_drop]
 rw [<-h,<-hr]
theorem a3b {LL l M aF ix} (hl:qV LL l) (hM:qV LL M) (h1:ix<=l.length) (h2:ix+aF.length<=M.length) (hr:aF=(M.drop ix).take aF.length) (e:bG l ix=bG M ix) (hk:agree (l.drop ix) aF<=aF.length):
  l.take (ix+agree (l.drop ix) aF)++aF.drop (agree (l.drop ix) aF)=M.take (ix+aF.length):=by
 rw [VP hl hM h1 h2 hr e,aAv hr,<-List.take_add]
 congr 1
 omega
structure Gh where
 V:Int->Nat->Int
 ld:Int->Int
 LL:Int->List bQ
def a0y (LL:Int->List bQ) (m:bR):Prop :=
 0<=m.index/\m.index.toNat+m.aF.length<=(LL m.term).length/\m.aF=((LL m.term).drop m.index.toNat).take m.aF.length/\m.prev=bG (LL m.term) m.index.toNat
structure RQ (C:Cl) (g:Gh):Prop where
 wf:C.Wf
 now:∀ j,j<3->g.V (C.nd j).rep.term j=(C.nd j).rep.aQ
 later:∀ j,j<3->∀ t,(C.nd j).rep.term<t->g.V t j = -1
 yes:∀ m∈C.sent,aIj m->∃ j:Nat,j<3/\m.src=j/\g.V m.term j=m.to/\0<=m.to
 cand:∀ i,i<3->(C.nd i).rep.role=1->(∀ j,j<3->(C.nd i).rep.cN j=true->g.V (C.nd i).rep.term j=i)/\g.ld (C.nd i).rep.term≠i
 lead:∀ i,i<3->(C.nd i).rep.role=2->g.ld (C.nd i).rep.term=i/\g.LL (C.nd i).rep.term=(C.nd i).rep.log
 quo:∀ t,g.ld t ≠ -1->∃ a b,a<3/\b<3/\a≠b/\g.V t a=g.ld t/\g.V t b=g.ld t
 ldt:∀ t,g.ld t ≠ -1->∃ j:Nat,j<3/\g.ld t=j/\t<=(C.nd j).rep.term
 none:∀ t,g.ld t = -1->g.LL t=[]
 log:∀ i,i<3->qV g.LL (C.nd i).rep.log
 ll:∀ t,qV g.LL (g.LL t)
 app:∀ m∈C.sent,m.kind=2->a0y g.LL m
theorem a0y.ext {LL VO} (he:Ext LL VO) {m} (h:a0y LL m):a0y VO m:=by
 obtain ⟨h1,h2,h3,h4⟩:=h
 obtain ⟨s,hs⟩:=he m.term
 refine ⟨h1,by rw [hs,List.length_append];omega,?_,?_⟩
 .rw [hs,List.drop_append_of_le_length (by omega),List.take_append_of_le_length (by rw [List.length_drop];omega)]
  exact h3
 .rw [hs,a0x (by omega)]
  exact h4
def JC (V:Int->Nat->Int) (i:Nat) (t v:Int):Int->Nat->Int:=λu j=>if u=t/\j=i then v else V u j
theorem iU (V i t v):JC V i t v t i=v:=if_pos ⟨rfl,rfl⟩
theorem kY (V) {i j t u} (v) (h:¬ (u=t/\j=i)):JC V i t v u j=V u j:=if_neg h
structure zI (C:Cl) (g:Gh) (i:Nat) (r:dX) (send:List bR) (g':Gh):Prop where
 V:g'.V=JC g.V i r.term r.aQ
 up:(C.nd i).rep.term<=r.term
 keep:(C.nd i).rep.term=r.term->(C.nd i).rep.aQ ≠ -1->r.aQ=(C.nd i).rep.aQ
 yes:∀ m∈send,aIj m->m.src=i/\m.term=r.term/\m.to=r.aQ/\0<=m.to
 ld:∀ t,g'.ld t=g.ld t\/(g.ld t = -1/\g'.ld t=i/\t<=r.term/\∃ a b,a<3/\b<3/\a≠b/\g'.V t a=i/\g'.V t b=i)
 ext:Ext g.LL g'.LL
 LL:∀ t,g'.LL t=g.LL t\/(g'.ld t=i/\qV g'.LL (g'.LL t))
 cand:r.role=1->(∀ j,j<3->r.cN j=true->g'.V r.term j=i)/\g'.ld r.term≠i
 lead:r.role=2->g'.ld r.term=i/\g'.LL r.term=r.log
 log:qV g'.LL r.log
 app:∀ m∈send,m.kind=2->a0y g'.LL m
theorem zI.b0M {C g g' i r send} (f:zI C g i r send g') (h:RQ C g) (hi:i<3) {t j} (hv:g.V t j ≠ -1):g'.V t j=g.V t j:=by
 rw [f.V]
 by_cases hc:t=r.term/\j=i
 .obtain ⟨rfl,rfl⟩:=hc
  rw [iU]
  have hup:=f.up
  rcases Int.lt_or_eq_of_le hup with hlt|heq
  .exact absurd (h.later j hi r.term hlt) hv
  .have h1:=h.now j hi
   rw [heq] at h1
   rw [f.keep heq (by rw [<-h1];exact hv),<-h1]
 .exact kY _ _ hc
theorem RQ.node {C C' g g' i r send} (h:RQ C g) (hi:i<3) (f:zI C g i r send g') (hw:C'.Wf) (hr:(C'.nd i).rep=r) (hne:∀ j,j≠i->C'.nd j=C.nd j) (hs:∀ m∈C'.sent,m∈C.sent\/m∈send):RQ C' g':=by
 have old:=fun {t:Int} {j:Nat} (hv:g.V t j ≠ -1)=>f.b0M h hi hv
 refine ⟨hw,λj hj=>?_,λj hj t ht=>?_,λm hm hy=>?_,λj hj cT=>?_,λj hj cT=>?_,λt ht=>?_,λt ht=>?_,λt ht=>?_,λj hj=>?_,λt=>?_,λm hm hk=>?_⟩
 .by_cases hji:j=i
  .subst hji
   rw [hr,f.V,iU]
  .rw [hne j hji,f.V,kY _ _ (λhc=>hji hc.2)]
   exact h.now j hj
 .by_cases hji:j=i
  .subst hji
   rw [hr] at ht
   have:=f.up
   rw [f.V,kY _ _ (by omega)]
   exact h.later j hj t (by omega)
  .rw [hne j hji] at ht
   rw [f.V,kY _ _ (λhc=>hji hc.2)]
   exact h.later j hj t ht
 .rcases hs m hm with hm|hm
  .obtain ⟨j,hj,a1,a2,a3⟩:=h.yes m hm hy
   exact ⟨j,hj,a1,by rw [old (by omega),a2],a3⟩
  .obtain ⟨a1,a2,a3,a4⟩:=f.yes m hm hy
   exact ⟨i,hi,a1,by rw [f.V,a2,iU,a3],a4⟩
 .by_cases hji:j=i
  .subst hji
   rw [hr] at cT ⊢
   exact f.cand cT
  .rw [hne j hji] at cT ⊢
   obtain ⟨a1,a2⟩:=h.cand j hj cT
   refine ⟨λk hk hv=>?_,?_⟩
   .have:=a1 k hk hv
    rw [old (by omega),this]
   .rcases f.ld (C.nd j).rep.term with e|⟨_,e,_⟩
    .rw [e];exact a2
    .rw [e];omega
 .by_cases hji:j=i
  .subst hji
   rw [hr] at cT ⊢
   exact f.lead cT
  .rw [hne j hji] at cT ⊢
   obtain ⟨a1,a2⟩:=h.lead j hj cT
   have e1:g'.ld (C.nd j).rep.term=j:=by
    rcases f.ld (C.nd j).rep.term with e|⟨e,_⟩
    .rw [e];exact a1
    .omega
   refine ⟨e1,?_⟩
   rcases f.LL (C.nd j).rep.term with e|⟨e,_⟩
   .rw [e];exact a2
   .omega
 .rcases f.ld t with e|⟨_,e,_,a,b,a1,a2,a3,a4,a5⟩
  .rw [e] at ht ⊢
   obtain ⟨a,b,a1,a2,a3,a4,a5⟩:=h.quo t ht
   exact ⟨a,b,a1,a2,a3,by rw [old (by rw [a4];exact ht),a4],by rw [old (by rw [a5];exact ht),a5]⟩
  .exact ⟨a,b,a1,a2,a3,by rw [a4,e],by rw [a5,e]⟩
 .rcases f.ld t with e|⟨_,e,a1,_⟩
  .rw [e] at ht ⊢
   obtain ⟨j,hj,a1,a2⟩:=h.ldt t ht
   refine ⟨j,hj,a1,?_⟩
   by_cases hji:j=i
   .subst hji
    rw [hr]
    have:=f.up
    omega
   .rw [hne j hji];exact a2
  .exact ⟨i,hi,e,by rw [hr];exact a1⟩
 .have e1:g.ld t = -1:=by
   rcases f.ld t with e|⟨e,e2,_⟩
   .rw [<-e];exact ht
   .exact e
  rcases f.LL t with e|⟨e,_⟩
  .rw [e];exact h.none t e1
  .omega
 .by_cases hji:j=i
  .subst hji
   rw [hr]
   exact f.log
  .rw [hne j hji]
   exact JB f.ext (h.log j hj)
 .rcases f.LL t with e|⟨_,e⟩
  .rw [e];exact JB f.ext (h.ll t)
  .exact e
 .rcases hs m hm with hm|hm
  .exact (h.app m hm hk).ext f.ext
  .exact f.app m hm hk
theorem VQ {LL r} (hL:LL r.term=r.log) {f} (h1:1<=r.next f) (h2:r.next f<=r.log.length+1):a0y LL (entriesOf r f):=by
 have e0:(entriesOf r f).index.toNat=r.next f - 1:=Int.toNat_natCast _
 have e1:(entriesOf r f).aF=(r.log.drop (r.next f - 1)).take 8:=rfl
 have e2:(entriesOf r f).aF.length=min 8 (r.log.length - (r.next f - 1)):=by rw [e1,List.length_take,List.length_drop]
 refine ⟨Int.natCast_nonneg _,?_,?_,?_⟩
 .rw [e0,e2,show (entriesOf r f).term=r.term from rfl,hL];omega
 .rw [e0,e2,show (entriesOf r f).term=r.term from rfl,hL,e1]
  rw [List.take_eq_take_iff,List.length_drop]
  omega
 .rw [e0,show (entriesOf r f).term=r.term from rfl,hL];rfl
theorem a3c {C g} (h:RQ C g) {i} (hi:i<3) {r:dX} (up:(C.nd i).rep.term<=r.term) (keep:(C.nd i).rep.term=r.term->(C.nd i).rep.aQ ≠ -1->r.aQ=(C.nd i).rep.aQ) {t j} (hv:g.V t j ≠ -1):JC g.V i r.term r.aQ t j=g.V t j:=by
 by_cases hc:t=r.term/\j=i
 .obtain ⟨rfl,rfl⟩:=hc
  rw [iU]
  rcases Int.lt_or_eq_of_le up with hlt|heq
  .exact absurd (h.later j hi r.term hlt) hv
  .have h1:=h.now j hi
   rw [heq] at h1
   rw [keep heq (by rw [<-h1];exact hv),<-h1]
 .exact kY _ _ hc
abbrev Gh.aQ (g:Gh) (i:Nat) (r:dX):Gh:={ g with V:=JC g.V i r.term r.aQ }
theorem K5 {C g} (h:RQ C g) {i} (hi:i<3) {r} (hr:(C.nd i).rep=r) {x} (hf:Fits r x.1 x.2) (hv:a7x r x) (cand:x.1.role=1->(∀ j,j<3->x.1.cN j=true->g.V x.1.term j=i)/\g.ld x.1.term≠i) (lead:x.1.role=2->g.ld x.1.term=i/\g.LL x.1.term=x.1.log) (log:qV g.LL x.1.log) (app:∀ m∈x.2.send,m.kind=2->a0y g.LL m):zI C g i x.1 x.2.send (g.aQ i x.1):=by
 subst hr
 have hid:=(h.wf.rep i hi).2
 refine ⟨rfl,hf.term,hv.keep,λm hm hy=>?_,λt=>.inl rfl,Ext.refl _,λt=>.inl rfl,λhr=>?_,lead,log,app⟩
 .obtain ⟨a,b⟩:=hv.yes m hm hy
  exact ⟨by rw [a,hid],b⟩
 .obtain ⟨a,b⟩:=cand hr
  exact ⟨λj hj hvo=>by
   have e:=a j hj hvo
   show JC g.V i x.1.term x.1.aQ x.1.term j=i
   rw [a3c h hi hf.term hv.keep (by omega),e],b⟩
theorem a4H {LL r} (hL:LL r.term=r.log) (hn:∀ f,1<=r.next f/\r.next f<=r.log.length+1):∀ m∈cW r,a0y LL m:=λm hm=>by
 unfold cW at hm
 obtain ⟨f,_,rfl⟩:=List.mem_map.1 hm
 exact VQ hL (hn f).1 (hn f).2
theorem aP7 {C g} (h:RQ C g) {i} (hi:i<3):∃ g',zI C g i (eG (C.nd i).rep).1 (eG (C.nd i).rep).2.send g'/\g'.LL=g.LL/\g'.ld=g.ld:=by
 obtain ⟨hw,hid⟩:=h.wf.rep i hi
 have hf:=(a4E hw).2
 have hv:=aP3 (C.nd i).rep
 have hc:=h.cand i hi
 have hl:=h.lead i hi
 have hg:=h.log i hi
 have IV:=h.now i hi
 have aVM:=h.ldt ((C.nd i).rep.term+1)
 generalize hr:(C.nd i).rep=r at hw hid hf hv hc hl hg IV aVM
 by_cases h2:r.role=2
 .have e:eG r=(r,mW (cW r)):=if_pos h2
  refine ⟨_,K5 h hi hr hf hv ?_ ?_ ?_ ?_,rfl,rfl⟩
  all_goals rw [e]
  .exact hc
  .exact hl
  .exact hg
  .exact λm hm _=>a4H (hl h2).2 (λf=>⟨(hw.ok.next h2 f).1,(hw.ok.next h2 f).2.1⟩) m hm
 by_cases h3:r.term=1099511627776
 .have e:eG r=(r,kR):=by unfold eG;rw [if_neg h2,if_pos h3]
  refine ⟨_,K5 h hi hr hf hv ?_ ?_ ?_ ?_,rfl,rfl⟩
  all_goals rw [e]
  .exact hc
  .exact hl
  .exact hg
  .exact λm hm _=>by cases hm
 .have e:eG r=({ r with term:=r.term+1,aQ:=r.id,role:=1,cN:=λi=>decide (i=r.id) },⟨true,r.term+1,r.id,0,[],(aT r.id).map λk=>uQ { r with term:=r.term+1,aQ:=r.id,role:=1,cN:=λi=>decide (i=r.id) } k⟩):=by
   unfold eG;rw [if_neg h2,if_neg h3]
  rw [e]
  refine ⟨g.aQ i { r with term:=r.term+1,aQ:=r.id,role:=1,cN:=λi=>decide (i=r.id) },⟨rfl,by rw [hr];show r.term<=r.term+1;omega,λht=>?_,λm hm hy=>?_,λt=>.inl rfl,Ext.refl _,λt=>.inl rfl,λ_=>⟨λj hj hvo=>?_,?_⟩,λh0=>(by cases (show (1:Int)=2 from h0)),hg,λm hm hk=>?_⟩,rfl,rfl⟩
  .rw [hr] at ht
   have:r.term=r.term+1:=ht
   omega
  .obtain ⟨k,_,rfl⟩:=List.mem_map.1 hm
   cases hy.1
  .have hj:j=r.id:=eC hvo
   show JC g.V i (r.term+1) r.id (r.term+1) j=i
   rw [hj,hid,iU]
  .intro hc2
   have hc2:g.ld (r.term+1)=i:=hc2
   obtain ⟨j,hj,a1,a2⟩:=aVM (by omega)
   have:j=i:=by omega
   subst this
   rw [hr] at a2
   omega
  .obtain ⟨k,_,rfl⟩:=List.mem_map.1 hm
   cases hk
theorem aP8 {C g} (h:RQ C g) {i} (hi:i<3) (data):∃ g',zI C g i (aK (C.nd i).rep data).1 (aK (C.nd i).rep data).2.2.2.send g'/\g'.ld=g.ld/\(∀ t,t≠(C.nd i).rep.term->g'.LL t=g.LL t)/\((aK (C.nd i).rep data).2.2.2=kR->g'.LL=g.LL):=by
 obtain ⟨hw,hid⟩:=h.wf.rep i hi
 have hf:=aD6 hw data
 have hv:=aP4 (C.nd i).rep data
 have hc:=h.cand i hi
 have hl:=h.lead i hi
 have hg:=h.log i hi
 generalize hr:(C.nd i).rep=r at hw hid hf hv hc hl hg
 have same:aK r data=(r,(aK r data).2.1,(aK r data).2.2.1,kR)->∃ g',zI C g i (aK r data).1 (aK r data).2.2.2.send g'/\g'.ld=g.ld/\(∀ t,t≠r.term->g'.LL t=g.LL t)/\((aK r data).2.2.2=kR->g'.LL=g.LL):=λe=>by
  rw [e]
  rw [e] at hf hv
  exact ⟨_,K5 (x:=(r,kR)) h hi hr hf hv hc hl hg (λm hm _=>by cases hm),rfl,λ_ _=>rfl,λ_=>rfl⟩
 by_cases h2:r.role=2
 .by_cases h3:2000<(data.size:Int)
  .exact same (by unfold aK;rw [if_neg (by simpa using h2),if_pos h3])
  by_cases h4:r.log.length=4000
  .exact same (by unfold aK;rw [if_neg (by simpa using h2),if_neg h3,if_pos h4])
  obtain ⟨x,hx⟩:∃ x:bQ,x=⟨r.term,data⟩:=⟨_,rfl⟩
  have hxt:x.term=r.term:=by rw [hx]
  have e1:(aK r data).1={ r with log:=r.log++[x] }:=by unfold aK;rw [if_neg (by simpa using h2),if_neg h3,if_neg h4,hx]
  have e2:(aK r data).2.2.2.send=cW { r with log:=r.log++[x] }:=by unfold aK;rw [if_neg (by simpa using h2),if_neg h3,if_neg h4,hx]
  have e4:(aK r data).2.2.2≠kR:=λe=>by
   have:=congrArg lT.send e
   rw [e2] at this
   have:=congrArg List.length this
   unfold cW at this
   rw [List.length_map,tJ] at this
   cases this
  rw [e1,e2]
  obtain ⟨hl1,hl2⟩:=hl h2
  obtain ⟨VO,oS⟩:∃ VO:Int->List bQ,(λt=>if t=r.term then r.log++[x] else g.LL t)=VO:=⟨_,rfl⟩
  have L8:VO r.term=r.log++[x]:=by rw [<-oS];exact if_pos rfl
  have hL2:∀ t,t≠r.term->VO t=g.LL t:=λt ht=>by rw [<-oS];exact if_neg ht
  have qQ:Ext g.LL VO:=λt=>by
   by_cases ht:t=r.term
   .subst ht;exact ⟨[x],by rw [L8,hl2]⟩
   .exact ⟨[],by rw [hL2 t ht,List.append_nil]⟩
  have hpre:qV VO (r.log++[x]):=λp y hy=>by
   rcases Nat.lt_or_ge p r.log.length with hp|hp
   .rw [List.getElem?_append_left hp] at hy
    rw [List.take_append_of_le_length (by omega)]
    exact JB qQ hg p y hy
   .rw [List.getElem?_append_right hp] at hy
    have hz:p - r.log.length=0:=by
     have:=(List.getElem?_eq_some_iff.1 hy).1
     simp at this;omega
    rw [hz] at hy
    have hy:x=y:=by simpa using hy
    rw [<-hy,hxt,L8]
  refine ⟨⟨JC g.V i r.term r.aQ,g.ld,VO⟩,⟨rfl,by rw [hr];exact Int.le_refl _,λ_ _=>by rw [hr],aAt (by decide) (pJ _),λt=>.inl rfl,qQ,λt=>?_,λh1=>?_,λ_=>⟨hl1,L8⟩,hpre,λm hm _=>a4H (r:={ r with log:=r.log++[x] }) L8 (λf=>?_) m hm⟩,rfl,hL2,λe=>absurd e e4⟩
  .by_cases ht:t=r.term
   .subst ht;exact .inr ⟨hl1,by show qV VO (VO r.term);rw [L8];exact hpre⟩
   .exact .inl (hL2 t ht)
  .have h1:r.role=1:=h1
   omega
  .have:=hw.ok.next h2 f
   refine ⟨this.1,?_⟩
   show r.next f<=(r.log++[x]).length+1
   rw [List.length_append]
   omega
 .exact same (by unfold aK;rw [if_pos h2])
structure Bk (g:Gh) (i:Nat) (r:dX):Prop where
 cand:r.role=1->(∀ j,j<3->r.cN j=true->g.V r.term j=i)/\g.ld r.term≠i
 lead:r.role=2->g.ld r.term=i/\g.LL r.term=r.log
 log:qV g.LL r.log
theorem Bk.as {g i r r'} (h:Bk g i r) (h1:r'.role=r.role) (h2:r'.term=r.term) (h3:r'.cN=r.cN) (h4:r'.log=r.log):Bk g i r' :=
 ⟨by rw [h1,h2,h3];exact h.cand,by rw [h1,h2,h4];exact h.lead,by rw [h4];exact h.log⟩
theorem Bk.fol {g i r'} (h:qV g.LL r'.log) (h1:r'.role=0):Bk g i r' :=
 ⟨λhr=>by omega,λhr=>by omega,h⟩
theorem aEf {g i r m} (h:Bk g i r) (hll:∀ t,qV g.LL (g.LL t)) (ha:a0y g.LL m):Bk g i (b8 r m).1:=by
 unfold b8
 split
 .exact h
 split
 .exact h
 simp only
 split
 .exact .fol h.log rfl
 rename_i hc
 simp only [Bool.or_eq_true,decide_eq_true_eq,not_or] at hc
 obtain ⟨hc1,hc2⟩:=hc
 obtain ⟨a1,a2,a3,a4⟩:=ha
 split
 .split
  .exact .fol h.log rfl
  .refine .fol ?_ rfl
   show qV g.LL (r.log.take (m.index.toNat+agree (r.log.drop m.index.toNat) m.aF)++m.aF.drop (agree (r.log.drop m.index.toNat) m.aF))
   rw [a3b h.log (hll m.term) (by omega) a2 a3 (by rw [<-a4];exact Decidable.of_not_not hc2) (ID _ _)]
   exact a3a (hll m.term) _
 .exact .fol h.log rfl
theorem a7A (r m):∀ v∈(b8 r m).2.send,v.kind=3:=by
 unfold b8
 split
 .exact λv hv=>by rw [List.mem_singleton.1 hv];rfl
 split
 .exact λv hv=>by cases hv
 simp only
 split
 .exact λv hv=>by rw [List.mem_singleton.1 hv]
 split
 .split
  .exact λv hv=>by cases hv
  .exact λv hv=>by rw [List.mem_singleton.1 hv];rfl
 .exact λv hv=>by rw [List.mem_singleton.1 hv];rfl
theorem a7B (r):(bA r).role=r.role/\(bA r).term=r.term/\(bA r).cN=r.cN/\(bA r).log=r.log:=by
 unfold bA
 split<;>exact ⟨rfl,rfl,rfl,rfl⟩
theorem M1 (r m):((aW r m).1.role=r.role/\(aW r m).1.term=r.term/\(aW r m).1.cN=r.cN/\(aW r m).1.log=r.log)/\∀ v∈(aW r m).2.send,r.role=2/\∃ f,v=entriesOf (aW r m).1 f:=by
 unfold aW
 split
 .exact ⟨⟨rfl,rfl,rfl,rfl⟩,λv hv=>by cases hv⟩
 rename_i hc
 simp only [Bool.or_eq_true,decide_eq_true_eq,not_or] at hc
 have h2:r.role=2:=by omega
 simp only
 split
 .exact ⟨⟨rfl,rfl,rfl,rfl⟩,λv hv=>⟨h2,_,List.mem_singleton.1 hv⟩⟩
 split
 .exact ⟨a7B _,λv hv=>⟨h2,_,List.mem_singleton.1 hv⟩⟩
 .exact ⟨a7B _,λv hv=>by cases hv⟩
theorem a0z (r m):((dG r m).1.role=r.role/\(dG r m).1.term=r.term/\(dG r m).1.cN=r.cN/\(dG r m).1.log=r.log)/\∀ v∈(dG r m).2.send,v.kind=1:=by
 unfold dG
 split
 .exact ⟨⟨rfl,rfl,rfl,rfl⟩,λv hv=>by rw [List.mem_singleton.1 hv]⟩
 .exact ⟨⟨rfl,rfl,rfl,rfl⟩,λv hv=>by rw [List.mem_singleton.1 hv];rfl⟩
theorem a4I {v} (h:¬ pW v<2):∃ a b,a<3/\b<3/\a≠b/\v a=true/\v b=true:=by
 unfold pW b2n at h
 cases h0:v 0<;>cases h1:v 1<;>cases h2:v 2<;>rw [h0,h1,h2] at h<;>simp at h
 .exact ⟨1,2,by decide,by decide,by decide,h1,h2⟩
 .exact ⟨0,2,by decide,by decide,by decide,h0,h2⟩
 .exact ⟨0,1,by decide,by decide,by decide,h0,h1⟩
 .exact ⟨0,1,by decide,by decide,by decide,h0,h1⟩
def aNe (C:Cl) (g:Gh) (i:Nat) (r:dX) (send:List bR) (g':Gh):Prop :=
 (g'.LL=g.LL/\g'.ld=g.ld)\/((C.nd i).rep.role=1/\r.role=2/\r.term=(C.nd i).rep.term/\r.log=(C.nd i).rep.log/\r.aE=(C.nd i).rep.aE/\r.aQ=(C.nd i).rep.aQ/\(∀ f,r.fZ f=0)/\g.ld r.term = -1 /\
  (∀ t,t≠r.term->g'.LL t=g.LL t/\g'.ld t=g.ld t)/\send=cW r/\∃ a b,a<3/\b<3/\a≠b/\g.V r.term a=i/\g.V r.term b=i)
theorem aQa {C g} (h:RQ C g) {i} (hi:i<3) {m} (hmy:aIj m->∃ j:Nat,j<3/\m.src=j/\g.V m.term j=m.to/\0<=m.to) (hma:m.kind=2->a0y g.LL m):
  ∃ g',zI C g i (cX (C.nd i).rep m).1 (cX (C.nd i).rep m).2.send g'/\aNe C g i (cX (C.nd i).rep m).1 (cX (C.nd i).rep m).2.send g':=by
 obtain ⟨hw,hid⟩:=h.wf.rep i hi
 have hf:=(X3 (m:=m) hw).2
 have hxw:=(X3 (m:=m) hw).1
 have hv:=aP6 (C.nd i).rep m
 have hb:Bk g i (C.nd i).rep:=⟨h.cand i hi,h.lead i hi,h.log i hi⟩
 have same:Bk g i (cX (C.nd i).rep m).1->(∀ v∈(cX (C.nd i).rep m).2.send,v.kind=2->a0y g.LL v)->∃ g',zI C g i (cX (C.nd i).rep m).1 (cX (C.nd i).rep m).2.send g'/\aNe C g i (cX (C.nd i).rep m).1 (cX (C.nd i).rep m).2.send g':=λhb ha =>
  ⟨_,K5 h hi rfl hf hv hb.cand hb.lead hb.log ha,.inl ⟨rfl,rfl⟩⟩
 cases hy:iT (C.nd i).rep.id m with
 | false =>
  rw [wW hy] at same ⊢
  exact same hb λv hv=>by cases hv
 | true =>
  have hm:=mH.1 hy
  obtain ⟨r1,IC⟩:∃ r1,(if (C.nd i).rep.term<m.term then upR (C.nd i).rep m else (C.nd i).rep)=r1:=⟨_,rfl⟩
  have e1:(cX (C.nd i).rep m).1=(dJ r1 m).1:=by rw [pF hy,IC,AH]
  have e2:(cX (C.nd i).rep m).2.send=(dJ r1 m).2.send:=by rw [pF hy,IC,a0r]
  have hb1:Bk g i r1:=by
   rw [<-IC]
   split
   .exact .fol hb.log rfl
   .exact hb
  have hw1:r1.Wf:=by
   rw [<-IC]
   split
   .exact aB9 hw hm (by assumption)
   .exact hw
  have aD5:r1.id=i:=by
   rw [<-IC]
   split
   .exact hid
   .exact hid
  have cT:r1.role=1->r1=(C.nd i).rep:=by
   rw [<-IC]
   split
   .intro h0;cases (show (0:Int)=1 from h0)
   .exact λ_=>rfl
  rw [e1,e2] at same
  by_cases hk0:m.kind=0
  .have e:dJ r1 m=dG r1 m:=by unfold dJ;rw [if_pos hk0]
   rw [e] at same e1 e2
   rw [e1,e2]
   obtain ⟨⟨s1,s2,s3,s4⟩,s5⟩:=a0z r1 m
   exact same (hb1.as s1 s2 s3 s4) λv hv hk=>by rw [s5 v hv] at hk;cases hk
  by_cases hk1:m.kind=1
  .have e:dJ r1 m=cU r1 m:=by unfold dJ;rw [if_neg hk0,if_pos hk1]
   rw [e] at same e1 e2
   by_cases hc:(decide (r1.role≠1)||decide (m.term≠r1.term) || !m.yes)=true
   .have e3:cU r1 m=(r1,kR):=by unfold cU;rw [if_pos hc]
    rw [e1,e2]
    rw [e3] at same ⊢
    exact same hb1 λv hv=>by cases hv
   have F5:=hc
   simp only [Bool.or_eq_true,decide_eq_true_eq,not_or,Bool.not_eq_true',Bool.not_eq_false] at F5
   obtain ⟨⟨c1,c2⟩,c3⟩:=F5
   have c1:r1.role=1:=by omega
   have c2:m.term=r1.term:=by omega
   obtain ⟨j,hj,a1,a2,a3⟩:=hmy ⟨hk1,c3⟩
   have hto:m.to=i:=by rw [hm.to,hid]
   have hsrc:m.src.toNat=j:=by omega
   obtain ⟨b1,b2⟩:=hb1.cand c1
   have U6:∀ k,k<3->put r1.cN m.src.toNat true k=true->g.V r1.term k=i:=λk hk hvk=>by
    by_cases hkj:k=m.src.toNat
    .rw [hkj,hsrc,<-c2,a2,hto]
    .rw [gN _ _ hkj] at hvk
     exact b1 k hk hvk
   by_cases hc2:pW (put r1.cN m.src.toNat true)<2
   .have e3:cU r1 m=({ r1 with cN:=put r1.cN m.src.toNat true },kR):=by unfold cU;rw [if_neg hc];simp only;rw [if_pos hc2]
    rw [e1,e2]
    rw [e3] at same ⊢
    exact same ⟨λ_=>⟨U6,b2⟩,λh0=>by have h0:r1.role=2:=h0;omega,hb1.log⟩ λv hv=>by cases hv
   ·-- leads
    obtain ⟨r2,hr2⟩:∃ r2:dX,({ r1 with cN:=put r1.cN m.src.toNat true,role:=2,next:=λ_=>r1.log.length+1,fZ:=λ_=>0 }:dX)=r2:=⟨_,rfl⟩
    have e3:cU r1 m=(r2,mW (cW r2)):=by unfold cU;rw [if_neg hc];simp only;rw [if_neg hc2,<-hr2]
    have t2:r2.term=r1.term:=by rw [<-hr2]
    have v2:r2.aQ=r1.aQ:=by rw [<-hr2]
    have l2:r2.log=r1.log:=by rw [<-hr2]
    have o2:r2.role=2:=by rw [<-hr2]
    have n2:∀ f,r2.next f=r1.log.length+1:=λf=>by rw [<-hr2]
    rw [e3] at e1 e2
    have hrr:=cT c1
    have hfree:g.ld r1.term = -1:=by
     refine Decidable.byContradiction λhne=>?_
     obtain ⟨a,b,q1,q2,q3,q4,q5⟩:=h.quo _ hne
     obtain ⟨c,d,p1,p2,p3,p4,p5⟩:=a4I hc2
     have p6:=U6 c p1 p4
     have p7:=U6 d p2 p5
     have:a=c\/a=d\/b=c\/b=d:=by omega
     rcases this with rfl|rfl|rfl|rfl
     .exact b2 (by rw [<-q4,p6])
     .exact b2 (by rw [<-q4,p7])
     .exact b2 (by rw [<-q5,p6])
     .exact b2 (by rw [<-q5,p7])
    obtain ⟨VO,oS⟩:∃ VO:Int->List bQ,(λt=>if t=r1.term then r1.log else g.LL t)=VO:=⟨_,rfl⟩
    have L8:VO r1.term=r1.log:=by rw [<-oS];exact if_pos rfl
    have hL2:∀ t,t≠r1.term->VO t=g.LL t:=λt ht=>by rw [<-oS];exact if_neg ht
    have qQ:Ext g.LL VO:=λt=>by
     by_cases ht:t=r1.term
     .subst ht;exact ⟨r1.log,by rw [L8,h.none _ hfree,List.nil_append]⟩
     .exact ⟨[],by rw [hL2 t ht,List.append_nil]⟩
    rw [e1,e2]
    have hkeep:=hv.keep
    rw [e1] at hf hkeep
    have hV:∀ k,k<3->put r1.cN m.src.toNat true k=true->JC g.V i r2.term r2.aQ r1.term k=i:=λk hk hvk=>by
     have:=U6 k hk hvk
     have e5:=a3c h hi (r:=r2) hf.term hkeep (t:=r1.term) (j:=k) (by omega)
     rw [e5,this]
    refine ⟨⟨JC g.V i r2.term r2.aQ,λt=>if t=r1.term then i else g.ld t,VO⟩,⟨rfl,hf.term,hkeep,λv S8 hyv=>absurd ((pJ _ v S8).symm.trans hyv.1) (by decide),λt=>?_,qQ,λt=>?_,λh1=>(by have h1:r2.role=1:=h1;omega),λ_=>⟨by rw [t2];exact if_pos rfl,by rw [t2,l2];exact L8⟩,by rw [l2];exact JB qQ hb1.log,λv S8 _=>a4H (by rw [t2,l2];exact L8) (λf=>by rw [n2,l2];omega) v S8⟩,?_⟩
    .by_cases ht:t=r1.term
     .subst ht
      obtain ⟨c,d,p1,p2,p3,p4,p5⟩:=a4I hc2
      exact .inr ⟨hfree,if_pos rfl,by rw [t2];exact Int.le_refl _,c,d,p1,p2,p3,hV c p1 p4,hV d p2 p5⟩
     .exact .inl (if_neg ht)
    .by_cases ht:t=r1.term
     .subst ht
      exact .inr ⟨if_pos rfl,by show qV VO (VO r1.term);rw [L8];exact JB qQ hb1.log⟩
     .exact .inl (hL2 t ht)
    .obtain ⟨c,d,p1,p2,p3,p4,p5⟩:=a4I hc2
     refine .inr ⟨by rw [<-hrr];exact c1,o2,by rw [<-hrr];exact t2,by rw [<-hrr];exact l2,by rw [<-hrr,<-hr2],by rw [<-hrr];exact v2,λf=>by rw [<-hr2],by show g.ld r2.term = -1;rw [t2];exact hfree,λt ht=>?_,rfl,c,d,p1,p2,p3,by show g.V r2.term c=i;rw [t2];exact U6 c p1 p4,by show g.V r2.term d=i;rw [t2];exact U6 d p2 p5⟩
     have ht:t≠r2.term:=ht
     rw [t2] at ht
     exact ⟨hL2 t ht,if_neg ht⟩
  by_cases hk2:m.kind=2
  .have e:dJ r1 m=b8 r1 m:=by unfold dJ;rw [if_neg hk0,if_neg hk1,if_pos hk2]
   rw [e] at same e1 e2
   rw [e1,e2]
   exact same (aEf hb1 h.ll (hma hk2)) λv hv hk=>by rw [a7A r1 m v hv] at hk;cases hk
  .have e:dJ r1 m=aW r1 m:=by unfold dJ;rw [if_neg hk0,if_neg hk1,if_neg hk2]
   rw [e] at same e1 e2
   rw [e1,e2]
   obtain ⟨⟨s1,s2,s3,s4⟩,s5⟩:=M1 r1 m
   refine same (hb1.as s1 s2 s3 s4) λv hv hk=>?_
   obtain ⟨h2,f,rfl⟩:=s5 v hv
   have hwx:=(AG hw1 (m:=m) hm.index.1).1
   have hn:=hwx.ok.next (by rw [s1];exact h2) f
   exact VQ (by rw [s2,s4];exact (hb1.lead h2).2) hn.1 hn.2.1
theorem aVP:RQ cl0 ⟨λ_ _ => -1,λ_ => -1,λ_=>[]⟩ :=
 ⟨aPR,λ_ _=>rfl,λ_ _ _ _=>rfl,λm hm=>(by cases hm),λi hi hr=>(by cases (show (0:Int)=1 from hr)),λi hi hr=>(by cases (show (0:Int)=2 from hr)),λt ht=>absurd rfl ht,λt ht=>absurd rfl ht,λ_ _=>rfl,λi hi=>a7z _,λt=>a7z _,λm hm=>(by cases hm)⟩
def Valid (g:Gh) (t:Int) (p:Nat):Prop:=1<=p/\p<=(g.LL t).length/\bG (g.LL t) p=t
def gH (g:Gh) (t:Int) (p:Nat) (l:List bQ):Prop:=p<=l.length/\l.take p=(g.LL t).take p
def rN (C:Cl) (A:Int->Nat->Nat) (t:Int) (p:Nat):Prop:=∃ x y,x<3/\y<3/\x≠y/\t<(C.nd x).rep.term/\t<(C.nd y).rep.term/\A t x<p/\A t y<p
def EJ (g:Gh) (A:Int->Nat->Nat) (t:Int) (p:Nat):Prop:=Valid g t p/\∃ a b,a<3/\b<3/\a≠b/\p<=A t a/\p<=A t b
def l8 (g:Gh) (A:Int->Nat->Nat) (s:Int) (l:List bQ) (n:Nat):Prop:=n=0\/∃ t p,EJ g A t p/\t<=s/\n<=p/\gH g t n l
structure l9 (C:Cl) (g:Gh) (A:Int->Nat->Nat):Prop where
 m:RQ C g
 VA:∀ t,kS (g.LL t) t
 a1:∀ t j,A t j<=(g.LL t).length
 a2:∀ t j,j<3->0<A t j->t<=(C.nd j).rep.term
 a3:∀ i,i<3->(C.nd i).rep.role=2->A (C.nd i).rep.term i=(C.nd i).rep.log.length
 ia:∀ t j p,j<3->1<=p->p<=A t j->gH g t p (C.nd j).rep.log\/∃ u,t<u/\u<=(C.nd j).rep.term/\g.ld u ≠ -1/\¬ gH g t p (g.LL u)
 ib:∀ t u p,Valid g t p->t<u->g.ld u ≠ -1->gH g t p (g.LL u)\/rN C A t p
 iq:∀ m∈C.sent,m.kind=0->∃ c:Nat,c<3/\m.src=c/\m.term<=(C.nd c).rep.term/\((C.nd c).rep.role=1->m.term=(C.nd c).rep.term->m.index=(C.nd c).rep.log.length/\m.prev=bG (C.nd c).rep.log (C.nd c).rep.log.length)
 il:∀ c,c<3->(C.nd c).rep.role=1->∀ x∈(C.nd c).rep.log,x.term<(C.nd c).rep.term
 iv:∀ c,c<3->(C.nd c).rep.role=1->∀ x,x<3->g.V (C.nd c).rep.term x=c->∀ t p,t<(C.nd c).rep.term->Valid g t p->p<=A t x->gH g t p (C.nd c).rep.log\/rN C A t p
 vt:∀ t x c,x<3->c<3->g.V t x=((c:Nat):Int)->t<=(C.nd c).rep.term
 im:∀ i,i<3->(C.nd i).rep.role=2->∀ f,f<3->f≠i->(C.nd i).rep.fZ f<=A (C.nd i).rep.term f
 ik:∀ m∈C.sent,m.kind=3->m.yes=true->∃ f:Nat,f<3/\m.src=f/\m.index.toNat<=A m.term f
 ic:∀ m∈C.sent,m.kind=2->l8 g A m.term (g.LL m.term) m.aE.toNat
 co:∀ j,j<3->l8 g A (C.nd j).rep.term (C.nd j).rep.log (C.nd j).rep.aE
def Grow (g g':Gh):Prop:=∀ u,g.ld u ≠ -1->∃ s,g'.LL u=g.LL u++s/\∀ x∈s,x.term=u
theorem Valid.ext {g g'} (he:Ext g.LL g'.LL) {t p} (h:Valid g t p):Valid g' t p:=by
 obtain ⟨s,hs⟩:=he t
 obtain ⟨h1,h2,h3⟩:=h
 exact ⟨h1,by rw [hs,List.length_append];omega,by rw [hs,a0x h2];exact h3⟩
theorem Valid.back {g g'} (he:Ext g.LL g'.LL) {t p} (h:Valid g' t p) (hp:p<=(g.LL t).length):Valid g t p:=by
 obtain ⟨s,hs⟩:=he t
 obtain ⟨h1,h2,h3⟩:=h
 exact ⟨h1,hp,by rw [hs,a0x hp] at h3;exact h3⟩
theorem gH.ext {g g'} (he:Ext g.LL g'.LL) {t p l} (hp:p<=(g.LL t).length):gH g' t p l ↔ gH g t p l:=by
 obtain ⟨s,hs⟩:=he t
 unfold gH
 rw [hs,List.take_append_of_le_length hp]
theorem gH.more {g t p l s} (h:gH g t p l):gH g t p (l++s) :=
 ⟨by rw [List.length_append];have:=h.1;omega,by rw [List.take_append_of_le_length h.1];exact h.2⟩
theorem gH.less {g t p n l} (h:gH g t p l) (hn:n<=p):gH g t n l:=by
 obtain ⟨h1,h2⟩:=h
 refine ⟨by omega,?_⟩
 have:=congrArg (List.take n) h2
 rwa [List.take_take,List.take_take,Nat.min_eq_left hn] at this
theorem U7 {g g' t} (he:Ext g.LL g'.LL) (hg:Grow g g') (hs:kS (g.LL t) t) {u p} (htu:t<u) (hp:p<=(g.LL t).length) (hu:g.ld u ≠ -1) (h:gH g' t p (g'.LL u)):gH g t p (g.LL u):=by
 rw [gH.ext he hp] at h
 obtain ⟨s,e,hx⟩:=hg u hu
 obtain ⟨h1,h2⟩:=h
 rcases Nat.lt_or_ge (g.LL u).length p with hlt|hge
 .exfalso
  obtain ⟨q,rfl⟩:∃ q,p=q+1:=⟨p - 1,by omega⟩
  have hq1:q<(g'.LL u).length:=h1
  have qP:q<(g.LL t).length:=hp
  have e1:(g'.LL u)[q]? = (g.LL t)[q]? := by
   have:=congrArg (λl=>l[q]?) h2
   simpa [List.getElem?_take_of_lt (show q<q+1 by omega)] using this
  obtain ⟨z,hz⟩:∃ z,(g'.LL u)[q]? = some z:=⟨_,List.getElem?_eq_getElem hq1⟩
  have hz2:(g.LL t)[q]? = some z:=by rw [<-e1];exact hz
  have e3:z.term=u:=hx z (by
   rw [e,List.getElem?_append_right (by omega)] at hz
   exact List.mem_of_getElem? hz)
  have e4:=hs.hi z (List.mem_of_getElem? hz2)
  omega
 .rw [e,List.take_append_of_le_length hge] at h2
  exact ⟨hge,h2⟩
def EK (A:Int->Nat->Nat) (i:Nat) (t:Int) (n:Nat):Int->Nat->Nat:=λu j=>if u=t/\j=i then n else A u j
theorem x9 (A i t n):EK A i t n t i=n:=if_pos ⟨rfl,rfl⟩
theorem rP (A) {i j t u} (n) (h:¬ (u=t/\j=i)):EK A i t n u j=A u j:=if_neg h
theorem RR {A i t n} (h:A t i<=n) (u j):A u j<=EK A i t n u j:=by
 unfold EK
 split
 .rename_i hc
  obtain ⟨rfl,rfl⟩:=hc
  exact h
 .exact Nat.le_refl _
theorem EJ.ext {g g' A A'} (he:Ext g.LL g'.LL) (ha:∀ t j,A t j<=A' t j) {t p} (h:EJ g A t p):EJ g' A' t p:=by
 obtain ⟨hv,a,b,h1,h2,h3,h4,h5⟩:=h
 exact ⟨hv.ext he,a,b,h1,h2,h3,Nat.le_trans h4 (ha t a),Nat.le_trans h5 (ha t b)⟩
theorem l8.ext {g g' A A'} (he:Ext g.LL g'.LL) (ha:∀ t j,A t j<=A' t j) {s s'} (hs:s<=s') {l r n} (h:l8 g A s l n):l8 g' A' s' (l++r) n:=by
 rcases h with h|⟨t,p,h1,h2,h3,h4⟩
 .exact .inl h
 .refine .inr ⟨t,p,h1.ext he ha,by omega,h3,gH.more ?_⟩
  have:=h1.1.2.1
  exact (gH.ext he (by omega)).2 h4
theorem l8.aAw {g g' A A'} (he:Ext g.LL g'.LL) (ha:∀ t j,A t j<=A' t j) {s s'} (hs:s<=s') {l n} (h:l8 g A s l n):l8 g' A' s' l n:=by
 have:=h.ext (r:=[]) he ha hs
 rwa [List.append_nil] at this
theorem EJ.no {C g A t p} (h:EJ g A t p) (hc:rN C A t p):False:=by
 obtain ⟨_,a,b,h1,h2,h3,h4,h5⟩:=h
 obtain ⟨x,y,k1,k2,k3,_,_,k4,k5⟩:=hc
 have:a=x\/a=y\/b=x\/b=y:=by omega
 rcases this with rfl|rfl|rfl|rfl<;>omega
structure yM (C:Cl) (g:Gh) (A:Int->Nat->Nat) (i:Nat) (r:dX) (send:List bR) (g':Gh) (n:Nat):Prop where
 m:zI C g i r send g'
 grow:Grow g g'
 VA:∀ t,kS (g'.LL t) t
 le:A r.term i<=n
 a1:n<=(g'.LL r.term).length
 a3:r.role=2->n=r.log.length
 ia:∀ t p,1<=p->p<=EK A i r.term n t i->gH g' t p r.log\/∃ u,t<u/\u<=r.term/\g'.ld u ≠ -1/\¬ gH g' t p (g'.LL u)
 new:∀ u,g.ld u = -1->g'.ld u ≠ -1->(∀ t p,Valid g t p->t<u->gH g t p (g'.LL u)\/rN C A t p)/\∀ p,¬ Valid g' u p
 old:∀ t p,g.ld t ≠ -1->Valid g' t p->(g.LL t).length<p->t=(C.nd i).rep.term/\t=r.term
 iq:∀ m∈send,m.kind=0->m.src=i/\m.term<=r.term/\(r.role=1->m.term=r.term->m.index=r.log.length/\m.prev=bG r.log r.log.length)
 iq2:r.role=1->(C.nd i).rep.term<r.term\/((C.nd i).rep.role=1/\r.term=(C.nd i).rep.term/\r.log=(C.nd i).rep.log)
 il:r.role=1->∀ x∈r.log,x.term<r.term
 iv:r.role=1->∀ x,x<3->g'.V r.term x=i->∀ t p,t<r.term->Valid g t p->p<=A t x->gH g t p r.log\/rN C A t p
 aQ:∀ c,c<3->c≠i->(C.nd c).rep.role=1->(C.nd c).rep.term=r.term->r.aQ=c->g.V r.term i≠c->∀ t p,t<r.term->Valid g t p->p<=A t i->gH g t p (C.nd c).rep.log\/rN C A t p
 vt:∀ c,c<3->c≠i->r.aQ=((c:Nat):Int)->g.V r.term i=c\/r.term<=(C.nd c).rep.term
 im:r.role=2->∀ f,f<3->f≠i->r.fZ f<=A r.term f
 ik:∀ m∈send,m.kind=3->m.yes=true->m.src=i/\m.term=r.term/\m.index.toNat<=n
 ic:∀ m∈send,m.kind=2->l8 g' (EK A i r.term n) m.term (g'.LL m.term) m.aE.toNat
 co:l8 g' (EK A i r.term n) r.term r.log r.aE
theorem l9.led {C g A} (h:l9 C g A) {t p} (hv:Valid g t p):g.ld t ≠ -1:=λe=>by
 have:=h.m.none t e
 have h1:=hv.1
 have h2:=hv.2.1
 rw [this] at h2
 simp at h2
 omega
theorem yN {C g} (h:RQ C g) {u x} (hx:x<3) (hv:g.V u x ≠ -1):u<=(C.nd x).rep.term:=by
 rcases Int.lt_or_le (C.nd x).rep.term u with hlt|hle
 .exact absurd (h.later x hx u hlt) hv
 .exact hle
theorem l9.node {C C' g g' A i n r send} (h:l9 C g A) (hi:i<3) (f:yM C g A i r send g' n) (hw:C'.Wf) (hr:(C'.nd i).rep=r) (hne:∀ j,j≠i->C'.nd j=C.nd j) (hs:∀ m∈C'.sent,m∈C.sent\/m∈send):l9 C' g' (EK A i r.term n):=by
 have hm:=h.m.node hi f.m hw hr hne hs
 have he:=f.m.ext
 have hup:=f.m.up
 have ha:∀ t j,A t j<=EK A i r.term n t j:=RR f.le
 have RS:∀ j,(C.nd j).rep.term<=(C'.nd j).rep.term:=λj=>by
  by_cases hji:j=i
  .subst hji;rw [hr];exact hup
  .rw [hne j hji];exact Int.le_refl _
 have zJ:∀ u,g.ld u ≠ -1->g'.ld u=g.ld u:=λu hu=>by
  rcases f.m.ld u with e|⟨e,_⟩
  .exact e
  .exact absurd e hu
 have a7C:∀ t x,t<(C.nd x).rep.term->EK A i r.term n t x=A t x:=λt x ht=>rP _ _ λhc=>by
  obtain ⟨rfl,rfl⟩:=hc
  omega
 have can:∀ t p,rN C A t p->rN C' (EK A i r.term n) t p:=λt p hc=>by
  obtain ⟨x,y,h1,h2,h3,h4,h5,h6,h7⟩:=hc
  have hx:=RS x
  have hy:=RS y
  exact ⟨x,y,h1,h2,h3,by omega,by omega,by rw [a7C t x h4];exact h6,by rw [a7C t y h5];exact h7⟩
 have b0N:∀ t p,Valid g' t p->g'.ld t ≠ -1:=λt p hv e=>by
  have h1:=hm.none t e
  have h2:=hv.1
  have h3:=hv.2.1
  rw [h1] at h3
  simp at h3
  omega
 have fresh:∀ t p,Valid g' t p->(g.LL t).length<p->g.ld t ≠ -1/\t=(C.nd i).rep.term/\t=r.term:=λt p hv hp=>by
  have hl:g.ld t ≠ -1:=λe=>(f.new t e (b0N t p hv)).2 p hv
  exact ⟨hl,f.old t p hl hv hp⟩
 refine ⟨hm,f.VA,λt j=>?_,λt j hj hp=>?_,λj hj cT=>?_,λt j p hj h1 hp=>?_,λt u p hv htu hu=>?_,λm hmem hk=>?_,λc hc cT=>?_,λc hc cT x hx hV t p ht hv hp=>?_,λt x c hx hc hV=>?_,λj hj cT k hk hkj=>?_,λm hmem hk hy=>?_,λm hmem hk=>?_,λj hj=>?_⟩
 .by_cases hc:t=r.term/\j=i
  .obtain ⟨rfl,rfl⟩:=hc
   rw [x9];exact f.a1
  .rw [rP _ _ hc]
   obtain ⟨s,e⟩:=he t
   have:=h.a1 t j
   rw [e,List.length_append]
   omega
 .by_cases hc:t=r.term/\j=i
  .obtain ⟨rfl,rfl⟩:=hc
   rw [hr];exact Int.le_refl _
  .rw [rP _ _ hc] at hp
   exact Int.le_trans (h.a2 t j hj hp) (RS j)
 .by_cases hji:j=i
  .subst hji
   rw [hr] at cT ⊢
   rw [x9];exact f.a3 cT
  .rw [hne j hji] at cT ⊢
   rw [rP _ _ (λhc=>hji hc.2)]
   exact h.a3 j hj cT
 .by_cases hji:j=i
  .subst hji
   rw [hr]
   exact f.ia t p h1 hp
  .rw [rP _ _ (λhc=>hji hc.2)] at hp
   rw [hne j hji]
   have hpl:=Nat.le_trans hp (h.a1 t j)
   rcases h.ia t j p hj h1 hp with h2|⟨u,h2,h3,h4,h5⟩
   .exact .inl ((gH.ext he hpl).2 h2)
   .exact .inr ⟨u,h2,h3,by rw [zJ u h4];exact h4,λhh=>h5 (U7 he f.grow (h.VA t) h2 hpl h4 hh)⟩
 .by_cases hp:p<=(g.LL t).length
  .have hv0:=hv.back he hp
   by_cases e:g.ld u = -1
   .rcases (f.new u e hu).1 t p hv0 htu with h1|h1
    .exact .inl ((gH.ext he hp).2 h1)
    .exact .inr (can t p h1)
   .rcases h.ib t u p hv0 htu e with h1|h1
    .obtain ⟨s,es,_⟩:=f.grow u e
     refine .inl ((gH.ext he hp).2 ?_)
     rw [es]
     exact h1.more
    .exact .inr (can t p h1)
  .obtain ⟨_,e1,e2⟩:=fresh t p hv (by omega)
   have e:g.ld u ≠ -1:=λe=>by
    rcases f.m.ld u with e3|⟨_,_,e3,_⟩
    .exact hu (by rw [e3];exact e)
    .omega
   obtain ⟨x,y,hx,hy,hxy,hvx,hvy⟩:=h.m.quo u e
   have tx:=yN h.m hx (by rw [hvx];exact e)
   have ty:=yN h.m hy (by rw [hvy];exact e)
   have ux:=RS x
   have uy:=RS y
   have ax:=h.a1 t x
   have ay:=h.a1 t y
   exact .inr ⟨x,y,hx,hy,hxy,by omega,by omega,by rw [a7C t x (by omega)];omega,by rw [a7C t y (by omega)];omega⟩
 .rcases hs m hmem with h1|h1
  .obtain ⟨c,hc,a1,a2,a3⟩:=h.iq m h1 hk
   refine ⟨c,hc,a1,Int.le_trans a2 (RS c),?_⟩
   by_cases hci:c=i
   .subst hci
    rw [hr]
    intro hro ht
    rcases f.iq2 hro with h2|⟨h2,h3,h4⟩
    .omega
    .rw [h4];exact a3 h2 (by omega)
   .rw [hne c hci];exact a3
  .obtain ⟨a1,a2,a3⟩:=f.iq m h1 hk
   exact ⟨i,hi,a1,by rw [hr];exact a2,by rw [hr];exact a3⟩
 .by_cases hci:c=i
  .subst hci
   rw [hr] at cT ⊢
   exact f.il cT
  .rw [hne c hci] at cT ⊢
   exact h.il c hc cT
 .by_cases hci:c=i
  .subst hci
   rw [hr] at cT hV ht ⊢
   have hpl:p<=(g.LL t).length:=Decidable.byContradiction λhn=>by
    obtain ⟨_,_,e2⟩:=fresh t p hv (by omega)
    omega
   have hv0:=hv.back he hpl
   rw [rP _ _ (λhc=>by omega)] at hp
   rcases f.iv cT x hx hV t p ht hv0 hp with h1|h1
   .exact .inl ((gH.ext he hpl).2 h1)
   .exact .inr (can t p h1)
  .rw [hne c hci] at cT hV ht ⊢
   have hcx:g.V (C.nd c).rep.term x=c->(C.nd c).rep.term<=(C.nd x).rep.term:=λe=>yN h.m hx (by rw [e];omega)
   by_cases hpl:p<=(g.LL t).length
   .have hv0:=hv.back he hpl
    have fin:gH g t p (C.nd c).rep.log\/rN C A t p->gH g' t p (C.nd c).rep.log\/rN C' (EK A i r.term n) t p:=λq=>by
     rcases q with h1|h1
     .exact .inl ((gH.ext he hpl).2 h1)
     .exact .inr (can t p h1)
    by_cases hold:g.V (C.nd c).rep.term x=c
    .have:=hcx hold
     rw [a7C t x (by omega)] at hp
     exact fin (h.iv c hc cT x hx hold t p ht hv0 hp)
    .rw [f.m.V] at hV
     by_cases hch:(C.nd c).rep.term=r.term/\x=i
     .obtain ⟨e1,rfl⟩:=hch
      rw [e1,iU] at hV
      rw [rP _ _ (λhc=>by omega)] at hp
      exact fin (f.aQ c hc hci cT e1 hV (by rw [<-e1];exact hold) t p (by omega) hv0 hp)
     .rw [kY _ _ hch] at hV
      exact absurd hV hold
   .exfalso
    obtain ⟨_,e1,e2⟩:=fresh t p hv (by omega)
    have ax:=h.a1 t x
    by_cases hxi:x=i
    .subst hxi
     rw [f.m.V,kY _ _ (λhc=>by omega)] at hV
     have:=hcx hV
     omega
    .rw [rP _ _ (λhc=>hxi hc.2)] at hp
     omega
 .rw [f.m.V] at hV
  by_cases hch:t=r.term/\x=i
  .obtain ⟨rfl,rfl⟩:=hch
   rw [iU] at hV
   by_cases hci:c=x
   .subst hci;rw [hr];exact Int.le_refl _
   .rcases f.vt c hc hci hV with e|e
    .exact Int.le_trans (h.vt _ _ c hx hc e) (RS c)
    .exact Int.le_trans e (RS c)
  .rw [kY _ _ hch] at hV
   exact Int.le_trans (h.vt t x c hx hc hV) (RS c)
 .by_cases hji:j=i
  .subst hji
   rw [hr] at cT ⊢
   exact Nat.le_trans (f.im cT k hk hkj) (ha _ _)
  .rw [hne j hji] at cT ⊢
   exact Nat.le_trans (h.im j hj cT k hk hkj) (ha _ _)
 .rcases hs m hmem with h1|h1
  .obtain ⟨k,hk3,a1,a2⟩:=h.ik m h1 hk hy
   exact ⟨k,hk3,a1,Nat.le_trans a2 (ha _ _)⟩
  .obtain ⟨a1,a2,a3⟩:=f.ik m h1 hk hy
   exact ⟨i,hi,a1,by rw [a2,x9];exact a3⟩
 .rcases hs m hmem with h1|h1
  .obtain ⟨s,e⟩:=he m.term
   rw [e]
   exact (h.ic m h1 hk).ext he ha (Int.le_refl _)
  .exact f.ic m h1 hk
 .by_cases hji:j=i
  .subst hji
   rw [hr]
   exact f.co
  .rw [hne j hji]
   exact (h.co j hj).aAw he ha (Int.le_refl _)
theorem EL (A i t):EK A i t (A t i)=A:=by
 funext u j
 unfold EK
 split
 .rename_i hc
  obtain ⟨rfl,rfl⟩:=hc
  rfl
 .rfl
theorem K6 {g g'} (h:g'.LL=g.LL):Grow g g':=λu _=>⟨[],by rw [h,List.append_nil],λx hx=>by cases hx⟩
theorem uE {g g'} (h:g'.LL=g.LL) {t p l}:gH g' t p l ↔ gH g t p l:=by unfold gH;rw [h]
theorem a4K {g g'} (h:g'.LL=g.LL) {A s l n} (hs:l8 g A s l n):l8 g' A s l n :=
 hs.aAw (λt=>⟨[],by rw [h,List.append_nil]⟩) (λ_ _=>Nat.le_refl _) (Int.le_refl _)
theorem EM {C g g' A} (h:l9 C g A) {i} (hi:i<3) {r send} (fm:zI C g i r send g') (oS:g'.LL=g.LL) (zJ:g'.ld=g.ld) (pX:r.log=(C.nd i).rep.log) (h1:r.role=1->(C.nd i).rep.role=1/\r.term=(C.nd i).rep.term) (h2:r.role=2->(C.nd i).rep.role=2/\r.term=(C.nd i).rep.term) (a7s:r.role=1->∀ x,x<3->g'.V r.term x=i->g.V r.term x=i) (aVQ:∀ c,c<3->c≠i->(C.nd c).rep.role=1->(C.nd c).rep.term=r.term->r.aQ=c->g.V r.term i≠c->∀ t p,t<r.term->Valid g t p->p<=A t i->gH g t p (C.nd c).rep.log\/rN C A t p) (hvt:∀ c,c<3->c≠i->r.aQ=((c:Nat):Int)->g.V r.term i=c\/r.term<=(C.nd c).rep.term) (him:r.role=2->∀ f,f<3->f≠i->r.fZ f<=A r.term f) (hk0:∀ m∈send,m.kind≠0) (hik:∀ m∈send,m.kind=3->m.yes=true->m.src=i/\m.term=r.term/\m.index.toNat<=A r.term i) (hic:∀ m∈send,m.kind=2->l8 g A m.term (g.LL m.term) m.aE.toNat) (hco:l8 g A r.term r.log r.aE):yM C g A i r send g' (A r.term i):=by
 refine ⟨fm,K6 oS,by rw [oS];exact h.VA,Nat.le_refl _,by rw [oS];exact h.a1 _ _,λhr=>?_,λt p hp1 hp=>?_,λu hu eE=>absurd hu (by rw [<-zJ];exact eE),λt p _ hv hlt=>?_,λm hm hk=>absurd hk (hk0 m hm),λhr=>?_,λhr=>?_,λhr x hx hv t p ht hval hp=>?_,aVQ,hvt,him,hik,λm hm hk=>?_,?_⟩
 .obtain ⟨a,b⟩:=h2 hr
  rw [b,pX];exact h.a3 i hi a
 .rw [EL] at hp
  rw [pX]
  rcases h.ia t i p hi hp1 hp with q|⟨u,q1,q2,q3,q4⟩
  .exact .inl ((uE oS).2 q)
  .exact .inr ⟨u,q1,Int.le_trans q2 fm.up,by rw [zJ];exact q3,λhh=>q4 (by rw [oS] at hh;exact (uE oS).1 hh)⟩
 .have:=hv.2.1
  rw [oS] at this
  omega
 .obtain ⟨a,b⟩:=h1 hr
  exact .inr ⟨a,b,pX⟩
 .obtain ⟨a,b⟩:=h1 hr
  rw [pX,b];exact h.il i hi a
 .obtain ⟨a,b⟩:=h1 hr
  have:=a7s hr x hx hv
  rw [b] at this ht
  rw [pX]
  exact h.iv i hi a x hx this t p ht hval hp
 .rw [EL,oS]
  exact a4K oS (hic m hm hk)
 .rw [EL]
  exact a4K oS hco
theorem aAx {C g} (h:RQ C g) {i} (hi:i<3):zI C g i (dR i (C.nd i).F4 (C.nd i).VL (C.nd i).a0q) [] g:=by
 obtain ⟨h1,h2,h3⟩:=h.wf.WO i hi
 refine ⟨?_,by show _<=(C.nd i).F4;omega,λ_ _=>h2,λm hm=>(by cases hm),λt=>.inl rfl,Ext.refl _,λt=>.inl rfl,λhr=>(by cases (show (0:Int)=1 from hr)),λhr=>(by cases (show (0:Int)=2 from hr)),?_,λm hm=>(by cases hm)⟩
 .funext t j
  by_cases hc:t=(C.nd i).F4/\j=i
  .obtain ⟨rfl,rfl⟩:=hc
   have:=h.now j hi
   rw [<-h1,<-h2] at this
   rw [this]
   exact (iU _ _ _ _).symm
  .exact (kY _ _ hc).symm
 .show qV g.LL (C.nd i).a0q
  rw [h3]
  exact h.log i hi
theorem l9.start {C g A} (h:l9 C g A) {i} (hi:i<3):l9 (EF C i) g A:=by
 obtain ⟨h1,h2,h3⟩:=h.m.wf.WO i hi
 have e:((EF C i).nd i).rep=dR i (C.nd i).F4 (C.nd i).VL (C.nd i).a0q:=by
  unfold EF
  simp only [cZ]
  rfl
 have f:yM C g A i (dR i (C.nd i).F4 (C.nd i).VL (C.nd i).a0q) [] g (A (dR i (C.nd i).F4 (C.nd i).VL (C.nd i).a0q).term i) :=
  EM h hi (aAx h.m hi) rfl rfl h3 (λhr=>(by cases (show (0:Int)=1 from hr))) (λhr=>(by cases (show (0:Int)=2 from hr))) (λhr=>(by cases (show (0:Int)=1 from hr)))
   (λc hc hci hro ht hv hV=>absurd (by
    have:=h.m.now i hi
    show g.V (C.nd i).F4 i=c
    rw [h1,this,<-h2];exact hv) hV)
   (λc hc hci hv=>.inl (by
    have:=h.m.now i hi
    show g.V (C.nd i).F4 i=c
    rw [h1,this,<-h2];exact hv)) (λhr=>(by cases (show (0:Int)=2 from hr))) (λm hm=>(by cases hm)) (λm hm=>(by cases hm)) (λm hm=>(by cases hm)) (.inl rfl)
 have:=h.node hi f (aH7 h.m.wf hi) e (λj hj=>gN _ _ hj) λm hm=>.inl hm
 rwa [EL] at this
theorem aEg {C g} (h:RQ C g) {i} (hi:i<3):JC g.V i (C.nd i).rep.term (C.nd i).rep.aQ=g.V:=by
 funext t j
 by_cases hc:t=(C.nd i).rep.term/\j=i
 .obtain ⟨rfl,rfl⟩:=hc
  rw [iU]
  exact (h.now j hi).symm
 .exact kY _ _ hc
theorem aAy {g A r} (hs:l8 g A r.term (g.LL r.term) r.aE):∀ m∈cW r,l8 g A m.term (g.LL m.term) m.aE.toNat:=λm hm=>by
 unfold cW at hm
 obtain ⟨f,_,rfl⟩:=List.mem_map.1 hm
 exact hs
theorem X5 {C g g' A} (h:l9 C g A) {i} (hi:i<3) {send} (fm:zI C g i (C.nd i).rep send g') (oS:g'.LL=g.LL) (zJ:g'.ld=g.ld) (hk0:∀ m∈send,m.kind≠0) (hik:∀ m∈send,m.kind=3->m.yes=true->m.src=i/\m.term=(C.nd i).rep.term/\m.index.toNat<=A (C.nd i).rep.term i) (hic:∀ m∈send,m.kind=2->l8 g A m.term (g.LL m.term) m.aE.toNat):
  yM C g A i (C.nd i).rep send g' (A (C.nd i).rep.term i) :=
 EM h hi fm oS zJ rfl (λhr=>⟨hr,rfl⟩) (λhr=>⟨hr,rfl⟩) (λ_ x _ hv=>by rw [fm.V,aEg h.m hi] at hv;exact hv) (λc _ _ _ _ hv hV=>absurd ((h.m.now i hi).trans hv) hV) (λc _ _ hv=>.inl ((h.m.now i hi).trans hv)) (h.im i hi) hk0 hik hic (h.co i hi)
theorem aQb {C g A} (h:l9 C g A) {i} (hi:i<3):∃ g' n,yM C g A i (eG (C.nd i).rep).1 (eG (C.nd i).rep).2.send g' n:=by
 obtain ⟨hw,hid⟩:=h.m.wf.rep i hi
 obtain ⟨g',fm,oS,zJ⟩:=aP7 h.m hi
 by_cases h2:(C.nd i).rep.role=2
 .have e:eG (C.nd i).rep=((C.nd i).rep,mW (cW (C.nd i).rep)):=if_pos h2
  rw [e] at fm ⊢
  refine ⟨g',_,X5 h hi fm oS zJ (λm hm=>by rw [pJ _ m hm];decide) (λm hm hk=>by rw [pJ _ m hm] at hk;cases hk) λm hm _=>aAy ?_ m hm⟩
  rw [(h.m.lead i hi h2).2]
  exact h.co i hi
 by_cases h3:(C.nd i).rep.term=1099511627776
 .have e:eG (C.nd i).rep=((C.nd i).rep,kR):=by unfold eG;rw [if_neg h2,if_pos h3]
  rw [e] at fm ⊢
  exact ⟨g',_,X5 h hi fm oS zJ (λm hm=>by cases hm) (λm hm=>by cases hm) (λm hm=>by cases hm)⟩
 .obtain ⟨r',hr'⟩:∃ r':dX,({ (C.nd i).rep with term:=(C.nd i).rep.term+1,aQ:=(C.nd i).rep.id,role:=1,cN:=λk=>decide (k=(C.nd i).rep.id) }:dX)=r':=⟨_,rfl⟩
  have e1:(eG (C.nd i).rep).1=r':=by unfold eG;rw [if_neg h2,if_neg h3,<-hr']
  have e2:(eG (C.nd i).rep).2.send=(aT (C.nd i).rep.id).map λk=>uQ r' k:=by unfold eG;rw [if_neg h2,if_neg h3,<-hr']
  rw [e1,e2] at fm ⊢
  have t1:r'.term=(C.nd i).rep.term+1:=by rw [<-hr']
  have l1:r'.log=(C.nd i).rep.log:=by rw [<-hr']
  have v1:r'.aQ=i:=by rw [<-hr',hid]
  have i1:r'.id=i:=by rw [<-hr',hid]
  have c1:r'.aE=(C.nd i).rep.aE:=by rw [<-hr']
  have o1:r'.role=1:=by rw [<-hr']
  have aFf:∀ m∈(aT (C.nd i).rep.id).map (λk=>uQ r' k),∃ k,m=uQ r' k:=λm hm=>by
   obtain ⟨k,_,rfl⟩:=List.mem_map.1 hm
   exact ⟨k,rfl⟩
  have mine:∀ t p,Valid g t p->p<=A t i->gH g t p (C.nd i).rep.log\/rN C A t p:=λt p hv hp=>by
   rcases h.ia t i p hi hv.1 hp with q|⟨u,q1,_,q3,q4⟩
   .exact .inl q
   .rcases h.ib t u p hv q1 q3 with q|q
    .exact absurd q q4
    .exact .inr q
  refine ⟨g',A r'.term i,fm,K6 oS,by rw [oS];exact h.VA,Nat.le_refl _,by rw [oS];exact h.a1 _ _,λhr=>by omega,λt p hp1 hp=>?_,λu hu eE=>absurd hu (by rw [<-zJ];exact eE),λt p _ hv hlt=>?_,λm hm hk=>?_,λ_=>.inl (by omega),λ_ x hx=>?_,λ_ x hx hV t p ht hv hp=>?_,λc _ hci _ _ hv=>absurd (by rw [v1] at hv;omega) hci,λc _ hci hv=>absurd (by rw [v1] at hv;omega) hci,λhr=>by omega,λm hm hk=>?_,λm hm hk=>?_,?_⟩
  .rw [EL] at hp
   rw [l1]
   rcases h.ia t i p hi hp1 hp with q|⟨u,q1,q2,q3,q4⟩
   .exact .inl ((uE oS).2 q)
   .exact .inr ⟨u,q1,by omega,by rw [zJ];exact q3,λhh=>q4 (by rw [oS] at hh;exact (uE oS).1 hh)⟩
  .have:=hv.2.1
   rw [oS] at this
   omega
  .obtain ⟨k,rfl⟩:=aFf m hm
   exact ⟨by show (r'.id:Int)=i;rw [i1],Int.le_refl _,λ_ _=>⟨rfl,rfl⟩⟩
  .rw [l1] at hx
   have:=hw.ok.log.hi x hx
   omega
  .rw [l1]
   by_cases hxi:x=i
   .subst hxi
    exact mine t p hv hp
   .rw [fm.V,kY _ _ (λhc=>hxi hc.2)] at hV
    have:=h.vt _ x i hx hi hV
    omega
  .obtain ⟨k,rfl⟩:=aFf m hm
   cases hk
  .obtain ⟨k,rfl⟩:=aFf m hm
   cases hk
  .rw [EL,l1,c1]
   exact a4K oS ((h.co i hi).aAw (Ext.refl _) (λ_ _=>Nat.le_refl _) (by omega))
theorem aQc {C g A} (h:l9 C g A) {i} (hi:i<3) (data):∃ g' n,yM C g A i (aK (C.nd i).rep data).1 (aK (C.nd i).rep data).2.2.2.send g' n:=by
 obtain ⟨hw,hid⟩:=h.m.wf.rep i hi
 have hw':=(yL hw data).1
 obtain ⟨g',fm,zJ,hLo,hL0⟩:=aP8 h.m hi data
 have same:aK (C.nd i).rep data=((C.nd i).rep,(aK (C.nd i).rep data).2.1,(aK (C.nd i).rep data).2.2.1,kR)->∃ g' n,yM C g A i (aK (C.nd i).rep data).1 (aK (C.nd i).rep data).2.2.2.send g' n:=λe=>by
  rw [e] at fm hL0 ⊢
  exact ⟨g',_,X5 h hi fm (hL0 rfl) zJ (λm hm=>by cases hm) (λm hm=>by cases hm) (λm hm=>by cases hm)⟩
 by_cases h2:(C.nd i).rep.role=2
 .by_cases h3:2000<(data.size:Int)
  .exact same (by unfold aK;rw [if_neg (by simpa using h2),if_pos h3])
  by_cases h4:(C.nd i).rep.log.length=4000
  .exact same (by unfold aK;rw [if_neg (by simpa using h2),if_neg h3,if_pos h4])
  obtain ⟨x,hx⟩:∃ x:bQ,x=⟨(C.nd i).rep.term,data⟩:=⟨_,rfl⟩
  obtain ⟨r',hr'⟩:∃ r':dX,({ (C.nd i).rep with log:=(C.nd i).rep.log++[x] }:dX)=r':=⟨_,rfl⟩
  have e1:(aK (C.nd i).rep data).1=r':=by unfold aK;rw [if_neg (by simpa using h2),if_neg h3,if_neg h4,<-hr',hx]
  have e2:(aK (C.nd i).rep data).2.2.2.send=cW r':=by unfold aK;rw [if_neg (by simpa using h2),if_neg h3,if_neg h4,<-hr',hx]
  rw [e1,e2] at fm ⊢
  rw [e1] at hw'
  have t1:r'.term=(C.nd i).rep.term:=by rw [<-hr']
  have l1:r'.log=(C.nd i).rep.log++[x]:=by rw [<-hr']
  have v1:r'.aQ=(C.nd i).rep.aQ:=by rw [<-hr']
  have c1:r'.aE=(C.nd i).rep.aE:=by rw [<-hr']
  have o1:r'.role=2:=by rw [<-hr'];exact h2
  have m1:r'.fZ=(C.nd i).rep.fZ:=by rw [<-hr']
  obtain ⟨hl1,hl2⟩:=h.m.lead i hi h2
  have L8:g'.LL (C.nd i).rep.term=(C.nd i).rep.log++[x]:=by have:=(fm.lead o1).2;rw [t1,l1] at this;exact this
  have ha3:=h.a3 i hi h2
  have he:=fm.ext
  have hgrow:Grow g g':=λu _=>by
   by_cases hu:u=(C.nd i).rep.term
   .subst hu
    exact ⟨[x],by rw [L8,hl2],λy hy=>by rw [List.mem_singleton.1 hy,hx]⟩
   .exact ⟨[],by rw [hLo u hu,List.append_nil],λy hy=>by cases hy⟩
  have hle:A r'.term i<=(C.nd i).rep.log.length+1:=by rw [t1,ha3];omega
  have hco:l8 g' (EK A i r'.term ((C.nd i).rep.log.length+1)) r'.term r'.log r'.aE:=by
   rw [l1,c1]
   exact (h.co i hi).ext he (RR hle) (by omega)
  refine ⟨g',(C.nd i).rep.log.length+1,fm,hgrow,λt=>?_,hle,by rw [t1,L8];simp,λ_=>by rw [l1];simp,λt p hp1 hp=>?_,λu hu eE=>absurd hu (by rw [<-zJ];exact eE),λt p _ hv hlt=>?_,λm hm hk=>(by rw [pJ _ m hm] at hk;cases hk),λhr=>by omega,λhr=>by omega,λhr=>by omega,λc _ _ _ _ hv hV=>absurd (by rw [t1,h.m.now i hi,<-v1];exact hv) hV,λc _ _ hv=>.inl (by rw [t1,h.m.now i hi,<-v1];exact hv),λ_ f hf hfi=>by rw [m1,t1];exact h.im i hi h2 f hf hfi,λm hm hk=>(by rw [pJ _ m hm] at hk;cases hk),λm hm _=>aAy ?_ m hm,hco⟩
  .by_cases ht:t=(C.nd i).rep.term
   .rw [ht,L8,<-l1,<-t1];exact hw'.ok.log
   .rw [hLo t ht];exact h.VA t
  .by_cases ht:t=(C.nd i).rep.term
   .subst ht
    rw [<-t1,x9] at hp
    refine .inl ⟨by rw [l1];simp;omega,by rw [l1,L8]⟩
   .rw [rP _ _ (λhc=>ht (by rw [<-t1];exact hc.1))] at hp
    have hpl:=Nat.le_trans hp (h.a1 t i)
    rcases h.ia t i p hi hp1 hp with q|⟨u,q1,q2,q3,q4⟩
    .rw [l1];exact .inl ((gH.ext he hpl).2 q.more)
    .exact .inr ⟨u,q1,by omega,by rw [zJ];exact q3,λhh=>q4 (U7 he hgrow (h.VA t) q1 hpl q3 hh)⟩
  .by_cases ht:t=(C.nd i).rep.term
   .exact ⟨ht,by rw [t1];exact ht⟩
   .have:=hv.2.1
    rw [hLo t ht] at this
    omega
  .rw [(fm.lead o1).2]
   exact hco
 .exact same (by unfold aK;rw [if_pos h2])
theorem aQd {C g g' A} (h:l9 C g A) {i} (hi:i<3) {r send} (fm:zI C g i r send g') (h1:(C.nd i).rep.role=1) (o1:r.role=2) (t1:r.term=(C.nd i).rep.term) (l1:r.log=(C.nd i).rep.log) (c1:r.aE=(C.nd i).rep.aE) (v1:r.aQ=(C.nd i).rep.aQ) (m1:∀ f,r.fZ f=0) (hfree:g.ld r.term = -1) (hsame:∀ t,t≠r.term->g'.LL t=g.LL t/\g'.ld t=g.ld t) (hsend:send=cW r) (hq:∃ a b,a<3/\b<3/\a≠b/\g.V r.term a=i/\g.V r.term b=i):
  yM C g A i r send g' r.log.length:=by
 obtain ⟨hw,hid⟩:=h.m.wf.rep i hi
 have he:=fm.ext
 have hL0:g.LL r.term=[]:=h.m.none _ hfree
 have hA0:A r.term i=0:=by have:=h.a1 r.term i;rw [hL0] at this;simpa using this
 obtain ⟨hl1,hl2⟩:=fm.lead o1
 have hgrow:Grow g g':=λu hu=>⟨[],by rw [(hsame u (λe=>hu (by rw [e];exact hfree))).1,List.append_nil],λx hx=>by cases hx⟩
 have hle:A r.term i<=r.log.length:=by omega
 have hco:l8 g' (EK A i r.term r.log.length) r.term r.log r.aE:=by
  rw [l1,c1]
  exact (h.co i hi).aAw he (RR (by rw [<-l1];exact hle)) (by omega)
 have hil:=h.il i hi h1
 have hk:∀ m∈send,m.kind=2:=by rw [hsend];exact pJ r
 refine ⟨fm,hgrow,λt=>?_,hle,by rw [hl2];exact Nat.le_refl _,λ_=>rfl,λt p hp1 hp=>?_,λu hu eE=>?_,λt p hl hv hlt=>?_,λm hm hk0=>(by rw [hk m hm] at hk0;cases hk0),λhr=>by omega,λhr=>by omega,λhr=>by omega,
  λc _ _ _ _ hv hV=>absurd (by rw [t1,h.m.now i hi,<-v1];exact hv) hV,λc _ _ hv=>.inl (by rw [t1,h.m.now i hi,<-v1];exact hv),λ_ f _ _=>by rw [m1];exact Nat.zero_le _,λm hm hk0=>(by rw [hk m hm] at hk0;cases hk0),λm hm _=>?_,hco⟩
 .by_cases ht:t=r.term
  .rw [ht,hl2,l1,t1];exact hw.ok.log
  .rw [(hsame t ht).1];exact h.VA t
 .by_cases ht:t=r.term
  .subst ht
   rw [x9] at hp
   exact .inl ⟨hp,by rw [hl2]⟩
  .rw [rP _ _ (λhc=>ht hc.1)] at hp
   have hpl:=Nat.le_trans hp (h.a1 t i)
   rcases h.ia t i p hi hp1 hp with q|⟨u,q1,q2,q3,q4⟩
   .rw [l1];exact .inl ((gH.ext he hpl).2 q)
   .have hu:u≠r.term:=λe=>q3 (by rw [e];exact hfree)
    exact .inr ⟨u,q1,by omega,by rw [(hsame u hu).2];exact q3,λhh=>q4 (U7 he hgrow (h.VA t) q1 hpl q3 hh)⟩
 .have hu1:u=r.term:=Decidable.byContradiction λe=>eE (by rw [(hsame u e).2];exact hu)
  subst hu1
  refine ⟨λt p hv ht=>?_,λp hv=>?_⟩
  .obtain ⟨a,b,ha,hb,hab,hva,hvb⟩:=hq
   rw [hl2,l1]
   have ta:=yN h.m ha (by rw [hva];omega)
   have tb:=yN h.m hb (by rw [hvb];omega)
   by_cases h3:p<=A t a
   .exact h.iv i hi h1 a ha (by rw [<-t1];exact hva) t p (by omega) hv h3
   by_cases h4:p<=A t b
   .exact h.iv i hi h1 b hb (by rw [<-t1];exact hvb) t p (by omega) hv h4
   exact .inr ⟨a,b,ha,hb,hab,by omega,by omega,by omega,by omega⟩
  .obtain ⟨h3,h4,h5⟩:=hv
   rw [hl2,l1] at h4 h5
   obtain ⟨q,rfl⟩:∃ q,p=q+1:=⟨p - 1,by omega⟩
   obtain ⟨x,hx⟩:∃ x,(C.nd i).rep.log[q]? = some x:=⟨_,List.getElem?_eq_getElem h4⟩
   rw [qN hx] at h5
   have:=hil x (List.mem_of_getElem? hx)
   omega
 .have ht:t≠r.term:=λe=>hl (by rw [e];exact hfree)
  have:=hv.2.1
  rw [(hsame t ht).1] at this
  omega
 .rw [hsend] at hm
  exact aAy (by rw [hl2];exact hco) m hm
theorem a3d {LL l} (h:qV LL l) (h0:0<l.length):l=(LL (bG l l.length)).take l.length/\l.length<=(LL (bG l l.length)).length/\∃ z,l[l.length - 1]? = some z/\z.term=bG l l.length:=by
 obtain ⟨n,hn⟩:∃ n,l.length=n+1:=⟨l.length - 1,by omega⟩
 obtain ⟨z,hz⟩:∃ z,l[n]? = some z:=⟨_,List.getElem?_eq_getElem (by omega)⟩
 have e:=h n z hz
 have hl:=take_len (by omega) e
 rw [hn,qN hz]
 refine ⟨?_,by omega,z,by rw [Nat.add_sub_cancel];exact hz,rfl⟩
 rw [<-e,<-hn,List.take_length]
theorem aAz {C g A} (h:l9 C g A) {x c} (hx:x<3) (hc:c<3) (hfr:bG (C.nd x).rep.log (C.nd x).rep.log.length<bG (C.nd c).rep.log (C.nd c).rep.log.length\/(bG (C.nd c).rep.log (C.nd c).rep.log.length=bG (C.nd x).rep.log (C.nd x).rep.log.length/\(C.nd x).rep.log.length<=(C.nd c).rep.log.length)) {t p} (hv:Valid g t p) (hp:gH g t p (C.nd x).rep.log):gH g t p (C.nd c).rep.log\/rN C A t p:=by
 have px:=h.m.log x hx
 have pc:=h.m.log c hc
 have sx:=(h.m.wf.rep x hx).1.ok.log
 generalize (C.nd x).rep.log=a at px sx hp hfr
 generalize hb:(C.nd c).rep.log=b at pc hfr ⊢
 obtain ⟨v1,v2,v3⟩:=hv
 obtain ⟨p1,p2⟩:=hp
 obtain ⟨ea,la,z,hz,hzt⟩:=a3d px (by omega)
 have hb0:0<b.length:=by
  rcases hfr with q|q
  .rcases Nat.eq_zero_or_pos b.length with e|e
   .rw [e] at q
    have h1:=sx.lo z (List.mem_of_getElem? hz)
    have:bG b 0=0:=rfl
    omega
   .exact e
  .omega
 obtain ⟨eb,lb,y,hy,hyt⟩:=a3d pc hb0
 rcases hfr with q|⟨q1,q2⟩
 ·-- the asker's last term is greater
  obtain ⟨k,rfl⟩:∃ k,p=k+1:=⟨p - 1,by omega⟩
  obtain ⟨e,he⟩:∃ e,(g.LL t)[k]? = some e:=⟨_,List.getElem?_eq_getElem v2⟩
  rw [qN he] at v3
  have hea:a[k]? = some e:=by
   have:=congrArg (λl=>l[k]?) p2
   simp only [List.getElem?_take_of_lt (show k<k+1 by omega)] at this
   rw [this,he]
  have hts:t<=bG a a.length:=by
   have h1:=sx.VA k (a.length - 1) (by omega) (by omega) (by omega)
   have e1:a[k]=e:=by have:=hea;rw [List.getElem?_eq_getElem (by omega)] at this;simpa using this
   have e2:a[a.length - 1]=z:=by have:=hz;rw [List.getElem?_eq_getElem (by omega)] at this;simpa using this
   rw [e1,e2,v3,hzt] at h1
   exact h1
  have aQe:g.ld (bG b b.length) ≠ -1:=λe=>by
   rw [h.m.none _ e] at lb
   simp at lb
   rw [lb] at hb0
   simp at hb0
  rcases h.ib t (bG b b.length) (k+1) ⟨v1,v2,by rw [qN he];exact v3⟩ (by omega) aQe with ⟨r1,r2⟩|r
  .left
   have hkb:k+1<=b.length:=Decidable.byContradiction λhn=>by
    have h1:(g.LL (bG b b.length))[b.length - 1]? = some y:=by
     have:=hy
     rw [eb,List.getElem?_take_of_lt (by rw [List.length_take];omega)] at this
     rw [List.length_take,Nat.min_eq_left lb] at this
     exact this
    have h2:(g.LL t)[b.length - 1]? = some y:=by
     have:=congrArg (λl=>l[b.length - 1]?) r2
     simp only [List.getElem?_take_of_lt (show b.length - 1<k+1 by omega)] at this
     rw [<-this,h1]
    have:=(h.VA t).hi y (List.mem_of_getElem? h2)
    omega
   refine ⟨hkb,?_⟩
   rw [eb,List.take_take,Nat.min_eq_left hkb]
   exact r2
  .exact .inr r
 .left
  refine ⟨by omega,?_⟩
  rw [<-p2,eb,ea,q1,List.take_take,List.take_take]
  congr 1
  omega
theorem mine {C g A} (h:l9 C g A) {i} (hi:i<3) {t p} (hv:Valid g t p) (hp:p<=A t i):gH g t p (C.nd i).rep.log\/rN C A t p:=by
 rcases h.ia t i p hi hv.1 hp with q|⟨u,q1,_,q3,q4⟩
 .exact .inl q
 .rcases h.ib t u p hv q1 q3 with q|q
  .exact absurd q q4
  .exact .inr q
theorem nZ {C g g' A} (h:l9 C g A) {i} (hi:i<3) {r send} (fm:zI C g i r send g') (oS:g'.LL=g.LL) (zJ:g'.ld=g.ld) (pX:r.log=(C.nd i).rep.log) (h1:r.role=1->(C.nd i).rep.role=1/\r.term=(C.nd i).rep.term) (h2:r.role=2->(C.nd i).rep.role=2/\r.term=(C.nd i).rep.term) (hv:(r.term=(C.nd i).rep.term/\r.aQ=(C.nd i).rep.aQ)\/r.aQ = -1) (him:r.role=2->∀ f,f<3->f≠i->r.fZ f<=A r.term f) (hk0:∀ m∈send,m.kind≠0) (hik:∀ m∈send,m.kind=3->m.yes=true->m.src=i/\m.term=r.term/\m.index.toNat<=A r.term i) (hic:∀ m∈send,m.kind=2->l8 g A m.term (g.LL m.term) m.aE.toNat) (hco:l8 g A r.term r.log r.aE):yM C g A i r send g' (A r.term i):=by
 have IV:∀ c:Nat,r.aQ=c->g.V r.term i=c:=λc hc=>by
  rcases hv with ⟨a,b⟩|b
  .rw [a,h.m.now i hi,<-b];exact hc
  .omega
 refine EM h hi fm oS zJ pX h1 h2 (λhr x hx hV=>?_) (λc _ _ _ _ hc hV=>absurd (IV c hc) hV) (λc _ _ hc=>.inl (IV c hc)) him hk0 hik hic hco
 rw [fm.V] at hV
 by_cases hxi:x=i
 .subst hxi
  rw [iU] at hV
  exact IV x hV
 .rw [kY _ _ (λhc=>hxi hc.2)] at hV
  exact hV
structure a0A (C:Cl) (i:Nat) (r1:dX):Prop where
 up:(C.nd i).rep.term<=r1.term
 hv:(r1.term=(C.nd i).rep.term/\r1.aQ=(C.nd i).rep.aQ)\/r1.aQ = -1
 log:r1.log=(C.nd i).rep.log
 same:r1.role≠0->r1=(C.nd i).rep
 aE:r1.aE=(C.nd i).rep.aE
 id:r1.id=i
theorem a0A.one {C i r1} (u:a0A C i r1) {k} (hk:k≠0) (hr:r1.role=k):(C.nd i).rep.role=k/\r1.term=(C.nd i).rep.term:=by
 have:=u.same (by omega)
 exact ⟨by rw [<-this];exact hr,by rw [<-this]⟩
theorem a0A.co {C g A} (h:l9 C g A) {i} (hi:i<3) {r1} (u:a0A C i r1):l8 g A r1.term r1.log r1.aE:=by
 rw [u.log,u.aE]
 exact (h.co i hi).aAw (Ext.refl _) (λ_ _=>Nat.le_refl _) u.up
theorem aQf {C g g' A} (h:l9 C g A) {i} (hi:i<3) {r1} (u:a0A C i r1) {m} (hmem:m∈C.sent) (hm:m.sL i) (hk:m.kind=0) (fm:zI C g i (dG r1 m).1 (dG r1 m).2.send g') (oS:g'.LL=g.LL) (zJ:g'.ld=g.ld):
  yM C g A i (dG r1 m).1 (dG r1 m).2.send g' (A (dG r1 m).1.term i):=by
 obtain ⟨⟨s1,s2,s3,s4⟩,s5⟩:=a0z r1 m
 have hs:∀ {k:Int},k≠1->∀ v∈(dG r1 m).2.send,v.kind≠k:=λhk1 v hv=>by rw [s5 v hv];exact λe=>hk1 e.symm
 have c1:(dG r1 m).1.aE=r1.aE/\(dG r1 m).1.fZ=r1.fZ:=by unfold dG;split<;>exact ⟨rfl,rfl⟩
 have hco:l8 g A (dG r1 m).1.term (dG r1 m).1.log (dG r1 m).1.aE:=by rw [s2,s4,c1.1];exact u.co h hi
 have him:(dG r1 m).1.role=2->∀ f,f<3->f≠i->(dG r1 m).1.fZ f<=A (dG r1 m).1.term f:=λhr f hf hfi=>by
  rw [s1] at hr
  have e:=u.same (by omega)
  rw [c1.2,s2,e]
  exact h.im i hi (by rw [<-e];exact hr) f hf hfi
 by_cases hg:(decide (m.term=r1.term)&&(decide (r1.aQ = -1)||decide (r1.aQ=m.src))&&TF r1 m)=true
 .have ev:(dG r1 m).1.aQ=m.src:=by unfold dG;rw [if_pos hg]
  simp only [Bool.and_eq_true,decide_eq_true_eq] at hg
  obtain ⟨⟨g1,_⟩,g3⟩:=hg
  obtain ⟨c,hc,a1,a2,a3⟩:=h.iq m hmem hk
  have hci:c≠i:=λe=>hm.src.1 (by rw [a1,e])
  refine EM h hi fm oS zJ (by rw [s4];exact u.log) (λhr=>by rw [s2];exact u.one (by decide) (by rw [<-s1];exact hr)) (λhr=>by rw [s2];exact u.one (by decide) (by rw [<-s1];exact hr)) (λhr x hx hV=>?_) (λd hd hdi hro ht hv hV t p htt hval hp=>?_) (λd hd hdi hv=>.inr ?_) him (hs (by decide)) (λv hv hk3=>absurd hk3 (hs (by decide) v hv)) (λv hv hk2=>absurd hk2 (hs (by decide) v hv)) hco
  .rw [fm.V] at hV
   by_cases hxi:x=i
   .subst hxi
    rw [iU,ev] at hV
    omega
   .rw [kY _ _ (λhc=>hxi hc.2)] at hV
    exact hV
  .rw [ev] at hv
   have hdc:d=c:=by omega
   subst hdc
   obtain ⟨b1,b2⟩:=a3 hro (by rw [ht,s2,g1])
   rcases mine h hi hval hp with q|q
   .refine aAz h hi hd ?_ hval q
    rw [<-u.log]
    unfold TF at g3
    simp only [Bool.or_eq_true,Bool.and_eq_true,decide_eq_true_eq] at g3
    rw [b2,b1] at g3
    rcases g3 with g3|⟨g3,g4⟩
    .exact .inl g3
    .exact .inr ⟨g3,by omega⟩
   .exact .inr q
  .rw [ev] at hv
   have hdc:d=c:=by omega
   subst hdc
   rw [s2,<-g1]
   exact a2
 .have ev:(dG r1 m).1.aQ=r1.aQ:=by unfold dG;rw [if_neg hg]
  exact nZ h hi fm oS zJ (by rw [s4];exact u.log) (λhr=>by rw [s2];exact u.one (by decide) (by rw [<-s1];exact hr)) (λhr=>by rw [s2];exact u.one (by decide) (by rw [<-s1];exact hr)) (by rw [s2,ev];exact u.hv) him (hs (by decide)) (λv hv hk3=>absurd hk3 (hs (by decide) v hv)) (λv hv hk2=>absurd hk2 (hs (by decide) v hv)) hco
theorem aLO {C g g' A} (h:l9 C g A) {i} (hi:i<3) {r1} (u:a0A C i r1) {m} (fm:zI C g i (cU r1 m).1 (cU r1 m).2.send g') (oS:g'.LL=g.LL) (zJ:g'.ld=g.ld):
  yM C g A i (cU r1 m).1 (cU r1 m).2.send g' (A (cU r1 m).1.term i):=by
 have him:r1.role=2->∀ f,f<3->f≠i->r1.fZ f<=A r1.term f:=λhr f hf hfi=>by
  have e:=u.same (by omega)
  rw [e] at hr ⊢
  exact h.im i hi hr f hf hfi
 by_cases hc:(decide (r1.role≠1)||decide (m.term≠r1.term) || !m.yes)=true
 .have e:cU r1 m=(r1,kR):=by unfold cU;rw [if_pos hc]
  rw [e] at fm ⊢
  exact nZ h hi fm oS zJ u.log (u.one (by decide)) (u.one (by decide)) u.hv him (λv hv=>by cases hv) (λv hv=>by cases hv) (λv hv=>by cases hv) (u.co h hi)
 have F5:=hc
 simp only [Bool.or_eq_true,decide_eq_true_eq,not_or,Bool.not_eq_true',Bool.not_eq_false] at F5
 obtain ⟨⟨c1,_⟩,_⟩:=F5
 have c1:r1.role=1:=by omega
 by_cases hc2:pW (put r1.cN m.src.toNat true)<2
 .have e:cU r1 m=({ r1 with cN:=put r1.cN m.src.toNat true },kR):=by unfold cU;rw [if_neg hc];simp only;rw [if_pos hc2]
  rw [e] at fm ⊢
  exact nZ h hi fm oS zJ u.log (u.one (by decide)) (u.one (by decide)) u.hv him (λv hv=>by cases hv) (λv hv=>by cases hv) (λv hv=>by cases hv) (u.co h hi)
 .exfalso
  have e:(cU r1 m).1.role=2/\(cU r1 m).1.term=r1.term:=by unfold cU;rw [if_neg hc];simp only;rw [if_neg hc2];exact ⟨rfl,rfl⟩
  obtain ⟨a,b⟩:=u.one (k:=1) (by decide) c1
  have:=(fm.lead e.1).1
  rw [zJ,e.2,b] at this
  exact (h.m.cand i hi a).2 this
theorem aIm (r) (h:r.id<=2):BE r=0\/∃ f,f<3/\f≠r.id/\r.fZ f=BE r:=by
 have two:∀ a b:Nat,(([a,b]:List Nat).foldl (λx i=>max x (r.fZ i)) 0=r.fZ a)\/(([a,b]:List Nat).foldl (λx i=>max x (r.fZ i)) 0=r.fZ b):=λa b=>by
  simp only [List.foldl_cons,List.foldl_nil]
  omega
 unfold BE aT
 split
 .rcases two 1 2 with e|e
  .exact .inr ⟨1,by decide,by omega,e.symm⟩
  .exact .inr ⟨2,by decide,by omega,e.symm⟩
 split
 .rcases two 0 2 with e|e
  .exact .inr ⟨0,by decide,by omega,e.symm⟩
  .exact .inr ⟨2,by decide,by omega,e.symm⟩
 .rcases two 0 1 with e|e
  .exact .inr ⟨0,by decide,by omega,e.symm⟩
  .exact .inr ⟨1,by decide,by omega,e.symm⟩
theorem aIn {g A i} (hi:i<3) {r} (hid:r.id=i) (hL:g.LL r.term=r.log) (ha1:∀ t j,A t j<=(g.LL t).length) (ha:A r.term i=r.log.length) (him:∀ f,f<3->f≠i->r.fZ f<=A r.term f) (hs:l8 g A r.term r.log r.aE):
  l8 g A r.term r.log (bA r).aE:=by
 unfold bA
 split
 .rename_i hc
  simp only [Bool.and_eq_true,decide_eq_true_eq] at hc
  obtain ⟨c1,c2⟩:=hc
  rcases aIm r (by omega) with e|⟨f,hf,hfi,e⟩
  .omega
  .have h1:=him f hf (by omega)
   have h2:=ha1 r.term f
   rw [hL] at h2
   refine .inr ⟨r.term,BE r,⟨⟨by omega,by rw [hL];omega,by rw [hL];exact c2⟩,i,f,hi,hf,by omega,by omega,by omega⟩,Int.le_refl _,Nat.le_refl _,by show BE r<=r.log.length;omega,by rw [hL]⟩
 .exact hs
theorem aAA {C g g' A} (h:l9 C g A) {i} (hi:i<3) {r1} (u:a0A C i r1) {m} (hmem:m∈C.sent) (hm:m.sL i) (hk:m.kind=3) (fm:zI C g i (aW r1 m).1 (aW r1 m).2.send g') (oS:g'.LL=g.LL) (zJ:g'.ld=g.ld):
  yM C g A i (aW r1 m).1 (aW r1 m).2.send g' (A (aW r1 m).1.term i):=by
 obtain ⟨⟨s1,s2,s3,s4⟩,s5⟩:=M1 r1 m
 have sv:=(M0 r1 m).aQ
 have aQg:r1.role=2->∀ f,f<3->f≠i->r1.fZ f<=A r1.term f:=λhr f hf hfi=>by
  have e:=u.same (by omega)
  rw [e] at hr ⊢
  exact h.im i hi hr f hf hfi
 have aIo:r1.role=2->g.LL r1.term=r1.log/\A r1.term i=r1.log.length:=λhr=>by
  have e:=u.same (by omega)
  rw [e] at hr ⊢
  exact ⟨(h.m.lead i hi hr).2,h.a3 i hi hr⟩
 have key:(r1.role=2->∀ f,f<3->f≠i->(aW r1 m).1.fZ f<=A r1.term f)/\l8 g A r1.term r1.log (aW r1 m).1.aE:=by
  unfold aW
  split
  .exact ⟨aQg,u.co h hi⟩
  rename_i hc
  simp only [Bool.or_eq_true,decide_eq_true_eq,not_or] at hc
  obtain ⟨⟨d1,d2⟩,_⟩:=hc
  have h2:r1.role=2:=by omega
  have d2:m.term=r1.term:=by omega
  simp only
  split
  .exact ⟨aQg,u.co h hi⟩
  rename_i hy
  have hy:m.yes=true:=by simpa using hy
  obtain ⟨f0,hf0,b1,b2⟩:=h.ik m hmem hk hy
  have hf:m.src.toNat=f0:=by omega
  have aVR:∀ f,f<3->f≠i->put r1.fZ m.src.toNat (max (r1.fZ m.src.toNat) m.index.toNat) f<=A r1.term f:=λf hf3 hfi=>by
   have h3:=aQg h2 f hf3 hfi
   by_cases hff:f=m.src.toNat
   .rw [hff,cZ]
    rw [hff] at h3
    rw [d2] at b2
    rw [hf] at h3 ⊢
    omega
   .rw [gN _ _ hff];exact h3
  have b0R:∀ r:dX,(bA r).fZ=r.fZ:=λr=>by unfold bA;split<;>rfl
  have hres:(r1.role=2->∀ f,f<3->f≠i->(bA { r1 with fZ:=put r1.fZ m.src.toNat (max (r1.fZ m.src.toNat) m.index.toNat),next:=put r1.next m.src.toNat (max (r1.fZ m.src.toNat) m.index.toNat+1) }).fZ f<=A r1.term f) /\
    l8 g A r1.term r1.log (bA { r1 with fZ:=put r1.fZ m.src.toNat (max (r1.fZ m.src.toNat) m.index.toNat),next:=put r1.next m.src.toNat (max (r1.fZ m.src.toNat) m.index.toNat+1) }).aE :=
   ⟨λ_ f hf3 hfi=>by rw [b0R];exact aVR f hf3 hfi,aIn (r:={ r1 with fZ:=put r1.fZ m.src.toNat (max (r1.fZ m.src.toNat) m.index.toNat),next:=put r1.next m.src.toNat (max (r1.fZ m.src.toNat) m.index.toNat+1) }) hi u.id (aIo h2).1 h.a1 (aIo h2).2 aVR (u.co h hi)⟩
  split
  .exact hres
  .exact hres
 have hco:l8 g A (aW r1 m).1.term (aW r1 m).1.log (aW r1 m).1.aE:=by rw [s2,s4];exact key.2
 have hk2:∀ v∈(aW r1 m).2.send,v.kind=2:=λv hv=>by
  obtain ⟨_,f,rfl⟩:=s5 v hv
  rfl
 refine nZ h hi fm oS zJ (by rw [s4];exact u.log) (λhr=>by rw [s2];exact u.one (by decide) (by rw [<-s1];exact hr)) (λhr=>by rw [s2];exact u.one (by decide) (by rw [<-s1];exact hr)) (by rw [s2,sv];exact u.hv) (λhr f hf hfi=>by rw [s2];exact key.1 (by rw [<-s1];exact hr) f hf hfi)
  (λv hv=>by rw [hk2 v hv];decide) (λv hv hk3=>by rw [hk2 v hv] at hk3;cases hk3) (λv hv _=>?_) hco
 obtain ⟨h2,f,rfl⟩:=s5 v hv
 show l8 g A (aW r1 m).1.term (g.LL (aW r1 m).1.term) ((aW r1 m).1.aE:Int).toNat
 rw [s2,(aIo h2).1,Int.toNat_natCast]
 exact key.2
theorem U8:∀ (a b:List bQ),agree a b<b.length->∀ x y,a[agree a b]? = some x->b[agree a b]? = some y->x.term≠y.term
 | [],b,_,x,y,hx,_=>by cases b<;>simp [agree] at hx
 | p :: a,[],h,_,_,_,_=>by simp [agree] at h
 | p :: a,q :: b,h,x,y,hx,hy=>by
  unfold agree at h hx hy
  by_cases e:p.term=q.term
  .rw [if_pos e] at h hx hy
   simp only [List.getElem?_cons_succ] at hx hy
   exact U8 a b (by simpa using h) x y hx hy
  .rw [if_neg e] at hx hy
   simp only [List.getElem?_cons_zero,Option.some.injEq] at hx hy
   rw [<-hx,<-hy]
   exact e
structure Acc (g:Gh) (r1 r:dX) (m:bR):Prop where
 role:r.role=0
 term:r.term=r1.term
 aQ:r.aQ=r1.aQ
 p1:m.index.toNat+m.aF.length<=r.log.length/\r.log.take (m.index.toNat+m.aF.length)=(g.LL r1.term).take (m.index.toNat+m.aF.length)
 p2:∀ p,p<=r1.log.length->p<=(g.LL r1.term).length->r1.log.take p=(g.LL r1.term).take p->p<=r.log.length/\r.log.take p=(g.LL r1.term).take p
 p3:∀ n,n<=r1.aE->n<=r1.log.length->n<=r.log.length/\r.log.take n=r1.log.take n
 p4:m.aF.length=0->r.log=r1.log
 aE:r.aE=max r1.aE (min m.aE.toNat (m.index.toNat+m.aF.length))
theorem aNf {C g g' A} (h:l9 C g A) {i} (hi:i<3) {r1 r} (u:a0A C i r1) (hw1:r1.Wf) {m} (hmem:m∈C.sent) (hk:m.kind=2) (hmt:m.term=r1.term) {send} (hsend:send=[qE r1 m]) (hr:Acc g r1 r m) (fm:zI C g i r send g') (oS:g'.LL=g.LL) (zJ:g'.ld=g.ld):yM C g A i r send g' (max (A r.term i) (m.index.toNat+m.aF.length)):=by
 obtain ⟨a1,a2,a3,a4⟩:=h.m.app m hmem hk
 rw [hmt] at a2 a3 a4
 have IV:∀ c:Nat,r.aQ=c->g.V r.term i=c:=λc hc=>by
  rw [hr.aQ] at hc
  rw [hr.term]
  rcases u.hv with ⟨a,b⟩|b
  .rw [a,h.m.now i hi,<-b];exact hc
  .omega
 have hro:=hr.role
 have hA:=h.a1 r1.term i
 have hle:A r.term i<=max (A r.term i) (m.index.toNat+m.aF.length):=by omega
 have rW:=hw1.ok.aE
 have hk3:∀ v∈send,v=qE r1 m:=λv hv=>by rw [hsend] at hv;exact List.mem_singleton.1 hv
 have hup:=u.up
 have hco:l8 g A r.term r.log r.aE:=by
  rw [hr.term,hr.aE]
  by_cases hc:min m.aE.toNat (m.index.toNat+m.aF.length)<=r1.aE
  .rw [Nat.max_eq_left hc]
   rcases u.co h hi with e|⟨t,p,q1,q2,q3,q4,q5⟩
   .exact .inl e
   .obtain ⟨z1,z2⟩:=hr.p3 r1.aE (Nat.le_refl _) rW
    exact .inr ⟨t,p,q1,q2,q3,z1,by rw [z2];exact q5⟩
  .rw [Nat.max_eq_right (by omega)]
   rcases h.ic m hmem hk with e|⟨t,p,q1,q2,q3,q4⟩
   .omega
   .rw [hmt] at q2 q4
    have q5:=q4.less (Nat.min_le_left m.aE.toNat (m.index.toNat+m.aF.length))
    obtain ⟨y1,y2⟩:=hr.p1
    refine .inr ⟨t,p,q1,q2,by omega,by omega,?_⟩
    rw [<-q5.2]
    have:=congrArg (List.take (min m.aE.toNat (m.index.toNat+m.aF.length))) y2
    rw [List.take_take,List.take_take,Nat.min_eq_left (by omega)] at this
    exact this
 refine ⟨fm,K6 oS,by rw [oS];exact h.VA,hle,by rw [oS,hr.term];omega,λh0=>by omega,λt p hp1 hp=>?_,λw hu eE=>absurd hu (by rw [<-zJ];exact eE),λt p _ hv hlt=>?_,λv hv hk0=>(by rw [hk3 v hv] at hk0;cases hk0),λh0=>by omega,λh0=>by omega,λh0=>by omega,
  λc _ _ _ _ hv hV=>absurd (IV c hv) hV,λc _ _ hv=>.inl (IV c hv),λh0=>by omega,λv hv _ _=>?_,λv hv hk0=>(by rw [hk3 v hv] at hk0;cases hk0),?_⟩
 .have keep:∀ {t p},gH g t p (C.nd i).rep.log->p<=(g.LL r1.term).length->(C.nd i).rep.log.take p=(g.LL r1.term).take p->gH g t p r.log:=λq hpl e=>by
   obtain ⟨z1,z2⟩:=hr.p2 _ (by rw [u.log];exact q.1) hpl (by rw [u.log];exact e)
   exact ⟨z1,by rw [z2,<-e];exact q.2⟩
  by_cases ht:t=r.term
  .subst ht
   rw [x9] at hp
   by_cases hp2:p<=m.index.toNat+m.aF.length
   .refine .inl ((uE oS).2 ?_)
    rw [hr.term]
    exact gH.less (p:=m.index.toNat+m.aF.length) hr.p1 hp2
   .have hp3:p<=A r.term i:=by omega
    rcases h.ia r.term i p hi hp1 hp3 with q|⟨w,q1,q2,_,_⟩
    .rw [hr.term] at q hp3 ⊢
     exact .inl ((uE oS).2 (keep q (by omega) q.2))
    .rw [hr.term] at q1;omega
  .rw [rP _ _ (λhc=>ht hc.1)] at hp
   have hta:=h.a2 t i hi (by omega)
   rw [hr.term] at ht ⊢
   rcases h.ia t i p hi hp1 hp with q|⟨w,q1,q2,q3,q4⟩
   .by_cases hM:gH g t p (g.LL r1.term)
    .exact .inl ((uE oS).2 (keep q hM.1 (q.2.trans hM.2.symm)))
    .by_cases hl:g.ld r1.term = -1
     .have h0:=h.m.none _ hl
      rw [h0] at a2
      have h1:m.aF.length=0:=by simp at a2;rw [a2.2];rfl
      rw [hr.p4 h1,u.log]
      exact .inl ((uE oS).2 q)
     .exact .inr ⟨r1.term,by omega,Int.le_refl _,by rw [zJ];exact hl,λhh=>hM (by rw [oS] at hh;exact (uE oS).1 hh)⟩
   .exact .inr ⟨w,q1,by omega,by rw [zJ];exact q3,λhh=>q4 (by rw [oS] at hh;exact (uE oS).1 hh)⟩
 .have:=hv.2.1
  rw [oS] at this
  omega
 .rw [hk3 v hv]
  refine ⟨by show (r1.id:Int)=i;rw [u.id],by rw [hr.term];rfl,?_⟩
  show (m.index+(m.aF.length:Int)).toNat<=_
  omega
 .exact (hco.aAw (λt=>⟨[],by rw [oS,List.append_nil]⟩) (RR hle) (Int.le_refl _))
theorem aIp {C g g' A} (h:l9 C g A) {i} (hi:i<3) {r1} (u:a0A C i r1) (hw1:r1.Wf) {m} (hmem:m∈C.sent) (hk:m.kind=2) (hmt:m.term<=r1.term) (fm:zI C g i (b8 r1 m).1 (b8 r1 m).2.send g') (oS:g'.LL=g.LL) (zJ:g'.ld=g.ld):∃ n,yM C g A i (b8 r1 m).1 (b8 r1 m).2.send g' n:=by
 have him:r1.role=2->∀ f,f<3->f≠i->r1.fZ f<=A r1.term f:=λhr f hf hfi=>by
  have e:=u.same (by omega)
  rw [e] at hr ⊢
  exact h.im i hi hr f hf hfi
 have rW:=hw1.ok.aE
 by_cases h1:m.term<r1.term
 .have e:b8 r1 m=(r1,mW [rI r1 3 m.src]):=by unfold b8;rw [if_pos h1]
  rw [e] at fm ⊢
  exact ⟨_,nZ h hi fm oS zJ u.log (u.one (by decide)) (u.one (by decide)) u.hv him (λv hv=>by rw [List.mem_singleton.1 hv];show (3:Int)≠0;decide) (λv hv _ hy=>by rw [List.mem_singleton.1 hv] at hy;cases hy) (λv hv hk2=>by rw [List.mem_singleton.1 hv] at hk2;cases hk2) (u.co h hi)⟩
 have hmt:m.term=r1.term:=by omega
 by_cases h2:r1.role=2
 .have e:b8 r1 m=(r1,kR):=by unfold b8;rw [if_neg h1,if_pos h2]
  rw [e] at fm ⊢
  exact ⟨_,nZ h hi fm oS zJ u.log (u.one (by decide)) (u.one (by decide)) u.hv him (λv hv=>by cases hv) (λv hv=>by cases hv) (λv hv=>by cases hv) (u.co h hi)⟩
 have no:∀ k:Int,k≠0->({ r1 with role:=0 }:dX).role=k->(C.nd i).rep.role=k/\({ r1 with role:=0 }:dX).term=(C.nd i).rep.term:=λk hk0 hr=>absurd hr.symm hk0
 by_cases h3:(decide ((r1.log.length:Int)<m.index)||decide (bG r1.log m.index.toNat≠m.prev))=true
 .have e:b8 r1 m=({ r1 with role:=0 },mW [⟨3,r1.id,m.src,r1.term,min (r1.log.length:Int) (m.index - 1),0,0,false,[]⟩]):=by unfold b8;rw [if_neg h1,if_neg h2];simp only;rw [if_pos h3]
  rw [e] at fm ⊢
  exact ⟨_,nZ h hi fm oS zJ u.log (no 1 (by decide)) (no 2 (by decide)) u.hv (λhr=>(by cases (show (0:Int)=2 from hr))) (λv hv=>by rw [List.mem_singleton.1 hv];show (3:Int)≠0;decide) (λv hv _ hy=>by rw [List.mem_singleton.1 hv] at hy;cases hy) (λv hv hk2=>by rw [List.mem_singleton.1 hv] at hk2;cases hk2) (u.co h hi)⟩
 have h3':=h3
 simp only [Bool.or_eq_true,decide_eq_true_eq,not_or] at h3'
 obtain ⟨h4,h5⟩:=h3'
 have h5:bG r1.log m.index.toNat=m.prev:=Decidable.of_not_not h5
 obtain ⟨a1,a2,a3,a4⟩:=h.m.app m hmem hk
 rw [hmt] at a2 a3 a4
 have hpl:qV g.LL r1.log:=by rw [u.log];exact h.m.log i hi
 have hpM:=h.m.ll r1.term
 have hix:m.index.toNat<=r1.log.length:=by omega
 have hag:=VP hpl hpM hix a2 a3 (by rw [h5];exact a4)
 have hkb:=ID (r1.log.drop m.index.toNat) m.aF
 have hka:m.index.toNat+agree (r1.log.drop m.index.toNat) m.aF<=r1.log.length:=by
  rcases Nat.eq_zero_or_pos (agree (r1.log.drop m.index.toNat) m.aF) with e|e
  .omega
  .obtain ⟨q,_⟩:=v7 (r1.log.drop m.index.toNat) m.aF (agree (r1.log.drop m.index.toNat) m.aF - 1) (by omega)
   rw [List.length_drop] at q
   omega
 by_cases h6:agree (r1.log.drop m.index.toNat) m.aF<m.aF.length
 .by_cases h7:m.index.toNat+agree (r1.log.drop m.index.toNat) m.aF+1<=r1.aE
  .have e:b8 r1 m=({ r1 with role:=0 },kR):=by unfold b8;rw [if_neg h1,if_neg h2];simp only;rw [if_neg h3,if_pos h6,if_pos h7]
   rw [e] at fm ⊢
   exact ⟨_,nZ h hi fm oS zJ u.log (no 1 (by decide)) (no 2 (by decide)) u.hv (λhr=>(by cases (show (0:Int)=2 from hr))) (λv hv=>by cases hv) (λv hv=>by cases hv) (λv hv=>by cases hv) (u.co h hi)⟩
  .have e1:(b8 r1 m).1={ r1 with role:=0,log:=r1.log.take (m.index.toNat+agree (r1.log.drop m.index.toNat) m.aF)++m.aF.drop (agree (r1.log.drop m.index.toNat) m.aF),aE:=max r1.aE (min m.aE.toNat (m.index.toNat+m.aF.length)) }:=by unfold b8;rw [if_neg h1,if_neg h2];simp only;rw [if_neg h3,if_pos h6,if_neg h7]
   have e2:(b8 r1 m).2.send=[qE r1 m]:=by unfold b8;rw [if_neg h1,if_neg h2];simp only;rw [if_neg h3,if_pos h6,if_neg h7]
   have hnew:=a3b hpl hpM hix a2 a3 (by rw [h5];exact a4) hkb
   rw [e1] at fm ⊢
   refine ⟨_,aNf h hi u hw1 hmem hk hmt e2 ⟨rfl,rfl,rfl,?_,λp hp1 hp2 hp3=>?_,λn hn1 hn2=>?_,λh0=>by omega,rfl⟩ fm oS zJ⟩
   .show m.index.toNat+m.aF.length<=(r1.log.take _++_).length/\(r1.log.take _++_).take _=_
    rw [hnew,List.length_take,List.take_take,Nat.min_self]
    exact ⟨by omega,rfl⟩
   .show p<=(r1.log.take _++_).length/\(r1.log.take _++_).take _=_
    have hpk:p<=m.index.toNat+agree (r1.log.drop m.index.toNat) m.aF:=Decidable.byContradiction λhn=>by
     have hq:m.index.toNat+agree (r1.log.drop m.index.toNat) m.aF<r1.log.length:=by omega
     obtain ⟨x,hx⟩:∃ x,r1.log[m.index.toNat+agree (r1.log.drop m.index.toNat) m.aF]? = some x:=⟨_,List.getElem?_eq_getElem hq⟩
     obtain ⟨y,hy⟩:∃ y,m.aF[agree (r1.log.drop m.index.toNat) m.aF]? = some y:=⟨_,List.getElem?_eq_getElem h6⟩
     have hne:=U8 _ _ h6 x y (by rw [List.getElem?_drop];exact hx) hy
     have hy2:(g.LL r1.term)[m.index.toNat+agree (r1.log.drop m.index.toNat) m.aF]? = some y:=by
      have h9:((List.drop m.index.toNat (g.LL r1.term)).take m.aF.length)[agree (r1.log.drop m.index.toNat) m.aF]? = some y:=by rw [<-a3];exact hy
      rw [List.getElem?_take_of_lt h6,List.getElem?_drop] at h9
      exact h9
     have:=congrArg (λl=>l[m.index.toNat+agree (r1.log.drop m.index.toNat) m.aF]?) hp3
     simp only [List.getElem?_take_of_lt (show m.index.toNat+agree (r1.log.drop m.index.toNat) m.aF<p by omega)] at this
     rw [hx,hy2] at this
     cases this
     exact hne rfl
    rw [hnew,List.length_take,List.take_take]
    exact ⟨by omega,by rw [Nat.min_eq_left (show p<=m.index.toNat+m.aF.length by omega)]⟩
   .show n<=(r1.log.take _++_).length/\(r1.log.take _++_).take _=_
    have hn3:n<=(r1.log.take (m.index.toNat+agree (r1.log.drop m.index.toNat) m.aF)).length:=by rw [List.length_take];omega
    rw [List.take_append_of_le_length hn3,List.take_take,Nat.min_eq_left (by omega),List.length_append]
    exact ⟨by omega,rfl⟩
 .have e1:(b8 r1 m).1={ r1 with role:=0,aE:=max r1.aE (min m.aE.toNat (m.index.toNat+m.aF.length)) }:=by unfold b8;rw [if_neg h1,if_neg h2];simp only;rw [if_neg h3,if_neg h6]
  have e2:(b8 r1 m).2.send=[qE r1 m]:=by unfold b8;rw [if_neg h1,if_neg h2];simp only;rw [if_neg h3,if_neg h6]
  have hkk:agree (r1.log.drop m.index.toNat) m.aF=m.aF.length:=by omega
  rw [hkk] at hag hka
  rw [e1] at fm ⊢
  exact ⟨_,aNf h hi u hw1 hmem hk hmt e2 ⟨rfl,rfl,rfl,⟨hka,hag⟩,λp hp1 hp2 hp3=>⟨hp1,hp3⟩,λn hn1 hn2=>⟨hn2,rfl⟩,λ_=>rfl,rfl⟩ fm oS zJ⟩
theorem aQh {C g A} (h:l9 C g A) {i} (hi:i<3) {m} (hmem:m∈C.sent):∃ g' n,yM C g A i (cX (C.nd i).rep m).1 (cX (C.nd i).rep m).2.send g' n:=by
 obtain ⟨hw,hid⟩:=h.m.wf.rep i hi
 obtain ⟨g',fm,hg⟩:=aQa h.m hi (h.m.yes m hmem) (h.m.app m hmem)
 rcases hg with ⟨oS,zJ⟩|⟨q1,q2,q3,q4,q5,q6,q7,q8,q9,q10,q11⟩
 .refine ⟨g',?_⟩
  cases hy:iT (C.nd i).rep.id m with
  | false =>
   rw [wW hy] at fm ⊢
   exact ⟨_,X5 h hi fm oS zJ (λv hv=>by cases hv) (λv hv=>by cases hv) (λv hv=>by cases hv)⟩
  | true =>
   have hm:=mH.1 hy
   obtain ⟨r1,IC⟩:∃ r1,(if (C.nd i).rep.term<m.term then upR (C.nd i).rep m else (C.nd i).rep)=r1:=⟨_,rfl⟩
   have e1:(cX (C.nd i).rep m).1=(dJ r1 m).1:=by rw [pF hy,IC,AH]
   have e2:(cX (C.nd i).rep m).2.send=(dJ r1 m).2.send:=by rw [pF hy,IC,a0r]
   rw [e1,e2] at fm ⊢
   have hw1:r1.Wf:=by
    rw [<-IC]
    split
    .exact aB9 hw hm (by assumption)
    .exact hw
   have hmt:m.term<=r1.term:=by
    rw [<-IC]
    split
    .exact Int.le_refl _
    .omega
   have u:a0A C i r1:=by
    rw [<-IC]
    split
    .rename_i hlt
     exact ⟨by show _<=m.term;omega,.inr rfl,rfl,λhr=>absurd rfl hr,rfl,hid⟩
    .exact ⟨Int.le_refl _,.inl ⟨rfl,rfl⟩,rfl,λ_=>rfl,rfl,hid⟩
   rw [hid] at hm
   by_cases hk0:m.kind=0
   .have e:dJ r1 m=dG r1 m:=by unfold dJ;rw [if_pos hk0]
    rw [e] at fm ⊢
    exact ⟨_,aQf h hi u hmem hm hk0 fm oS zJ⟩
   by_cases hk1:m.kind=1
   .have e:dJ r1 m=cU r1 m:=by unfold dJ;rw [if_neg hk0,if_pos hk1]
    rw [e] at fm ⊢
    exact ⟨_,aLO h hi u fm oS zJ⟩
   by_cases hk2:m.kind=2
   .have e:dJ r1 m=b8 r1 m:=by unfold dJ;rw [if_neg hk0,if_neg hk1,if_pos hk2]
    rw [e] at fm ⊢
    exact aIp h hi u hw1 hmem hk2 hmt fm oS zJ
   .have e:dJ r1 m=aW r1 m:=by unfold dJ;rw [if_neg hk0,if_neg hk1,if_neg hk2]
    rw [e] at fm ⊢
    have:=hm.kind
    exact ⟨_,aAA h hi u hmem hm (by omega) fm oS zJ⟩
 .exact ⟨g',_,aQd h hi fm q1 q2 q3 q4 q5 q6 q7 q8 q9 q10 q11⟩
structure Aft (g:Gh) (A:Int->Nat->Nat) (g':Gh) (A':Int->Nat->Nat):Prop where
 ext:Ext g.LL g'.LL
 ld:∀ u,g.ld u ≠ -1->g'.ld u=g.ld u
 a:∀ t j,A t j<=A' t j
theorem Aft.refl (g A):Aft g A g A:=⟨Ext.refl _,λ_ _=>rfl,λ_ _=>Nat.le_refl _⟩
theorem yM.aft {C g g' A i n r send} (f:yM C g A i r send g' n):Aft g A g' (EK A i r.term n) :=
 ⟨f.m.ext,λu hu=>by
  rcases f.m.ld u with e|⟨e,_⟩
  .exact e
  .exact absurd e hu,RR f.le⟩
abbrev gh0:Gh:=⟨λ_ _ => -1,λ_ => -1,λ_=>[]⟩
theorem aVT:l9 cl0 gh0 λ_ _=>0:=by
 have hv:∀ t p,¬ Valid gh0 t p:=λt p h=>by
  have h1:=h.1
  have h2:=h.2.1
  simp at h2
  omega
 exact ⟨aVP,λt=>⟨by simp,by simp,by simp,by simp⟩,λ_ _=>Nat.le_refl _,λt j _ h=>absurd h (Nat.lt_irrefl _),λi hi hr=>(by cases (show (0:Int)=2 from hr)),λt j p _ h1 h2=>absurd (Nat.le_trans h1 h2) (by decide),λt u p h=>absurd h (hv t p),λm hm=>(by cases hm),λc _ hr=>(by cases (show (0:Int)=1 from hr)),λc _ hr=>(by cases (show (0:Int)=1 from hr)),
  λt x c _ _ h=>absurd (show (-1:Int)=c from h) (by omega),λi hi hr=>(by cases (show (0:Int)=2 from hr)),λm hm=>(by cases hm),λm hm=>(by cases hm),λj hj=>.inl rfl⟩
theorem U9 {g t p n l} (h:gH g t p l) (hn:n<=p):l.take n=(g.LL t).take n:=(h.less hn).2
theorem l9.UA {C g A} (h:l9 C g A) {t u p} (hc:EJ g A t p) (htu:t<u) (hu:g.ld u ≠ -1):gH g t p (g.LL u):=by
 rcases h.ib t u p hc.1 htu hu with q|q
 .exact q
 .exact (hc.no q).elim
theorem l9.aIq {C g A} (h:l9 C g A) {s s' l l' n n'} (h1:l8 g A s l n) (h2:l8 g A s' l' n') (hn:n<=n'):l.take n=l'.take n:=by
 rcases h1 with e|⟨t,p,c1,_,k1,q1⟩
 .subst e;simp
 rcases h2 with e|⟨t',p',c2,_,k2,q2⟩
 .have:n=0:=by omega
  subst this;simp
 rw [q1.2,U9 q2 hn]
 rcases Int.lt_trichotomy t t' with e|e|e
 .exact (U9 (h.UA c1 e (h.led c2.1)) k1).symm
 .rw [e]
 .exact U9 (h.UA c2 e (h.led c1.1)) (by omega)
theorem l8.cut {g A s s' l n} (h:l8 g A s l n) (hs:s<=s'):l8 g A s' (l.take n) n:=by
 rcases h with e|⟨t,p,h1,h2,h3,h4,h5⟩
 .exact .inl e
 .exact .inr ⟨t,p,h1,by omega,h3,by rw [List.length_take];omega,by rw [List.take_take,Nat.min_self];exact h5⟩
end Go.Proofs.YtnlkemjhgdbfkaaGreatDoor
end

