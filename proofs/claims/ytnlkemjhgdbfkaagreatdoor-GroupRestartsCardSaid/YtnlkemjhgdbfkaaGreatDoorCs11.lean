/-
 What a member stores: walked.
-/
import Derived.Test.YtnlkemjhgdbfkaaGreatDoorCs10
open Go.Proofs.Tryz
set_option linter.unusedVariables false
set_option linter.unusedSimpArgs false
section
namespace Go.Proofs.YtnlkemjhgdbfkaaGreatDoor
open Go.Vc
abbrev b2q(o:mK)(p1:Option Addr)(c1:Nat)(p2:Option Addr)(c2:Nat):List Value:=[.bool o.save,.int .i64 o.term,.int .i64 o.aO,.int .i64 o.src,.slice p1 o.aF.length c1,.slice p2 o.send.length c2]
abbrev kO(k1:Nat)(oc:List Value):Own:=.blk k1 oc 146
abbrev kL(k:Nat)(p:Option Addr)(n c:Nat):Own:=.blk k [.slice p n c] 40
section
variable {W w:World}{S:List Own}{Φ:PW}
theorem aJo[aB Φ](hoff:∀ M w,Φ M w->sS M w)(hT:∀ M w,Φ M w->yT M w){k0 k1 gb mO cs oc q d x j n}(hcs:cs[mO+1]? = some (pA x.jb))(hoc:oc[3]? = some (.int .i64 n))(hn:aY (n - 1))(hq:pL q d)(hkp:JR Φ q d)(hsb:SB x.p x.cap j.list x.o)(hf:(aQ j.list).length<=1000000000)(cx:Ctx W w (kM k0 gb mO :: kO k1 oc :: kG gb cs :: (eJ x q j++(b8 q d++S))) Φ){K}(hk:∀ u p c o w',SB p c (iX d j (min (n - 1) (j.list.length:Int))).2.1.list o->pL (q.mv u) (iX d j (min (n - 1) (j.list.length:Int))).1->Ctx W w' (kM k0 gb mO :: kO k1 oc :: kG gb cs :: (eJ (x.mv p c o) q (iX d j (min (n - 1) (j.list.length:Int))).2.1++(b8 (q.mv u) (iX d j (min (n - 1) (j.list.length:Int))).1++S))) Φ->K (.returned (.int .i64 (iX d j (min (n - 1) (j.list.length:Int))).2.2)) w'):
  aD F.fL #[pA k0,pA k1] w K:=by
 have sA:∀ Y:List Own,List.Sublist [kM k0 gb mO,kO k1 oc,kG gb cs] ([kM k0 gb mO,kO k1 oc,kG gb cs]++Y):=λY=>List.sublist_append_left _ _;refine gC (zY k0 0 k1 0 (J:=K∘.returned) cx ⟨[kM k0 gb mO,kO k1 oc,kG gb cs],XN,aM,λw G cx=>cQ cx (sA _),some ⟨gb,mO,none⟩,λw G cx=>⟨_,cx.get 0 rfl rfl,rfl⟩,some ⟨gb,mO,none⟩,λw G cx=>⟨_,cx.get 0 rfl rfl,rfl⟩,aW gb mO rfl ⟨n,λw G cx=>⟨_,cx.get 1 rfl hoc,rfl⟩,aW gb mO rfl ⟨hn,some ⟨x.jb,0,none⟩,λw G cx=>⟨_,cx.get 2 rfl hcs,rfl⟩,some ⟨x.jb,0,none⟩,λw G cx=>⟨_,cx.get 2 rfl hcs,rfl⟩,λw G cx=>?_⟩⟩⟩)
 have c1:Ctx W w (eJ x q j++([kM k0 gb mO,kO k1 oc,kG gb cs]++((b8 q d++S)++G))) Φ:=JS (A:=[kM k0 gb mO,kO k1 oc,kG gb cs]) cx;refine aMJ c1 λw cx=>⟨_,rfl,[kM k0 gb mO,kO k1 oc,kG gb cs]++(eJ x q j++(b8 q d++S)),Φ,aM,uR cx,λw G cx=>cQ cx (sA _),λw G cx=>?_⟩;have c2:Ctx W w (eJ x q j++(b8 q d++([kM k0 gb mO,kO k1 oc,kG gb cs]++(S++G)))) Φ:=by
  have c3:Ctx W w (([kM k0 gb mO,kO k1 oc,kG gb cs]++((eJ x q j++b8 q d)++S))++G) Φ:=by rw [aX (eJ x q j)];exact cx
  rw [<-aX (eJ x q j)];exact JS c3
 refine aMH hq hkp hoff hT hsb hf c2 λu p c o w a8t hq1 cx=>⟨_,rfl,[kM k0 gb mO,kO k1 oc,kG gb cs]++(eJ (x.mv p c o) q (iX d j (min (n - 1) (j.list.length:Int))).2.1++(b8 (q.mv u) (iX d j (min (n - 1) (j.list.length:Int))).1++S)),Φ,aM,by
  rw [<-aX (eJ _ q _)] at cx ⊢;exact uR cx,λw G cx=>hk u p c o w a8t hq1 cx.left⟩
theorem aJp[aB Φ](hoff:∀ M w,Φ M w->sS M w)(hT:∀ M w,Φ M w->yT M w){k0 k gb mO cs q d x j lp lc l}(hcs:cs[mO+1]? = some (pA x.jb))(hq:pL q d)(hkp:JR Φ q d)(hsb:SB x.p x.cap j.list x.o)(mF:∀ M w,Φ M w->Sl M w lp l)(hf:(aQ l).length<=1000000000)(hb:j.bytes<=1000000000)(hn:j.list.length+l.length<100000000)(cx:Ctx W w (kM k0 gb mO :: kL k lp l.length lc :: kG gb cs :: (eJ x q j++(b8 q d++S))) Φ){K}(hk:∀ u p c o w',SB p c (dK d j l).2.1.list o->pL (q.mv u) (dK d j l).1->Ctx W w' (kM k0 gb mO :: kL k lp l.length lc :: kG gb cs :: (eJ (x.mv p c o) q (dK d j l).2.1++(b8 (q.mv u) (dK d j l).1++S))) Φ->K (.returned (.int .i64 (dK d j l).2.2)) w'):
  aD F.fM #[pA k0,pA k] w K:=by
 have sA:∀ Y:List Own,List.Sublist [kM k0 gb mO,kL k lp l.length lc,kG gb cs] ([kM k0 gb mO,kL k lp l.length lc,kG gb cs]++Y):=λY=>List.sublist_append_left _ _;refine gC (zZ k0 0 k 0 (J:=K∘.returned) cx ⟨[kM k0 gb mO,kL k lp l.length lc,kG gb cs],XN,aM,λw G cx=>cQ cx (sA _),some ⟨gb,mO,none⟩,λw G cx=>⟨_,cx.get 0 rfl rfl,rfl⟩,lp,l.length,lc,λw G cx=>⟨_,_,_,cx.get 1 rfl rfl,rfl⟩,aW gb mO rfl ⟨some ⟨x.jb,0,none⟩,λw G cx=>⟨_,cx.get 2 rfl hcs,rfl⟩,λw G cx=>?_⟩⟩)
 have c2:Ctx W w (eJ x q j++(b8 q d++([kM k0 gb mO,kL k lp l.length lc,kG gb cs]++(S++G)))) Φ:=by
  have c3:Ctx W w (([kM k0 gb mO,kL k lp l.length lc,kG gb cs]++((eJ x q j++b8 q d)++S))++G) Φ:=by rw [aX (eJ x q j)];exact cx
  rw [<-aX (eJ x q j)];exact JS c3
 refine aA2 hq hkp hoff hT hsb mF hf hb hn c2 λu p c o w a8t hq1 cx=>⟨_,rfl,[kM k0 gb mO,kL k lp l.length lc,kG gb cs]++(eJ (x.mv p c o) q (dK d j l).2.1++(b8 (q.mv u) (dK d j l).1++S)),Φ,aM,by
  rw [<-aX (eJ _ q _)] at cx ⊢;exact uR cx,λw G cx=>hk u p c o w a8t hq1 cx.left⟩
theorem aBi(d j n):((iX d j n).2.1.bytes=j.bytes\/(iX d j n).2.1.bytes<=(aQ j.list).length)/\(iX d j n).2.1.list.length<=j.list.length:=by
 unfold iX;split
 .exact ⟨.inl rfl,Nat.le_refl _⟩
 split
 .exact ⟨.inl rfl,Nat.le_refl _⟩
 split
 .exact ⟨.inl rfl,Nat.le_refl _⟩
 unfold DF;split
 .exact ⟨.inl rfl,Nat.le_refl _⟩
 .refine ⟨.inr (a03 _ _),?_⟩;show (j.list.take n.toNat).length<=_;rw [List.length_take];omega
structure aMV(u:XM)(o:mK):Prop where
 ints:(aY o.term/\aY o.aO)/\aY (o.src - 1)
 aF:∀ x∈o.aF,aY x.term/\x.data.size<=1000000
 aW0:o.aF.length<=100000
 aW1:(aQ (o.aF.map iK)).length<=1000000000
 aW2:(aQ u.j.list).length<=1000000000
 aQ1:u.j.bytes<=1000000000
 b2r:u.j.list.length<=1000000
theorem aOp(A J D S G)(C:Own):((A++(J++(D++(C :: S))))++G).Perm (C :: (D++((A++J)++(S++G)))):=by
 have e:(A++(J++(D++(C :: S))))++G=((A++J)++D)++(C :: (S++G)):=by simp only [aX,List.cons_append]
 rw [e];refine List.perm_middle.trans (.cons _ ?_);rw [aX (A++J)];exact List.perm_append_comm_assoc _ _ _
theorem aJq(a)(J D T:List Own):(a :: (J++(D++T))).Perm (J++(D++(a :: T))):=by
 have e:∀ X:List Own,J++(D++X)=(J++D)++X:=λX=>(aX _ _ _).symm;rw [e,e];exact List.perm_middle.symm
def wD(d:iM)(j:tG)(n:Int)(l:List ByteArray):iM × tG × Int :=
 if (iX d j (min (n - 1) (j.list.length:Int))).2.2≠0 then iX d j (min (n - 1) (j.list.length:Int)) else dK (iX d j (min (n - 1) (j.list.length:Int))).1 (iX d j (min (n - 1) (j.list.length:Int))).2.1 l
def b2s(d:iM)(q:DkP)(x:JoP)(j:tG)(n:Int)(l:List ByteArray)(k0 gb mO:Nat)(cs:List Value)(S:List Own)(Φ:PW)(r:Int)(R:List Own)(aU:PW):Prop :=
 aU=Φ/\r=(wD d j n l).2.2/\∃ (Bx:List Own) (v:DkU) (p:Option Addr) (c:Nat) (o:Own),SB p c (wD d j n l).2.1.list o/\pL (q.mv v) (wD d j n l).1/\(wD d j n l).1.keep=d.keep /\
  R=Bx++(kM k0 gb mO :: kG gb cs :: (eJ (x.mv p c o) q (wD d j n l).2.1++(b8 (q.mv v) (wD d j n l).1++S)))
theorem aQ2[aB Φ](hoff:∀ M w,Φ M w->sS M w)(hT:∀ M w,Φ M w->yT M w){k0 k1 k gb mO cs oc q d x j n lp lc l}(hcs:cs[mO+1]? = some (pA x.jb))(hoc:oc[3]? = some (.int .i64 n))(hn:aY (n - 1))(hq:pL q d)(hkp:JR Φ q d)(hsb:SB x.p x.cap j.list x.o)(hf:(aQ j.list).length<=1000000000)(hb:j.bytes<=1000000000)(hjl:j.list.length<=1000000)(mF:∀ M w,Φ M w->Sl M w lp l)(hlf:(aQ l).length<=1000000000)(hll:l.length<=1000000):
  a0X W (b2s d q x j n l k0 gb mO cs S Φ) [(F.fL,#[pA k0,pA k1]),(F.fM,#[pA k0,pA k])] (kL k lp l.length lc :: kO k1 oc :: kM k0 gb mO :: kG gb cs :: (eJ x q j++(b8 q d++S))) Φ:=by
 obtain ⟨hb1,hl1⟩:=aBi d j (min (n - 1) (j.list.length:Int));refine ⟨by kernel_rfl,λw G cx=>?_⟩;have p1:∀ (J D:List Own),((kL k lp l.length lc :: kO k1 oc :: kM k0 gb mO :: kG gb cs :: (J++(D++S)))++G).Perm (kM k0 gb mO :: kO k1 oc :: kG gb cs :: (J++(D++(kL k lp l.length lc :: (S++G))))):=λJ D=>by
  have e:(kL k lp l.length lc :: kO k1 oc :: kM k0 gb mO :: kG gb cs :: (J++(D++S)))++G=kL k lp l.length lc :: kO k1 oc :: kM k0 gb mO :: kG gb cs :: (J++(D++(S++G))):=by simp only [aX,List.cons_append]
  rw [e];refine ((List.perm_append_comm_assoc [kL k lp l.length lc] [kO k1 oc,kM k0 gb mO,kG gb cs] _).trans ?_);refine ((aJq (kL k lp l.length lc) J D (S++G)).append_left [kO k1 oc,kM k0 gb mO,kG gb cs]).trans ?_;exact .swap _ _ _
 refine aJo hoff hT hcs hoc hn hq hkp hsb hf (cx.perm (p1 _ _)) λv p c o w a8t hq1 cx=>?_;have a00:=aEX d j (min (n - 1) (j.list.length:Int));obtain ⟨⟨d1,j1,e1⟩,hx⟩:∃ y,iX d j (min (n - 1) (j.list.length:Int))=y:=⟨_,rfl⟩;rw [hx] at a8t hq1 cx a00 hb1 hl1;simp only at a8t hq1 cx a00 hb1 hl1;refine ⟨e1,by rw [hx],kL k lp l.length lc :: kO k1 oc :: kM k0 gb mO :: kG gb cs :: (eJ (x.mv p c o) q j1++(b8 (q.mv v) d1++S)),Φ,aM,cx.perm (p1 _ _).symm,λhne=>?_,λhe=>?_⟩
 .have eb:wD d j n l=(d1,j1,e1):=by unfold wD;rw [hx,if_pos hne]
  refine ⟨rfl,by rw [eb],[kL k lp l.length lc,kO k1 oc],v,p,c,o,by rw [eb];exact a8t,by rw [eb];exact hq1,by rw [eb];exact a00,by rw [eb];rfl⟩
 have eb:wD d j n l=dK d1 j1 l:=by unfold wD;rw [hx,if_neg (by simp [he])]
 refine ⟨by kernel_rfl,λw G cx=>?_⟩;have p2:∀ (J D:List Own),((kL k lp l.length lc :: kO k1 oc :: kM k0 gb mO :: kG gb cs :: (J++(D++S)))++G).Perm (kM k0 gb mO :: kL k lp l.length lc :: kG gb cs :: (J++(D++(kO k1 oc :: (S++G))))):=λJ D=>by
  have e:(kL k lp l.length lc :: kO k1 oc :: kM k0 gb mO :: kG gb cs :: (J++(D++S)))++G=kL k lp l.length lc :: kO k1 oc :: kM k0 gb mO :: kG gb cs :: (J++(D++(S++G))):=by simp only [aX,List.cons_append]
  rw [e];refine (List.Perm.swap _ _ _).trans ((List.perm_append_comm_assoc [kO k1 oc] [kL k lp l.length lc,kM k0 gb mO,kG gb cs] _).trans ?_);refine ((aJq (kO k1 oc) J D (S++G)).append_left [kL k lp l.length lc,kM k0 gb mO,kG gb cs]).trans ?_;exact .swap _ _ _
 refine aJp (x:=x.mv p c o) hoff hT hcs hq1 (hkp.of a00 v) a8t mF hlf (by omega) (by omega) (cx.perm (p2 _ _)) λv2 p3 c3 o3 w aQ3 rN cx=>?_;have aQ4:=a5u d1 j1 l;rw [<-eb] at aQ3 rN cx aQ4 ⊢;exact ⟨_,rfl,kL k lp l.length lc :: kO k1 oc :: kM k0 gb mO :: kG gb cs :: (eJ (x.mv p3 c3 o3) q (wD d j n l).2.1++(b8 (q.mv v2) (wD d j n l).1++S)),Φ,aM,Ctx.perm cx (p2 _ _).symm,λ_=>⟨rfl,rfl,[kL k lp l.length lc,kO k1 oc],v2,p3,c3,o3,aQ3,rN,aQ4.trans a00,rfl⟩,λh0=>⟨rfl,h0.symm,[kL k lp l.length lc,kO k1 oc],v2,p3,c3,o3,aQ3,rN,aQ4.trans a00,rfl⟩⟩
theorem aBj(d u o):(nK d u o).1.keep=d.keep:=by
 unfold nK;split
 .exact a3M _ _ _
 .rfl
theorem aJr(d u o)(h:0<o.src):pZ d u o=wD d u.j o.src (o.aF.map iK):=by unfold pZ;rw [if_pos h];rfl
theorem aQ5{x}:bs (wW x)=iK x:=rfl
abbrev aQ6(gb:Nat)(cs:List Value)(q:DkP)(v:DkU)(x:JoP)(cb:Nat)(d:iM)(j:tG)(c:JC)(S:List Own):List Own:=kG gb cs :: (eJ x q j++(b8 (q.mv v) d++(eX cb q c :: S)))
theorem aFe[aB Φ](hoff:∀ M w,Φ M w->sS M w)(hT:∀ M w,Φ M w->yT M w){gb mO cb cs q d x u o p1 p2 c1 c2}(hm:mO+4<=cs.length)(hs1:cs[mO+1]? = some (pA x.jb))(hs2:cs[mO+2]? = some (pA cb))(hq:pL q d)(hkp:JR Φ q d)(hsb:SB x.p x.cap u.j.list x.o)(hb:aMV u o)(mF:∀ M w,Φ M w->Sl M w p1 o.aF)(cx:Ctx W w (kG gb cs :: (eJ x q u.j++(b8 q d++(eX cb q u.c :: S)))) Φ){K}(hk:∀ v p c oo w',SB p c (bW d u o).2.1.j.list oo->pL (q.mv v) (bW d u o).1->(bW d u o).1.keep=d.keep->Ctx W w' (aQ6 gb (if (bW d u o).2.2=0 then cs else FJ cs mO) q v (x.mv p c oo) cb (bW d u o).1 (bW d u o).2.1.j (bW d u o).2.1.c S) Φ->K (.returned (.int .i64 (bW d u o).2.2)) w'):
  aD F.mG #[.pointer (some ⟨gb,mO,none⟩),XK o p1 c1 p2 c2] w K:=by
 have hth:a3h p1 o.aF.length:=(mF _ _ cx.uX).there;have b7w:=gE hb.ints.1.1;have b7x:=gE hb.ints.1.2;have hkeep:=aBj d u o;refine gC (D4 gb mO o.save o.term o.aO o.src p1 o.aF.length c1 p2 o.send.length c2 (J:=K∘.returned) cx λk0 k1=>?_);obtain ⟨oc,hoc⟩:∃ oc,b2q o p1 c1 p2 c2=oc:=⟨_,rfl⟩;have VU:oc[3]? = some (.int .i64 o.src):=by rw [<-hoc];rfl
 have ho4:oc[4]? = some (.slice p1 o.aF.length c1):=by rw [<-hoc];rfl
 have ho0:oc[0]? = some (.bool o.save):=by rw [<-hoc];rfl
 have sY:oc[1]? = some (.int .i64 o.term):=by rw [<-hoc];rfl
 have H8:oc[2]? = some (.int .i64 o.aO):=by rw [<-hoc];rfl
 have eK:∀ R:List Own,Own.blk k1 [.bool o.save,.int .i64 o.term,.int .i64 o.aO,.int .i64 o.src,.slice p1 o.aF.length c1,.slice p2 o.send.length c2] 146 :: Own.blk k0 [.pointer (some ⟨gb,mO,none⟩)] 139 :: R=kO k1 oc :: kM k0 gb mO :: R:=λR=>by rw [<-hoc]
 rw [eK];have sA:∀ Y:List Own,List.Sublist [kO k1 oc,kM k0 gb mO,kG gb cs] ([kO k1 oc,kM k0 gb mO,kG gb cs]++Y):=λY=>List.sublist_append_left _ _;obtain ⟨⟨d1,cc,e1⟩,ha⟩:∃ a,nK d u o=a:=⟨_,rfl⟩;rw [ha] at hkeep;simp only at hkeep;refine dN (λn R' aU=>n=e1/\aU=Φ/\∃ v:DkU,pL (q.mv v) d1/\R'=kO k1 oc :: kM k0 gb mO :: kG gb cs :: (eJ x q u.j++(b8 (q.mv v) d1++(eX cb q cc :: S)))) ⟨λw G cx=>⟨o.save,cx.get 0 rfl ho0,Br.intro (λhsv=>?_) (λhsv=>?_)⟩,?_⟩
 ·-- the hard state is stored
  refine ⟨[kO k1 oc,kM k0 gb mO,kG gb cs],XN,aM,λw G cx=>cQ cx (sA _),some ⟨gb,mO,none⟩,λw G cx=>⟨_,cx.get 1 rfl rfl,rfl⟩,aW gb mO rfl ⟨o.term,λw G cx=>⟨_,cx.get 0 rfl sY,rfl⟩,o.aO,λw G cx=>⟨_,cx.get 0 rfl H8,rfl⟩,some ⟨cb,0,none⟩,λw G cx=>⟨_,cx.get 2 rfl hs2,rfl⟩,λw G cx=>?_⟩⟩;refine (OJ (Φ:=Φ) (.inl ⟨hT,hb.ints.1.1⟩)).use cx λw cx=>⟨_,rfl,_,Φ,aM,cx,λw G cx=>cQ cx (sA _),λw G cx=>(OJ (Φ:=Φ) (.inl ⟨hT,hb.ints.1.2⟩)).use cx λw cx=>⟨_,rfl,_,Φ,aM,cx,λw G cx=>cQ cx (sA _),by show (pH o.term).size+(pH o.aO).size<=_;omega,λw G cx=>?_⟩⟩
  have eh:pH o.term++pH o.aO=bs (DH o.term o.aO):=by
   apply ByteArray.ext;apply Array.toList_inj.1;simp [DH,bs]
  rw [eh];have es:uN d u.c (DH o.term o.aO)=(d1,cc,e1):=by rw [<-ha];unfold nK;rw [if_pos hsv]
  refine a8j (S:=([kO k1 oc,kM k0 gb mO,kG gb cs]++eJ x q u.j)++(S++G)) hq hkp hoff (cx.perm (aOp [kO k1 oc,kM k0 gb mO,kG gb cs] (eJ x q u.j) (b8 q d) S G (eX cb q u.c))) λv w hq1 cx=>?_;rw [es] at hq1 cx ⊢;simp only at hq1 cx ⊢;refine ⟨e1,rfl,kO k1 oc :: kM k0 gb mO :: kG gb cs :: (eJ x q u.j++(b8 (q.mv v) d1++(eX cb q cc :: S))),Φ,aM,cx.perm (aOp [kO k1 oc,kM k0 gb mO,kG gb cs] (eJ x q u.j) (b8 (q.mv v) d1) S G (eX cb q cc)).symm,_,Φ,aM,λw G cx=>cx,rfl,rfl,v,hq1,rfl⟩
 .have es:(d,u.c,(0:Int))=(d1,cc,e1):=by rw [<-ha];unfold nK;rw [if_neg (by rw [hsv];simp)]
  injection es with fV SH;injection SH with SH es3;subst fV SH es3;exact ⟨_,Φ,aM,λw G cx=>cx,rfl,rfl,q.un,hq,rfl⟩
 .rintro n R' aU hst ⟨rfl,rfl,v,hq1,rfl⟩ w G cx;have aQR:JR aU (q.mv v) d1:=hkp.of hkeep v;have A8:∀ r:iM × XM × Int,bW d u o=r->r.2.1.c=cc/\True:=λr hr=>by
   refine ⟨?_,trivial⟩;rw [<-hr];unfold bW;rw [ha];simp only;split<;>rfl
  refine ⟨o.src,λ_=>cx.get 0 rfl VU,Br.intro (λhsr=>λk w G cx=>⟨_,_,_,cx.get 1 rfl ho4,?_⟩) (λhsr=>?_)⟩
  rotate_left 1
  ·-- nothing for the journal,or a failure
   refine Br.intro (λhne=>λw G cx=>⟨_,cx.get 1 rfl rfl,λw G cx=>?_⟩) (λhe=>λw G cx=>?_)
   .have hne:n≠0:=eR hne;have er:bW d u o=(d1,{ u with c:=cc },n):=by unfold bW;rw [ha];simp only;rw [if_pos hne]
    rw [er] at hk;refine a0Y hm (S:=kO k1 oc :: kM k0 gb mO :: (eJ x q u.j++(b8 (q.mv v) d1++(eX cb q cc :: S)))++G) (cx.perm (List.perm_append_comm_assoc [kO k1 oc,kM k0 gb mO] [kG gb cs] _)) λw cx=>⟨rfl,aQ6 gb (FJ cs mO) q v x cb d1 u.j cc S,aU,aM,cx.sub (by
     show List.Sublist (kG gb (FJ cs mO) :: ((eJ x q u.j++(b8 (q.mv v) d1++(eX cb q cc :: S)))++G)) (kG gb (FJ cs mO) :: kO k1 oc :: kM k0 gb mO :: ((eJ x q u.j++(b8 (q.mv v) d1++(eX cb q cc :: S)))++G));exact .cons_cons _ (((List.Sublist.refl _).cons _).cons _)),λw G cx=>?_⟩
    have:=hk v x.p x.cap x.o w hsb hq1 hkeep;rw [if_neg hne] at this;exact this cx.left
   .have he:n=0:=by simpa using dD he
    subst he;have hsr:¬ 0<o.src:=by simpa using hsr
    have er:bW d u o=(d1,{ u with c:=cc },0):=by
     unfold bW;rw [ha];simp only;rw [if_neg (by simp)];unfold pZ;rw [if_neg hsr]
    rw [er] at hk;have:=hk v x.p x.cap x.o w hsb hq1 hkeep;rw [if_pos rfl] at this;exact this (cx.left.sub (((List.Sublist.refl _).cons _).cons _))
  .have hs0:n=0/\0<o.src:=by simpa using hsr
   clear hsr;obtain ⟨rfl,hs0⟩:=hs0;have er:bW d u o=((wD d1 u.j o.src (o.aF.map iK)).1,{ u with c:=cc,j:=(wD d1 u.j o.src (o.aF.map iK)).2.1 },(wD d1 u.j o.src (o.aF.map iK)).2.2):=by
    unfold bW;rw [ha];simp only;rw [if_neg (by simp),aJr _ _ _ hs0]
   rw [er] at hk;simp only at hk;obtain ⟨B,hB⟩:∃ B,B=kO k1 oc :: kM k0 gb mO :: kG gb cs :: (eJ x q u.j++(b8 (q.mv v) d1++(eX cb q cc :: S))):=⟨_,rfl⟩;rw [<-hB];refine dN (λnI R' Ψ κ=>∃ (i:Nat) (p:Option Addr) (c:Nat),nI=i/\i<=o.aF.length/\κ=o.aF.length - i/\Ψ=aU/\R'=kL k p i c :: .buf p i c (dS ((o.aF.take i).map iK)) 9 1 :: B) ⟨⟨_,_,_,hst,λw G cx=>((cx.aDE 9 1).perm (.swap _ _ _)),0,none,0,rfl,Nat.zero_le _,rfl,rfl,rfl⟩,?_⟩
   rintro nI R1 Ψ κ _ ⟨i,p,c,rfl,hi,rfl,rfl,rfl⟩;refine Br.intro (λhlt=>?_) (λhge=>λk3 w G cx=>?_)
   .have hlt:i<o.aF.length:=by have:=eR hlt;omega
    obtain ⟨g,og,rfl⟩:=hth (by omega);have hx:=hb.aF _ (List.getElem_mem hlt);refine ⟨⟨by omega,by omega⟩,aW g og rfl λw G cx=>⟨o.aF[i].term,o.aF[i].data,by rw [Int.toNat_natCast];exact OC (mF _ _ cx.uX) hlt,λ_=>⟨[kL k p i c],XN,aM,λw G cx=>cQ cx (by simp),p,i,c,λw G cx=>⟨_,_,_,cx.get 0 rfl rfl,rfl⟩,λw G cx=>?_⟩⟩⟩;have sk:∀ (a:Own) (Y:List Own),List.Sublist [a] (a :: Y):=λa Y=>.cons_cons _ (List.nil_sublist _)
    refine (WI (Φ:=Ψ) hT hx.1 (by omega)).use cx λw cx=>⟨_,rfl,_,Ψ,aM,cx,λw G cx=>cQ cx (sk _ _),λk4=>⟨λw G cx=>cQ cx (.cons _ (sk _ _)),λw G cx=>?_⟩⟩;have hlen:(dS ((o.aF.take i).map iK)).length=i*1:=by rw [List.length_map,List.length_map,List.length_take];omega
    have hrl:=hb.aW0;obtain ⟨p',c',w',hr,_,CD⟩:=(cx.perm (show (Own.blk k4 [Value.string (bs (wW o.aF[i]))] 9 :: (kL k p i c :: .buf p i c (dS ((o.aF.take i).map iK)) 9 1 :: B)++G).Perm (Own.blk k4 [Value.string (bs (wW o.aF[i]))] 9 :: .buf p i c (dS ((o.aF.take i).map iK)) 9 1 :: (kL k p i c :: B++G)) from .cons _ (.swap _ _ _))).a2i (ts:=40) (ty:=40) (kb:=#[false,false]) (bytes:=16) (P:=prog) (by kernel_rfl) (by omega) rfl rfl (by omega) (by omega)
    have et:dS ((o.aF.take i).map iK)++[Value.string (bs (wW o.aF[i]))]=dS ((o.aF.take (i+1)).map iK):=by
     rw [List.take_succ_eq_append_getElem hlt,List.map_append];simp only [dS,List.map_append,List.map_cons,List.map_nil];rfl
    rw [et] at CD;refine ⟨_,_,_,w',hr,.buf p' (i+1) c' (dS ((o.aF.take (i+1)).map iK)) 9 1 :: kL k p i c :: B,Ψ,aM,CD,λw G cx=>⟨cx.can 1 rfl (by show 0+1<=1;omega),λw' hw'=>⟨.buf p' (i+1) c' (dS ((o.aF.take (i+1)).map iK)) 9 1 :: kL k p' (i+1) c' :: B,Ψ,aM,cx.put 1 hw' rfl,by unfold aY;omega,kL k p' (i+1) c' :: .buf p' (i+1) c' (dS ((o.aF.take (i+1)).map iK)) 9 1 :: B,Ψ,_,aM,λw G cx=>cx.perm (.swap _ _ _),⟨i+1,p',c',by omega,by omega,rfl,rfl,rfl⟩,by omega⟩⟩⟩
   .have he:i=o.aF.length:=by have:=dD hge;omega
    subst he;rw [List.take_length] at cx;have hml:o.aF.length=(o.aF.map iK).length:=by rw [List.length_map]
    have c5:Ctx W w (.buf p o.aF.length c (dS (o.aF.map iK)) 9 1 :: (.blk k3 (aA7 [(F.fL,#[pA k0,pA k1]),(F.fM,#[pA k0,pA k])]) 258 :: kL k p o.aF.length c :: B++G)) Ψ:=cx.perm ((List.perm_append_comm_assoc [_,kL k p o.aF.length c] [.buf p o.aF.length c (dS (o.aF.map iK)) 9 1] (B++G)));obtain ⟨c6,hs,_⟩:=Ctx.freeze (α:=ByteArray) c5 (z6 λy hy=>by
     obtain ⟨z,hz,rfl⟩:=List.mem_map.1 hy;have:=hb.aF z hz;have h9:=a0T this.1 (by omega);rw [<-aQ5,bL];unfold maxLen;omega)
    obtain ⟨Ξ,hΞ⟩:∃ Ξ:PW,Ξ=λM w=>Ψ M w/\Sl M w p (o.aF.map iK):=⟨_,rfl⟩
    haveI:aB Ξ:=by rw [hΞ];infer_instance
    have hw1:∀ M w,Ξ M w->Ψ M w:=by rw [hΞ];exact λM w h=>h.1
    have zI:∀ M w,Ξ M w->Sl M w p (o.aF.map iK):=by rw [hΞ];exact λM w h=>h.2
    have c7:Ctx W w (.blk k3 (aA7 [(F.fL,#[pA k0,pA k1]),(F.fM,#[pA k0,pA k])]) 258 :: (kL k p (o.aF.map iK).length c :: kO k1 oc :: kM k0 gb mO :: kG gb cs :: (eJ x q u.j++(b8 (q.mv v) d1++((eX cb q cc :: S)++G))))) Ξ:=by
     have c8:=c6.add (Ψ:=λM w=>Sl M w p (o.aF.map iK)) hs;rw [<-hΞ,hB] at c8;rw [<-hml];have e9:(kO k1 oc :: kM k0 gb mO :: kG gb cs :: (eJ x q u.j++(b8 (q.mv v) d1++(eX cb q cc :: S))))++G=kO k1 oc :: kM k0 gb mO :: kG gb cs :: (eJ x q u.j++(b8 (q.mv v) d1++((eX cb q cc :: S)++G))):=by simp only [aX,List.cons_append]
     rw [<-e9];exact c8
    refine a3S (fs:=[(F.fL,#[pA k0,pA k1]),(F.fM,#[pA k0,pA k])]) (by show 2<=1000;omega) c7 (aQ2 (λM w h=>hoff M w (hw1 M w h)) (λM w h=>hT M w (hw1 M w h)) hs1 VU hb.ints.2 hq1 (aQR.weak hw1) hsb hb.aW2 hb.aQ1 hb.b2r zI hb.aW1 (by rw [List.length_map];have:=hb.aW0;omega)) λn S' BD w TP hJ cx=>?_;obtain ⟨rfl,rfl,Bx,v2,p3,c3,o3,g1,g2,g3,rfl⟩:=hJ;obtain ⟨⟨d2,j2,e2⟩,hy⟩:∃ y,wD d1 u.j o.src (o.aF.map iK)=y:=⟨_,rfl⟩
    rw [hy] at hk g1 g2 g3 cx ⊢;simp only at hk g1 g2 g3 cx ⊢;have c9:Ctx W w ((kM k0 gb mO :: kG gb cs :: (eJ (x.mv p3 c3 o3) q j2++(b8 (q.mv v2) d2++(eX cb q cc :: S))))++G) Ψ:=by
     have c10:=(cx.sub (List.sublist_append_right Bx _)).weak hw1;have e9:(kM k0 gb mO :: kG gb cs :: (eJ (x.mv p3 c3 o3) q j2++(b8 (q.mv v2) d2++(eX cb q cc :: S))))++G=kM k0 gb mO :: kG gb cs :: (eJ (x.mv p3 c3 o3) q j2++(b8 (q.mv v2) d2++((eX cb q cc :: S)++G))):=by simp only [aX,List.cons_append]
     rw [e9];exact c10
    refine ⟨e2,rfl,_,Ψ,aM,c9,Br.intro (λhne=>λw G cx=>⟨_,cx.get 0 rfl rfl,λw G cx=>?_⟩) (λhe=>λw G cx=>?_)⟩
    .have hne:e2≠0:=eR hne;refine a0Y hm (S:=(kM k0 gb mO :: (eJ (x.mv p3 c3 o3) q j2++(b8 (q.mv v2) d2++(eX cb q cc :: S))))++G) (cx.perm (.swap _ _ _)) λw cx=>⟨rfl,aQ6 gb (FJ cs mO) q v2 (x.mv p3 c3 o3) cb d2 j2 cc S,Ψ,aM,cx.sub (by
      show List.Sublist (kG gb (FJ cs mO) :: ((eJ (x.mv p3 c3 o3) q j2++(b8 (q.mv v2) d2++(eX cb q cc :: S)))++G)) (kG gb (FJ cs mO) :: kM k0 gb mO :: ((eJ (x.mv p3 c3 o3) q j2++(b8 (q.mv v2) d2++(eX cb q cc :: S)))++G));exact .cons_cons _ ((List.Sublist.refl _).cons _)),λw G cx=>?_⟩
     have:=hk v2 p3 c3 o3 w g1 g2 (g3.trans hkeep);rw [if_neg hne] at this;exact this cx.left
    .have he:e2=0:=by simpa using dD he
     have:=hk v2 p3 c3 o3 w g1 g2 (g3.trans hkeep);rw [if_pos he] at this;exact this (cx.left.sub ((List.Sublist.refl _).cons _))
end
theorem aMW{M w b o cs}{l:List bQ}(h:Pin b o cs l M w){j}(hj:j<l.length):∃ p c,cs.getD j []=l[j].cells p c/\l[j].aF.length<=c/\c<=maxLen/\l[j].Ok:=by
 obtain ⟨_,h1,h2⟩:=h j hj;obtain ⟨p,c,e,g1,g2,g3,_⟩:=a3k h2;exact ⟨p,c,e,g1,g2,g3⟩
theorem aFf{M w b o cs}{l:List bQ}(h:Pin b o cs l M w){j}(hj:j<l.length){p c}(e:cs.getD j []=l[j].cells p c):Sl M w p l[j].aF:=by
 have:=(h j hj).2.2;rw [e] at this;exact aQx this
theorem aFg{M w b o cs}{l:List bQ}(h:Pin b o cs l M w){j}(hj:j<l.length){p c}(e:cs.getD j []=l[j].cells p c):bM w b (o+j*9) (l[j].cells p c):=by
 have:=(h j hj).2.1;rw [e] at this;exact this
theorem aDd{W w S}{Φ:PW}[aB Φ]{b r p c}(cx:Ctx W w (aS b r p c++S) Φ)(hok:∀ x∈r.log,x.Ok)(hlen:r.log.length<=4000){K}(hK:∀ q cap w',r.log.length<=cap->cap<=maxLen->Ctx W w' (aS b r p c++S) (λM w=>Φ M w/\Sl M w q r.log)->K (.returned (.slice q r.log.length cap)) w'):
  aD F.kV #[.pointer (some ⟨b,0,none⟩)] w K:=by
 refine gC (BI b 0 (J:=K∘.returned) cx ?_);refine λw G cx=>⟨p,r.log.length,c,cx.get 0 rfl rfl,λw G cx=>?_⟩;have jZ:Ctx W w (S++G) (Go.Vc.j8 W (aS b r p c) Φ):=Ctx.aside (cx.re (aX _ _ _));refine yS jZ (λM w h=>aAz h (n:=r.log.length) (c:=c) (by simp) hok) (by omega) λq cap w cx=>?_;obtain ⟨_,a3l,hcap2⟩:=cx.tT 0 rfl;have CD:Ctx W w (.buf q r.log.length cap (aZ r.log) 216 2 :: (aS b r p c++(S++G))) Φ:=cx.AX.perm List.perm_middle
 obtain ⟨Y0,hs,_⟩:=Ctx.freeze (α:=bT) CD (uF hok);have hst:aB (λM w=>Φ M w/\Sl M w q r.log):=cE Φ (λM w=>Sl M w q r.log);exact ⟨q,_,cap,rfl,aS b r p c++S,λM w=>Φ M w/\Sl M w q r.log,hst,gr (Y0.add hs),λw G cx=>hK q cap w a3l hcap2 cx.left⟩
theorem aQ7{w b r p c}(h:a0r w b r p c):aD F.gZ #[.pointer (some ⟨b,0,none⟩)] w λe w'=>e=.returned (.int .i64 r.role)/\w'=w :=
 (A6 b 0 w (λu w'=>u=.int .i64 r.role/\w'=w) ⟨r.role,h.at 4 rfl,rfl,rfl⟩).mono λe w' ⟨v,h1,h2,h3⟩=>⟨by rw [h1,h2],h3⟩
theorem a8u{w b r p c}(h:a0r w b r p c):aD F.dW #[.pointer (some ⟨b,0,none⟩)] w λe w'=>e=.returned (.int .i64 r.aE)/\w'=w :=
 (xL b 0 w (λu w'=>u=.int .i64 r.aE/\w'=w) ⟨r.aE,h.at 5 rfl,rfl,rfl⟩).mono λe w' ⟨v,h1,h2,h3⟩=>⟨by rw [h1,h2],h3⟩
theorem aBk{W w S}{Φ:PW}[aB Φ]{b r p c}(cx:Ctx W w (aS b r p c++S) Φ){K}(hK:∀ w',Ctx W w' (aS b r p c++S) Φ->K (.returned (.int .i64 r.aE)) w'):
  aD F.dW #[.pointer (some ⟨b,0,none⟩)] w K :=
 (a8u (EN cx)).mono λe w' ⟨h1,h2⟩=>by subst h2;rw [h1];exact hK _ cx
theorem aJs{W w S}{Φ:PW}[aB Φ]{b r p c}(cx:Ctx W w (aS b r p c++S) Φ){K}(hK:∀ w',Ctx W w' (aS b r p c++S) Φ->K (.returned (.agg #[.int .i64 r.term,.int .i64 r.aO])) w'):
  aD F.nW #[.pointer (some ⟨b,0,none⟩)] w K:=by
 refine gC (zK b 0 (J:=K∘.returned) cx ?_);exact λ_ w G cx=>⟨r.term,r.aO,cx.row 0 rfl (AW (vs:=[.int .i64 r.term,.int .i64 r.aO]) rfl),λw G cx=>hK w cx.left⟩
structure SL where
 q:DkP
 x:JoP
 cb:Nat
 rb:Nat
 rp:Option Addr
 rc:Nat
def oA(u:Bool)(b:Nat):Option Addr:=if u=true then some ⟨b,0,none⟩ else none
abbrev F0(P:SL)(u:Bool):List Value:=[.pointer (some ⟨P.q.db,0,none⟩),.pointer (oA u P.x.jb),.pointer (oA u P.cb),.pointer (oA u P.rb)]
def upO(P:SL)(d:iM)(u:XM):List Own:=aS P.rb u.r P.rp P.rc++(eJ P.x P.q u.j++(b8 P.q d++[eX P.cb P.q u.c]))
def iL(P:SL)(m:OR):List Own:=match m.up with
 | none=>b8 P.q m.d
 | some u=>upO P m.d u
structure P0(Φ:PW)(P:SL)(m:OR):Prop where
 dq:pL P.q m.d
 dk:JR Φ P.q m.d
 sb:∀ u,m.up=some u->SB P.x.p P.x.cap u.j.list P.x.o
structure GX where
 gb:Nat
 N:aI7
 cp:Option Addr
 cc:Nat
 P:Nat->SL
abbrev grT(L:GX)(fE:List ByteArray):List Value:=[.pointer (some ⟨L.N.nb,0,none⟩),.slice L.cp fE.length L.cc]
def lS(L:GX)(G:gG):List Value:=F0 (L.P 0) (G.mem 0).up.isSome++(F0 (L.P 1) (G.mem 1).up.isSome++(F0 (L.P 2) (G.mem 2).up.isSome++grT L G.fE))
abbrev V1(L:GX)(fE:List ByteArray):Own:=.buf L.cp fE.length L.cc (dS fE) 9 1
def JU(L:GX)(G:gG):List Own:=iL (L.P 0) (G.mem 0)++(iL (L.P 1) (G.mem 1)++iL (L.P 2) (G.mem 2))
def cR(L:GX)(G:gG):List Own:=kG L.gb (lS L G) :: (fX L.N G.dL++(V1 L G.fE :: JU L G))
def aBl(L:GX)(G:gG)(i:Nat):List Own:=if i=0 then iL (L.P 1) (G.mem 1)++iL (L.P 2) (G.mem 2) else if i=1 then iL (L.P 0) (G.mem 0)++iL (L.P 2) (G.mem 2) else iL (L.P 0) (G.mem 0)++iL (L.P 1) (G.mem 1)
def AA(L:GX)(G:gG)(i:Nat):List Own:=fX L.N G.dL++(V1 L G.fE :: aBl L G i)
structure mA(Φ:PW)(L:GX)(G:gG):Prop where
 mem:∀ i,i<3->P0 Φ (L.P i) (G.mem i)
 V2:G.dL.aH.length<=500
section
variable {L:GX}{G:gG}{i:Nat}
theorem a3V(L G)(hi:i<3):(JU L G).Perm (iL (L.P i) (G.mem i)++aBl L G i):=by
 unfold JU aBl
 match i,hi with
 | 0,_=>exact .refl _
 | 1,_=>exact List.perm_append_comm_assoc _ _ _
 | 2,_ =>
  rw [if_neg (by decide),if_neg (by decide),<-aX];exact List.perm_append_comm
theorem SM(L G)(hi:i<3)(F):(cR L G++F).Perm (kG L.gb (lS L G) :: (iL (L.P i) (G.mem i)++(AA L G i++F))):=by
 unfold cR AA;rw [List.cons_append];refine .cons _ ?_;rw [<-aX (iL _ _)];refine List.Perm.append_right F ?_;refine (((a3V L G hi).cons _).append_left _).trans ?_;refine ((List.perm_middle (a:=V1 L G.fE) (l₁:=iL (L.P i) (G.mem i)) (l₂:=aBl L G i)).symm.append_left _).trans ?_;exact List.perm_append_comm_assoc _ _ _
theorem aBm(L G):(lS L G).length=14:=rfl
theorem B5(L G)(hi:i<3){k}(hk:k<4):(lS L G)[i*4+k]? = (F0 (L.P i) (G.mem i).up.isSome)[k]? := by
 match i,hi,k,hk with
 | 0,_,0,_=>rfl
 | 0,_,1,_=>rfl
 | 0,_,2,_=>rfl
 | 0,_,3,_=>rfl
 | 1,_,0,_=>rfl
 | 1,_,1,_=>rfl
 | 1,_,2,_=>rfl
 | 1,_,3,_=>rfl
 | 2,_,0,_=>rfl
 | 2,_,1,_=>rfl
 | 2,_,2,_=>rfl
 | 2,_,3,_=>rfl
def fU(L:GX)(i:Nat)(P:SL):GX:={ L with P:=put L.P i P }
theorem aMX(P m)(hi:i<3):AA (fU L i P) (bZ G i m) i=AA L G i:=by
 unfold AA aBl
 match i,hi with
 | 0,_=>rfl
 | 1,_=>rfl
 | 2,_=>rfl
theorem a8v{P d}(hP:P.q.db=(L.P i).q.db)(hi:i<3):FJ (lS L G) (i*4)=lS (fU L i P) (bZ G i ⟨d,none⟩):=by
 have e:lS (fU L i P) (bZ G i ⟨d,none⟩)=lS (fU L i { P with q:={ P.q with db:=(L.P i).q.db } }) (bZ G i ⟨d,none⟩):=by rw [<-hP]
 rw [e]
 match i,hi with
 | 0,_=>rfl
 | 1,_=>rfl
 | 2,_=>rfl
theorem aQ8{P d u}(hP:P.q.db=(L.P i).q.db)(hi:i<3):up3 (lS L G) (i*4) P.x.jb P.cb P.rb=lS (fU L i P) (bZ G i ⟨d,some u⟩):=by
 have e:lS (fU L i P) (bZ G i ⟨d,some u⟩)=lS (fU L i { P with q:={ P.q with db:=(L.P i).q.db } }) (bZ G i ⟨d,some u⟩):=by rw [<-hP]
 rw [e]
 match i,hi with
 | 0,_=>rfl
 | 1,_=>rfl
 | 2,_=>rfl
theorem JV{P m}(hP:P.q.db=(L.P i).q.db)(hj:P.x.jb=(L.P i).x.jb)(hc:P.cb=(L.P i).cb)(hr:P.rb=(L.P i).rb)(hu:m.up.isSome=(G.mem i).up.isSome)(hi:i<3):lS L G=lS (fU L i P) (bZ G i m):=by
 have key:F0 P m.up.isSome=F0 (L.P i) (G.mem i).up.isSome:=by rw [hu];simp only [F0];rw [hP,hj,hc,hr]
 have e:∀ j,F0 ((fU L i P).P j) ((bZ G i m).mem j).up.isSome=F0 (L.P j) (G.mem j).up.isSome:=λj=>by
  by_cases hij:j=i
  .subst hij;show F0 (put L.P j P j) ((put G.mem j m j)).up.isSome=_;rw [cI,cI];exact key
  .show F0 (put L.P i P j) ((put G.mem i m j)).up.isSome=_;rw [fR _ _ hij,fR _ _ hij]
 unfold lS;rw [e,e,e];rfl
theorem Y7(P m)(hi:i<3)(F):(kG L.gb (lS (fU L i P) (bZ G i m)) :: (iL P m++(AA L G i++F))).Perm (cR (fU L i P) (bZ G i m)++F):=by
 have h:=SM (fU L i P) (bZ G i m) hi F;rw [aMX P m hi] at h;have e1:(fU L i P).P i=P:=cI _ _ _;have e2:(bZ G i m).mem i=m:=cI _ _ _;rw [e1,e2] at h;exact h.symm
theorem mA.put{Φ}(h:mA Φ L G){P m}(hm:P0 Φ P m):mA Φ (fU L i P) (bZ G i m):=⟨λj hj=>by
 by_cases e:j=i
 .subst e;have e1:(fU L j P).P j=P:=cI _ _ _;have e2:(bZ G j m).mem j=m:=cI _ _ _;rw [e1,e2];exact hm
 .have e1:(fU L i P).P j=L.P j:=fR _ _ e;have e2:(bZ G i m).mem j=G.mem j:=fR _ _ e;rw [e1,e2];exact h.mem j hj,h.V2⟩
theorem P0.weak{Φ Ψ P m}(h:P0 Φ P m)(e:∀ M w,Ψ M w->Φ M w):P0 Ψ P m:=⟨h.dq,h.dk.weak e,h.sb⟩
theorem mA.weak{Φ Ψ}(h:mA Φ L G)(e:∀ M w,Ψ M w->Φ M w):mA Ψ L G:=⟨λi hi=>(h.mem i hi).weak e,h.V2⟩
end
def AB(L:GX)(cp:Option Addr)(cc:Nat):GX:={ L with cp:=cp,cc:=cc }
def V3(G:gG)(l:List ByteArray):gG:={ G with fE:=l }
section
variable {L:GX}{G:gG}{i:Nat}
abbrev M7(L:GX)(G:gG)(i:Nat)(u:XM)(F:List Own):List Own:=kG L.gb (lS L G) :: ((eJ (L.P i).x (L.P i).q u.j++(b8 (L.P i).q (G.mem i).d++[eX (L.P i).cb (L.P i).q u.c]))++(AA L G i++F))
theorem F2(hi:i<3){u}(hu:(G.mem i).up=some u)(F):(cR L G++F).Perm (aS (L.P i).rb u.r (L.P i).rp (L.P i).rc++M7 L G i u F):=by
 refine (SM L G hi F).trans ?_;have e:iL (L.P i) (G.mem i)=aS (L.P i).rb u.r (L.P i).rp (L.P i).rc++(eJ (L.P i).x (L.P i).q u.j++(b8 (L.P i).q (G.mem i).d++[eX (L.P i).cb (L.P i).q u.c])):=by unfold iL;rw [hu];rfl
 rw [e,aX];exact List.perm_middle.symm
abbrev a5z(L:GX)(G:gG)(F:List Own):List Own:=kG L.gb (lS L G) :: (fX L.N G.dL++(JU L G++F))
theorem aJt(L G F):(cR L G++F).Perm (V1 L G.fE :: a5z L G F):=by
 have e:cR L G++F=(kG L.gb (lS L G) :: fX L.N G.dL)++(V1 L G.fE :: (JU L G++F)):=by
  unfold cR;simp only [aX,List.cons_append]
 rw [e];exact List.perm_middle
def F3(G:gG):Nat->gG
 | 0=>G
 | i+1=>gL (F3 G i) i
theorem a3W(G):∀ i,(F3 G i).mem=G.mem/\(F3 G i).dL=G.dL
 | 0=>⟨rfl,rfl⟩
 | i+1=>by
  have h:=a3W G i;unfold F3 gL;split
  .exact h
  .split<;>exact h
theorem aJu(L G S F):a5z L G S++F=a5z L G (S++F):=by simp only [a5z,List.cons_append,aX]
abbrev aQ9(L:GX)(G:gG)(i:Nat)(u:XM)(F:List Own):List Own:=(kG L.gb (lS L G) :: fX L.N G.dL)++(((eJ (L.P i).x (L.P i).q u.j++(b8 (L.P i).q (G.mem i).d++[eX (L.P i).cb (L.P i).q u.c]))++aBl L G i)++F)
theorem aMY(hi:i<3){u}(hu:(G.mem i).up=some u)(F):(a5z L G F).Perm (aS (L.P i).rb u.r (L.P i).rp (L.P i).rc++aQ9 L G i u F):=by
 have e:iL (L.P i) (G.mem i)=aS (L.P i).rb u.r (L.P i).rp (L.P i).rc++(eJ (L.P i).x (L.P i).q u.j++(b8 (L.P i).q (G.mem i).d++[eX (L.P i).cb (L.P i).q u.c])):=by unfold iL;rw [hu];rfl
 have h:=(a3V L G hi).append_right F;rw [e,aX,aX] at h;have h2:=h.append_left (kG L.gb (lS L G) :: fX L.N G.dL);refine List.Perm.trans h2 ?_;rw [<-aX (eJ (L.P i).x (L.P i).q u.j++_) (aBl L G i) F];exact List.perm_append_comm_assoc _ _ _
abbrev kX(k:Nat)(vs:List Value):Own:=.blk k vs 132
theorem aJv{w0 rb r p c}(h:a0r w0 rb r p c){w}(e:∃ k,w=w0.drewN k):aD F.dW #[.pointer (some ⟨rb,0,none⟩)] w λe w'=>e=.returned (.int .i64 r.aE)/\∃ k,w'=w0.drewN k:=by
 obtain ⟨k,rfl⟩:=e;exact (a8u (h.drew k)).mono λe w' ⟨h1,h2⟩=>⟨h1,k,h2⟩
theorem V4{W w S}{Φ:PW}[aB Φ](hw:∀ i,i<3->∀ u,(G.mem i).up=some u->u.r.Ok)(cx:Ctx W w (cR L G++S) Φ){K}(hk:∀ cp cc w',Ctx W w' (cR (AB L cp cc) (eM G)++S) Φ->K (.returned (.tuple #[])) w'):aD F.lE #[.pointer (some ⟨L.gb,0,none⟩)] w K:=by
 refine gC (GG L.gb 0 (J:=K∘.returned) cx λw G1 cx=>?_);refine ⟨some ⟨(L.P 0).q.db,0,none⟩,oA (G.mem 0).up.isSome (L.P 0).x.jb,oA (G.mem 0).up.isSome (L.P 0).cb,oA (G.mem 0).up.isSome (L.P 0).rb,some ⟨(L.P 1).q.db,0,none⟩,oA (G.mem 1).up.isSome (L.P 1).x.jb,oA (G.mem 1).up.isSome (L.P 1).cb,oA (G.mem 1).up.isSome (L.P 1).rb,some ⟨(L.P 2).q.db,0,none⟩,oA (G.mem 2).up.isSome (L.P 2).x.jb,oA (G.mem 2).up.isSome (L.P 2).cb,oA (G.mem 2).up.isSome (L.P 2).rb,?_,?_⟩
 .exact cx.row 0 rfl (AW (cs:=lS L G) (vs:=[.pointer (some ⟨(L.P 0).q.db,0,none⟩),.pointer (oA (G.mem 0).up.isSome (L.P 0).x.jb),.pointer (oA (G.mem 0).up.isSome (L.P 0).cb),.pointer (oA (G.mem 0).up.isSome (L.P 0).rb),.pointer (some ⟨(L.P 1).q.db,0,none⟩),.pointer (oA (G.mem 1).up.isSome (L.P 1).x.jb),.pointer (oA (G.mem 1).up.isSome (L.P 1).cb),.pointer (oA (G.mem 1).up.isSome (L.P 1).rb),.pointer (some ⟨(L.P 2).q.db,0,none⟩),.pointer (oA (G.mem 2).up.isSome (L.P 2).x.jb),.pointer (oA (G.mem 2).up.isSome (L.P 2).cb),.pointer (oA (G.mem 2).up.isSome (L.P 2).rb)]) rfl)
 clear cx;refine dN (λnI R' Ψ κ=>∃ (i:Nat) (cp:Option Addr) (cc:Nat),nI=i/\i<=3/\κ=3 - i/\Ψ=Φ/\R'=cR (AB L cp cc) (F3 G i)++S) ⟨⟨_,Φ,_,aM,λw G cx=>cx,0,L.cp,L.cc,rfl,Nat.zero_le _,rfl,rfl,rfl⟩,?_⟩;rintro nI R' Ψ κ _ ⟨i,cp,cc,rfl,hi,rfl,rfl,rfl⟩;refine Br.intro (λhlt=>⟨by have:=eR hlt;omega,λk w F cx=>?_⟩) (λhge=>λw F cx=>?_)
 rotate_left 1
 .have he:i=3:=by have:=dD hge;omega
  subst he;exact hk cp cc w cx.left
 have hi:i<3:=by have:=eR hlt;omega
 obtain ⟨L1,M6⟩:∃ L1,AB L cp cc=L1:=⟨_,rfl⟩;obtain ⟨G1,hG1⟩:∃ G1,F3 G i=G1:=⟨_,rfl⟩;have hmem:G1.mem=G.mem:=by rw [<-hG1];exact (a3W G i).1
 have hLP:L1.P=L.P:=by rw [<-M6];rfl
 have hgb:L1.gb=L.gb:=by rw [<-M6];rfl
 have aJw:F3 G (i+1)=gL G1 i:=by rw [<-hG1];rfl
 have key:List.take 4 (List.drop (0+((i:Nat):Int).toNat*4) [Value.pointer (some ⟨(L.P 0).q.db,0,none⟩),.pointer (oA (G.mem 0).up.isSome (L.P 0).x.jb),.pointer (oA (G.mem 0).up.isSome (L.P 0).cb),.pointer (oA (G.mem 0).up.isSome (L.P 0).rb),.pointer (some ⟨(L.P 1).q.db,0,none⟩),.pointer (oA (G.mem 1).up.isSome (L.P 1).x.jb),.pointer (oA (G.mem 1).up.isSome (L.P 1).cb),.pointer (oA (G.mem 1).up.isSome (L.P 1).rb),.pointer (some ⟨(L.P 2).q.db,0,none⟩),.pointer (oA (G.mem 2).up.isSome (L.P 2).x.jb),.pointer (oA (G.mem 2).up.isSome (L.P 2).cb),.pointer (oA (G.mem 2).up.isSome (L.P 2).rb)])=F0 (L1.P i) (G1.mem i).up.isSome:=by
  rw [hmem,hLP]
  match i,hi with
  | 0,_=>rfl
  | 1,_=>rfl
  | 2,_=>rfl
 have hb:∀ (P:SL) (u:Bool),((F0 P u).length.beq 4&&(F0 P u).all nM)=true:=λ_ _=>rfl;rw [M6,hG1] at cx;rw [key,hb];refine ⟨cx.can 0 rfl (by show 0+4<=4;omega),λw' hw'=>⟨kX k (F0 (L1.P i) (G1.mem i).up.isSome) :: (cR L1 G1++S),Ψ,aM,cx.FL 0 hw' rfl,λw F cx=>?_⟩⟩;have next:∀ {Q:List Own},aY ((i:Int)+1):=fun {_}=>by unfold aY;omega
 cases hu:(G1.mem i).up with
 | none =>
  have e1:gL G1 i=G1:=by unfold gL;rw [hu]
  rw [hu] at cx;refine ⟨none,cx.get 0 rfl rfl,none,λh=>(by cases h),0,λh=>(by cases h),none,0,0,λh=>(by cases h),Br.intro (λ_=>⟨by unfold aY;omega,cR L1 G1++S,Ψ,3 - (i+1),aM,λw G cx=>(Ctx.drop1 cx),⟨i+1,cp,cc,by omega,by omega,rfl,rfl,by rw [M6,aJw,e1]⟩,by omega⟩) (λh=>by cases h)⟩
 | some u =>
  have hok:u.r.Ok:=hw i hi u (by rw [<-hmem];exact hu);have tC:=hok.aE;have hlen:=hok.len;have ZA:∀ x∈u.r.log,x.Ok:=hok.aF;rw [hu] at cx;have hrb:oA (some u).isSome (L1.P i).rb=some ⟨(L1.P i).rb,0,none⟩:=rfl;have pr:∀ (vs:List Value) (F:List Own),((kX k vs :: (cR L1 G1++S))++F).Perm (aS (L1.P i).rb u.r (L1.P i).rp (L1.P i).rc++(kX k vs :: M7 L1 G1 i u (S++F))):=λvs F=>by
   rw [List.cons_append,aX];exact ((F2 hi hu (S++F)).cons _).trans List.perm_middle.symm
  have hh:=EN (cx.perm (pr _ F));have e13:(lS L1 G1)[13]? = some (.slice L1.cp G1.fE.length L1.cc):=rfl;refine ⟨_,cx.get 0 rfl rfl,_,λ_=>cx.get 0 rfl rfl,u.r.aE,λ_ w h=>aJv hh h,_,_,_,λ_=>by rw [<-hgb];exact cx.get 1 rfl e13,Br.intro (λh=>?_) (λh=>λw F cx=>?_)⟩
  .have h:(u.r.aE:Int)<=G1.fE.length:=by
    have h:(false||decide ((u.r.aE:Int)<=(G1.fE.length:Int)))=true:=h;simpa using h
   have e1:gL G1 i=G1:=by unfold gL;rw [hu];simp only;rw [if_neg (by omega)]
   exact ⟨by unfold aY;omega,cR L1 G1++S,Ψ,3 - (i+1),aM,λw G cx=>(Ctx.drop1 cx),⟨i+1,cp,cc,by omega,by omega,rfl,rfl,by rw [M6,aJw,e1]⟩,by omega⟩
  .have h:¬ (u.r.aE:Int)<=G1.fE.length:=by
    have h:(false||decide ((u.r.aE:Int)<=(G1.fE.length:Int)))=false:=h;simpa using h
   have e1:gL G1 i=V3 G1 ((u.r.log.take u.r.aE).map bT.data):=by unfold gL;rw [hu];simp only;rw [if_pos (by omega)];rfl
   obtain ⟨vs,hvs⟩:∃ vs,vs=F0 (L1.P i) (some u).isSome:=⟨_,rfl⟩;have hv3:vs[3]? = some (.pointer (some ⟨(L1.P i).rb,0,none⟩)):=by rw [hvs];rfl
   rw [<-hvs] at cx;have c1:Ctx W w (kX k vs :: a5z L1 G1 (S++F)) Ψ:=by
    have c2:=cx.perm (show ((kX k vs :: (cR L1 G1++S))++F).Perm (V1 L1 G1.fE :: (kX k vs :: a5z L1 G1 (S++F))) from by
     rw [List.cons_append,aX];exact ((aJt L1 G1 (S++F)).cons _).trans (.swap _ _ _))
    exact Ctx.drop1 c2
   obtain ⟨Z,hZ⟩:∃ Z:Option Addr->Nat->List ByteArray->List Own->List Own,Z=λcp cc l F=>a5z (AB L1 cp cc) (V3 G1 l) F:=⟨_,rfl⟩;have zA:∀ cp cc l S F,Z cp cc l S++F=Z cp cc l (S++F):=λcp cc l S F=>by rw [hZ];exact aJu _ _ _ _
   have zR:∀ cp cc l F,(Z cp cc l F).Perm (aS (L1.P i).rb u.r (L1.P i).rp (L1.P i).rc++aQ9 (AB L1 cp cc) (V3 G1 l) i u F):=λcp cc l F=>by rw [hZ];exact aMY (L:=AB L1 cp cc) (G:=V3 G1 l) hi hu F
   have zW:∀ {w w':World} {cp cc l SN SO l2 F} {Ξ:PW} [aB Ξ],Ctx W w (kX k vs :: Z cp cc l F) Ξ->w'=w.setCell (Addr.mk L.gb (0+13) none) (.slice SN (List.length l2) SO)->Ctx W w' (kX k vs :: Z SN SO l2 F) Ξ:=fun {w w' cp cc l SN SO l2 F Ξ} _ c e=>by
    rw [hZ] at c ⊢;rw [<-hgb] at e;exact c.put 1 e rfl
   have zC:∀ {w:World} {cp cc l F} {Ξ:PW},Ctx W w (kX k vs :: Z cp cc l F) Ξ->aG w L.gb (0+13) 1:=fun {w cp cc l F Ξ} c=>by
    rw [hZ] at c;rw [<-hgb];exact c.can 1 rfl (by show 0+13+1<=14;omega)
   have c1:Ctx W w (kX k vs :: Z L1.cp L1.cc G1.fE (S++F)) Ψ:=by rw [hZ];exact c1
   have hk0:∀ Y:List Own,List.Sublist [kX k vs] (kX k vs :: Y):=λY=>.cons_cons _ (List.nil_sublist _);refine ⟨zC c1,λw' hw'=>⟨kX k vs :: Z none 0 [] S,Ψ,aM,by
    rw [List.cons_append,zA];exact zW c1 hw',[kX k vs],XN,aM,λw G cx=>cQ cx (hk0 _),some ⟨(L1.P i).rb,0,none⟩,λw G cx=>⟨_,cx.get 0 rfl hv3,rfl⟩,some ⟨(L1.P i).rb,0,none⟩,λw G cx=>⟨_,cx.get 0 rfl hv3,rfl⟩,λw F cx=>?_⟩⟩
   have pz:∀ F,((kX k vs :: Z none 0 [] S)++F).Perm (aS (L1.P i).rb u.r (L1.P i).rp (L1.P i).rc++(kX k vs :: aQ9 (AB L1 none 0) (V3 G1 []) i u (S++F))):=λF=>by
    rw [List.cons_append,zA];exact ((zR none 0 [] (S++F)).cons _).trans List.perm_middle.symm
   refine aDd (cx.perm (pz F)) ZA hlen λq cap w a3l hcap2 cx=>?_;obtain ⟨Ξ,hΞ⟩:∃ Ξ:PW,Ξ=λM w=>Ψ M w/\Sl M w q u.r.log:=⟨_,rfl⟩
   haveI:aB Ξ:=by rw [hΞ];infer_instance
   have hw1:∀ M w,Ξ M w->Ψ M w:=by rw [hΞ];exact λM w h=>h.1
   have zI:∀ M w,Ξ M w->Sl M w q u.r.log:=by rw [hΞ];exact λM w h=>h.2
   rw [<-hΞ] at cx;have hth:a3h q u.r.log.length:=(zI _ _ cx.uX).there;refine ⟨q,u.r.log.length,cap,rfl,kX k vs :: Z none 0 [] S,Ξ,aM,cx.perm (pz F).symm,λw G cx=>cQ cx (hk0 _),λw F cx=>aBk (cx.perm (pz F)) λw cx=>⟨u.r.aE,rfl,kX k vs :: Z none 0 [] S,Ξ,aM,cx.perm (pz F).symm,λw G cx=>cQ cx (hk0 _),by omega,?_⟩⟩;obtain ⟨D,hD⟩:∃ D:Nat->List ByteArray,D=λj=>(u.r.log.take j).map bT.data:=⟨_,rfl⟩;have hDl:∀ j,j<=u.r.aE->(D j).length=j:=λj hj=>by rw [hD];show ((u.r.log.take j).map bT.data).length=j;rw [List.length_map,List.length_take];omega
   have hD0:D 0=[]:=by rw [hD];rfl
   refine dN (λnI R' Ψ2 κ=>∃ (j:Nat) (cp:Option Addr) (cc:Nat),nI=j/\j<=u.r.aE/\κ=u.r.aE - j/\Ψ2=Ξ/\R'=kX k vs :: .buf cp j cc (dS (D j)) 9 1 :: Z cp cc (D j) S) ⟨⟨_,Ξ,_,aM,λw G cx=>(cx.aDE 9 1).perm (.swap _ _ _),0,none,0,rfl,Nat.zero_le _,rfl,rfl,by rw [hD0]⟩,?_⟩;rintro nI R2 Ψ2 κ2 _ ⟨j,SN,SO,rfl,hj,rfl,rfl,rfl⟩;rw [Int.toNat_natCast];refine Br.intro (λhlt=>?_) (λhge=>?_)
   .have hlt:j<u.r.aE:=by have:=eR hlt;omega
    have hll:j<u.r.log.length:=by omega
    obtain ⟨g,og,rfl⟩:=hth (by omega);have es:dA (some (⟨g,og,none⟩:Addr)) 2 0 cap=some ⟨g,og,none⟩:=by
     unfold dA;split
     .rfl
     .rw [Option.map_some,Nat.zero_mul];rfl
    rw [es];refine ⟨by omega,aW g og rfl λw F cx=>⟨u.r.log[j].term,u.r.log[j].data,by rw [Int.toNat_natCast];exact OC (zI _ _ cx.uX) hll,λ_=>?_⟩⟩;have zS:∀ (cp:Option Addr) (cc:Nat) (l:List ByteArray) (Y:List Own),∃ T,Z cp cc l Y=kG L1.gb (lS (AB L1 cp cc) (V3 G1 l)) :: T:=λcp cc l Y=>by rw [hZ];exact ⟨_,rfl⟩
    obtain ⟨T,hT⟩:=zS SN SO (D j) S;have e13:∀ cp cc l,(lS (AB L1 cp cc) (V3 G1 l))[13]? = some (.slice cp l.length cc):=λ_ _ _=>rfl;have sG:∀ A:List Own,List.Sublist [kG L1.gb (lS (AB L1 SN SO) (V3 G1 (D j)))] (A++Z SN SO (D j) S):=λA=>by
     rw [hT];exact (List.Sublist.cons_cons _ (List.nil_sublist _)).trans (List.sublist_append_right A _)
    refine ⟨[kG L1.gb (lS (AB L1 SN SO) (V3 G1 (D j)))],XN,aM,λw G cx=>cQ cx (sG [_,_]),SN,j,SO,λw G cx=>⟨_,_,_,by
     rw [<-hgb];have:=cx.get 0 rfl (e13 SN SO (D j));rw [hDl j hj] at this;exact this,rfl⟩,λk5=>⟨λw G cx=>cQ cx (sG [_,_,_]),λw F cx=>?_⟩⟩
    obtain ⟨p',c',w',hr,_,CD⟩:=(cx.perm (show (Own.blk k5 [Value.string u.r.log[j].data] 9 :: (kX k vs :: .buf SN j SO (dS (D j)) 9 1 :: Z SN SO (D j) S)++F).Perm (Own.blk k5 [Value.string u.r.log[j].data] 9 :: .buf SN j SO (dS (D j)) 9 1 :: (kX k vs :: Z SN SO (D j) S++F)) from .cons _ (.swap _ _ _))).a2i (ts:=40) (ty:=40) (kb:=#[false,false]) (bytes:=16) (P:=prog) (by kernel_rfl) (by omega) rfl rfl (by omega) (by omega)
    have ed:D j++[u.r.log[j].data]=D (j+1):=by
     rw [hD];show (u.r.log.take j).map bT.data++[u.r.log[j].data]=(u.r.log.take (j+1)).map bT.data;rw [List.take_succ_eq_append_getElem hll,List.map_append];rfl
    have et:dS (D j)++[Value.string u.r.log[j].data]=dS (D (j+1)):=by
     rw [<-ed];simp only [dS,List.map_append,List.map_cons,List.map_nil]
    rw [et] at CD;refine ⟨_,_,_,w',hr,.buf p' (j+1) c' (dS (D (j+1))) 9 1 :: kX k vs :: Z SN SO (D j) S,Ψ2,aM,CD,λw G cx=>cQ cx (sG [_,_]),λw F cx=>?_⟩;have c3:Ctx W w (kX k vs :: Z SN SO (D j) (S++F++[.buf p' (j+1) c' (dS (D (j+1))) 9 1])) Ψ2:=cx.perm (by
     show (Own.buf p' (j+1) c' (dS (D (j+1))) 9 1 :: kX k vs :: (Z SN SO (D j) S++F)).Perm _;rw [zA,<-zA SN SO (D j) (S++F)];exact (List.perm_append_comm (l₁:=[Own.buf p' (j+1) c' (dS (D (j+1))) 9 1]) (l₂:=kX k vs :: Z SN SO (D j) (S++F))))
    refine ⟨zC c3,λw' hw'=>⟨kX k vs :: .buf p' (j+1) c' (dS (D (j+1))) 9 1 :: Z p' c' (D (j+1)) S,Ψ2,aM,?_,by unfold aY;omega,_,Ψ2,_,aM,λw G cx=>cx,⟨j+1,p',c',by omega,by omega,rfl,rfl,rfl⟩,by omega⟩⟩;have hd1:=hDl (j+1) (by omega);have hw3:w'=w.setCell (Addr.mk L.gb (0+13) none) (.slice p' (D (j+1)).length c'):=by rw [hd1];exact hw'
    have c4:=zW (l2:=D (j+1)) c3 hw3;refine c4.perm ?_;have e9:Z p' c' (D (j+1)) (S++F++[.buf p' (j+1) c' (dS (D (j+1))) 9 1])=(Z p' c' (D (j+1)) S++F)++[.buf p' (j+1) c' (dS (D (j+1))) 9 1]:=by rw [zA,zA]
    rw [e9];show (kX k vs :: ((Z p' c' (D (j+1)) S++F)++[_])).Perm (kX k vs :: .buf p' (j+1) c' (dS (D (j+1))) 9 1 :: (Z p' c' (D (j+1)) S++F));exact .cons _ List.perm_append_comm
   .have he:j=u.r.aE:=by have:=dD hge;omega
    subst he;refine ⟨by unfold aY;omega,cR (AB L1 SN SO) (V3 G1 (D u.r.aE))++S,Ψ,3 - (i+1),aM,λw F cx=>?_,⟨i+1,SN,SO,by omega,by omega,rfl,rfl,by rw [aJw,e1,<-M6,hD];rfl⟩,by omega⟩;have c5:Ctx W w (.buf SN u.r.aE SO (dS (D u.r.aE)) 9 1 :: a5z (AB L1 SN SO) (V3 G1 (D u.r.aE)) (S++F)) Ψ2:=by
     have c6:Ctx W w (.buf SN u.r.aE SO (dS (D u.r.aE)) 9 1 :: (Z SN SO (D u.r.aE) S++F)) Ψ2:=Ctx.drop1 cx;rw [zA,hZ] at c6;exact c6
    have e7:V1 (AB L1 SN SO) (V3 G1 (D u.r.aE)).fE=.buf SN u.r.aE SO (dS (D u.r.aE)) 9 1:=by
     show Own.buf SN (D u.r.aE).length SO _ 9 1=_;rw [hDl _ (Nat.le_refl _)];rfl
    have pc:=aJt (AB L1 SN SO) (V3 G1 (D u.r.aE)) (S++F);rw [e7] at pc;rw [aX];exact (c5.weak hw1).perm pc.symm
end
def aJx(m:bQ):Prop:=m.kind=1/\m.yes=true
structure a8w(r:dY)(x:dY × mK):Prop where
 keep:r.term=x.1.term->r.aO ≠ -1->x.1.aO=r.aO
 yes:∀ m∈x.2.send,aJx m->m.src=r.id/\m.term=x.1.term/\m.to=x.1.aO/\0<=m.to
theorem qC(r):∀ m∈cU r,m.kind=2:=λm hm=>by
 unfold cU at hm;obtain ⟨i,_,rfl⟩:=List.mem_map.1 hm;rfl
theorem aBn{l:List bQ}{k}(hk:k≠1)(h:∀ m∈l,m.kind=k){P:bQ->Prop}:∀ m∈l,aJx m->P m:=λm hm hy=>absurd ((h m hm).symm.trans hy.1) hk
theorem aRa(r):a8w r (eA r):=by
 unfold eA;split
 .exact ⟨λ_ _=>rfl,aBn (by decide) (qC r)⟩
 split
 .exact ⟨λ_ _=>rfl,λm hm=>by cases hm⟩
 .refine ⟨λh=>?_,λm hm hy=>?_⟩
  .have:r.term=r.term+1:=h;omega
  .obtain ⟨i,_,rfl⟩:=List.mem_map.1 hm;cases hy.1
theorem aRb(r data):a8w r ((aL r data).1,(aL r data).2.2.2):=by
 unfold aL;split
 .exact ⟨λ_ _=>rfl,λm hm=>by cases hm⟩
 split
 .exact ⟨λ_ _=>rfl,λm hm=>by cases hm⟩
 split
 .exact ⟨λ_ _=>rfl,λm hm=>by cases hm⟩
 .exact ⟨λ_ _=>rfl,aBn (by decide) (qC _)⟩
theorem aRc(r m)(h0:0<=m.src):a8w r (dI r m)/\(dI r m).1.term=r.term:=by
 unfold dI;split
 .rename_i hc;simp only [Bool.and_eq_true,Bool.or_eq_true,decide_eq_true_eq] at hc;refine ⟨⟨λ_ hv=>?_,λv hv hy=>?_⟩,rfl⟩
  .rcases hc.1.2 with h|h
   .exact absurd h hv
   .exact h.symm
  .rw [List.mem_singleton.1 hv];exact ⟨rfl,rfl,rfl,h0⟩
 .refine ⟨⟨λ_ _=>rfl,λv hv hy=>?_⟩,rfl⟩;rw [List.mem_singleton.1 hv] at hy;cases hy.2
structure a8x(r:dY)(x:dY × mK):Prop where
 term:x.1.term=r.term
 aO:x.1.aO=r.aO
 send:∀ m∈x.2.send,m.kind≠1
theorem a3X{r r'}(h1:r'.term=r.term)(h2:r'.aO=r.aO):a8x r (r',kR):=⟨h1,h2,λm hm=>by cases hm⟩
theorem aBo(r m):a8x r (dG r m):=by
 unfold dG;split
 .exact a3X rfl rfl
 simp only;split
 .exact a3X rfl rfl
 .exact ⟨rfl,rfl,λv hv=>by rw [qC _ v hv];decide⟩
theorem WM(r m):a8x r (bA r m):=by
 have h3:∀ {r':dY} {a:bQ},r'.term=r.term->r'.aO=r.aO->a.kind=3->a8x r (r',nE [a]):=λh1 h2 h=>⟨h1,h2,λv hv=>by rw [List.mem_singleton.1 hv,h];decide⟩;unfold bA;split
 .exact h3 rfl rfl rfl
 split
 .exact a3X rfl rfl
 simp only;split
 .exact h3 rfl rfl rfl
 split
 .split
  .exact a3X rfl rfl
  .exact ⟨rfl,rfl,λv hv=>by rw [List.mem_singleton.1 hv];show (3:Int)≠1;decide⟩
 .exact h3 rfl rfl rfl
theorem a5A(r):(b9 r).term=r.term/\(b9 r).aO=r.aO:=by
 unfold b9;split<;>exact ⟨rfl,rfl⟩
theorem MV(r m):a8x r (aV r m):=by
 have h2:∀ {r':dY} {a:bQ},r'.term=r.term->r'.aO=r.aO->a.kind=2->a8x r (r',nE [a]):=λh1 h2 h=>⟨h1,h2,λv hv=>by rw [List.mem_singleton.1 hv,h];decide⟩;unfold aV;split
 .exact a3X rfl rfl
 simp only;split
 .exact h2 rfl rfl rfl
 split
 .exact h2 (a5A _).1 (a5A _).2 rfl
 .exact a3X (a5A _).1 (a5A _).2
theorem a8x.v{r r1 x}(h:a8x r1 x)(h1:r1.term=r.term->r1.aO=r.aO):a8w r x :=
 ⟨λht _=>by rw [h.aO,h1 (by rw [<-h.term,<-ht])],λm hm hy=>absurd hy.1 (h.send m hm)⟩
theorem aW3{r x}(h:a8w r x):a8w r (C8 r x):=by
 unfold C8;split
 .exact h
 .exact ⟨h.keep,h.yes⟩
theorem aRd(r m):a8w r (cX r m):=by
 cases hy:iV r.id m with
 | false=>rw [vF hy];exact ⟨λ_ _=>rfl,λv hv=>by cases hv⟩
 | true =>
  have hm:=lK.1 hy;rw [pX hy];refine aW3 ?_;obtain ⟨r1,J2⟩:∃ r1,(if r.term<m.term then upR r m else r)=r1:=⟨_,rfl⟩;have h1:r1.term=r.term->r1.aO=r.aO:=by
   rw [<-J2];split
   .rename_i hlt;intro h;have:m.term=r.term:=h;omega
   .exact λ_=>rfl
  have hid:r1.id=r.id:=by rw [<-J2];split<;>rfl
  rw [J2];unfold dQ;split
  .obtain ⟨⟨hk,hs⟩,ht⟩:=aRc r1 m hm.src.2.1;refine ⟨λh hv=>?_,λv hv hyv=>?_⟩
   .have e:=h1 (by rw [<-ht,<-h]);rw [hk (by rw [ht]) (by rw [e];exact hv),e]
   .rw [<-hid];exact hs v hv hyv
  split
  .exact (aBo r1 m).v h1
  split
  .exact (WM r1 m).v h1
  .exact (MV r1 m).v h1
def rR(LL:Int->List bT)(l:List bT):Prop:=∀ p x,l[p]? = some x->l.take (p+1)=(LL x.term).take (p+1)
def Ext(LL WN:Int->List bT):Prop:=∀ t,∃ s,WN t=LL t++s
theorem Ext.refl(LL):Ext LL LL:=λt=>⟨[],(List.append_nil _).symm⟩
theorem a8y(LL):rR LL []:=λp x h=>by simp at h
theorem a3Y{LL l}(h:rR LL l)(n):rR LL (l.take n):=λp x hx=>by
 rw [List.getElem?_take] at hx;split at hx
 .rename_i hp;rw [List.take_take,Nat.min_eq_left (by omega)];exact h p x hx
 .cases hx
theorem take_len{LL:Int->List bT}{l:List bT}{p t}(hp:p<l.length)(h:l.take (p+1)=(LL t).take (p+1)):p<(LL t).length:=by
 have:=congrArg List.length h;rw [List.length_take,List.length_take] at this;omega
theorem JW{LL WN}(he:Ext LL WN){l}(h:rR LL l):rR WN l:=λp x hx=>by
 have h1:=h p x hx;have hp:=(List.getElem?_eq_some_iff.1 hx).1;have h2:=take_len hp h1;obtain ⟨s,hs⟩:=he x.term;rw [hs,List.take_append_of_le_length (by omega)];exact h1
theorem a06{LL a b}(ha:rR LL a)(hb:rR LL b){p x y}(hx:a[p]? = some x)(hy:b[p]? = some y)(e:x.term=y.term):a.take (p+1)=b.take (p+1):=by
 rw [ha p x hx,hb p y hy,e]
theorem rL{l p x}(h:l[p]? = some x):bE l (p+1)=x.term:=by
 show (match l[p]? with
  | some x=>x.term
  | none=>0)=x.term
 rw [h]
theorem a07{l s p}(h:p<=l.length):bE (l++s) p=bE l p:=by
 cases p with
 | zero=>rfl
 | succ p =>
  have hp:p<l.length:=h;obtain ⟨x,hx⟩:∃ x,l[p]? = some x:=⟨_,List.getElem?_eq_getElem hp⟩;rw [rL hx,rL (x:=x) (by rw [List.getElem?_append_left hp];exact hx)]
theorem aJy{LL a b}(ha:rR LL a)(hb:rR LL b){ix}(h1:ix<=a.length)(h2:ix<=b.length)(e:bE a ix=bE b ix):a.take ix=b.take ix:=by
 cases ix with
 | zero=>simp
 | succ p =>
  obtain ⟨x,hx⟩:∃ x,a[p]? = some x:=⟨_,List.getElem?_eq_getElem h1⟩;obtain ⟨y,hy⟩:∃ y,b[p]? = some y:=⟨_,List.getElem?_eq_getElem h2⟩;rw [rL hx,rL hy] at e;exact a06 ha hb hx hy e
theorem WO{LL l M aF ix}(hl:rR LL l)(hM:rR LL M)(h1:ix<=l.length)(h2:ix+aF.length<=M.length)(hr:aF=(M.drop ix).take aF.length)(e:bE l ix=bE M ix):
  l.take (ix+agree (l.drop ix) aF)=M.take (ix+agree (l.drop ix) aF):=by
 rcases Nat.eq_zero_or_pos (agree (l.drop ix) aF) with h0|h0
 .rw [h0];exact aJy hl hM h1 (by omega) e
 .obtain ⟨k,hk⟩:∃ k,agree (l.drop ix) aF=k+1:=⟨agree (l.drop ix) aF - 1,by omega⟩;rw [hk];obtain ⟨ha,hb,ht⟩:=wC (l.drop ix) aF k (by omega);have hx:l[ix+k]? = some (l.drop ix)[k]:=by
   rw [List.getElem_drop];exact List.getElem?_eq_getElem _
  have hy:M[ix+k]? = some aF[k]:=by
   have h3:aF[k]? = some aF[k]:=List.getElem?_eq_getElem hb;have h4:((M.drop ix).take aF.length)[k]? = some aF[k]:=by rw [<-hr];exact h3
   rw [List.getElem?_take_of_lt hb,List.getElem?_drop] at h4;exact h4
  exact a06 hl hM hx hy ht
theorem aBp{M aF:List bT}{ix k}(hr:aF=(M.drop ix).take aF.length):aF.drop k=(M.drop (ix+k)).take (aF.length - k):=by
 have h:((M.drop ix).take aF.length).drop k=(M.drop (ix+k)).take (aF.length - k):=by rw [List.drop_take,List.drop_drop]
 rw [<-h,<-hr]
theorem a3Z{LL l M aF ix}(hl:rR LL l)(hM:rR LL M)(h1:ix<=l.length)(h2:ix+aF.length<=M.length)(hr:aF=(M.drop ix).take aF.length)(e:bE l ix=bE M ix)(hk:agree (l.drop ix) aF<=aF.length):
  l.take (ix+agree (l.drop ix) aF)++aF.drop (agree (l.drop ix) aF)=M.take (ix+aF.length):=by
 rw [WO hl hM h1 h2 hr e,aBp hr,<-List.take_add]
 congr 1
 omega
structure Gh where
 V:Int->Nat->Int
 ld:Int->Int
 LL:Int->List bT
def a08(LL:Int->List bT)(m:bQ):Prop :=
 0<=m.index/\m.index.toNat+m.aF.length<=(LL m.term).length/\m.aF=((LL m.term).drop m.index.toNat).take m.aF.length/\m.prev=bE (LL m.term) m.index.toNat
structure SP(C:Cl)(g:Gh):Prop where
 wf:C.Wf
 now:∀ j,j<3->g.V (C.nd j).rep.term j=(C.nd j).rep.aO
 later:∀ j,j<3->∀ t,(C.nd j).rep.term<t->g.V t j = -1
 yes:∀ m∈C.sent,aJx m->∃ j:Nat,j<3/\m.src=j/\g.V m.term j=m.to/\0<=m.to
 cand:∀ i,i<3->(C.nd i).rep.role=1->(∀ j,j<3->(C.nd i).rep.cK j=true->g.V (C.nd i).rep.term j=i)/\g.ld (C.nd i).rep.term≠i
 lead:∀ i,i<3->(C.nd i).rep.role=2->g.ld (C.nd i).rep.term=i/\g.LL (C.nd i).rep.term=(C.nd i).rep.log
 quo:∀ t,g.ld t ≠ -1->∃ a b,a<3/\b<3/\a≠b/\g.V t a=g.ld t/\g.V t b=g.ld t
 ldt:∀ t,g.ld t ≠ -1->∃ j:Nat,j<3/\g.ld t=j/\t<=(C.nd j).rep.term
 none:∀ t,g.ld t = -1->g.LL t=[]
 log:∀ i,i<3->rR g.LL (C.nd i).rep.log
 ll:∀ t,rR g.LL (g.LL t)
 app:∀ m∈C.sent,m.kind=2->a08 g.LL m
theorem a08.ext{LL WN}(he:Ext LL WN){m}(h:a08 LL m):a08 WN m:=by
 obtain ⟨h1,h2,h3,h4⟩:=h;obtain ⟨s,hs⟩:=he m.term;refine ⟨h1,by rw [hs,List.length_append];omega,?_,?_⟩
 .rw [hs,List.drop_append_of_le_length (by omega),List.take_append_of_le_length (by rw [List.length_drop];omega)];exact h3
 .rw [hs,a07 (by omega)];exact h4
def JX(V:Int->Nat->Int)(i:Nat)(t v:Int):Int->Nat->Int:=λu j=>if u=t/\j=i then v else V u j
theorem jA(V i t v):JX V i t v t i=v:=if_pos ⟨rfl,rfl⟩
theorem lT(V){i j t u}(v)(h:¬ (u=t/\j=i)):JX V i t v u j=V u j:=if_neg h
structure AD(C:Cl)(g:Gh)(i:Nat)(r:dY)(send:List bQ)(g':Gh):Prop where
 V:g'.V=JX g.V i r.term r.aO
 up:(C.nd i).rep.term<=r.term
 keep:(C.nd i).rep.term=r.term->(C.nd i).rep.aO ≠ -1->r.aO=(C.nd i).rep.aO
 yes:∀ m∈send,aJx m->m.src=i/\m.term=r.term/\m.to=r.aO/\0<=m.to
 ld:∀ t,g'.ld t=g.ld t\/(g.ld t = -1/\g'.ld t=i/\t<=r.term/\∃ a b,a<3/\b<3/\a≠b/\g'.V t a=i/\g'.V t b=i)
 ext:Ext g.LL g'.LL
 LL:∀ t,g'.LL t=g.LL t\/(g'.ld t=i/\rR g'.LL (g'.LL t))
 cand:r.role=1->(∀ j,j<3->r.cK j=true->g'.V r.term j=i)/\g'.ld r.term≠i
 lead:r.role=2->g'.ld r.term=i/\g'.LL r.term=r.log
 log:rR g'.LL r.log
 app:∀ m∈send,m.kind=2->a08 g'.LL m
theorem AD.b2v{C g g' i r send}(f:AD C g i r send g')(h:SP C g)(hi:i<3){t j}(hv:g.V t j ≠ -1):g'.V t j=g.V t j:=by
 rw [f.V];by_cases hc:t=r.term/\j=i
 .obtain ⟨rfl,rfl⟩:=hc;rw [jA];have T8:=f.up;rcases Int.lt_or_eq_of_le T8 with hlt|heq
  .exact absurd (h.later j hi r.term hlt) hv
  .have h1:=h.now j hi;rw [heq] at h1;rw [f.keep heq (by rw [<-h1];exact hv),<-h1]
 .exact lT _ _ hc
theorem SP.node{C C' g g' i r send}(h:SP C g)(hi:i<3)(f:AD C g i r send g')(hw:C'.Wf)(hr:(C'.nd i).rep=r)(hne:∀ j,j≠i->C'.nd j=C.nd j)(hs:∀ m∈C'.sent,m∈C.sent\/m∈send):SP C' g':=by
 have old:=fun {t:Int} {j:Nat} (hv:g.V t j ≠ -1)=>f.b2v h hi hv;refine ⟨hw,λj hj=>?_,λj hj t ht=>?_,λm hm hy=>?_,λj hj cY=>?_,λj hj cY=>?_,λt ht=>?_,λt ht=>?_,λt ht=>?_,λj hj=>?_,λt=>?_,λm hm hk=>?_⟩
 .by_cases hji:j=i
  .subst hji;rw [hr,f.V,jA]
  .rw [hne j hji,f.V,lT _ _ (λhc=>hji hc.2)];exact h.now j hj
 .by_cases hji:j=i
  .subst hji;rw [hr] at ht;have:=f.up;rw [f.V,lT _ _ (by omega)];exact h.later j hj t (by omega)
  .rw [hne j hji] at ht;rw [f.V,lT _ _ (λhc=>hji hc.2)];exact h.later j hj t ht
 .rcases hs m hm with hm|hm
  .obtain ⟨j,hj,a1,a2,a3⟩:=h.yes m hm hy;exact ⟨j,hj,a1,by rw [old (by omega),a2],a3⟩
  .obtain ⟨a1,a2,a3,a4⟩:=f.yes m hm hy;exact ⟨i,hi,a1,by rw [f.V,a2,jA,a3],a4⟩
 .by_cases hji:j=i
  .subst hji;rw [hr] at cY ⊢;exact f.cand cY
  .rw [hne j hji] at cY ⊢;obtain ⟨a1,a2⟩:=h.cand j hj cY;refine ⟨λk hk hv=>?_,?_⟩
   .have:=a1 k hk hv;rw [old (by omega),this]
   .rcases f.ld (C.nd j).rep.term with e|⟨_,e,_⟩
    .rw [e];exact a2
    .rw [e];omega
 .by_cases hji:j=i
  .subst hji;rw [hr] at cY ⊢;exact f.lead cY
  .rw [hne j hji] at cY ⊢;obtain ⟨a1,a2⟩:=h.lead j hj cY;have e1:g'.ld (C.nd j).rep.term=j:=by
    rcases f.ld (C.nd j).rep.term with e|⟨e,_⟩
    .rw [e];exact a1
    .omega
   refine ⟨e1,?_⟩;rcases f.LL (C.nd j).rep.term with e|⟨e,_⟩
   .rw [e];exact a2
   .omega
 .rcases f.ld t with e|⟨_,e,_,a,b,a1,a2,a3,a4,a5⟩
  .rw [e] at ht ⊢;obtain ⟨a,b,a1,a2,a3,a4,a5⟩:=h.quo t ht;exact ⟨a,b,a1,a2,a3,by rw [old (by rw [a4];exact ht),a4],by rw [old (by rw [a5];exact ht),a5]⟩
  .exact ⟨a,b,a1,a2,a3,by rw [a4,e],by rw [a5,e]⟩
 .rcases f.ld t with e|⟨_,e,a1,_⟩
  .rw [e] at ht ⊢;obtain ⟨j,hj,a1,a2⟩:=h.ldt t ht;refine ⟨j,hj,a1,?_⟩;by_cases hji:j=i
   .subst hji;rw [hr];have:=f.up;omega
   .rw [hne j hji];exact a2
  .exact ⟨i,hi,e,by rw [hr];exact a1⟩
 .have e1:g.ld t = -1:=by
   rcases f.ld t with e|⟨e,e2,_⟩
   .rw [<-e];exact ht
   .exact e
  rcases f.LL t with e|⟨e,_⟩
  .rw [e];exact h.none t e1
  .omega
 .by_cases hji:j=i
  .subst hji;rw [hr];exact f.log
  .rw [hne j hji];exact JW f.ext (h.log j hj)
 .rcases f.LL t with e|⟨_,e⟩
  .rw [e];exact JW f.ext (h.ll t)
  .exact e
 .rcases hs m hm with hm|hm
  .exact (h.app m hm hk).ext f.ext
  .exact f.app m hm hk
theorem WQ{LL r}(hL:LL r.term=r.log){f}(h1:1<=r.next f)(h2:r.next f<=r.log.length+1):a08 LL (entriesOf r f):=by
 have e0:(entriesOf r f).index.toNat=r.next f - 1:=Int.toNat_natCast _;have e1:(entriesOf r f).aF=(r.log.drop (r.next f - 1)).take 8:=rfl;have e2:(entriesOf r f).aF.length=min 8 (r.log.length - (r.next f - 1)):=by rw [e1,List.length_take,List.length_drop]
 refine ⟨Int.natCast_nonneg _,?_,?_,?_⟩
 .rw [e0,e2,show (entriesOf r f).term=r.term from rfl,hL];omega
 .rw [e0,e2,show (entriesOf r f).term=r.term from rfl,hL,e1];rw [List.take_eq_take_iff,List.length_drop];omega
 .rw [e0,show (entriesOf r f).term=r.term from rfl,hL];rfl
theorem a30{C g}(h:SP C g){i}(hi:i<3){r:dY}(up:(C.nd i).rep.term<=r.term)(keep:(C.nd i).rep.term=r.term->(C.nd i).rep.aO ≠ -1->r.aO=(C.nd i).rep.aO){t j}(hv:g.V t j ≠ -1):JX g.V i r.term r.aO t j=g.V t j:=by
 by_cases hc:t=r.term/\j=i
 .obtain ⟨rfl,rfl⟩:=hc;rw [jA];rcases Int.lt_or_eq_of_le up with hlt|heq
  .exact absurd (h.later j hi r.term hlt) hv
  .have h1:=h.now j hi;rw [heq] at h1;rw [keep heq (by rw [<-h1];exact hv),<-h1]
 .exact lT _ _ hc
abbrev Gh.aO(g:Gh)(i:Nat)(r:dY):Gh:={ g with V:=JX g.V i r.term r.aO }
theorem KU{C g}(h:SP C g){i}(hi:i<3){r}(hr:(C.nd i).rep=r){x}(hf:Fits r x.1 x.2)(hv:a8w r x)(cand:x.1.role=1->(∀ j,j<3->x.1.cK j=true->g.V x.1.term j=i)/\g.ld x.1.term≠i)(lead:x.1.role=2->g.ld x.1.term=i/\g.LL x.1.term=x.1.log)(log:rR g.LL x.1.log)(app:∀ m∈x.2.send,m.kind=2->a08 g.LL m):AD C g i x.1 x.2.send (g.aO i x.1):=by
 subst hr;have hid:=(h.wf.rep i hi).2;refine ⟨rfl,hf.term,hv.keep,λm hm hy=>?_,λt=>.inl rfl,Ext.refl _,λt=>.inl rfl,λhr=>?_,lead,log,app⟩
 .obtain ⟨a,b⟩:=hv.yes m hm hy;exact ⟨by rw [a,hid],b⟩
 .obtain ⟨a,b⟩:=cand hr;exact ⟨λj hj hvo=>by
   have e:=a j hj hvo;show JX g.V i x.1.term x.1.aO x.1.term j=i;rw [a30 h hi hf.term hv.keep (by omega),e],b⟩
theorem a5B{LL r}(hL:LL r.term=r.log)(hn:∀ f,1<=r.next f/\r.next f<=r.log.length+1):∀ m∈cU r,a08 LL m:=λm hm=>by
 unfold cU at hm;obtain ⟨f,_,rfl⟩:=List.mem_map.1 hm;exact WQ hL (hn f).1 (hn f).2
theorem aRe{C g}(h:SP C g){i}(hi:i<3):∃ g',AD C g i (eA (C.nd i).rep).1 (eA (C.nd i).rep).2.send g'/\g'.LL=g.LL/\g'.ld=g.ld:=by
 obtain ⟨hw,hid⟩:=h.wf.rep i hi;have hf:=(a5x hw).2;have hv:=aRa (C.nd i).rep;have hc:=h.cand i hi;have hl:=h.lead i hi;have hg:=h.log i hi;have JG:=h.now i hi;have aW4:=h.ldt ((C.nd i).rep.term+1);generalize hr:(C.nd i).rep=r at hw hid hf hv hc hl hg JG aW4;by_cases h2:r.role=2
 .have e:eA r=(r,nE (cU r)):=if_pos h2;refine ⟨_,KU h hi hr hf hv ?_ ?_ ?_ ?_,rfl,rfl⟩;all_goals rw [e]
  .exact hc
  .exact hl
  .exact hg
  .exact λm hm _=>a5B (hl h2).2 (λf=>⟨(hw.ok.next h2 f).1,(hw.ok.next h2 f).2.1⟩) m hm
 by_cases h3:r.term=1099511627776
 .have e:eA r=(r,kR):=by unfold eA;rw [if_neg h2,if_pos h3]
  refine ⟨_,KU h hi hr hf hv ?_ ?_ ?_ ?_,rfl,rfl⟩;all_goals rw [e]
  .exact hc
  .exact hl
  .exact hg
  .exact λm hm _=>by cases hm
 .have e:eA r=({ r with term:=r.term+1,aO:=r.id,role:=1,cK:=λi=>decide (i=r.id) },⟨true,r.term+1,r.id,0,[],(aT r.id).map λk=>vU { r with term:=r.term+1,aO:=r.id,role:=1,cK:=λi=>decide (i=r.id) } k⟩):=by
   unfold eA;rw [if_neg h2,if_neg h3]
  rw [e];refine ⟨g.aO i { r with term:=r.term+1,aO:=r.id,role:=1,cK:=λi=>decide (i=r.id) },⟨rfl,by rw [hr];show r.term<=r.term+1;omega,λht=>?_,λm hm hy=>?_,λt=>.inl rfl,Ext.refl _,λt=>.inl rfl,λ_=>⟨λj hj hvo=>?_,?_⟩,λh0=>(by cases (show (1:Int)=2 from h0)),hg,λm hm hk=>?_⟩,rfl,rfl⟩
  .rw [hr] at ht;have:r.term=r.term+1:=ht;omega
  .obtain ⟨k,_,rfl⟩:=List.mem_map.1 hm;cases hy.1
  .have hj:j=r.id:=eR hvo;show JX g.V i (r.term+1) r.id (r.term+1) j=i;rw [hj,hid,jA]
  .intro MO;have MO:g.ld (r.term+1)=i:=MO;obtain ⟨j,hj,a1,a2⟩:=aW4 (by omega);have:j=i:=by omega
   subst this;rw [hr] at a2;omega
  .obtain ⟨k,_,rfl⟩:=List.mem_map.1 hm;cases hk
theorem aRf{C g}(h:SP C g){i}(hi:i<3)(data):∃ g',AD C g i (aL (C.nd i).rep data).1 (aL (C.nd i).rep data).2.2.2.send g'/\g'.ld=g.ld/\(∀ t,t≠(C.nd i).rep.term->g'.LL t=g.LL t)/\((aL (C.nd i).rep data).2.2.2=kR->g'.LL=g.LL):=by
 obtain ⟨hw,hid⟩:=h.wf.rep i hi;have hf:=aE8 hw data;have hv:=aRb (C.nd i).rep data;have hc:=h.cand i hi;have hl:=h.lead i hi;have hg:=h.log i hi;generalize hr:(C.nd i).rep=r at hw hid hf hv hc hl hg;have same:aL r data=(r,(aL r data).2.1,(aL r data).2.2.1,kR)->∃ g',AD C g i (aL r data).1 (aL r data).2.2.2.send g'/\g'.ld=g.ld/\(∀ t,t≠r.term->g'.LL t=g.LL t)/\((aL r data).2.2.2=kR->g'.LL=g.LL):=λe=>by
  rw [e];rw [e] at hf hv;exact ⟨_,KU (x:=(r,kR)) h hi hr hf hv hc hl hg (λm hm _=>by cases hm),rfl,λ_ _=>rfl,λ_=>rfl⟩
 by_cases h2:r.role=2
 .by_cases h3:2000<(data.size:Int)
  .exact same (by unfold aL;rw [if_neg (by simpa using h2),if_pos h3])
  by_cases h4:r.log.length=4000
  .exact same (by unfold aL;rw [if_neg (by simpa using h2),if_neg h3,if_pos h4])
  obtain ⟨x,hx⟩:∃ x:bT,x=⟨r.term,data⟩:=⟨_,rfl⟩;have hxt:x.term=r.term:=by rw [hx]
  have e1:(aL r data).1={ r with log:=r.log++[x] }:=by unfold aL;rw [if_neg (by simpa using h2),if_neg h3,if_neg h4,hx]
  have e2:(aL r data).2.2.2.send=cU { r with log:=r.log++[x] }:=by unfold aL;rw [if_neg (by simpa using h2),if_neg h3,if_neg h4,hx]
  have e4:(aL r data).2.2.2≠kR:=λe=>by
   have:=congrArg mK.send e;rw [e2] at this;have:=congrArg List.length this;unfold cU at this;rw [List.length_map,qP] at this;cases this
  rw [e1,e2];obtain ⟨hl1,hl2⟩:=hl h2;obtain ⟨WN,pM⟩:∃ WN:Int->List bT,(λt=>if t=r.term then r.log++[x] else g.LL t)=WN:=⟨_,rfl⟩;have M6:WN r.term=r.log++[x]:=by rw [<-pM];exact if_pos rfl
  have hL2:∀ t,t≠r.term->WN t=g.LL t:=λt ht=>by rw [<-pM];exact if_neg ht
  have rP:Ext g.LL WN:=λt=>by
   by_cases ht:t=r.term
   .subst ht;exact ⟨[x],by rw [M6,hl2]⟩
   .exact ⟨[],by rw [hL2 t ht,List.append_nil]⟩
  have hpre:rR WN (r.log++[x]):=λp y hy=>by
   rcases Nat.lt_or_ge p r.log.length with hp|hp
   .rw [List.getElem?_append_left hp] at hy;rw [List.take_append_of_le_length (by omega)];exact JW rP hg p y hy
   .rw [List.getElem?_append_right hp] at hy;have hz:p - r.log.length=0:=by
     have:=(List.getElem?_eq_some_iff.1 hy).1;simp at this;omega
    rw [hz] at hy;have hy:x=y:=by simpa using hy
    rw [<-hy,hxt,M6]
  refine ⟨⟨JX g.V i r.term r.aO,g.ld,WN⟩,⟨rfl,by rw [hr];exact Int.le_refl _,λ_ _=>by rw [hr],aBn (by decide) (qC _),λt=>.inl rfl,rP,λt=>?_,λh1=>?_,λ_=>⟨hl1,M6⟩,hpre,λm hm _=>a5B (r:={ r with log:=r.log++[x] }) M6 (λf=>?_) m hm⟩,rfl,hL2,λe=>absurd e e4⟩
  .by_cases ht:t=r.term
   .subst ht;exact .inr ⟨hl1,by show rR WN (WN r.term);rw [M6];exact hpre⟩
   .exact .inl (hL2 t ht)
  .have h1:r.role=1:=h1;omega
  .have:=hw.ok.next h2 f;refine ⟨this.1,?_⟩;show r.next f<=(r.log++[x]).length+1;rw [List.length_append];omega
 .exact same (by unfold aL;rw [if_pos h2])
structure Bk(g:Gh)(i:Nat)(r:dY):Prop where
 cand:r.role=1->(∀ j,j<3->r.cK j=true->g.V r.term j=i)/\g.ld r.term≠i
 lead:r.role=2->g.ld r.term=i/\g.LL r.term=r.log
 log:rR g.LL r.log
theorem Bk.as{g i r r'}(h:Bk g i r)(h1:r'.role=r.role)(h2:r'.term=r.term)(h3:r'.cK=r.cK)(h4:r'.log=r.log):Bk g i r' :=
 ⟨by rw [h1,h2,h3];exact h.cand,by rw [h1,h2,h4];exact h.lead,by rw [h4];exact h.log⟩
theorem Bk.fol{g i r'}(h:rR g.LL r'.log)(h1:r'.role=0):Bk g i r' :=
 ⟨λhr=>by omega,λhr=>by omega,h⟩
theorem aFh{g i r m}(h:Bk g i r)(hll:∀ t,rR g.LL (g.LL t))(ha:a08 g.LL m):Bk g i (bA r m).1:=by
 unfold bA;split
 .exact h
 split
 .exact h
 simp only;split
 .exact .fol h.log rfl
 rename_i hc;simp only [Bool.or_eq_true,decide_eq_true_eq,not_or] at hc;obtain ⟨hc1,MO⟩:=hc;obtain ⟨a1,a2,a3,a4⟩:=ha;split
 .split
  .exact .fol h.log rfl
  .refine .fol ?_ rfl;show rR g.LL (r.log.take (m.index.toNat+agree (r.log.drop m.index.toNat) m.aF)++m.aF.drop (agree (r.log.drop m.index.toNat) m.aF));rw [a3Z h.log (hll m.term) (by omega) a2 a3 (by rw [<-a4];exact Decidable.of_not_not MO) (J3 _ _)];exact a3Y (hll m.term) _
 .exact .fol h.log rfl
theorem a8z(r m):∀ v∈(bA r m).2.send,v.kind=3:=by
 unfold bA;split
 .exact λv hv=>by rw [List.mem_singleton.1 hv];rfl
 split
 .exact λv hv=>by cases hv
 simp only;split
 .exact λv hv=>by rw [List.mem_singleton.1 hv]
 split
 .split
  .exact λv hv=>by cases hv
  .exact λv hv=>by rw [List.mem_singleton.1 hv];rfl
 .exact λv hv=>by rw [List.mem_singleton.1 hv];rfl
theorem a09(r):(b9 r).role=r.role/\(b9 r).term=r.term/\(b9 r).cK=r.cK/\(b9 r).log=r.log:=by
 unfold b9;split<;>exact ⟨rfl,rfl,rfl,rfl⟩
theorem MW(r m):((aV r m).1.role=r.role/\(aV r m).1.term=r.term/\(aV r m).1.cK=r.cK/\(aV r m).1.log=r.log)/\∀ v∈(aV r m).2.send,r.role=2/\∃ f,v=entriesOf (aV r m).1 f:=by
 unfold aV;split
 .exact ⟨⟨rfl,rfl,rfl,rfl⟩,λv hv=>by cases hv⟩
 rename_i hc;simp only [Bool.or_eq_true,decide_eq_true_eq,not_or] at hc;have h2:r.role=2:=by omega
 simp only;split
 .exact ⟨⟨rfl,rfl,rfl,rfl⟩,λv hv=>⟨h2,_,List.mem_singleton.1 hv⟩⟩
 split
 .exact ⟨a09 _,λv hv=>⟨h2,_,List.mem_singleton.1 hv⟩⟩
 .exact ⟨a09 _,λv hv=>by cases hv⟩
theorem a1a(r m):((dI r m).1.role=r.role/\(dI r m).1.term=r.term/\(dI r m).1.cK=r.cK/\(dI r m).1.log=r.log)/\∀ v∈(dI r m).2.send,v.kind=1:=by
 unfold dI;split
 .exact ⟨⟨rfl,rfl,rfl,rfl⟩,λv hv=>by rw [List.mem_singleton.1 hv]⟩
 .exact ⟨⟨rfl,rfl,rfl,rfl⟩,λv hv=>by rw [List.mem_singleton.1 hv];rfl⟩
theorem a5C{v}(h:¬ pG v<2):∃ a b,a<3/\b<3/\a≠b/\v a=true/\v b=true:=by
 unfold pG b2n at h;cases h0:v 0<;>cases h1:v 1<;>cases h2:v 2<;>rw [h0,h1,h2] at h<;>simp at h
 .exact ⟨1,2,by decide,by decide,by decide,h1,h2⟩
 .exact ⟨0,2,by decide,by decide,by decide,h0,h2⟩
 .exact ⟨0,1,by decide,by decide,by decide,h0,h1⟩
 .exact ⟨0,1,by decide,by decide,by decide,h0,h1⟩
def aOr(C:Cl)(g:Gh)(i:Nat)(r:dY)(send:List bQ)(g':Gh):Prop :=
 (g'.LL=g.LL/\g'.ld=g.ld)\/((C.nd i).rep.role=1/\r.role=2/\r.term=(C.nd i).rep.term/\r.log=(C.nd i).rep.log/\r.aE=(C.nd i).rep.aE/\r.aO=(C.nd i).rep.aO/\(∀ f,r.gJ f=0)/\g.ld r.term = -1 /\
  (∀ t,t≠r.term->g'.LL t=g.LL t/\g'.ld t=g.ld t)/\send=cU r/\∃ a b,a<3/\b<3/\a≠b/\g.V r.term a=i/\g.V r.term b=i)
theorem aRh{C g}(h:SP C g){i}(hi:i<3){m}(hmy:aJx m->∃ j:Nat,j<3/\m.src=j/\g.V m.term j=m.to/\0<=m.to)(hma:m.kind=2->a08 g.LL m):
  ∃ g',AD C g i (cX (C.nd i).rep m).1 (cX (C.nd i).rep m).2.send g'/\aOr C g i (cX (C.nd i).rep m).1 (cX (C.nd i).rep m).2.send g':=by
 obtain ⟨hw,hid⟩:=h.wf.rep i hi;have hf:=(Y6 (m:=m) hw).2;have hxw:=(Y6 (m:=m) hw).1;have hv:=aRd (C.nd i).rep m;have hb:Bk g i (C.nd i).rep:=⟨h.cand i hi,h.lead i hi,h.log i hi⟩;have same:Bk g i (cX (C.nd i).rep m).1->(∀ v∈(cX (C.nd i).rep m).2.send,v.kind=2->a08 g.LL v)->∃ g',AD C g i (cX (C.nd i).rep m).1 (cX (C.nd i).rep m).2.send g'/\aOr C g i (cX (C.nd i).rep m).1 (cX (C.nd i).rep m).2.send g':=λhb ha =>
  ⟨_,KU h hi rfl hf hv hb.cand hb.lead hb.log ha,.inl ⟨rfl,rfl⟩⟩
 cases hy:iV (C.nd i).rep.id m with
 | false =>
  rw [vF hy] at same ⊢;exact same hb λv hv=>by cases hv
 | true =>
  have hm:=lK.1 hy;obtain ⟨r1,J2⟩:∃ r1,(if (C.nd i).rep.term<m.term then upR (C.nd i).rep m else (C.nd i).rep)=r1:=⟨_,rfl⟩;have e1:(cX (C.nd i).rep m).1=(dQ r1 m).1:=by rw [pX hy,J2,B4]
  have e2:(cX (C.nd i).rep m).2.send=(dQ r1 m).2.send:=by rw [pX hy,J2,a02]
  have hb1:Bk g i r1:=by
   rw [<-J2];split
   .exact .fol hb.log rfl
   .exact hb
  have hw1:r1.Wf:=by
   rw [<-J2];split
   .exact aC6 hw hm (by assumption)
   .exact hw
  have aE7:r1.id=i:=by
   rw [<-J2];split
   .exact hid
   .exact hid
  have cY:r1.role=1->r1=(C.nd i).rep:=by
   rw [<-J2];split
   .intro h0;cases (show (0:Int)=1 from h0)
   .exact λ_=>rfl
  rw [e1,e2] at same;by_cases hk0:m.kind=0
  .have e:dQ r1 m=dI r1 m:=by unfold dQ;rw [if_pos hk0]
   rw [e] at same e1 e2;rw [e1,e2];obtain ⟨⟨s1,s2,s3,s4⟩,s5⟩:=a1a r1 m;exact same (hb1.as s1 s2 s3 s4) λv hv hk=>by rw [s5 v hv] at hk;cases hk
  by_cases hk1:m.kind=1
  .have e:dQ r1 m=dG r1 m:=by unfold dQ;rw [if_neg hk0,if_pos hk1]
   rw [e] at same e1 e2;by_cases hc:(decide (r1.role≠1)||decide (m.term≠r1.term) || !m.yes)=true
   .have e3:dG r1 m=(r1,kR):=by unfold dG;rw [if_pos hc]
    rw [e1,e2];rw [e3] at same ⊢;exact same hb1 λv hv=>by cases hv
   have KB:=hc;simp only [Bool.or_eq_true,decide_eq_true_eq,not_or,Bool.not_eq_true',Bool.not_eq_false] at KB;obtain ⟨⟨c1,c2⟩,c3⟩:=KB;have c1:r1.role=1:=by omega
   have c2:m.term=r1.term:=by omega
   obtain ⟨j,hj,a1,a2,a3⟩:=hmy ⟨hk1,c3⟩;have hto:m.to=i:=by rw [hm.to,hid]
   have hsrc:m.src.toNat=j:=by omega
   obtain ⟨b1,b2⟩:=hb1.cand c1;have V5:∀ k,k<3->put r1.cK m.src.toNat true k=true->g.V r1.term k=i:=λk hk hvk=>by
    by_cases hkj:k=m.src.toNat
    .rw [hkj,hsrc,<-c2,a2,hto]
    .rw [fR _ _ hkj] at hvk;exact b1 k hk hvk
   by_cases MO:pG (put r1.cK m.src.toNat true)<2
   .have e3:dG r1 m=({ r1 with cK:=put r1.cK m.src.toNat true },kR):=by unfold dG;rw [if_neg hc];simp only;rw [if_pos MO]
    rw [e1,e2];rw [e3] at same ⊢;exact same ⟨λ_=>⟨V5,b2⟩,λh0=>by have h0:r1.role=2:=h0;omega,hb1.log⟩ λv hv=>by cases hv
   ·-- leads
    obtain ⟨r2,hr2⟩:∃ r2:dY,({ r1 with cK:=put r1.cK m.src.toNat true,role:=2,next:=λ_=>r1.log.length+1,gJ:=λ_=>0 }:dY)=r2:=⟨_,rfl⟩;have e3:dG r1 m=(r2,nE (cU r2)):=by unfold dG;rw [if_neg hc];simp only;rw [if_neg MO,<-hr2]
    have t2:r2.term=r1.term:=by rw [<-hr2]
    have v2:r2.aO=r1.aO:=by rw [<-hr2]
    have l2:r2.log=r1.log:=by rw [<-hr2]
    have o2:r2.role=2:=by rw [<-hr2]
    have n2:∀ f,r2.next f=r1.log.length+1:=λf=>by rw [<-hr2]
    rw [e3] at e1 e2;have hrr:=cY c1;have hfree:g.ld r1.term = -1:=by
     refine Decidable.byContradiction λhne=>?_;obtain ⟨a,b,q1,q2,q3,q4,q5⟩:=h.quo _ hne;obtain ⟨c,d,p1,p2,p3,p4,p5⟩:=a5C MO;have p6:=V5 c p1 p4;have p7:=V5 d p2 p5;have:a=c\/a=d\/b=c\/b=d:=by omega
     rcases this with rfl|rfl|rfl|rfl
     .exact b2 (by rw [<-q4,p6])
     .exact b2 (by rw [<-q4,p7])
     .exact b2 (by rw [<-q5,p6])
     .exact b2 (by rw [<-q5,p7])
    obtain ⟨WN,pM⟩:∃ WN:Int->List bT,(λt=>if t=r1.term then r1.log else g.LL t)=WN:=⟨_,rfl⟩;have M6:WN r1.term=r1.log:=by rw [<-pM];exact if_pos rfl
    have hL2:∀ t,t≠r1.term->WN t=g.LL t:=λt ht=>by rw [<-pM];exact if_neg ht
    have rP:Ext g.LL WN:=λt=>by
     by_cases ht:t=r1.term
     .subst ht;exact ⟨r1.log,by rw [M6,h.none _ hfree,List.nil_append]⟩
     .exact ⟨[],by rw [hL2 t ht,List.append_nil]⟩
    rw [e1,e2];have hkeep:=hv.keep;rw [e1] at hf hkeep;have hV:∀ k,k<3->put r1.cK m.src.toNat true k=true->JX g.V i r2.term r2.aO r1.term k=i:=λk hk hvk=>by
     have:=V5 k hk hvk;have e5:=a30 h hi (r:=r2) hf.term hkeep (t:=r1.term) (j:=k) (by omega);rw [e5,this]
    refine ⟨⟨JX g.V i r2.term r2.aO,λt=>if t=r1.term then i else g.ld t,WN⟩,⟨rfl,hf.term,hkeep,λv TD hyv=>absurd ((qC _ v TD).symm.trans hyv.1) (by decide),λt=>?_,rP,λt=>?_,λh1=>(by have h1:r2.role=1:=h1;omega),λ_=>⟨by rw [t2];exact if_pos rfl,by rw [t2,l2];exact M6⟩,by rw [l2];exact JW rP hb1.log,λv TD _=>a5B (by rw [t2,l2];exact M6) (λf=>by rw [n2,l2];omega) v TD⟩,?_⟩
    .by_cases ht:t=r1.term
     .subst ht;obtain ⟨c,d,p1,p2,p3,p4,p5⟩:=a5C MO;exact .inr ⟨hfree,if_pos rfl,by rw [t2];exact Int.le_refl _,c,d,p1,p2,p3,hV c p1 p4,hV d p2 p5⟩
     .exact .inl (if_neg ht)
    .by_cases ht:t=r1.term
     .subst ht;exact .inr ⟨if_pos rfl,by show rR WN (WN r1.term);rw [M6];exact JW rP hb1.log⟩
     .exact .inl (hL2 t ht)
    .obtain ⟨c,d,p1,p2,p3,p4,p5⟩:=a5C MO;refine .inr ⟨by rw [<-hrr];exact c1,o2,by rw [<-hrr];exact t2,by rw [<-hrr];exact l2,by rw [<-hrr,<-hr2],by rw [<-hrr];exact v2,λf=>by rw [<-hr2],by show g.ld r2.term = -1;rw [t2];exact hfree,λt ht=>?_,rfl,c,d,p1,p2,p3,by show g.V r2.term c=i;rw [t2];exact V5 c p1 p4,by show g.V r2.term d=i;rw [t2];exact V5 d p2 p5⟩;have ht:t≠r2.term:=ht;rw [t2] at ht;exact ⟨hL2 t ht,if_neg ht⟩
  by_cases hk2:m.kind=2
  .have e:dQ r1 m=bA r1 m:=by unfold dQ;rw [if_neg hk0,if_neg hk1,if_pos hk2]
   rw [e] at same e1 e2;rw [e1,e2];exact same (aFh hb1 h.ll (hma hk2)) λv hv hk=>by rw [a8z r1 m v hv] at hk;cases hk
  .have e:dQ r1 m=aV r1 m:=by unfold dQ;rw [if_neg hk0,if_neg hk1,if_neg hk2]
   rw [e] at same e1 e2;rw [e1,e2];obtain ⟨⟨s1,s2,s3,s4⟩,s5⟩:=MW r1 m;refine same (hb1.as s1 s2 s3 s4) λv hv hk=>?_;obtain ⟨h2,f,rfl⟩:=s5 v hv;have hwx:=(B3 hw1 (m:=m) hm.index.1).1;have hn:=hwx.ok.next (by rw [s1];exact h2) f;exact WQ (by rw [s2,s4];exact (hb1.lead h2).2) hn.1 hn.2.1
theorem aW7:SP cl0 ⟨λ_ _ => -1,λ_ => -1,λ_=>[]⟩ :=
 ⟨aQY,λ_ _=>rfl,λ_ _ _ _=>rfl,λm hm=>(by cases hm),λi hi hr=>(by cases (show (0:Int)=1 from hr)),λi hi hr=>(by cases (show (0:Int)=2 from hr)),λt ht=>absurd rfl ht,λt ht=>absurd rfl ht,λ_ _=>rfl,λi hi=>a8y _,λt=>a8y _,λm hm=>(by cases hm)⟩
def Valid(g:Gh)(t:Int)(p:Nat):Prop:=1<=p/\p<=(g.LL t).length/\bE (g.LL t) p=t
def gT(g:Gh)(t:Int)(p:Nat)(l:List bT):Prop:=p<=l.length/\l.take p=(g.LL t).take p
def sU(C:Cl)(A:Int->Nat->Nat)(t:Int)(p:Nat):Prop:=∃ x y,x<3/\y<3/\x≠y/\t<(C.nd x).rep.term/\t<(C.nd y).rep.term/\A t x<p/\A t y<p
def F4(g:Gh)(A:Int->Nat->Nat)(t:Int)(p:Nat):Prop:=Valid g t p/\∃ a b,a<3/\b<3/\a≠b/\p<=A t a/\p<=A t b
def lU(g:Gh)(A:Int->Nat->Nat)(s:Int)(l:List bT)(n:Nat):Prop:=n=0\/∃ t p,F4 g A t p/\t<=s/\n<=p/\gT g t n l
structure lV(C:Cl)(g:Gh)(A:Int->Nat->Nat):Prop where
 m:SP C g
 W8:∀ t,lI (g.LL t) t
 a1:∀ t j,A t j<=(g.LL t).length
 a2:∀ t j,j<3->0<A t j->t<=(C.nd j).rep.term
 a3:∀ i,i<3->(C.nd i).rep.role=2->A (C.nd i).rep.term i=(C.nd i).rep.log.length
 ia:∀ t j p,j<3->1<=p->p<=A t j->gT g t p (C.nd j).rep.log\/∃ u,t<u/\u<=(C.nd j).rep.term/\g.ld u ≠ -1/\¬ gT g t p (g.LL u)
 ib:∀ t u p,Valid g t p->t<u->g.ld u ≠ -1->gT g t p (g.LL u)\/sU C A t p
 iq:∀ m∈C.sent,m.kind=0->∃ c:Nat,c<3/\m.src=c/\m.term<=(C.nd c).rep.term/\((C.nd c).rep.role=1->m.term=(C.nd c).rep.term->m.index=(C.nd c).rep.log.length/\m.prev=bE (C.nd c).rep.log (C.nd c).rep.log.length)
 il:∀ c,c<3->(C.nd c).rep.role=1->∀ x∈(C.nd c).rep.log,x.term<(C.nd c).rep.term
 iv:∀ c,c<3->(C.nd c).rep.role=1->∀ x,x<3->g.V (C.nd c).rep.term x=c->∀ t p,t<(C.nd c).rep.term->Valid g t p->p<=A t x->gT g t p (C.nd c).rep.log\/sU C A t p
 vt:∀ t x c,x<3->c<3->g.V t x=((c:Nat):Int)->t<=(C.nd c).rep.term
 im:∀ i,i<3->(C.nd i).rep.role=2->∀ f,f<3->f≠i->(C.nd i).rep.gJ f<=A (C.nd i).rep.term f
 ik:∀ m∈C.sent,m.kind=3->m.yes=true->∃ f:Nat,f<3/\m.src=f/\m.index.toNat<=A m.term f
 ic:∀ m∈C.sent,m.kind=2->lU g A m.term (g.LL m.term) m.aE.toNat
 co:∀ j,j<3->lU g A (C.nd j).rep.term (C.nd j).rep.log (C.nd j).rep.aE
def Grow(g g':Gh):Prop:=∀ u,g.ld u ≠ -1->∃ s,g'.LL u=g.LL u++s/\∀ x∈s,x.term=u
theorem Valid.ext{g g'}(he:Ext g.LL g'.LL){t p}(h:Valid g t p):Valid g' t p:=by
 obtain ⟨s,hs⟩:=he t;obtain ⟨h1,h2,h3⟩:=h;exact ⟨h1,by rw [hs,List.length_append];omega,by rw [hs,a07 h2];exact h3⟩
theorem Valid.back{g g'}(he:Ext g.LL g'.LL){t p}(h:Valid g' t p)(hp:p<=(g.LL t).length):Valid g t p:=by
 obtain ⟨s,hs⟩:=he t;obtain ⟨h1,h2,h3⟩:=h;exact ⟨h1,hp,by rw [hs,a07 hp] at h3;exact h3⟩
theorem gT.ext{g g'}(he:Ext g.LL g'.LL){t p l}(hp:p<=(g.LL t).length):gT g' t p l ↔ gT g t p l:=by
 obtain ⟨s,hs⟩:=he t;unfold gT;rw [hs,List.take_append_of_le_length hp]
theorem gT.more{g t p l s}(h:gT g t p l):gT g t p (l++s) :=
 ⟨by rw [List.length_append];have:=h.1;omega,by rw [List.take_append_of_le_length h.1];exact h.2⟩
theorem gT.less{g t p n l}(h:gT g t p l)(hn:n<=p):gT g t n l:=by
 obtain ⟨h1,h2⟩:=h;refine ⟨by omega,?_⟩;have:=congrArg (List.take n) h2
 rwa [List.take_take,List.take_take,Nat.min_eq_left hn] at this
theorem V6{g g' t}(he:Ext g.LL g'.LL)(hg:Grow g g')(hs:lI (g.LL t) t){u p}(htu:t<u)(hp:p<=(g.LL t).length)(hu:g.ld u ≠ -1)(h:gT g' t p (g'.LL u)):gT g t p (g.LL u):=by
 rw [gT.ext he hp] at h;obtain ⟨s,e,hx⟩:=hg u hu;obtain ⟨h1,h2⟩:=h;rcases Nat.lt_or_ge (g.LL u).length p with hlt|hge
 .exfalso;obtain ⟨q,rfl⟩:∃ q,p=q+1:=⟨p - 1,by omega⟩;have hq1:q<(g'.LL u).length:=h1;have rN:q<(g.LL t).length:=hp;have e1:(g'.LL u)[q]? = (g.LL t)[q]? := by
   have:=congrArg (λl=>l[q]?) h2;simpa [List.getElem?_take_of_lt (show q<q+1 by omega)] using this
  obtain ⟨z,hz⟩:∃ z,(g'.LL u)[q]? = some z:=⟨_,List.getElem?_eq_getElem hq1⟩;have hz2:(g.LL t)[q]? = some z:=by rw [<-e1];exact hz
  have e3:z.term=u:=hx z (by
   rw [e,List.getElem?_append_right (by omega)] at hz;exact List.mem_of_getElem? hz)
  have e4:=hs.hi z (List.mem_of_getElem? hz2);omega
 .rw [e,List.take_append_of_le_length hge] at h2;exact ⟨hge,h2⟩
def F5(A:Int->Nat->Nat)(i:Nat)(t:Int)(n:Nat):Int->Nat->Nat:=λu j=>if u=t/\j=i then n else A u j
theorem xY(A i t n):F5 A i t n t i=n:=if_pos ⟨rfl,rfl⟩
theorem sV(A){i j t u}(n)(h:¬ (u=t/\j=i)):F5 A i t n u j=A u j:=if_neg h
theorem SQ{A i t n}(h:A t i<=n)(u j):A u j<=F5 A i t n u j:=by
 unfold F5;split
 .rename_i hc;obtain ⟨rfl,rfl⟩:=hc;exact h
 .exact Nat.le_refl _
theorem F4.ext{g g' A A'}(he:Ext g.LL g'.LL)(ha:∀ t j,A t j<=A' t j){t p}(h:F4 g A t p):F4 g' A' t p:=by
 obtain ⟨hv,a,b,h1,h2,h3,h4,h5⟩:=h;exact ⟨hv.ext he,a,b,h1,h2,h3,Nat.le_trans h4 (ha t a),Nat.le_trans h5 (ha t b)⟩
theorem lU.ext{g g' A A'}(he:Ext g.LL g'.LL)(ha:∀ t j,A t j<=A' t j){s s'}(hs:s<=s'){l r n}(h:lU g A s l n):lU g' A' s' (l++r) n:=by
 rcases h with h|⟨t,p,h1,h2,h3,h4⟩
 .exact .inl h
 .refine .inr ⟨t,p,h1.ext he ha,by omega,h3,gT.more ?_⟩;have:=h1.1.2.1;exact (gT.ext he (by omega)).2 h4
theorem lU.aBq{g g' A A'}(he:Ext g.LL g'.LL)(ha:∀ t j,A t j<=A' t j){s s'}(hs:s<=s'){l n}(h:lU g A s l n):lU g' A' s' l n:=by
 have:=h.ext (r:=[]) he ha hs
 rwa [List.append_nil] at this
theorem F4.no{C g A t p}(h:F4 g A t p)(hc:sU C A t p):False:=by
 obtain ⟨_,a,b,h1,h2,h3,h4,h5⟩:=h;obtain ⟨x,y,k1,k2,k3,_,_,k4,k5⟩:=hc;have:a=x\/a=y\/b=x\/b=y:=by omega
 rcases this with rfl|rfl|rfl|rfl<;>omega
structure z8(C:Cl)(g:Gh)(A:Int->Nat->Nat)(i:Nat)(r:dY)(send:List bQ)(g':Gh)(n:Nat):Prop where
 m:AD C g i r send g'
 grow:Grow g g'
 W8:∀ t,lI (g'.LL t) t
 le:A r.term i<=n
 a1:n<=(g'.LL r.term).length
 a3:r.role=2->n=r.log.length
 ia:∀ t p,1<=p->p<=F5 A i r.term n t i->gT g' t p r.log\/∃ u,t<u/\u<=r.term/\g'.ld u ≠ -1/\¬ gT g' t p (g'.LL u)
 new:∀ u,g.ld u = -1->g'.ld u ≠ -1->(∀ t p,Valid g t p->t<u->gT g t p (g'.LL u)\/sU C A t p)/\∀ p,¬ Valid g' u p
 old:∀ t p,g.ld t ≠ -1->Valid g' t p->(g.LL t).length<p->t=(C.nd i).rep.term/\t=r.term
 iq:∀ m∈send,m.kind=0->m.src=i/\m.term<=r.term/\(r.role=1->m.term=r.term->m.index=r.log.length/\m.prev=bE r.log r.log.length)
 iq2:r.role=1->(C.nd i).rep.term<r.term\/((C.nd i).rep.role=1/\r.term=(C.nd i).rep.term/\r.log=(C.nd i).rep.log)
 il:r.role=1->∀ x∈r.log,x.term<r.term
 iv:r.role=1->∀ x,x<3->g'.V r.term x=i->∀ t p,t<r.term->Valid g t p->p<=A t x->gT g t p r.log\/sU C A t p
 aO:∀ c,c<3->c≠i->(C.nd c).rep.role=1->(C.nd c).rep.term=r.term->r.aO=c->g.V r.term i≠c->∀ t p,t<r.term->Valid g t p->p<=A t i->gT g t p (C.nd c).rep.log\/sU C A t p
 vt:∀ c,c<3->c≠i->r.aO=((c:Nat):Int)->g.V r.term i=c\/r.term<=(C.nd c).rep.term
 im:r.role=2->∀ f,f<3->f≠i->r.gJ f<=A r.term f
 ik:∀ m∈send,m.kind=3->m.yes=true->m.src=i/\m.term=r.term/\m.index.toNat<=n
 ic:∀ m∈send,m.kind=2->lU g' (F5 A i r.term n) m.term (g'.LL m.term) m.aE.toNat
 co:lU g' (F5 A i r.term n) r.term r.log r.aE
theorem lV.led{C g A}(h:lV C g A){t p}(hv:Valid g t p):g.ld t ≠ -1:=λe=>by
 have:=h.m.none t e;have h1:=hv.1;have h2:=hv.2.1;rw [this] at h2;simp at h2;omega
theorem zB{C g}(h:SP C g){u x}(hx:x<3)(hv:g.V u x ≠ -1):u<=(C.nd x).rep.term:=by
 rcases Int.lt_or_le (C.nd x).rep.term u with hlt|hle
 .exact absurd (h.later x hx u hlt) hv
 .exact hle
theorem lV.node{C C' g g' A i n r send}(h:lV C g A)(hi:i<3)(f:z8 C g A i r send g' n)(hw:C'.Wf)(hr:(C'.nd i).rep=r)(hne:∀ j,j≠i->C'.nd j=C.nd j)(hs:∀ m∈C'.sent,m∈C.sent\/m∈send):lV C' g' (F5 A i r.term n):=by
 have hm:=h.m.node hi f.m hw hr hne hs;have he:=f.m.ext;have T8:=f.m.up;have ha:∀ t j,A t j<=F5 A i r.term n t j:=SQ f.le;have SR:∀ j,(C.nd j).rep.term<=(C'.nd j).rep.term:=λj=>by
  by_cases hji:j=i
  .subst hji;rw [hr];exact T8
  .rw [hne j hji];exact Int.le_refl _
 have C9:∀ u,g.ld u ≠ -1->g'.ld u=g.ld u:=λu hu=>by
  rcases f.m.ld u with e|⟨e,_⟩
  .exact e
  .exact absurd e hu
 have a8A:∀ t x,t<(C.nd x).rep.term->F5 A i r.term n t x=A t x:=λt x ht=>sV _ _ λhc=>by
  obtain ⟨rfl,rfl⟩:=hc;omega
 have can:∀ t p,sU C A t p->sU C' (F5 A i r.term n) t p:=λt p hc=>by
  obtain ⟨x,y,h1,h2,h3,h4,h5,h6,h7⟩:=hc;have hx:=SR x;have hy:=SR y;exact ⟨x,y,h1,h2,h3,by omega,by omega,by rw [a8A t x h4];exact h6,by rw [a8A t y h5];exact h7⟩
 have b2w:∀ t p,Valid g' t p->g'.ld t ≠ -1:=λt p hv e=>by
  have h1:=hm.none t e;have h2:=hv.1;have h3:=hv.2.1;rw [h1] at h3;simp at h3;omega
 have fresh:∀ t p,Valid g' t p->(g.LL t).length<p->g.ld t ≠ -1/\t=(C.nd i).rep.term/\t=r.term:=λt p hv hp=>by
  have hl:g.ld t ≠ -1:=λe=>(f.new t e (b2w t p hv)).2 p hv;exact ⟨hl,f.old t p hl hv hp⟩
 refine ⟨hm,f.W8,λt j=>?_,λt j hj hp=>?_,λj hj cY=>?_,λt j p hj h1 hp=>?_,λt u p hv htu hu=>?_,λm hmem hk=>?_,λc hc cY=>?_,λc hc cY x hx hV t p ht hv hp=>?_,λt x c hx hc hV=>?_,λj hj cY k hk hkj=>?_,λm hmem hk hy=>?_,λm hmem hk=>?_,λj hj=>?_⟩
 .by_cases hc:t=r.term/\j=i
  .obtain ⟨rfl,rfl⟩:=hc;rw [xY];exact f.a1
  .rw [sV _ _ hc];obtain ⟨s,e⟩:=he t;have:=h.a1 t j;rw [e,List.length_append];omega
 .by_cases hc:t=r.term/\j=i
  .obtain ⟨rfl,rfl⟩:=hc;rw [hr];exact Int.le_refl _
  .rw [sV _ _ hc] at hp;exact Int.le_trans (h.a2 t j hj hp) (SR j)
 .by_cases hji:j=i
  .subst hji;rw [hr] at cY ⊢;rw [xY];exact f.a3 cY
  .rw [hne j hji] at cY ⊢;rw [sV _ _ (λhc=>hji hc.2)];exact h.a3 j hj cY
 .by_cases hji:j=i
  .subst hji;rw [hr];exact f.ia t p h1 hp
  .rw [sV _ _ (λhc=>hji hc.2)] at hp;rw [hne j hji];have hpl:=Nat.le_trans hp (h.a1 t j);rcases h.ia t j p hj h1 hp with h2|⟨u,h2,h3,h4,h5⟩
   .exact .inl ((gT.ext he hpl).2 h2)
   .exact .inr ⟨u,h2,h3,by rw [C9 u h4];exact h4,λhh=>h5 (V6 he f.grow (h.W8 t) h2 hpl h4 hh)⟩
 .by_cases hp:p<=(g.LL t).length
  .have hv0:=hv.back he hp;by_cases e:g.ld u = -1
   .rcases (f.new u e hu).1 t p hv0 htu with h1|h1
    .exact .inl ((gT.ext he hp).2 h1)
    .exact .inr (can t p h1)
   .rcases h.ib t u p hv0 htu e with h1|h1
    .obtain ⟨s,es,_⟩:=f.grow u e;refine .inl ((gT.ext he hp).2 ?_);rw [es];exact h1.more
    .exact .inr (can t p h1)
  .obtain ⟨_,e1,e2⟩:=fresh t p hv (by omega);have e:g.ld u ≠ -1:=λe=>by
    rcases f.m.ld u with e3|⟨_,_,e3,_⟩
    .exact hu (by rw [e3];exact e)
    .omega
   obtain ⟨x,y,hx,hy,hxy,hvx,hvy⟩:=h.m.quo u e;have tx:=zB h.m hx (by rw [hvx];exact e);have ty:=zB h.m hy (by rw [hvy];exact e);have ux:=SR x;have uy:=SR y;have ax:=h.a1 t x;have ay:=h.a1 t y;exact .inr ⟨x,y,hx,hy,hxy,by omega,by omega,by rw [a8A t x (by omega)];omega,by rw [a8A t y (by omega)];omega⟩
 .rcases hs m hmem with h1|h1
  .obtain ⟨c,hc,a1,a2,a3⟩:=h.iq m h1 hk;refine ⟨c,hc,a1,Int.le_trans a2 (SR c),?_⟩;by_cases hci:c=i
   .subst hci;rw [hr];intro hro ht;rcases f.iq2 hro with h2|⟨h2,h3,h4⟩
    .omega
    .rw [h4];exact a3 h2 (by omega)
   .rw [hne c hci];exact a3
  .obtain ⟨a1,a2,a3⟩:=f.iq m h1 hk;exact ⟨i,hi,a1,by rw [hr];exact a2,by rw [hr];exact a3⟩
 .by_cases hci:c=i
  .subst hci;rw [hr] at cY ⊢;exact f.il cY
  .rw [hne c hci] at cY ⊢;exact h.il c hc cY
 .by_cases hci:c=i
  .subst hci;rw [hr] at cY hV ht ⊢;have hpl:p<=(g.LL t).length:=Decidable.byContradiction λhn=>by
    obtain ⟨_,_,e2⟩:=fresh t p hv (by omega);omega
   have hv0:=hv.back he hpl;rw [sV _ _ (λhc=>by omega)] at hp;rcases f.iv cY x hx hV t p ht hv0 hp with h1|h1
   .exact .inl ((gT.ext he hpl).2 h1)
   .exact .inr (can t p h1)
  .rw [hne c hci] at cY hV ht ⊢;have hcx:g.V (C.nd c).rep.term x=c->(C.nd c).rep.term<=(C.nd x).rep.term:=λe=>zB h.m hx (by rw [e];omega);by_cases hpl:p<=(g.LL t).length
   .have hv0:=hv.back he hpl;have fin:gT g t p (C.nd c).rep.log\/sU C A t p->gT g' t p (C.nd c).rep.log\/sU C' (F5 A i r.term n) t p:=λq=>by
     rcases q with h1|h1
     .exact .inl ((gT.ext he hpl).2 h1)
     .exact .inr (can t p h1)
    by_cases hold:g.V (C.nd c).rep.term x=c
    .have:=hcx hold;rw [a8A t x (by omega)] at hp;exact fin (h.iv c hc cY x hx hold t p ht hv0 hp)
    .rw [f.m.V] at hV;by_cases hch:(C.nd c).rep.term=r.term/\x=i
     .obtain ⟨e1,rfl⟩:=hch;rw [e1,jA] at hV;rw [sV _ _ (λhc=>by omega)] at hp;exact fin (f.aO c hc hci cY e1 hV (by rw [<-e1];exact hold) t p (by omega) hv0 hp)
     .rw [lT _ _ hch] at hV;exact absurd hV hold
   .exfalso;obtain ⟨_,e1,e2⟩:=fresh t p hv (by omega);have ax:=h.a1 t x;by_cases hxi:x=i
    .subst hxi;rw [f.m.V,lT _ _ (λhc=>by omega)] at hV;have:=hcx hV;omega
    .rw [sV _ _ (λhc=>hxi hc.2)] at hp;omega
 .rw [f.m.V] at hV;by_cases hch:t=r.term/\x=i
  .obtain ⟨rfl,rfl⟩:=hch;rw [jA] at hV;by_cases hci:c=x
   .subst hci;rw [hr];exact Int.le_refl _
   .rcases f.vt c hc hci hV with e|e
    .exact Int.le_trans (h.vt _ _ c hx hc e) (SR c)
    .exact Int.le_trans e (SR c)
  .rw [lT _ _ hch] at hV;exact Int.le_trans (h.vt t x c hx hc hV) (SR c)
 .by_cases hji:j=i
  .subst hji;rw [hr] at cY ⊢;exact Nat.le_trans (f.im cY k hk hkj) (ha _ _)
  .rw [hne j hji] at cY ⊢;exact Nat.le_trans (h.im j hj cY k hk hkj) (ha _ _)
 .rcases hs m hmem with h1|h1
  .obtain ⟨k,hk3,a1,a2⟩:=h.ik m h1 hk hy;exact ⟨k,hk3,a1,Nat.le_trans a2 (ha _ _)⟩
  .obtain ⟨a1,a2,a3⟩:=f.ik m h1 hk hy;exact ⟨i,hi,a1,by rw [a2,xY];exact a3⟩
 .rcases hs m hmem with h1|h1
  .obtain ⟨s,e⟩:=he m.term;rw [e];exact (h.ic m h1 hk).ext he ha (Int.le_refl _)
  .exact f.ic m h1 hk
 .by_cases hji:j=i
  .subst hji;rw [hr];exact f.co
  .rw [hne j hji];exact (h.co j hj).aBq he ha (Int.le_refl _)
theorem F6(A i t):F5 A i t (A t i)=A:=by
 funext u j
 unfold F5;split
 .rename_i hc;obtain ⟨rfl,rfl⟩:=hc;rfl
 .rfl
theorem KV{g g'}(h:g'.LL=g.LL):Grow g g':=λu _=>⟨[],by rw [h,List.append_nil],λx hx=>by cases hx⟩
theorem vI{g g'}(h:g'.LL=g.LL){t p l}:gT g' t p l ↔ gT g t p l:=by unfold gT;rw [h]
theorem a5E{g g'}(h:g'.LL=g.LL){A s l n}(hs:lU g A s l n):lU g' A s l n :=
 hs.aBq (λt=>⟨[],by rw [h,List.append_nil]⟩) (λ_ _=>Nat.le_refl _) (Int.le_refl _)
theorem F7{C g g' A}(h:lV C g A){i}(hi:i<3){r send}(fm:AD C g i r send g')(pM:g'.LL=g.LL)(C9:g'.ld=g.ld)(qT:r.log=(C.nd i).rep.log)(h1:r.role=1->(C.nd i).rep.role=1/\r.term=(C.nd i).rep.term)(h2:r.role=2->(C.nd i).rep.role=2/\r.term=(C.nd i).rep.term)(a8r:r.role=1->∀ x,x<3->g'.V r.term x=i->g.V r.term x=i)(aW8:∀ c,c<3->c≠i->(C.nd c).rep.role=1->(C.nd c).rep.term=r.term->r.aO=c->g.V r.term i≠c->∀ t p,t<r.term->Valid g t p->p<=A t i->gT g t p (C.nd c).rep.log\/sU C A t p)(hvt:∀ c,c<3->c≠i->r.aO=((c:Nat):Int)->g.V r.term i=c\/r.term<=(C.nd c).rep.term)(him:r.role=2->∀ f,f<3->f≠i->r.gJ f<=A r.term f)(hk0:∀ m∈send,m.kind≠0)(hik:∀ m∈send,m.kind=3->m.yes=true->m.src=i/\m.term=r.term/\m.index.toNat<=A r.term i)(hic:∀ m∈send,m.kind=2->lU g A m.term (g.LL m.term) m.aE.toNat)(hco:lU g A r.term r.log r.aE):z8 C g A i r send g' (A r.term i):=by
 refine ⟨fm,KV pM,by rw [pM];exact h.W8,Nat.le_refl _,by rw [pM];exact h.a1 _ _,λhr=>?_,λt p hp1 hp=>?_,λu hu eG=>absurd hu (by rw [<-C9];exact eG),λt p _ hv hlt=>?_,λm hm hk=>absurd hk (hk0 m hm),λhr=>?_,λhr=>?_,λhr x hx hv t p ht hval hp=>?_,aW8,hvt,him,hik,λm hm hk=>?_,?_⟩
 .obtain ⟨a,b⟩:=h2 hr;rw [b,qT];exact h.a3 i hi a
 .rw [F6] at hp;rw [qT];rcases h.ia t i p hi hp1 hp with q|⟨u,q1,q2,q3,q4⟩
  .exact .inl ((vI pM).2 q)
  .exact .inr ⟨u,q1,Int.le_trans q2 fm.up,by rw [C9];exact q3,λhh=>q4 (by rw [pM] at hh;exact (vI pM).1 hh)⟩
 .have:=hv.2.1;rw [pM] at this;omega
 .obtain ⟨a,b⟩:=h1 hr;exact .inr ⟨a,b,qT⟩
 .obtain ⟨a,b⟩:=h1 hr;rw [qT,b];exact h.il i hi a
 .obtain ⟨a,b⟩:=h1 hr;have:=a8r hr x hx hv;rw [b] at this ht;rw [qT];exact h.iv i hi a x hx this t p ht hval hp
 .rw [F6,pM];exact a5E pM (hic m hm hk)
 .rw [F6];exact a5E pM hco
theorem aBr{C g}(h:SP C g){i}(hi:i<3):AD C g i (dU i (C.nd i).FK (C.nd i).WJ (C.nd i).a01) [] g:=by
 obtain ⟨h1,h2,h3⟩:=h.wf.XO i hi;refine ⟨?_,by show _<=(C.nd i).FK;omega,λ_ _=>h2,λm hm=>(by cases hm),λt=>.inl rfl,Ext.refl _,λt=>.inl rfl,λhr=>(by cases (show (0:Int)=1 from hr)),λhr=>(by cases (show (0:Int)=2 from hr)),?_,λm hm=>(by cases hm)⟩
 .funext t j
  by_cases hc:t=(C.nd i).FK/\j=i
  .obtain ⟨rfl,rfl⟩:=hc;have:=h.now j hi;rw [<-h1,<-h2] at this;rw [this];exact (jA _ _ _ _).symm
  .exact (lT _ _ hc).symm
 .show rR g.LL (C.nd i).a01;rw [h3];exact h.log i hi
theorem lV.start{C g A}(h:lV C g A){i}(hi:i<3):lV (EY C i) g A:=by
 obtain ⟨h1,h2,h3⟩:=h.m.wf.XO i hi;have e:((EY C i).nd i).rep=dU i (C.nd i).FK (C.nd i).WJ (C.nd i).a01:=by
  unfold EY;simp only [cI];rfl
 have f:z8 C g A i (dU i (C.nd i).FK (C.nd i).WJ (C.nd i).a01) [] g (A (dU i (C.nd i).FK (C.nd i).WJ (C.nd i).a01).term i) :=
  F7 h hi (aBr h.m hi) rfl rfl h3 (λhr=>(by cases (show (0:Int)=1 from hr))) (λhr=>(by cases (show (0:Int)=2 from hr))) (λhr=>(by cases (show (0:Int)=1 from hr)))
   (λc hc hci hro ht hv hV=>absurd (by
    have:=h.m.now i hi;show g.V (C.nd i).FK i=c;rw [h1,this,<-h2];exact hv) hV)
   (λc hc hci hv=>.inl (by
    have:=h.m.now i hi;show g.V (C.nd i).FK i=c;rw [h1,this,<-h2];exact hv)) (λhr=>(by cases (show (0:Int)=2 from hr))) (λm hm=>(by cases hm)) (λm hm=>(by cases hm)) (λm hm=>(by cases hm)) (.inl rfl)
 have:=h.node hi f (aJl h.m.wf hi) e (λj hj=>fR _ _ hj) λm hm=>.inl hm
 rwa [F6] at this
theorem aFi{C g}(h:SP C g){i}(hi:i<3):JX g.V i (C.nd i).rep.term (C.nd i).rep.aO=g.V:=by
 funext t j
 by_cases hc:t=(C.nd i).rep.term/\j=i
 .obtain ⟨rfl,rfl⟩:=hc;rw [jA];exact (h.now j hi).symm
 .exact lT _ _ hc
theorem aBs{g A r}(hs:lU g A r.term (g.LL r.term) r.aE):∀ m∈cU r,lU g A m.term (g.LL m.term) m.aE.toNat:=λm hm=>by
 unfold cU at hm;obtain ⟨f,_,rfl⟩:=List.mem_map.1 hm;exact hs
theorem Y8{C g g' A}(h:lV C g A){i}(hi:i<3){send}(fm:AD C g i (C.nd i).rep send g')(pM:g'.LL=g.LL)(C9:g'.ld=g.ld)(hk0:∀ m∈send,m.kind≠0)(hik:∀ m∈send,m.kind=3->m.yes=true->m.src=i/\m.term=(C.nd i).rep.term/\m.index.toNat<=A (C.nd i).rep.term i)(hic:∀ m∈send,m.kind=2->lU g A m.term (g.LL m.term) m.aE.toNat):
  z8 C g A i (C.nd i).rep send g' (A (C.nd i).rep.term i) :=
 F7 h hi fm pM C9 rfl (λhr=>⟨hr,rfl⟩) (λhr=>⟨hr,rfl⟩) (λ_ x _ hv=>by rw [fm.V,aFi h.m hi] at hv;exact hv) (λc _ _ _ _ hv hV=>absurd ((h.m.now i hi).trans hv) hV) (λc _ _ hv=>.inl ((h.m.now i hi).trans hv)) (h.im i hi) hk0 hik hic (h.co i hi)
theorem aRi{C g A}(h:lV C g A){i}(hi:i<3):∃ g' n,z8 C g A i (eA (C.nd i).rep).1 (eA (C.nd i).rep).2.send g' n:=by
 obtain ⟨hw,hid⟩:=h.m.wf.rep i hi;obtain ⟨g',fm,pM,C9⟩:=aRe h.m hi;by_cases h2:(C.nd i).rep.role=2
 .have e:eA (C.nd i).rep=((C.nd i).rep,nE (cU (C.nd i).rep)):=if_pos h2;rw [e] at fm ⊢;refine ⟨g',_,Y8 h hi fm pM C9 (λm hm=>by rw [qC _ m hm];decide) (λm hm hk=>by rw [qC _ m hm] at hk;cases hk) λm hm _=>aBs ?_ m hm⟩;rw [(h.m.lead i hi h2).2];exact h.co i hi
 by_cases h3:(C.nd i).rep.term=1099511627776
 .have e:eA (C.nd i).rep=((C.nd i).rep,kR):=by unfold eA;rw [if_neg h2,if_pos h3]
  rw [e] at fm ⊢;exact ⟨g',_,Y8 h hi fm pM C9 (λm hm=>by cases hm) (λm hm=>by cases hm) (λm hm=>by cases hm)⟩
 .obtain ⟨r',hr'⟩:∃ r':dY,({ (C.nd i).rep with term:=(C.nd i).rep.term+1,aO:=(C.nd i).rep.id,role:=1,cK:=λk=>decide (k=(C.nd i).rep.id) }:dY)=r':=⟨_,rfl⟩;have e1:(eA (C.nd i).rep).1=r':=by unfold eA;rw [if_neg h2,if_neg h3,<-hr']
  have e2:(eA (C.nd i).rep).2.send=(aT (C.nd i).rep.id).map λk=>vU r' k:=by unfold eA;rw [if_neg h2,if_neg h3,<-hr']
  rw [e1,e2] at fm ⊢;have t1:r'.term=(C.nd i).rep.term+1:=by rw [<-hr']
  have l1:r'.log=(C.nd i).rep.log:=by rw [<-hr']
  have v1:r'.aO=i:=by rw [<-hr',hid]
  have i1:r'.id=i:=by rw [<-hr',hid]
  have c1:r'.aE=(C.nd i).rep.aE:=by rw [<-hr']
  have o1:r'.role=1:=by rw [<-hr']
  have aGr:∀ m∈(aT (C.nd i).rep.id).map (λk=>vU r' k),∃ k,m=vU r' k:=λm hm=>by
   obtain ⟨k,_,rfl⟩:=List.mem_map.1 hm;exact ⟨k,rfl⟩
  have mine:∀ t p,Valid g t p->p<=A t i->gT g t p (C.nd i).rep.log\/sU C A t p:=λt p hv hp=>by
   rcases h.ia t i p hi hv.1 hp with q|⟨u,q1,_,q3,q4⟩
   .exact .inl q
   .rcases h.ib t u p hv q1 q3 with q|q
    .exact absurd q q4
    .exact .inr q
  refine ⟨g',A r'.term i,fm,KV pM,by rw [pM];exact h.W8,Nat.le_refl _,by rw [pM];exact h.a1 _ _,λhr=>by omega,λt p hp1 hp=>?_,λu hu eG=>absurd hu (by rw [<-C9];exact eG),λt p _ hv hlt=>?_,λm hm hk=>?_,λ_=>.inl (by omega),λ_ x hx=>?_,λ_ x hx hV t p ht hv hp=>?_,λc _ hci _ _ hv=>absurd (by rw [v1] at hv;omega) hci,λc _ hci hv=>absurd (by rw [v1] at hv;omega) hci,λhr=>by omega,λm hm hk=>?_,λm hm hk=>?_,?_⟩
  .rw [F6] at hp;rw [l1];rcases h.ia t i p hi hp1 hp with q|⟨u,q1,q2,q3,q4⟩
   .exact .inl ((vI pM).2 q)
   .exact .inr ⟨u,q1,by omega,by rw [C9];exact q3,λhh=>q4 (by rw [pM] at hh;exact (vI pM).1 hh)⟩
  .have:=hv.2.1;rw [pM] at this;omega
  .obtain ⟨k,rfl⟩:=aGr m hm;exact ⟨by show (r'.id:Int)=i;rw [i1],Int.le_refl _,λ_ _=>⟨rfl,rfl⟩⟩
  .rw [l1] at hx;have:=hw.ok.log.hi x hx;omega
  .rw [l1];by_cases hxi:x=i
   .subst hxi;exact mine t p hv hp
   .rw [fm.V,lT _ _ (λhc=>hxi hc.2)] at hV;have:=h.vt _ x i hx hi hV;omega
  .obtain ⟨k,rfl⟩:=aGr m hm;cases hk
  .obtain ⟨k,rfl⟩:=aGr m hm;cases hk
  .rw [F6,l1,c1];exact a5E pM ((h.co i hi).aBq (Ext.refl _) (λ_ _=>Nat.le_refl _) (by omega))
theorem aRj{C g A}(h:lV C g A){i}(hi:i<3)(data):∃ g' n,z8 C g A i (aL (C.nd i).rep data).1 (aL (C.nd i).rep data).2.2.2.send g' n:=by
 obtain ⟨hw,hid⟩:=h.m.wf.rep i hi;have hw':=(z7 hw data).1;obtain ⟨g',fm,C9,hLo,hL0⟩:=aRf h.m hi data;have same:aL (C.nd i).rep data=((C.nd i).rep,(aL (C.nd i).rep data).2.1,(aL (C.nd i).rep data).2.2.1,kR)->∃ g' n,z8 C g A i (aL (C.nd i).rep data).1 (aL (C.nd i).rep data).2.2.2.send g' n:=λe=>by
  rw [e] at fm hL0 ⊢;exact ⟨g',_,Y8 h hi fm (hL0 rfl) C9 (λm hm=>by cases hm) (λm hm=>by cases hm) (λm hm=>by cases hm)⟩
 by_cases h2:(C.nd i).rep.role=2
 .by_cases h3:2000<(data.size:Int)
  .exact same (by unfold aL;rw [if_neg (by simpa using h2),if_pos h3])
  by_cases h4:(C.nd i).rep.log.length=4000
  .exact same (by unfold aL;rw [if_neg (by simpa using h2),if_neg h3,if_pos h4])
  obtain ⟨x,hx⟩:∃ x:bT,x=⟨(C.nd i).rep.term,data⟩:=⟨_,rfl⟩;obtain ⟨r',hr'⟩:∃ r':dY,({ (C.nd i).rep with log:=(C.nd i).rep.log++[x] }:dY)=r':=⟨_,rfl⟩;have e1:(aL (C.nd i).rep data).1=r':=by unfold aL;rw [if_neg (by simpa using h2),if_neg h3,if_neg h4,<-hr',hx]
  have e2:(aL (C.nd i).rep data).2.2.2.send=cU r':=by unfold aL;rw [if_neg (by simpa using h2),if_neg h3,if_neg h4,<-hr',hx]
  rw [e1,e2] at fm ⊢;rw [e1] at hw';have t1:r'.term=(C.nd i).rep.term:=by rw [<-hr']
  have l1:r'.log=(C.nd i).rep.log++[x]:=by rw [<-hr']
  have v1:r'.aO=(C.nd i).rep.aO:=by rw [<-hr']
  have c1:r'.aE=(C.nd i).rep.aE:=by rw [<-hr']
  have o1:r'.role=2:=by rw [<-hr'];exact h2
  have m1:r'.gJ=(C.nd i).rep.gJ:=by rw [<-hr']
  obtain ⟨hl1,hl2⟩:=h.m.lead i hi h2;have M6:g'.LL (C.nd i).rep.term=(C.nd i).rep.log++[x]:=by have:=(fm.lead o1).2;rw [t1,l1] at this;exact this
  have ha3:=h.a3 i hi h2;have he:=fm.ext;have hgrow:Grow g g':=λu _=>by
   by_cases hu:u=(C.nd i).rep.term
   .subst hu;exact ⟨[x],by rw [M6,hl2],λy hy=>by rw [List.mem_singleton.1 hy,hx]⟩
   .exact ⟨[],by rw [hLo u hu,List.append_nil],λy hy=>by cases hy⟩
  have hle:A r'.term i<=(C.nd i).rep.log.length+1:=by rw [t1,ha3];omega
  have hco:lU g' (F5 A i r'.term ((C.nd i).rep.log.length+1)) r'.term r'.log r'.aE:=by
   rw [l1,c1];exact (h.co i hi).ext he (SQ hle) (by omega)
  refine ⟨g',(C.nd i).rep.log.length+1,fm,hgrow,λt=>?_,hle,by rw [t1,M6];simp,λ_=>by rw [l1];simp,λt p hp1 hp=>?_,λu hu eG=>absurd hu (by rw [<-C9];exact eG),λt p _ hv hlt=>?_,λm hm hk=>(by rw [qC _ m hm] at hk;cases hk),λhr=>by omega,λhr=>by omega,λhr=>by omega,λc _ _ _ _ hv hV=>absurd (by rw [t1,h.m.now i hi,<-v1];exact hv) hV,λc _ _ hv=>.inl (by rw [t1,h.m.now i hi,<-v1];exact hv),λ_ f hf hfi=>by rw [m1,t1];exact h.im i hi h2 f hf hfi,λm hm hk=>(by rw [qC _ m hm] at hk;cases hk),λm hm _=>aBs ?_ m hm,hco⟩
  .by_cases ht:t=(C.nd i).rep.term
   .rw [ht,M6,<-l1,<-t1];exact hw'.ok.log
   .rw [hLo t ht];exact h.W8 t
  .by_cases ht:t=(C.nd i).rep.term
   .subst ht;rw [<-t1,xY] at hp;refine .inl ⟨by rw [l1];simp;omega,by rw [l1,M6]⟩
   .rw [sV _ _ (λhc=>ht (by rw [<-t1];exact hc.1))] at hp;have hpl:=Nat.le_trans hp (h.a1 t i);rcases h.ia t i p hi hp1 hp with q|⟨u,q1,q2,q3,q4⟩
    .rw [l1];exact .inl ((gT.ext he hpl).2 q.more)
    .exact .inr ⟨u,q1,by omega,by rw [C9];exact q3,λhh=>q4 (V6 he hgrow (h.W8 t) q1 hpl q3 hh)⟩
  .by_cases ht:t=(C.nd i).rep.term
   .exact ⟨ht,by rw [t1];exact ht⟩
   .have:=hv.2.1;rw [hLo t ht] at this;omega
  .rw [(fm.lead o1).2];exact hco
 .exact same (by unfold aL;rw [if_pos h2])
theorem aRk{C g g' A}(h:lV C g A){i}(hi:i<3){r send}(fm:AD C g i r send g')(h1:(C.nd i).rep.role=1)(o1:r.role=2)(t1:r.term=(C.nd i).rep.term)(l1:r.log=(C.nd i).rep.log)(c1:r.aE=(C.nd i).rep.aE)(v1:r.aO=(C.nd i).rep.aO)(m1:∀ f,r.gJ f=0)(hfree:g.ld r.term = -1)(hsame:∀ t,t≠r.term->g'.LL t=g.LL t/\g'.ld t=g.ld t)(hsend:send=cU r)(hq:∃ a b,a<3/\b<3/\a≠b/\g.V r.term a=i/\g.V r.term b=i):
  z8 C g A i r send g' r.log.length:=by
 obtain ⟨hw,hid⟩:=h.m.wf.rep i hi;have he:=fm.ext;have hL0:g.LL r.term=[]:=h.m.none _ hfree;have hA0:A r.term i=0:=by have:=h.a1 r.term i;rw [hL0] at this;simpa using this
 obtain ⟨hl1,hl2⟩:=fm.lead o1;have hgrow:Grow g g':=λu hu=>⟨[],by rw [(hsame u (λe=>hu (by rw [e];exact hfree))).1,List.append_nil],λx hx=>by cases hx⟩;have hle:A r.term i<=r.log.length:=by omega
 have hco:lU g' (F5 A i r.term r.log.length) r.term r.log r.aE:=by
  rw [l1,c1];exact (h.co i hi).aBq he (SQ (by rw [<-l1];exact hle)) (by omega)
 have hil:=h.il i hi h1;have hk:∀ m∈send,m.kind=2:=by rw [hsend];exact qC r
 refine ⟨fm,hgrow,λt=>?_,hle,by rw [hl2];exact Nat.le_refl _,λ_=>rfl,λt p hp1 hp=>?_,λu hu eG=>?_,λt p hl hv hlt=>?_,λm hm hk0=>(by rw [hk m hm] at hk0;cases hk0),λhr=>by omega,λhr=>by omega,λhr=>by omega,
  λc _ _ _ _ hv hV=>absurd (by rw [t1,h.m.now i hi,<-v1];exact hv) hV,λc _ _ hv=>.inl (by rw [t1,h.m.now i hi,<-v1];exact hv),λ_ f _ _=>by rw [m1];exact Nat.zero_le _,λm hm hk0=>(by rw [hk m hm] at hk0;cases hk0),λm hm _=>?_,hco⟩
 .by_cases ht:t=r.term
  .rw [ht,hl2,l1,t1];exact hw.ok.log
  .rw [(hsame t ht).1];exact h.W8 t
 .by_cases ht:t=r.term
  .subst ht;rw [xY] at hp;exact .inl ⟨hp,by rw [hl2]⟩
  .rw [sV _ _ (λhc=>ht hc.1)] at hp;have hpl:=Nat.le_trans hp (h.a1 t i);rcases h.ia t i p hi hp1 hp with q|⟨u,q1,q2,q3,q4⟩
   .rw [l1];exact .inl ((gT.ext he hpl).2 q)
   .have hu:u≠r.term:=λe=>q3 (by rw [e];exact hfree);exact .inr ⟨u,q1,by omega,by rw [(hsame u hu).2];exact q3,λhh=>q4 (V6 he hgrow (h.W8 t) q1 hpl q3 hh)⟩
 .have hu1:u=r.term:=Decidable.byContradiction λe=>eG (by rw [(hsame u e).2];exact hu);subst hu1;refine ⟨λt p hv ht=>?_,λp hv=>?_⟩
  .obtain ⟨a,b,ha,hb,hab,hva,hvb⟩:=hq;rw [hl2,l1];have ta:=zB h.m ha (by rw [hva];omega);have tb:=zB h.m hb (by rw [hvb];omega);by_cases h3:p<=A t a
   .exact h.iv i hi h1 a ha (by rw [<-t1];exact hva) t p (by omega) hv h3
   by_cases h4:p<=A t b
   .exact h.iv i hi h1 b hb (by rw [<-t1];exact hvb) t p (by omega) hv h4
   exact .inr ⟨a,b,ha,hb,hab,by omega,by omega,by omega,by omega⟩
  .obtain ⟨h3,h4,h5⟩:=hv;rw [hl2,l1] at h4 h5;obtain ⟨q,rfl⟩:∃ q,p=q+1:=⟨p - 1,by omega⟩;obtain ⟨x,hx⟩:∃ x,(C.nd i).rep.log[q]? = some x:=⟨_,List.getElem?_eq_getElem h4⟩;rw [rL hx] at h5;have:=hil x (List.mem_of_getElem? hx);omega
 .have ht:t≠r.term:=λe=>hl (by rw [e];exact hfree);have:=hv.2.1;rw [(hsame t ht).1] at this;omega
 .rw [hsend] at hm;exact aBs (by rw [hl2];exact hco) m hm
theorem a33{LL l}(h:rR LL l)(h0:0<l.length):l=(LL (bE l l.length)).take l.length/\l.length<=(LL (bE l l.length)).length/\∃ z,l[l.length - 1]? = some z/\z.term=bE l l.length:=by
 obtain ⟨n,hn⟩:∃ n,l.length=n+1:=⟨l.length - 1,by omega⟩;obtain ⟨z,hz⟩:∃ z,l[n]? = some z:=⟨_,List.getElem?_eq_getElem (by omega)⟩;have e:=h n z hz;have hl:=take_len (by omega) e;rw [hn,rL hz];refine ⟨?_,by omega,z,by rw [Nat.add_sub_cancel];exact hz,rfl⟩;rw [<-e,<-hn,List.take_length]
theorem aBt{C g A}(h:lV C g A){x c}(hx:x<3)(hc:c<3)(hfr:bE (C.nd x).rep.log (C.nd x).rep.log.length<bE (C.nd c).rep.log (C.nd c).rep.log.length\/(bE (C.nd c).rep.log (C.nd c).rep.log.length=bE (C.nd x).rep.log (C.nd x).rep.log.length/\(C.nd x).rep.log.length<=(C.nd c).rep.log.length)){t p}(hv:Valid g t p)(hp:gT g t p (C.nd x).rep.log):gT g t p (C.nd c).rep.log\/sU C A t p:=by
 have px:=h.m.log x hx;have pc:=h.m.log c hc;have sx:=(h.m.wf.rep x hx).1.ok.log;generalize (C.nd x).rep.log=a at px sx hp hfr;generalize hb:(C.nd c).rep.log=b at pc hfr ⊢;obtain ⟨v1,v2,v3⟩:=hv;obtain ⟨p1,p2⟩:=hp;obtain ⟨ea,la,z,hz,hzt⟩:=a33 px (by omega);have hb0:0<b.length:=by
  rcases hfr with q|q
  .rcases Nat.eq_zero_or_pos b.length with e|e
   .rw [e] at q;have h1:=sx.lo z (List.mem_of_getElem? hz);have:bE b 0=0:=rfl;omega
   .exact e
  .omega
 obtain ⟨eb,lb,y,hy,hyt⟩:=a33 pc hb0;rcases hfr with q|⟨q1,q2⟩
 ·-- the asker's last term is greater
  obtain ⟨k,rfl⟩:∃ k,p=k+1:=⟨p - 1,by omega⟩;obtain ⟨e,he⟩:∃ e,(g.LL t)[k]? = some e:=⟨_,List.getElem?_eq_getElem v2⟩;rw [rL he] at v3;have hea:a[k]? = some e:=by
   have:=congrArg (λl=>l[k]?) p2;simp only [List.getElem?_take_of_lt (show k<k+1 by omega)] at this;rw [this,he]
  have hts:t<=bE a a.length:=by
   have h1:=sx.W8 k (a.length - 1) (by omega) (by omega) (by omega);have e1:a[k]=e:=by have:=hea;rw [List.getElem?_eq_getElem (by omega)] at this;simpa using this
   have e2:a[a.length - 1]=z:=by have:=hz;rw [List.getElem?_eq_getElem (by omega)] at this;simpa using this
   rw [e1,e2,v3,hzt] at h1;exact h1
  have b2y:g.ld (bE b b.length) ≠ -1:=λe=>by
   rw [h.m.none _ e] at lb;simp at lb;rw [lb] at hb0;simp at hb0
  rcases h.ib t (bE b b.length) (k+1) ⟨v1,v2,by rw [rL he];exact v3⟩ (by omega) b2y with ⟨r1,r2⟩|r
  .left
   have hkb:k+1<=b.length:=Decidable.byContradiction λhn=>by
    have h1:(g.LL (bE b b.length))[b.length - 1]? = some y:=by
     have:=hy;rw [eb,List.getElem?_take_of_lt (by rw [List.length_take];omega)] at this;rw [List.length_take,Nat.min_eq_left lb] at this;exact this
    have h2:(g.LL t)[b.length - 1]? = some y:=by
     have:=congrArg (λl=>l[b.length - 1]?) r2;simp only [List.getElem?_take_of_lt (show b.length - 1<k+1 by omega)] at this;rw [<-this,h1]
    have:=(h.W8 t).hi y (List.mem_of_getElem? h2);omega
   refine ⟨hkb,?_⟩;rw [eb,List.take_take,Nat.min_eq_left hkb];exact r2
  .exact .inr r
 .left
  refine ⟨by omega,?_⟩;rw [<-p2,eb,ea,q1,List.take_take,List.take_take]
  congr 1
  omega
theorem mine{C g A}(h:lV C g A){i}(hi:i<3){t p}(hv:Valid g t p)(hp:p<=A t i):gT g t p (C.nd i).rep.log\/sU C A t p:=by
 rcases h.ia t i p hi hv.1 hp with q|⟨u,q1,_,q3,q4⟩
 .exact .inl q
 .rcases h.ib t u p hv q1 q3 with q|q
  .exact absurd q q4
  .exact .inr q
theorem oQ{C g g' A}(h:lV C g A){i}(hi:i<3){r send}(fm:AD C g i r send g')(pM:g'.LL=g.LL)(C9:g'.ld=g.ld)(qT:r.log=(C.nd i).rep.log)(h1:r.role=1->(C.nd i).rep.role=1/\r.term=(C.nd i).rep.term)(h2:r.role=2->(C.nd i).rep.role=2/\r.term=(C.nd i).rep.term)(hv:(r.term=(C.nd i).rep.term/\r.aO=(C.nd i).rep.aO)\/r.aO = -1)(him:r.role=2->∀ f,f<3->f≠i->r.gJ f<=A r.term f)(hk0:∀ m∈send,m.kind≠0)(hik:∀ m∈send,m.kind=3->m.yes=true->m.src=i/\m.term=r.term/\m.index.toNat<=A r.term i)(hic:∀ m∈send,m.kind=2->lU g A m.term (g.LL m.term) m.aE.toNat)(hco:lU g A r.term r.log r.aE):z8 C g A i r send g' (A r.term i):=by
 have JG:∀ c:Nat,r.aO=c->g.V r.term i=c:=λc hc=>by
  rcases hv with ⟨a,b⟩|b
  .rw [a,h.m.now i hi,<-b];exact hc
  .omega
 refine F7 h hi fm pM C9 qT h1 h2 (λhr x hx hV=>?_) (λc _ _ _ _ hc hV=>absurd (JG c hc) hV) (λc _ _ hc=>.inl (JG c hc)) him hk0 hik hic hco;rw [fm.V] at hV;by_cases hxi:x=i
 .subst hxi;rw [jA] at hV;exact JG x hV
 .rw [lT _ _ (λhc=>hxi hc.2)] at hV;exact hV
structure a1b(C:Cl)(i:Nat)(r1:dY):Prop where
 up:(C.nd i).rep.term<=r1.term
 hv:(r1.term=(C.nd i).rep.term/\r1.aO=(C.nd i).rep.aO)\/r1.aO = -1
 log:r1.log=(C.nd i).rep.log
 same:r1.role≠0->r1=(C.nd i).rep
 aE:r1.aE=(C.nd i).rep.aE
 id:r1.id=i
theorem a1b.one{C i r1}(u:a1b C i r1){k}(hk:k≠0)(hr:r1.role=k):(C.nd i).rep.role=k/\r1.term=(C.nd i).rep.term:=by
 have:=u.same (by omega);exact ⟨by rw [<-this];exact hr,by rw [<-this]⟩
theorem a1b.co{C g A}(h:lV C g A){i}(hi:i<3){r1}(u:a1b C i r1):lU g A r1.term r1.log r1.aE:=by
 rw [u.log,u.aE];exact (h.co i hi).aBq (Ext.refl _) (λ_ _=>Nat.le_refl _) u.up
theorem aRl{C g g' A}(h:lV C g A){i}(hi:i<3){r1}(u:a1b C i r1){m}(hmem:m∈C.sent)(hm:m.sO i)(hk:m.kind=0)(fm:AD C g i (dI r1 m).1 (dI r1 m).2.send g')(pM:g'.LL=g.LL)(C9:g'.ld=g.ld):
  z8 C g A i (dI r1 m).1 (dI r1 m).2.send g' (A (dI r1 m).1.term i):=by
 obtain ⟨⟨s1,s2,s3,s4⟩,s5⟩:=a1a r1 m;have hs:∀ {k:Int},k≠1->∀ v∈(dI r1 m).2.send,v.kind≠k:=λhk1 v hv=>by rw [s5 v hv];exact λe=>hk1 e.symm
 have c1:(dI r1 m).1.aE=r1.aE/\(dI r1 m).1.gJ=r1.gJ:=by unfold dI;split<;>exact ⟨rfl,rfl⟩
 have hco:lU g A (dI r1 m).1.term (dI r1 m).1.log (dI r1 m).1.aE:=by rw [s2,s4,c1.1];exact u.co h hi
 have him:(dI r1 m).1.role=2->∀ f,f<3->f≠i->(dI r1 m).1.gJ f<=A (dI r1 m).1.term f:=λhr f hf hfi=>by
  rw [s1] at hr;have e:=u.same (by omega);rw [c1.2,s2,e];exact h.im i hi (by rw [<-e];exact hr) f hf hfi
 by_cases hg:(decide (m.term=r1.term)&&(decide (r1.aO = -1)||decide (r1.aO=m.src))&&UF r1 m)=true
 .have ev:(dI r1 m).1.aO=m.src:=by unfold dI;rw [if_pos hg]
  simp only [Bool.and_eq_true,decide_eq_true_eq] at hg;obtain ⟨⟨g1,_⟩,g3⟩:=hg;obtain ⟨c,hc,a1,a2,a3⟩:=h.iq m hmem hk;have hci:c≠i:=λe=>hm.src.1 (by rw [a1,e]);refine F7 h hi fm pM C9 (by rw [s4];exact u.log) (λhr=>by rw [s2];exact u.one (by decide) (by rw [<-s1];exact hr)) (λhr=>by rw [s2];exact u.one (by decide) (by rw [<-s1];exact hr)) (λhr x hx hV=>?_) (λd hd hdi hro ht hv hV t p htt hval hp=>?_) (λd hd hdi hv=>.inr ?_) him (hs (by decide)) (λv hv hk3=>absurd hk3 (hs (by decide) v hv)) (λv hv hk2=>absurd hk2 (hs (by decide) v hv)) hco
  .rw [fm.V] at hV;by_cases hxi:x=i
   .subst hxi;rw [jA,ev] at hV;omega
   .rw [lT _ _ (λhc=>hxi hc.2)] at hV;exact hV
  .rw [ev] at hv;have hdc:d=c:=by omega
   subst hdc;obtain ⟨b1,b2⟩:=a3 hro (by rw [ht,s2,g1]);rcases mine h hi hval hp with q|q
   .refine aBt h hi hd ?_ hval q;rw [<-u.log];unfold UF at g3;simp only [Bool.or_eq_true,Bool.and_eq_true,decide_eq_true_eq] at g3;rw [b2,b1] at g3;rcases g3 with g3|⟨g3,g4⟩
    .exact .inl g3
    .exact .inr ⟨g3,by omega⟩
   .exact .inr q
  .rw [ev] at hv;have hdc:d=c:=by omega
   subst hdc;rw [s2,<-g1];exact a2
 .have ev:(dI r1 m).1.aO=r1.aO:=by unfold dI;rw [if_neg hg]
  exact oQ h hi fm pM C9 (by rw [s4];exact u.log) (λhr=>by rw [s2];exact u.one (by decide) (by rw [<-s1];exact hr)) (λhr=>by rw [s2];exact u.one (by decide) (by rw [<-s1];exact hr)) (by rw [s2,ev];exact u.hv) him (hs (by decide)) (λv hv hk3=>absurd hk3 (hs (by decide) v hv)) (λv hv hk2=>absurd hk2 (hs (by decide) v hv)) hco
theorem aM0{C g g' A}(h:lV C g A){i}(hi:i<3){r1}(u:a1b C i r1){m}(fm:AD C g i (dG r1 m).1 (dG r1 m).2.send g')(pM:g'.LL=g.LL)(C9:g'.ld=g.ld):
  z8 C g A i (dG r1 m).1 (dG r1 m).2.send g' (A (dG r1 m).1.term i):=by
 have him:r1.role=2->∀ f,f<3->f≠i->r1.gJ f<=A r1.term f:=λhr f hf hfi=>by
  have e:=u.same (by omega);rw [e] at hr ⊢;exact h.im i hi hr f hf hfi
 by_cases hc:(decide (r1.role≠1)||decide (m.term≠r1.term) || !m.yes)=true
 .have e:dG r1 m=(r1,kR):=by unfold dG;rw [if_pos hc]
  rw [e] at fm ⊢;exact oQ h hi fm pM C9 u.log (u.one (by decide)) (u.one (by decide)) u.hv him (λv hv=>by cases hv) (λv hv=>by cases hv) (λv hv=>by cases hv) (u.co h hi)
 have KB:=hc;simp only [Bool.or_eq_true,decide_eq_true_eq,not_or,Bool.not_eq_true',Bool.not_eq_false] at KB;obtain ⟨⟨c1,_⟩,_⟩:=KB;have c1:r1.role=1:=by omega
 by_cases MO:pG (put r1.cK m.src.toNat true)<2
 .have e:dG r1 m=({ r1 with cK:=put r1.cK m.src.toNat true },kR):=by unfold dG;rw [if_neg hc];simp only;rw [if_pos MO]
  rw [e] at fm ⊢;exact oQ h hi fm pM C9 u.log (u.one (by decide)) (u.one (by decide)) u.hv him (λv hv=>by cases hv) (λv hv=>by cases hv) (λv hv=>by cases hv) (u.co h hi)
 .exfalso;have e:(dG r1 m).1.role=2/\(dG r1 m).1.term=r1.term:=by unfold dG;rw [if_neg hc];simp only;rw [if_neg MO];exact ⟨rfl,rfl⟩
  obtain ⟨a,b⟩:=u.one (k:=1) (by decide) c1;have:=(fm.lead e.1).1;rw [C9,e.2,b] at this;exact (h.m.cand i hi a).2 this
theorem aJA(r)(h:r.id<=2):C7 r=0\/∃ f,f<3/\f≠r.id/\r.gJ f=C7 r:=by
 have two:∀ a b:Nat,(([a,b]:List Nat).foldl (λx i=>max x (r.gJ i)) 0=r.gJ a)\/(([a,b]:List Nat).foldl (λx i=>max x (r.gJ i)) 0=r.gJ b):=λa b=>by
  simp only [List.foldl_cons,List.foldl_nil];omega
 unfold C7 aT;split
 .rcases two 1 2 with e|e
  .exact .inr ⟨1,by decide,by omega,e.symm⟩
  .exact .inr ⟨2,by decide,by omega,e.symm⟩
 split
 .rcases two 0 2 with e|e
  .exact .inr ⟨0,by decide,by omega,e.symm⟩
  .exact .inr ⟨2,by decide,by omega,e.symm⟩
 .rcases two 0 1 with e|e
  .exact .inr ⟨0,by decide,by omega,e.symm⟩
  .exact .inr ⟨1,by decide,by omega,e.symm⟩
theorem aJB{g A i}(hi:i<3){r}(hid:r.id=i)(hL:g.LL r.term=r.log)(ha1:∀ t j,A t j<=(g.LL t).length)(ha:A r.term i=r.log.length)(him:∀ f,f<3->f≠i->r.gJ f<=A r.term f)(hs:lU g A r.term r.log r.aE):
  lU g A r.term r.log (b9 r).aE:=by
 unfold b9;split
 .rename_i hc;simp only [Bool.and_eq_true,decide_eq_true_eq] at hc;obtain ⟨c1,c2⟩:=hc;rcases aJA r (by omega) with e|⟨f,hf,hfi,e⟩
  .omega
  .have h1:=him f hf (by omega);have h2:=ha1 r.term f;rw [hL] at h2;refine .inr ⟨r.term,C7 r,⟨⟨by omega,by rw [hL];omega,by rw [hL];exact c2⟩,i,f,hi,hf,by omega,by omega,by omega⟩,Int.le_refl _,Nat.le_refl _,by show C7 r<=r.log.length;omega,by rw [hL]⟩
 .exact hs
theorem aBu{C g g' A}(h:lV C g A){i}(hi:i<3){r1}(u:a1b C i r1){m}(hmem:m∈C.sent)(hm:m.sO i)(hk:m.kind=3)(fm:AD C g i (aV r1 m).1 (aV r1 m).2.send g')(pM:g'.LL=g.LL)(C9:g'.ld=g.ld):
  z8 C g A i (aV r1 m).1 (aV r1 m).2.send g' (A (aV r1 m).1.term i):=by
 obtain ⟨⟨s1,s2,s3,s4⟩,s5⟩:=MW r1 m;have sv:=(MV r1 m).aO;have aRm:r1.role=2->∀ f,f<3->f≠i->r1.gJ f<=A r1.term f:=λhr f hf hfi=>by
  have e:=u.same (by omega);rw [e] at hr ⊢;exact h.im i hi hr f hf hfi
 have aJC:r1.role=2->g.LL r1.term=r1.log/\A r1.term i=r1.log.length:=λhr=>by
  have e:=u.same (by omega);rw [e] at hr ⊢;exact ⟨(h.m.lead i hi hr).2,h.a3 i hi hr⟩
 have key:(r1.role=2->∀ f,f<3->f≠i->(aV r1 m).1.gJ f<=A r1.term f)/\lU g A r1.term r1.log (aV r1 m).1.aE:=by
  unfold aV;split
  .exact ⟨aRm,u.co h hi⟩
  rename_i hc;simp only [Bool.or_eq_true,decide_eq_true_eq,not_or] at hc;obtain ⟨⟨d1,d2⟩,_⟩:=hc;have h2:r1.role=2:=by omega
  have d2:m.term=r1.term:=by omega
  simp only;split
  .exact ⟨aRm,u.co h hi⟩
  rename_i hy;have hy:m.yes=true:=by simpa using hy
  obtain ⟨f0,hf0,b1,b2⟩:=h.ik m hmem hk hy;have hf:m.src.toNat=f0:=by omega
  have aW9:∀ f,f<3->f≠i->put r1.gJ m.src.toNat (max (r1.gJ m.src.toNat) m.index.toNat) f<=A r1.term f:=λf hf3 hfi=>by
   have h3:=aRm h2 f hf3 hfi;by_cases hff:f=m.src.toNat
   .rw [hff,cI];rw [hff] at h3;rw [d2] at b2;rw [hf] at h3 ⊢;omega
   .rw [fR _ _ hff];exact h3
  have b2B:∀ r:dY,(b9 r).gJ=r.gJ:=λr=>by unfold b9;split<;>rfl
  have hres:(r1.role=2->∀ f,f<3->f≠i->(b9 { r1 with gJ:=put r1.gJ m.src.toNat (max (r1.gJ m.src.toNat) m.index.toNat),next:=put r1.next m.src.toNat (max (r1.gJ m.src.toNat) m.index.toNat+1) }).gJ f<=A r1.term f) /\
    lU g A r1.term r1.log (b9 { r1 with gJ:=put r1.gJ m.src.toNat (max (r1.gJ m.src.toNat) m.index.toNat),next:=put r1.next m.src.toNat (max (r1.gJ m.src.toNat) m.index.toNat+1) }).aE :=
   ⟨λ_ f hf3 hfi=>by rw [b2B];exact aW9 f hf3 hfi,aJB (r:={ r1 with gJ:=put r1.gJ m.src.toNat (max (r1.gJ m.src.toNat) m.index.toNat),next:=put r1.next m.src.toNat (max (r1.gJ m.src.toNat) m.index.toNat+1) }) hi u.id (aJC h2).1 h.a1 (aJC h2).2 aW9 (u.co h hi)⟩
  split
  .exact hres
  .exact hres
 have hco:lU g A (aV r1 m).1.term (aV r1 m).1.log (aV r1 m).1.aE:=by rw [s2,s4];exact key.2
 have hk2:∀ v∈(aV r1 m).2.send,v.kind=2:=λv hv=>by
  obtain ⟨_,f,rfl⟩:=s5 v hv;rfl
 refine oQ h hi fm pM C9 (by rw [s4];exact u.log) (λhr=>by rw [s2];exact u.one (by decide) (by rw [<-s1];exact hr)) (λhr=>by rw [s2];exact u.one (by decide) (by rw [<-s1];exact hr)) (by rw [s2,sv];exact u.hv) (λhr f hf hfi=>by rw [s2];exact key.1 (by rw [<-s1];exact hr) f hf hfi)
  (λv hv=>by rw [hk2 v hv];decide) (λv hv hk3=>by rw [hk2 v hv] at hk3;cases hk3) (λv hv _=>?_) hco
 obtain ⟨h2,f,rfl⟩:=s5 v hv;show lU g A (aV r1 m).1.term (g.LL (aV r1 m).1.term) ((aV r1 m).1.aE:Int).toNat;rw [s2,(aJC h2).1,Int.toNat_natCast];exact key.2
theorem V7:∀ (a b:List bT),agree a b<b.length->∀ x y,a[agree a b]? = some x->b[agree a b]? = some y->x.term≠y.term
 | [],b,_,x,y,hx,_=>by cases b<;>simp [agree] at hx
 | p :: a,[],h,_,_,_,_=>by simp [agree] at h
 | p :: a,q :: b,h,x,y,hx,hy=>by
  unfold agree at h hx hy;by_cases e:p.term=q.term
  .rw [if_pos e] at h hx hy;simp only [List.getElem?_cons_succ] at hx hy;exact V7 a b (by simpa using h) x y hx hy
  .rw [if_neg e] at hx hy;simp only [List.getElem?_cons_zero,Option.some.injEq] at hx hy;rw [<-hx,<-hy];exact e
structure Acc(g:Gh)(r1 r:dY)(m:bQ):Prop where
 role:r.role=0
 term:r.term=r1.term
 aO:r.aO=r1.aO
 p1:m.index.toNat+m.aF.length<=r.log.length/\r.log.take (m.index.toNat+m.aF.length)=(g.LL r1.term).take (m.index.toNat+m.aF.length)
 p2:∀ p,p<=r1.log.length->p<=(g.LL r1.term).length->r1.log.take p=(g.LL r1.term).take p->p<=r.log.length/\r.log.take p=(g.LL r1.term).take p
 p3:∀ n,n<=r1.aE->n<=r1.log.length->n<=r.log.length/\r.log.take n=r1.log.take n
 p4:m.aF.length=0->r.log=r1.log
 aE:r.aE=max r1.aE (min m.aE.toNat (m.index.toNat+m.aF.length))
theorem aOs{C g g' A}(h:lV C g A){i}(hi:i<3){r1 r}(u:a1b C i r1)(hw1:r1.Wf){m}(hmem:m∈C.sent)(hk:m.kind=2)(hmt:m.term=r1.term){send}(hsend:send=[pU r1 m])(hr:Acc g r1 r m)(fm:AD C g i r send g')(pM:g'.LL=g.LL)(C9:g'.ld=g.ld):z8 C g A i r send g' (max (A r.term i) (m.index.toNat+m.aF.length)):=by
 obtain ⟨a1,a2,a3,a4⟩:=h.m.app m hmem hk;rw [hmt] at a2 a3 a4;have JG:∀ c:Nat,r.aO=c->g.V r.term i=c:=λc hc=>by
  rw [hr.aO] at hc;rw [hr.term];rcases u.hv with ⟨a,b⟩|b
  .rw [a,h.m.now i hi,<-b];exact hc
  .omega
 have hro:=hr.role;have hA:=h.a1 r1.term i;have hle:A r.term i<=max (A r.term i) (m.index.toNat+m.aF.length):=by omega
 have tC:=hw1.ok.aE;have hk3:∀ v∈send,v=pU r1 m:=λv hv=>by rw [hsend] at hv;exact List.mem_singleton.1 hv
 have T8:=u.up;have hco:lU g A r.term r.log r.aE:=by
  rw [hr.term,hr.aE];by_cases hc:min m.aE.toNat (m.index.toNat+m.aF.length)<=r1.aE
  .rw [Nat.max_eq_left hc];rcases u.co h hi with e|⟨t,p,q1,q2,q3,q4,q5⟩
   .exact .inl e
   .obtain ⟨z1,z2⟩:=hr.p3 r1.aE (Nat.le_refl _) tC;exact .inr ⟨t,p,q1,q2,q3,z1,by rw [z2];exact q5⟩
  .rw [Nat.max_eq_right (by omega)];rcases h.ic m hmem hk with e|⟨t,p,q1,q2,q3,q4⟩
   .omega
   .rw [hmt] at q2 q4;have q5:=q4.less (Nat.min_le_left m.aE.toNat (m.index.toNat+m.aF.length));obtain ⟨y1,y2⟩:=hr.p1;refine .inr ⟨t,p,q1,q2,by omega,by omega,?_⟩;rw [<-q5.2];have:=congrArg (List.take (min m.aE.toNat (m.index.toNat+m.aF.length))) y2;rw [List.take_take,List.take_take,Nat.min_eq_left (by omega)] at this;exact this
 refine ⟨fm,KV pM,by rw [pM];exact h.W8,hle,by rw [pM,hr.term];omega,λh0=>by omega,λt p hp1 hp=>?_,λw hu eG=>absurd hu (by rw [<-C9];exact eG),λt p _ hv hlt=>?_,λv hv hk0=>(by rw [hk3 v hv] at hk0;cases hk0),λh0=>by omega,λh0=>by omega,λh0=>by omega,
  λc _ _ _ _ hv hV=>absurd (JG c hv) hV,λc _ _ hv=>.inl (JG c hv),λh0=>by omega,λv hv _ _=>?_,λv hv hk0=>(by rw [hk3 v hv] at hk0;cases hk0),?_⟩
 .have keep:∀ {t p},gT g t p (C.nd i).rep.log->p<=(g.LL r1.term).length->(C.nd i).rep.log.take p=(g.LL r1.term).take p->gT g t p r.log:=λq hpl e=>by
   obtain ⟨z1,z2⟩:=hr.p2 _ (by rw [u.log];exact q.1) hpl (by rw [u.log];exact e);exact ⟨z1,by rw [z2,<-e];exact q.2⟩
  by_cases ht:t=r.term
  .subst ht;rw [xY] at hp;by_cases hp2:p<=m.index.toNat+m.aF.length
   .refine .inl ((vI pM).2 ?_);rw [hr.term];exact gT.less (p:=m.index.toNat+m.aF.length) hr.p1 hp2
   .have hp3:p<=A r.term i:=by omega
    rcases h.ia r.term i p hi hp1 hp3 with q|⟨w,q1,q2,_,_⟩
    .rw [hr.term] at q hp3 ⊢;exact .inl ((vI pM).2 (keep q (by omega) q.2))
    .rw [hr.term] at q1;omega
  .rw [sV _ _ (λhc=>ht hc.1)] at hp;have hta:=h.a2 t i hi (by omega);rw [hr.term] at ht ⊢;rcases h.ia t i p hi hp1 hp with q|⟨w,q1,q2,q3,q4⟩
   .by_cases hM:gT g t p (g.LL r1.term)
    .exact .inl ((vI pM).2 (keep q hM.1 (q.2.trans hM.2.symm)))
    .by_cases hl:g.ld r1.term = -1
     .have h0:=h.m.none _ hl;rw [h0] at a2;have h1:m.aF.length=0:=by simp at a2;rw [a2.2];rfl
      rw [hr.p4 h1,u.log];exact .inl ((vI pM).2 q)
     .exact .inr ⟨r1.term,by omega,Int.le_refl _,by rw [C9];exact hl,λhh=>hM (by rw [pM] at hh;exact (vI pM).1 hh)⟩
   .exact .inr ⟨w,q1,by omega,by rw [C9];exact q3,λhh=>q4 (by rw [pM] at hh;exact (vI pM).1 hh)⟩
 .have:=hv.2.1;rw [pM] at this;omega
 .rw [hk3 v hv];refine ⟨by show (r1.id:Int)=i;rw [u.id],by rw [hr.term];rfl,?_⟩;show (m.index+(m.aF.length:Int)).toNat<=_;omega
 .exact (hco.aBq (λt=>⟨[],by rw [pM,List.append_nil]⟩) (SQ hle) (Int.le_refl _))
theorem aJD{C g g' A}(h:lV C g A){i}(hi:i<3){r1}(u:a1b C i r1)(hw1:r1.Wf){m}(hmem:m∈C.sent)(hk:m.kind=2)(hmt:m.term<=r1.term)(fm:AD C g i (bA r1 m).1 (bA r1 m).2.send g')(pM:g'.LL=g.LL)(C9:g'.ld=g.ld):∃ n,z8 C g A i (bA r1 m).1 (bA r1 m).2.send g' n:=by
 have him:r1.role=2->∀ f,f<3->f≠i->r1.gJ f<=A r1.term f:=λhr f hf hfi=>by
  have e:=u.same (by omega);rw [e] at hr ⊢;exact h.im i hi hr f hf hfi
 have tC:=hw1.ok.aE;by_cases h1:m.term<r1.term
 .have e:bA r1 m=(r1,nE [r6 r1 3 m.src]):=by unfold bA;rw [if_pos h1]
  rw [e] at fm ⊢;exact ⟨_,oQ h hi fm pM C9 u.log (u.one (by decide)) (u.one (by decide)) u.hv him (λv hv=>by rw [List.mem_singleton.1 hv];show (3:Int)≠0;decide) (λv hv _ hy=>by rw [List.mem_singleton.1 hv] at hy;cases hy) (λv hv hk2=>by rw [List.mem_singleton.1 hv] at hk2;cases hk2) (u.co h hi)⟩
 have hmt:m.term=r1.term:=by omega
 by_cases h2:r1.role=2
 .have e:bA r1 m=(r1,kR):=by unfold bA;rw [if_neg h1,if_pos h2]
  rw [e] at fm ⊢;exact ⟨_,oQ h hi fm pM C9 u.log (u.one (by decide)) (u.one (by decide)) u.hv him (λv hv=>by cases hv) (λv hv=>by cases hv) (λv hv=>by cases hv) (u.co h hi)⟩
 have no:∀ k:Int,k≠0->({ r1 with role:=0 }:dY).role=k->(C.nd i).rep.role=k/\({ r1 with role:=0 }:dY).term=(C.nd i).rep.term:=λk hk0 hr=>absurd hr.symm hk0;by_cases h3:(decide ((r1.log.length:Int)<m.index)||decide (bE r1.log m.index.toNat≠m.prev))=true
 .have e:bA r1 m=({ r1 with role:=0 },nE [⟨3,r1.id,m.src,r1.term,min (r1.log.length:Int) (m.index - 1),0,0,false,[]⟩]):=by unfold bA;rw [if_neg h1,if_neg h2];simp only;rw [if_pos h3]
  rw [e] at fm ⊢;exact ⟨_,oQ h hi fm pM C9 u.log (no 1 (by decide)) (no 2 (by decide)) u.hv (λhr=>(by cases (show (0:Int)=2 from hr))) (λv hv=>by rw [List.mem_singleton.1 hv];show (3:Int)≠0;decide) (λv hv _ hy=>by rw [List.mem_singleton.1 hv] at hy;cases hy) (λv hv hk2=>by rw [List.mem_singleton.1 hv] at hk2;cases hk2) (u.co h hi)⟩
 have h3':=h3;simp only [Bool.or_eq_true,decide_eq_true_eq,not_or] at h3';obtain ⟨h4,h5⟩:=h3';have h5:bE r1.log m.index.toNat=m.prev:=Decidable.of_not_not h5;obtain ⟨a1,a2,a3,a4⟩:=h.m.app m hmem hk;rw [hmt] at a2 a3 a4;have hpl:rR g.LL r1.log:=by rw [u.log];exact h.m.log i hi
 have hpM:=h.m.ll r1.term;have hix:m.index.toNat<=r1.log.length:=by omega
 have hag:=WO hpl hpM hix a2 a3 (by rw [h5];exact a4);have hkb:=J3 (r1.log.drop m.index.toNat) m.aF;have hka:m.index.toNat+agree (r1.log.drop m.index.toNat) m.aF<=r1.log.length:=by
  rcases Nat.eq_zero_or_pos (agree (r1.log.drop m.index.toNat) m.aF) with e|e
  .omega
  .obtain ⟨q,_⟩:=wC (r1.log.drop m.index.toNat) m.aF (agree (r1.log.drop m.index.toNat) m.aF - 1) (by omega);rw [List.length_drop] at q;omega
 by_cases h6:agree (r1.log.drop m.index.toNat) m.aF<m.aF.length
 .by_cases h7:m.index.toNat+agree (r1.log.drop m.index.toNat) m.aF+1<=r1.aE
  .have e:bA r1 m=({ r1 with role:=0 },kR):=by unfold bA;rw [if_neg h1,if_neg h2];simp only;rw [if_neg h3,if_pos h6,if_pos h7]
   rw [e] at fm ⊢;exact ⟨_,oQ h hi fm pM C9 u.log (no 1 (by decide)) (no 2 (by decide)) u.hv (λhr=>(by cases (show (0:Int)=2 from hr))) (λv hv=>by cases hv) (λv hv=>by cases hv) (λv hv=>by cases hv) (u.co h hi)⟩
  .have e1:(bA r1 m).1={ r1 with role:=0,log:=r1.log.take (m.index.toNat+agree (r1.log.drop m.index.toNat) m.aF)++m.aF.drop (agree (r1.log.drop m.index.toNat) m.aF),aE:=max r1.aE (min m.aE.toNat (m.index.toNat+m.aF.length)) }:=by unfold bA;rw [if_neg h1,if_neg h2];simp only;rw [if_neg h3,if_pos h6,if_neg h7]
   have e2:(bA r1 m).2.send=[pU r1 m]:=by unfold bA;rw [if_neg h1,if_neg h2];simp only;rw [if_neg h3,if_pos h6,if_neg h7]
   have hnew:=a3Z hpl hpM hix a2 a3 (by rw [h5];exact a4) hkb;rw [e1] at fm ⊢;refine ⟨_,aOs h hi u hw1 hmem hk hmt e2 ⟨rfl,rfl,rfl,?_,λp hp1 hp2 hp3=>?_,λn hn1 hn2=>?_,λh0=>by omega,rfl⟩ fm pM C9⟩
   .show m.index.toNat+m.aF.length<=(r1.log.take _++_).length/\(r1.log.take _++_).take _=_;rw [hnew,List.length_take,List.take_take,Nat.min_self];exact ⟨by omega,rfl⟩
   .show p<=(r1.log.take _++_).length/\(r1.log.take _++_).take _=_;have hpk:p<=m.index.toNat+agree (r1.log.drop m.index.toNat) m.aF:=Decidable.byContradiction λhn=>by
     have hq:m.index.toNat+agree (r1.log.drop m.index.toNat) m.aF<r1.log.length:=by omega
     obtain ⟨x,hx⟩:∃ x,r1.log[m.index.toNat+agree (r1.log.drop m.index.toNat) m.aF]? = some x:=⟨_,List.getElem?_eq_getElem hq⟩;obtain ⟨y,hy⟩:∃ y,m.aF[agree (r1.log.drop m.index.toNat) m.aF]? = some y:=⟨_,List.getElem?_eq_getElem h6⟩;have hne:=V7 _ _ h6 x y (by rw [List.getElem?_drop];exact hx) hy;have hy2:(g.LL r1.term)[m.index.toNat+agree (r1.log.drop m.index.toNat) m.aF]? = some y:=by
      have h9:((List.drop m.index.toNat (g.LL r1.term)).take m.aF.length)[agree (r1.log.drop m.index.toNat) m.aF]? = some y:=by rw [<-a3];exact hy
      rw [List.getElem?_take_of_lt h6,List.getElem?_drop] at h9;exact h9
     have:=congrArg (λl=>l[m.index.toNat+agree (r1.log.drop m.index.toNat) m.aF]?) hp3;simp only [List.getElem?_take_of_lt (show m.index.toNat+agree (r1.log.drop m.index.toNat) m.aF<p by omega)] at this;rw [hx,hy2] at this;cases this;exact hne rfl
    rw [hnew,List.length_take,List.take_take];exact ⟨by omega,by rw [Nat.min_eq_left (show p<=m.index.toNat+m.aF.length by omega)]⟩
   .show n<=(r1.log.take _++_).length/\(r1.log.take _++_).take _=_;have hn3:n<=(r1.log.take (m.index.toNat+agree (r1.log.drop m.index.toNat) m.aF)).length:=by rw [List.length_take];omega
    rw [List.take_append_of_le_length hn3,List.take_take,Nat.min_eq_left (by omega),List.length_append];exact ⟨by omega,rfl⟩
 .have e1:(bA r1 m).1={ r1 with role:=0,aE:=max r1.aE (min m.aE.toNat (m.index.toNat+m.aF.length)) }:=by unfold bA;rw [if_neg h1,if_neg h2];simp only;rw [if_neg h3,if_neg h6]
  have e2:(bA r1 m).2.send=[pU r1 m]:=by unfold bA;rw [if_neg h1,if_neg h2];simp only;rw [if_neg h3,if_neg h6]
  have hkk:agree (r1.log.drop m.index.toNat) m.aF=m.aF.length:=by omega
  rw [hkk] at hag hka;rw [e1] at fm ⊢;exact ⟨_,aOs h hi u hw1 hmem hk hmt e2 ⟨rfl,rfl,rfl,⟨hka,hag⟩,λp hp1 hp2 hp3=>⟨hp1,hp3⟩,λn hn1 hn2=>⟨hn2,rfl⟩,λ_=>rfl,rfl⟩ fm pM C9⟩
theorem aRn{C g A}(h:lV C g A){i}(hi:i<3){m}(hmem:m∈C.sent):∃ g' n,z8 C g A i (cX (C.nd i).rep m).1 (cX (C.nd i).rep m).2.send g' n:=by
 obtain ⟨hw,hid⟩:=h.m.wf.rep i hi;obtain ⟨g',fm,hg⟩:=aRh h.m hi (h.m.yes m hmem) (h.m.app m hmem);rcases hg with ⟨pM,C9⟩|⟨q1,q2,q3,q4,q5,q6,q7,q8,q9,q10,q11⟩
 .refine ⟨g',?_⟩;cases hy:iV (C.nd i).rep.id m with
  | false =>
   rw [vF hy] at fm ⊢;exact ⟨_,Y8 h hi fm pM C9 (λv hv=>by cases hv) (λv hv=>by cases hv) (λv hv=>by cases hv)⟩
  | true =>
   have hm:=lK.1 hy;obtain ⟨r1,J2⟩:∃ r1,(if (C.nd i).rep.term<m.term then upR (C.nd i).rep m else (C.nd i).rep)=r1:=⟨_,rfl⟩;have e1:(cX (C.nd i).rep m).1=(dQ r1 m).1:=by rw [pX hy,J2,B4]
   have e2:(cX (C.nd i).rep m).2.send=(dQ r1 m).2.send:=by rw [pX hy,J2,a02]
   rw [e1,e2] at fm ⊢;have hw1:r1.Wf:=by
    rw [<-J2];split
    .exact aC6 hw hm (by assumption)
    .exact hw
   have hmt:m.term<=r1.term:=by
    rw [<-J2];split
    .exact Int.le_refl _
    .omega
   have u:a1b C i r1:=by
    rw [<-J2];split
    .rename_i hlt;exact ⟨by show _<=m.term;omega,.inr rfl,rfl,λhr=>absurd rfl hr,rfl,hid⟩
    .exact ⟨Int.le_refl _,.inl ⟨rfl,rfl⟩,rfl,λ_=>rfl,rfl,hid⟩
   rw [hid] at hm;by_cases hk0:m.kind=0
   .have e:dQ r1 m=dI r1 m:=by unfold dQ;rw [if_pos hk0]
    rw [e] at fm ⊢;exact ⟨_,aRl h hi u hmem hm hk0 fm pM C9⟩
   by_cases hk1:m.kind=1
   .have e:dQ r1 m=dG r1 m:=by unfold dQ;rw [if_neg hk0,if_pos hk1]
    rw [e] at fm ⊢;exact ⟨_,aM0 h hi u fm pM C9⟩
   by_cases hk2:m.kind=2
   .have e:dQ r1 m=bA r1 m:=by unfold dQ;rw [if_neg hk0,if_neg hk1,if_pos hk2]
    rw [e] at fm ⊢;exact aJD h hi u hw1 hmem hk2 hmt fm pM C9
   .have e:dQ r1 m=aV r1 m:=by unfold dQ;rw [if_neg hk0,if_neg hk1,if_neg hk2]
    rw [e] at fm ⊢;have:=hm.kind;exact ⟨_,aBu h hi u hmem hm (by omega) fm pM C9⟩
 .exact ⟨g',_,aRk h hi fm q1 q2 q3 q4 q5 q6 q7 q8 q9 q10 q11⟩
structure Aft(g:Gh)(A:Int->Nat->Nat)(g':Gh)(A':Int->Nat->Nat):Prop where
 ext:Ext g.LL g'.LL
 ld:∀ u,g.ld u ≠ -1->g'.ld u=g.ld u
 a:∀ t j,A t j<=A' t j
theorem Aft.refl(g A):Aft g A g A:=⟨Ext.refl _,λ_ _=>rfl,λ_ _=>Nat.le_refl _⟩
theorem z8.aft{C g g' A i n r send}(f:z8 C g A i r send g' n):Aft g A g' (F5 A i r.term n) :=
 ⟨f.m.ext,λu hu=>by
  rcases f.m.ld u with e|⟨e,_⟩
  .exact e
  .exact absurd e hu,SQ f.le⟩
abbrev gh0:Gh:=⟨λ_ _ => -1,λ_ => -1,λ_=>[]⟩
theorem aXb:lV cl0 gh0 λ_ _=>0:=by
 have hv:∀ t p,¬ Valid gh0 t p:=λt p h=>by
  have h1:=h.1;have h2:=h.2.1;simp at h2;omega
 exact ⟨aW7,λt=>⟨by simp,by simp,by simp,by simp⟩,λ_ _=>Nat.le_refl _,λt j _ h=>absurd h (Nat.lt_irrefl _),λi hi hr=>(by cases (show (0:Int)=2 from hr)),λt j p _ h1 h2=>absurd (Nat.le_trans h1 h2) (by decide),λt u p h=>absurd h (hv t p),λm hm=>(by cases hm),λc _ hr=>(by cases (show (0:Int)=1 from hr)),λc _ hr=>(by cases (show (0:Int)=1 from hr)),
  λt x c _ _ h=>absurd (show (-1:Int)=c from h) (by omega),λi hi hr=>(by cases (show (0:Int)=2 from hr)),λm hm=>(by cases hm),λm hm=>(by cases hm),λj hj=>.inl rfl⟩
theorem V8{g t p n l}(h:gT g t p l)(hn:n<=p):l.take n=(g.LL t).take n:=(h.less hn).2
theorem lV.V9{C g A}(h:lV C g A){t u p}(hc:F4 g A t p)(htu:t<u)(hu:g.ld u ≠ -1):gT g t p (g.LL u):=by
 rcases h.ib t u p hc.1 htu hu with q|q
 .exact q
 .exact (hc.no q).elim
theorem lV.aJE{C g A}(h:lV C g A){s s' l l' n n'}(h1:lU g A s l n)(h2:lU g A s' l' n')(hn:n<=n'):l.take n=l'.take n:=by
 rcases h1 with e|⟨t,p,c1,_,k1,q1⟩
 .subst e;simp
 rcases h2 with e|⟨t',p',c2,_,k2,q2⟩
 .have:n=0:=by omega
  subst this;simp
 rw [q1.2,V8 q2 hn];rcases Int.lt_trichotomy t t' with e|e|e
 .exact (V8 (h.V9 c1 e (h.led c2.1)) k1).symm
 .rw [e]
 .exact V8 (h.V9 c2 e (h.led c1.1)) (by omega)
theorem lU.cut{g A s s' l n}(h:lU g A s l n)(hs:s<=s'):lU g A s' (l.take n) n:=by
 rcases h with e|⟨t,p,h1,h2,h3,h4,h5⟩
 .exact .inl e
 .exact .inr ⟨t,p,h1,by omega,h3,by rw [List.length_take];omega,by rw [List.take_take,Nat.min_self];exact h5⟩
end Go.Proofs.YtnlkemjhgdbfkaaGreatDoor
end

