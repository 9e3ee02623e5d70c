/-
 What a member stores: walked.
-/
import Derived.Test.YtcmgeboolmmdkaaGreatDoorCm10
open Go.Proofs.Tryz
set_option linter.unusedVariables false
set_option linter.unusedSimpArgs false
section
namespace Go.Proofs.YtcmgeboolmmdkaaGreatDoor
open Go.Vc
abbrev aNz(o:fN)(p1:Option Addr)(c1:Nat)(p2:Option Addr)(c2:Nat):List Value:=[.bool o.save,.int .i64 o.term,.int .i64 o.ρ,.int .i64 o.src,.slice p1 o.ζ.length c1,.slice p2 o.send.length c2]
abbrev bV(k1:Nat)(cg:List Value):Own:=.blk k1 cg 70
abbrev gX(k:Nat)(p:Option Addr)(n c:Nat):Own:=.blk k [.slice p n c] 40
section
variable {W w:World}{S:List Own}{Φ:θ}
theorem aHW[O Φ](hoff:∀ M w,Φ M w->jO M w)(hT:∀ M w,Φ M w->lu M w){k0 k1 gb mO cs cg q d x j n}(hcs:cs[mO+1]? = some (pA x.ax))(vt:cg[3]? = some (.int .i64 n))(hn:κ (n - 1))(hq:cG q d)(hkp:gk Φ q d)(hsb:fY x.p x.cap j.list x.o)(hf:(aK j.list).length<=1000000000)(y:Ctx W w (aO k0 gb mO :: bV k1 cg :: ω gb cs :: (aL x q j++(ξ q d++S))) Φ){K}(hk:∀ u p c o w',fY p c (dm d j (min (n - 1) (j.list.length:Int))).2.1.list o->cG (q.mv u) (dm d j (min (n - 1) (j.list.length:Int))).1->Ctx W w' (aO k0 gb mO :: bV k1 cg :: ω gb cs :: (aL (x.mv p c o) q (dm d j (min (n - 1) (j.list.length:Int))).2.1++(ξ (q.mv u) (dm d j (min (n - 1) (j.list.length:Int))).1++S))) Φ->K (.returned (.int .i64 (dm d j (min (n - 1) (j.list.length:Int))).2.2)) w'):
  Γ F.HS #[pA k0,pA k1] w K:=by
 have ew:∀ Y:List Own,List.Sublist [aO k0 gb mO,bV k1 cg,ω gb cs] ([aO k0 gb mO,bV k1 cg,ω gb cs]++Y):=λY=>List.sublist_append_left _ _;refine ak (aDR k0 0 k1 0 (J:=K∘.returned) y ⟨[aO k0 gb mO,bV k1 cg,ω gb cs],lE,δ,λw G y=>dS y (ew _),some ⟨gb,mO,none⟩,λw G y=>⟨_,y.get 0 rfl rfl,rfl⟩,some ⟨gb,mO,none⟩,λw G y=>⟨_,y.get 0 rfl rfl,rfl⟩,eu gb mO rfl ⟨n,λw G y=>⟨_,y.get 1 rfl vt,rfl⟩,eu gb mO rfl ⟨hn,some ⟨x.ax,0,none⟩,λw G y=>⟨_,y.get 2 rfl hcs,rfl⟩,some ⟨x.ax,0,none⟩,λw G y=>⟨_,y.get 2 rfl hcs,rfl⟩,λw G y=>?_⟩⟩⟩)
 have c1:Ctx W w (aL x q j++([aO k0 gb mO,bV k1 cg,ω gb cs]++((ξ q d++S)++G))) Φ:=xI (A:=[aO k0 gb mO,bV k1 cg,ω gb cs]) y;refine aF6 c1 λw y=>⟨_,rfl,[aO k0 gb mO,bV k1 cg,ω gb cs]++(aL x q j++(ξ q d++S)),Φ,δ,uu y,λw G y=>dS y (ew _),λw G y=>?_⟩;have c2:Ctx W w (aL x q j++(ξ q d++([aO k0 gb mO,bV k1 cg,ω gb cs]++(S++G)))) Φ:=by
  have c3:Ctx W w (([aO k0 gb mO,bV k1 cg,ω gb cs]++((aL x q j++ξ q d)++S))++G) Φ:=by rw [μ (aL x q j)];exact y
  rw [<-μ (aL x q j)];exact xI c3
 refine aEh hq hkp hoff hT hsb hf c2 λu p c o w CL hq1 y=>⟨_,rfl,[aO k0 gb mO,bV k1 cg,ω gb cs]++(aL (x.mv p c o) q (dm d j (min (n - 1) (j.list.length:Int))).2.1++(ξ (q.mv u) (dm d j (min (n - 1) (j.list.length:Int))).1++S)),Φ,δ,by
  rw [<-μ (aL _ q _)] at y ⊢;exact uu y,λw G y=>hk u p c o w CL hq1 y.left⟩
theorem aGS[O Φ](hoff:∀ M w,Φ M w->jO M w)(hT:∀ M w,Φ M w->lu M w){k0 k gb mO cs q d x j lp lc l}(hcs:cs[mO+1]? = some (pA x.ax))(hq:cG q d)(hkp:gk Φ q d)(hsb:fY x.p x.cap j.list x.o)(bp:∀ M w,Φ M w->Δ M w lp l)(hf:(aK l).length<=1000000000)(hb:j.bytes<=1000000000)(hn:j.list.length+l.length<100000000)(y:Ctx W w (aO k0 gb mO :: gX k lp l.length lc :: ω gb cs :: (aL x q j++(ξ q d++S))) Φ){K}(hk:∀ u p c o w',fY p c (iG d j l).2.1.list o->cG (q.mv u) (iG d j l).1->Ctx W w' (aO k0 gb mO :: gX k lp l.length lc :: ω gb cs :: (aL (x.mv p c o) q (iG d j l).2.1++(ξ (q.mv u) (iG d j l).1++S))) Φ->K (.returned (.int .i64 (iG d j l).2.2)) w'):
  Γ F.HT #[pA k0,pA k] w K:=by
 have ew:∀ Y:List Own,List.Sublist [aO k0 gb mO,gX k lp l.length lc,ω gb cs] ([aO k0 gb mO,gX k lp l.length lc,ω gb cs]++Y):=λY=>List.sublist_append_left _ _;refine ak (aDS k0 0 k 0 (J:=K∘.returned) y ⟨[aO k0 gb mO,gX k lp l.length lc,ω gb cs],lE,δ,λw G y=>dS y (ew _),some ⟨gb,mO,none⟩,λw G y=>⟨_,y.get 0 rfl rfl,rfl⟩,lp,l.length,lc,λw G y=>⟨_,_,_,y.get 1 rfl rfl,rfl⟩,eu gb mO rfl ⟨some ⟨x.ax,0,none⟩,λw G y=>⟨_,y.get 2 rfl hcs,rfl⟩,λw G y=>?_⟩⟩)
 have c2:Ctx W w (aL x q j++(ξ q d++([aO k0 gb mO,gX k lp l.length lc,ω gb cs]++(S++G)))) Φ:=by
  have c3:Ctx W w (([aO k0 gb mO,gX k lp l.length lc,ω gb cs]++((aL x q j++ξ q d)++S))++G) Φ:=by rw [μ (aL x q j)];exact y
  rw [<-μ (aL x q j)];exact xI c3
 refine aCR hq hkp hoff hT hsb bp hf hb hn c2 λu p c o w CL hq1 y=>⟨_,rfl,[aO k0 gb mO,gX k lp l.length lc,ω gb cs]++(aL (x.mv p c o) q (iG d j l).2.1++(ξ (q.mv u) (iG d j l).1++S)),Φ,δ,by
  rw [<-μ (aL _ q _)] at y ⊢;exact uu y,λw G y=>hk u p c o w CL hq1 y.left⟩
theorem aHY(d j n):((dm d j n).2.1.bytes=j.bytes\/(dm d j n).2.1.bytes<=(aK j.list).length)/\(dm d j n).2.1.list.length<=j.list.length:=by
 unfold dm;split
 .exact ⟨.inl rfl,Nat.le_refl _⟩
 split
 .exact ⟨.inl rfl,Nat.le_refl _⟩
 split
 .exact ⟨.inl rfl,Nat.le_refl _⟩
 unfold nk;split
 .exact ⟨.inl rfl,Nat.le_refl _⟩
 .refine ⟨.inr (a4X _ _),?_⟩;show (j.list.take n.toNat).length<=_;rw [List.length_take];omega
structure P8(u:kz)(o:fN):Prop where
 ints:(κ o.term/\κ o.ρ)/\κ (o.src - 1)
 ζ:∀ x∈o.ζ,κ x.term/\x.data.size<=1000000
 a9W:o.ζ.length<=100000
 aPI:(aK (o.ζ.map dU)).length<=1000000000
 aM5:(aK u.j.list).length<=1000000000
 aLo:u.j.bytes<=1000000000
 aM6:u.j.list.length<=1000000
theorem a8g(A J D S G)(C:Own):((A++(J++(D++(C :: S))))++G).Perm (C :: (D++((A++J)++(S++G)))):=by
 have e:(A++(J++(D++(C :: S))))++G=((A++J)++D)++(C :: (S++G)):=by simp only [μ,List.cons_append]
 rw [e];refine List.perm_middle.trans (.cons _ ?_);rw [μ (A++J)];exact List.perm_append_comm_assoc _ _ _
theorem a8h(a)(J D T:List Own):(a :: (J++(D++T))).Perm (J++(D++(a :: T))):=by
 have e:∀ X:List Own,J++(D++X)=(J++D)++X:=λX=>(μ _ _ _).symm;rw [e,e];exact List.perm_middle.symm
def q7(d:b7)(j:jd)(n:Int)(l:List ByteArray):b7 × jd × Int :=
 if (dm d j (min (n - 1) (j.list.length:Int))).2.2≠0 then dm d j (min (n - 1) (j.list.length:Int)) else iG (dm d j (min (n - 1) (j.list.length:Int))).1 (dm d j (min (n - 1) (j.list.length:Int))).2.1 l
def aGF(d:b7)(q:ld)(x:za)(j:jd)(n:Int)(l:List ByteArray)(k0 gb mO:Nat)(cs:List Value)(S:List Own)(Φ:θ)(r:Int)(R:List Own)(η:θ):Prop :=
 η=Φ/\r=(q7 d j n l).2.2/\∃ (Dl:List Own) (v:BX) (p:Option Addr) (c:Nat) (o:Own),fY p c (q7 d j n l).2.1.list o/\cG (q.mv v) (q7 d j n l).1/\(q7 d j n l).1.keep=d.keep /\
  R=Dl++(aO k0 gb mO :: ω gb cs :: (aL (x.mv p c o) q (q7 d j n l).2.1++(ξ (q.mv v) (q7 d j n l).1++S)))
theorem aQP[O Φ](hoff:∀ M w,Φ M w->jO M w)(hT:∀ M w,Φ M w->lu M w){k0 k1 k gb mO cs cg q d x j n lp lc l}(hcs:cs[mO+1]? = some (pA x.ax))(vt:cg[3]? = some (.int .i64 n))(hn:κ (n - 1))(hq:cG q d)(hkp:gk Φ q d)(hsb:fY x.p x.cap j.list x.o)(hf:(aK j.list).length<=1000000000)(hb:j.bytes<=1000000000)(hjl:j.list.length<=1000000)(bp:∀ M w,Φ M w->Δ M w lp l)(hlf:(aK l).length<=1000000000)(vr:l.length<=1000000):
  Jh W (aGF d q x j n l k0 gb mO cs S Φ) [(F.HS,#[pA k0,pA k1]),(F.HT,#[pA k0,pA k])] (gX k lp l.length lc :: bV k1 cg :: aO k0 gb mO :: ω gb cs :: (aL x q j++(ξ q d++S))) Φ:=by
 obtain ⟨oN,AJ⟩:=aHY d j (min (n - 1) (j.list.length:Int));refine ⟨by kernel_rfl,λw G y=>?_⟩;have p1:∀ (J D:List Own),((gX k lp l.length lc :: bV k1 cg :: aO k0 gb mO :: ω gb cs :: (J++(D++S)))++G).Perm (aO k0 gb mO :: bV k1 cg :: ω gb cs :: (J++(D++(gX k lp l.length lc :: (S++G))))):=λJ D=>by
  have e:(gX k lp l.length lc :: bV k1 cg :: aO k0 gb mO :: ω gb cs :: (J++(D++S)))++G=gX k lp l.length lc :: bV k1 cg :: aO k0 gb mO :: ω gb cs :: (J++(D++(S++G))):=by simp only [μ,List.cons_append]
  rw [e];refine ((List.perm_append_comm_assoc [gX k lp l.length lc] [bV k1 cg,aO k0 gb mO,ω gb cs] _).trans ?_);refine ((a8h (gX k lp l.length lc) J D (S++G)).append_left [bV k1 cg,aO k0 gb mO,ω gb cs]).trans ?_;exact .swap _ _ _
 refine aHW hoff hT hcs vt hn hq hkp hsb hf (y.perm (p1 _ _)) λv p c o w CL hq1 y=>?_;have xC:=aHX d j (min (n - 1) (j.list.length:Int));obtain ⟨⟨d1,j1,e1⟩,hx⟩:∃ U,dm d j (min (n - 1) (j.list.length:Int))=U:=⟨_,rfl⟩;rw [hx] at CL hq1 y xC oN AJ;simp only at CL hq1 y xC oN AJ;refine ⟨e1,by rw [hx],gX k lp l.length lc :: bV k1 cg :: aO k0 gb mO :: ω gb cs :: (aL (x.mv p c o) q j1++(ξ (q.mv v) d1++S)),Φ,δ,y.perm (p1 _ _).symm,λhne=>?_,λhe=>?_⟩
 .have eb:q7 d j n l=(d1,j1,e1):=by unfold q7;rw [hx,if_pos hne]
  refine ⟨rfl,by rw [eb],[gX k lp l.length lc,bV k1 cg],v,p,c,o,by rw [eb];exact CL,by rw [eb];exact hq1,by rw [eb];exact xC,by rw [eb];rfl⟩
 have eb:q7 d j n l=iG d1 j1 l:=by unfold q7;rw [hx,if_neg (by simp [he])]
 refine ⟨by kernel_rfl,λw G y=>?_⟩;have p2:∀ (J D:List Own),((gX k lp l.length lc :: bV k1 cg :: aO k0 gb mO :: ω gb cs :: (J++(D++S)))++G).Perm (aO k0 gb mO :: gX k lp l.length lc :: ω gb cs :: (J++(D++(bV k1 cg :: (S++G))))):=λJ D=>by
  have e:(gX k lp l.length lc :: bV k1 cg :: aO k0 gb mO :: ω gb cs :: (J++(D++S)))++G=gX k lp l.length lc :: bV k1 cg :: aO k0 gb mO :: ω gb cs :: (J++(D++(S++G))):=by simp only [μ,List.cons_append]
  rw [e];refine (List.Perm.swap _ _ _).trans ((List.perm_append_comm_assoc [bV k1 cg] [gX k lp l.length lc,aO k0 gb mO,ω gb cs] _).trans ?_);refine ((a8h (bV k1 cg) J D (S++G)).append_left [gX k lp l.length lc,aO k0 gb mO,ω gb cs]).trans ?_;exact .swap _ _ _
 refine aGS (x:=x.mv p c o) hoff hT hcs hq1 (hkp.of xC v) CL bp hlf (by omega) (by omega) (y.perm (p2 _ _)) λv2 p3 c3 gz w Vx cX y=>?_;have Vb:=aGW d1 j1 l;rw [<-eb] at Vx cX y Vb ⊢;exact ⟨_,rfl,gX k lp l.length lc :: bV k1 cg :: aO k0 gb mO :: ω gb cs :: (aL (x.mv p3 c3 gz) q (q7 d j n l).2.1++(ξ (q.mv v2) (q7 d j n l).1++S)),Φ,δ,Ctx.perm y (p2 _ _).symm,λ_=>⟨rfl,rfl,[gX k lp l.length lc,bV k1 cg],v2,p3,c3,gz,Vx,cX,Vb.trans xC,rfl⟩,λh0=>⟨rfl,h0.symm,[gX k lp l.length lc,bV k1 cg],v2,p3,c3,gz,Vx,cX,Vb.trans xC,rfl⟩⟩
theorem aPc(d u o):(lW d u o).1.keep=d.keep:=by
 unfold lW;split
 .exact aAA _ _ _
 .rfl
theorem aME(d u o)(h:0<o.src):nK d u o=q7 d u.j o.src (o.ζ.map dU):=by unfold nK;rw [if_pos h];rfl
theorem aJB{x}:bs (lD x)=dU x:=rfl
abbrev ZA(gb:Nat)(cs:List Value)(q:ld)(v:BX)(x:za)(cb:Nat)(d:b7)(j:jd)(c:pT)(S:List Own):List Own:=ω gb cs :: (aL x q j++(ξ (q.mv v) d++(aP cb q c :: S)))
theorem aQT[O Φ](hoff:∀ M w,Φ M w->jO M w)(hT:∀ M w,Φ M w->lu M w){gb mO cb cs q d x u o p1 p2 c1 c2}(hm:mO+4<=cs.length)(hs1:cs[mO+1]? = some (pA x.ax))(hs2:cs[mO+2]? = some (pA cb))(hq:cG q d)(hkp:gk Φ q d)(hsb:fY x.p x.cap u.j.list x.o)(hb:P8 u o)(bp:∀ M w,Φ M w->Δ M w p1 o.ζ)(y:Ctx W w (ω gb cs :: (aL x q u.j++(ξ q d++(aP cb q u.c :: S)))) Φ){K}(hk:∀ v p c FX w',fY p c (ck d u o).2.1.j.list FX->cG (q.mv v) (ck d u o).1->(ck d u o).1.keep=d.keep->Ctx W w' (ZA gb (if (ck d u o).2.2=0 then cs else wF cs mO) q v (x.mv p c FX) cb (ck d u o).1 (ck d u o).2.1.j (ck d u o).2.1.c S) Φ->K (.returned (.int .i64 (ck d u o).2.2)) w'):
  Γ F.QD #[ε gb mO,wB o p1 c1 p2 c2] w K:=by
 have xE:Gr p1 o.ζ.length:=(bp _ _ y.cy).there;have aTA:=qj hb.ints.1.1;have aTB:=qj hb.ints.1.2;have hkeep:=aPc d u o;refine ak (aDT gb mO o.save o.term o.ρ o.src p1 o.ζ.length c1 p2 o.send.length c2 (J:=K∘.returned) y λk0 k1=>?_);obtain ⟨cg,vt⟩:∃ cg,aNz o p1 c1 p2 c2=cg:=⟨_,rfl⟩;have mo:cg[3]? = some (.int .i64 o.src):=by rw [<-vt];rfl
 have aKz:cg[4]? = some (.slice p1 o.ζ.length c1):=by rw [<-vt];rfl
 have aKy:cg[0]? = some (.bool o.save):=by rw [<-vt];rfl
 have fc:cg[1]? = some (.int .i64 o.term):=by rw [<-vt];rfl
 have kV:cg[2]? = some (.int .i64 o.ρ):=by rw [<-vt];rfl
 have aJ1:∀ R:List Own,Own.blk k1 [.bool o.save,.int .i64 o.term,.int .i64 o.ρ,.int .i64 o.src,.slice p1 o.ζ.length c1,.slice p2 o.send.length c2] 70 :: Own.blk k0 [ε gb mO] 63 :: R=bV k1 cg :: aO k0 gb mO :: R:=λR=>by rw [<-vt]
 rw [aJ1];have ew:∀ Y:List Own,List.Sublist [bV k1 cg,aO k0 gb mO,ω gb cs] ([bV k1 cg,aO k0 gb mO,ω gb cs]++Y):=λY=>List.sublist_append_left _ _;obtain ⟨⟨d1,cc,e1⟩,ha⟩:∃ a,lW d u o=a:=⟨_,rfl⟩;rw [ha] at hkeep;simp only at hkeep;refine fD (λn R' η=>n=e1/\η=Φ/\∃ v:BX,cG (q.mv v) d1/\R'=bV k1 cg :: aO k0 gb mO :: ω gb cs :: (aL x q u.j++(ξ (q.mv v) d1++(aP cb q cc :: S)))) ⟨λw G y=>⟨o.save,y.get 0 rfl aKy,γ.intro (λF7=>?_) (λF7=>?_)⟩,?_⟩
 ·-- the hard state is stored
  refine ⟨[bV k1 cg,aO k0 gb mO,ω gb cs],lE,δ,λw G y=>dS y (ew _),some ⟨gb,mO,none⟩,λw G y=>⟨_,y.get 1 rfl rfl,rfl⟩,eu gb mO rfl ⟨o.term,λw G y=>⟨_,y.get 0 rfl fc,rfl⟩,o.ρ,λw G y=>⟨_,y.get 0 rfl kV,rfl⟩,some ⟨cb,0,none⟩,λw G y=>⟨_,y.get 2 rfl hs2,rfl⟩,λw G y=>?_⟩⟩;refine (Dw (Φ:=Φ) (.inl ⟨hT,hb.ints.1.1⟩)).use y λw y=>⟨_,rfl,_,Φ,δ,y,λw G y=>dS y (ew _),λw G y=>(Dw (Φ:=Φ) (.inl ⟨hT,hb.ints.1.2⟩)).use y λw y=>⟨_,rfl,_,Φ,δ,y,λw G y=>dS y (ew _),by show (iJ o.term).size+(iJ o.ρ).size<=_;omega,λw G y=>?_⟩⟩
  have eh:iJ o.term++iJ o.ρ=bs (ug o.term o.ρ):=by
   apply ByteArray.ext;apply Array.toList_inj.1;simp [ug,bs]
  rw [eh];have es:kE d u.c (ug o.term o.ρ)=(d1,cc,e1):=by rw [<-ha];unfold lW;rw [if_pos F7]
  refine a0p (S:=([bV k1 cg,aO k0 gb mO,ω gb cs]++aL x q u.j)++(S++G)) hq hkp hoff (y.perm (a8g [bV k1 cg,aO k0 gb mO,ω gb cs] (aL x q u.j) (ξ q d) S G (aP cb q u.c))) λv w hq1 y=>?_;rw [es] at hq1 y ⊢;simp only at hq1 y ⊢;refine ⟨e1,rfl,bV k1 cg :: aO k0 gb mO :: ω gb cs :: (aL x q u.j++(ξ (q.mv v) d1++(aP cb q cc :: S))),Φ,δ,y.perm (a8g [bV k1 cg,aO k0 gb mO,ω gb cs] (aL x q u.j) (ξ (q.mv v) d1) S G (aP cb q cc)).symm,_,Φ,δ,λw G y=>y,rfl,rfl,v,hq1,rfl⟩
 .have es:(d,u.c,(0:Int))=(d1,cc,e1):=by rw [<-ha];unfold lW;rw [if_neg (by rw [F7];simp)]
  injection es with ah jW;injection jW with jW aJI;subst ah jW aJI;exact ⟨_,Φ,δ,λw G y=>y,rfl,rfl,q.un,hq,rfl⟩
 .rintro n R' η hst ⟨rfl,rfl,v,hq1,rfl⟩ w G y;have Vd:gk η (q.mv v) d1:=hkp.of hkeep v;have mm:∀ r:b7 × kz × Int,ck d u o=r->r.2.1.c=cc/\True:=λr hr=>by
   refine ⟨?_,trivial⟩;rw [<-hr];unfold ck;rw [ha];simp only;split<;>rfl
  refine ⟨o.src,λ_=>y.get 0 rfl mo,γ.intro (λnq=>λk w G y=>⟨_,_,_,y.get 1 rfl aKz,?_⟩) (λnq=>?_)⟩
  rotate_left 1
  ·-- nothing for the journal,or a failure
   refine γ.intro (λhne=>λw G y=>⟨_,y.get 1 rfl rfl,λw G y=>?_⟩) (λhe=>λw G y=>?_)
   .have hne:n≠0:=aN hne;have mC:ck d u o=(d1,{ u with c:=cc },n):=by unfold ck;rw [ha];simp only;rw [if_pos hne]
    rw [mC] at hk;refine ZB hm (S:=bV k1 cg :: aO k0 gb mO :: (aL x q u.j++(ξ (q.mv v) d1++(aP cb q cc :: S)))++G) (y.perm (List.perm_append_comm_assoc [bV k1 cg,aO k0 gb mO] [ω gb cs] _)) λw y=>⟨rfl,ZA gb (wF cs mO) q v x cb d1 u.j cc S,η,δ,y.sub (by
     show List.Sublist (ω gb (wF cs mO) :: ((aL x q u.j++(ξ (q.mv v) d1++(aP cb q cc :: S)))++G)) (ω gb (wF cs mO) :: bV k1 cg :: aO k0 gb mO :: ((aL x q u.j++(ξ (q.mv v) d1++(aP cb q cc :: S)))++G));exact .cons_cons _ (((List.Sublist.refl _).cons _).cons _)),λw G y=>?_⟩
    have:=hk v x.p x.cap x.o w hsb hq1 hkeep;rw [if_neg hne] at this;exact this y.left
   .have he:n=0:=by simpa using Λ he
    subst he;have nq:¬ 0<o.src:=by simpa using nq
    have mC:ck d u o=(d1,{ u with c:=cc },0):=by
     unfold ck;rw [ha];simp only;rw [if_neg (by simp)];unfold nK;rw [if_neg nq]
    rw [mC] at hk;have:=hk v x.p x.cap x.o w hsb hq1 hkeep;rw [if_pos rfl] at this;exact this (y.left.sub (((List.Sublist.refl _).cons _).cons _))
  .have hs0:n=0/\0<o.src:=by simpa using nq
   clear nq;obtain ⟨rfl,hs0⟩:=hs0;have mC:ck d u o=((q7 d1 u.j o.src (o.ζ.map dU)).1,{ u with c:=cc,j:=(q7 d1 u.j o.src (o.ζ.map dU)).2.1 },(q7 d1 u.j o.src (o.ζ.map dU)).2.2):=by
    unfold ck;rw [ha];simp only;rw [if_neg (by simp),aME _ _ _ hs0]
   rw [mC] at hk;simp only at hk;obtain ⟨B,hB⟩:∃ B,B=bV k1 cg :: aO k0 gb mO :: ω gb cs :: (aL x q u.j++(ξ (q.mv v) d1++(aP cb q cc :: S))):=⟨_,rfl⟩;rw [<-hB];refine fD (λfH R' Ψ bY=>∃ (i:Nat) (p:Option Addr) (c:Nat),fH=i/\i<=o.ζ.length/\bY=o.ζ.length - i/\Ψ=η/\R'=gX k p i c :: .buf p i c (bX ((o.ζ.take i).map dU)) 9 1 :: B) ⟨⟨_,_,_,hst,λw G y=>((y.Gz 9 1).perm (.swap _ _ _)),0,none,0,rfl,Nat.zero_le _,rfl,rfl,rfl⟩,?_⟩
   rintro fH aW Ψ bY _ ⟨i,p,c,rfl,hi,rfl,rfl,rfl⟩;refine γ.intro (λhlt=>?_) (λhge=>λb8 w G y=>?_)
   .have hlt:i<o.ζ.length:=by have:=aN hlt;omega
    obtain ⟨g,Mh,rfl⟩:=xE (by omega);have hx:=hb.ζ _ (List.getElem_mem hlt);refine ⟨⟨by omega,by omega⟩,eu g Mh rfl λw G y=>⟨o.ζ[i].term,o.ζ[i].data,by rw [Int.toNat_natCast];exact J3 (bp _ _ y.cy) hlt,λ_=>⟨[gX k p i c],lE,δ,λw G y=>dS y (by simp),p,i,c,λw G y=>⟨_,_,_,y.get 0 rfl rfl,rfl⟩,λw G y=>?_⟩⟩⟩;have aAH:∀ (a:Own) (Y:List Own),List.Sublist [a] (a :: Y):=λa Y=>.cons_cons _ (List.nil_sublist _)
    refine (a26 (Φ:=Ψ) hT hx.1 (by omega)).use y λw y=>⟨_,rfl,_,Ψ,δ,y,λw G y=>dS y (aAH _ _),λcQ=>⟨λw G y=>dS y (.cons _ (aAH _ _)),λw G y=>?_⟩⟩;have hlen:(bX ((o.ζ.take i).map dU)).length=i*1:=by rw [List.length_map,List.length_map,List.length_take];omega
    have hrl:=hb.a9W;obtain ⟨p',c',w',hr,_,ep⟩:=(y.perm (show (Own.blk cQ [Value.string (bs (lD o.ζ[i]))] 9 :: (gX k p i c :: .buf p i c (bX ((o.ζ.take i).map dU)) 9 1 :: B)++G).Perm (Own.blk cQ [Value.string (bs (lD o.ζ[i]))] 9 :: .buf p i c (bX ((o.ζ.take i).map dU)) 9 1 :: (gX k p i c :: B++G)) from .cons _ (.swap _ _ _))).yM (ts:=40) (ty:=40) (kb:=#[false,false]) (bytes:=16) (P:=prog) (by kernel_rfl) (by omega) rfl rfl (by omega) (by omega)
    have et:bX ((o.ζ.take i).map dU)++[Value.string (bs (lD o.ζ[i]))]=bX ((o.ζ.take (i+1)).map dU):=by
     rw [List.take_succ_eq_append_getElem hlt,List.map_append];simp only [bX,List.map_append,List.map_cons,List.map_nil];rfl
    rw [et] at ep;refine ⟨_,_,_,w',hr,.buf p' (i+1) c' (bX ((o.ζ.take (i+1)).map dU)) 9 1 :: gX k p i c :: B,Ψ,δ,ep,λw G y=>⟨y.can 1 rfl (by show 0+1<=1;omega),λw' hw'=>⟨.buf p' (i+1) c' (bX ((o.ζ.take (i+1)).map dU)) 9 1 :: gX k p' (i+1) c' :: B,Ψ,δ,y.put 1 hw' rfl,by unfold κ;omega,gX k p' (i+1) c' :: .buf p' (i+1) c' (bX ((o.ζ.take (i+1)).map dU)) 9 1 :: B,Ψ,_,δ,λw G y=>y.perm (.swap _ _ _),⟨i+1,p',c',by omega,by omega,rfl,rfl,rfl⟩,by omega⟩⟩⟩
   .have he:i=o.ζ.length:=by have:=Λ hge;omega
    subst he;rw [List.take_length] at y;have hml:o.ζ.length=(o.ζ.map dU).length:=by rw [List.length_map]
    have c5:Ctx W w (.buf p o.ζ.length c (bX (o.ζ.map dU)) 9 1 :: (.blk b8 (En [(F.HS,#[pA k0,pA k1]),(F.HT,#[pA k0,pA k])]) 91 :: gX k p o.ζ.length c :: B++G)) Ψ:=y.perm ((List.perm_append_comm_assoc [_,gX k p o.ζ.length c] [.buf p o.ζ.length c (bX (o.ζ.map dU)) 9 1] (B++G)));obtain ⟨rO,hs,_⟩:=Ctx.freeze (α:=ByteArray) c5 (L6 λU hy=>by
     obtain ⟨z,hz,rfl⟩:=List.mem_map.1 hy;have:=hb.ζ z hz;have h9:=YF this.1 (by omega);rw [<-aJB,dN];unfold maxLen;omega)
    obtain ⟨aV,tL⟩:∃ aV:θ,aV=λM w=>Ψ M w/\Δ M w p (o.ζ.map dU):=⟨_,rfl⟩
    haveI:O aV:=by rw [tL];infer_instance
    have hw1:∀ M w,aV M w->Ψ M w:=by rw [tL];exact λM w h=>h.1
    have dw:∀ M w,aV M w->Δ M w p (o.ζ.map dU):=by rw [tL];exact λM w h=>h.2
    have vi:Ctx W w (.blk b8 (En [(F.HS,#[pA k0,pA k1]),(F.HT,#[pA k0,pA k])]) 91 :: (gX k p (o.ζ.map dU).length c :: bV k1 cg :: aO k0 gb mO :: ω gb cs :: (aL x q u.j++(ξ (q.mv v) d1++((aP cb q cc :: S)++G))))) aV:=by
     have nh:=rO.add (Ψ:=λM w=>Δ M w p (o.ζ.map dU)) hs;rw [<-tL,hB] at nh;rw [<-hml];have mg:(bV k1 cg :: aO k0 gb mO :: ω gb cs :: (aL x q u.j++(ξ (q.mv v) d1++(aP cb q cc :: S))))++G=bV k1 cg :: aO k0 gb mO :: ω gb cs :: (aL x q u.j++(ξ (q.mv v) d1++((aP cb q cc :: S)++G))):=by simp only [μ,List.cons_append]
     rw [<-mg];exact nh
    refine a0v (fs:=[(F.HS,#[pA k0,pA k1]),(F.HT,#[pA k0,pA k])]) (by show 2<=1000;omega) vi (aQP (λM w h=>hoff M w (hw1 M w h)) (λM w h=>hT M w (hw1 M w h)) hs1 mo hb.ints.2 hq1 (Vd.weak hw1) hsb hb.aM5 hb.aLo hb.aM6 dw hb.aPI (by rw [List.length_map];have:=hb.a9W;omega)) λn S' dF w q4 iw y=>?_;obtain ⟨rfl,rfl,Dl,v2,p3,c3,gz,g1,g2,g3,rfl⟩:=iw;obtain ⟨⟨d2,j2,e2⟩,hy⟩:∃ U,q7 d1 u.j o.src (o.ζ.map dU)=U:=⟨_,rfl⟩
    rw [hy] at hk g1 g2 g3 y ⊢;simp only at hk g1 g2 g3 y ⊢;have c9:Ctx W w ((aO k0 gb mO :: ω gb cs :: (aL (x.mv p3 c3 gz) q j2++(ξ (q.mv v2) d2++(aP cb q cc :: S))))++G) Ψ:=by
     have PR:=(y.sub (List.sublist_append_right Dl _)).weak hw1;have mg:(aO k0 gb mO :: ω gb cs :: (aL (x.mv p3 c3 gz) q j2++(ξ (q.mv v2) d2++(aP cb q cc :: S))))++G=aO k0 gb mO :: ω gb cs :: (aL (x.mv p3 c3 gz) q j2++(ξ (q.mv v2) d2++((aP cb q cc :: S)++G))):=by simp only [μ,List.cons_append]
     rw [mg];exact PR
    refine ⟨e2,rfl,_,Ψ,δ,c9,γ.intro (λhne=>λw G y=>⟨_,y.get 0 rfl rfl,λw G y=>?_⟩) (λhe=>λw G y=>?_)⟩
    .have hne:e2≠0:=aN hne;refine ZB hm (S:=(aO k0 gb mO :: (aL (x.mv p3 c3 gz) q j2++(ξ (q.mv v2) d2++(aP cb q cc :: S))))++G) (y.perm (.swap _ _ _)) λw y=>⟨rfl,ZA gb (wF cs mO) q v2 (x.mv p3 c3 gz) cb d2 j2 cc S,Ψ,δ,y.sub (by
      show List.Sublist (ω gb (wF cs mO) :: ((aL (x.mv p3 c3 gz) q j2++(ξ (q.mv v2) d2++(aP cb q cc :: S)))++G)) (ω gb (wF cs mO) :: aO k0 gb mO :: ((aL (x.mv p3 c3 gz) q j2++(ξ (q.mv v2) d2++(aP cb q cc :: S)))++G));exact .cons_cons _ ((List.Sublist.refl _).cons _)),λw G y=>?_⟩
     have:=hk v2 p3 c3 gz w g1 g2 (g3.trans hkeep);rw [if_neg hne] at this;exact this y.left
    .have he:e2=0:=by simpa using Λ he
     have:=hk v2 p3 c3 gz w g1 g2 (g3.trans hkeep);rw [if_pos he] at this;exact this (y.left.sub ((List.Sublist.refl _).cons _))
end
theorem aOE{M w b o cs}{l:List aH}(h:rH b o cs l M w){j}(hj:j<l.length):∃ p c,cs.getD j []=l[j].cells p c/\l[j].ζ.length<=c/\c<=maxLen/\l[j].bA:=by
 obtain ⟨_,h1,h2⟩:=h j hj;obtain ⟨p,c,e,g1,g2,g3,_⟩:=a7C h2;exact ⟨p,c,e,g1,g2,g3⟩
theorem aOG{M w b o cs}{l:List aH}(h:rH b o cs l M w){j}(hj:j<l.length){p c}(e:cs.getD j []=l[j].cells p c):Δ M w p l[j].ζ:=by
 have:=(h j hj).2.2;rw [e] at this;exact aNC this
theorem aOF{M w b o cs}{l:List aH}(h:rH b o cs l M w){j}(hj:j<l.length){p c}(e:cs.getD j []=l[j].cells p c):bS w b (o+j*9) (l[j].cells p c):=by
 have:=(h j hj).2.1;rw [e] at this;exact this
theorem aF7{W w S}{Φ:θ}[O Φ]{b r p c}(y:Ctx W w (Θ b r p c++S) Φ)(hok:∀ x∈r.log,x.bA)(hlen:r.log.length<=4000){K}(hK:∀ q cap w',r.log.length<=cap->cap<=maxLen->Ctx W w' (Θ b r p c++S) (λM w=>Φ M w/\Δ M w q r.log)->K (.returned (.slice q r.log.length cap)) w'):
  Γ F.YP #[ε b 0] w K:=by
 refine ak (aDw b 0 (J:=K∘.returned) y ?_);refine λw G y=>⟨p,r.log.length,c,y.get 0 rfl rfl,λw G y=>?_⟩;have bO:Ctx W w (S++G) (Go.Vc.lZ W (Θ b r p c) Φ):=Ctx.aside (y.re (μ _ _ _));refine Jd bO (λM w h=>Ws h (n:=r.log.length) (c:=c) (by simp) hok) (by omega) λq cap w y=>?_;obtain ⟨_,HY,hcap2⟩:=y.uS 0 rfl;have ep:Ctx W w (.buf q r.log.length cap (dZ r.log) 76 2 :: (Θ b r p c++(S++G))) Φ:=y.DJ.perm List.perm_middle
 obtain ⟨lQ,hs,_⟩:=Ctx.freeze (α:=aS) ep (Ik hok);have hst:O (λM w=>Φ M w/\Δ M w q r.log):=vv Φ (λM w=>Δ M w q r.log);exact ⟨q,_,cap,rfl,Θ b r p c++S,λM w=>Φ M w/\Δ M w q r.log,hst,e4 (lQ.add hs),λw G y=>hK q cap w HY hcap2 y.left⟩
theorem aGB{w b r p c}(h:wN w b r p c):Γ F.Re #[ε b 0] w λe w'=>e=.returned (.int .i64 r.role)/\w'=w :=
 (aFe b 0 w (λu w'=>u=.int .i64 r.role/\w'=w) ⟨r.role,h.at 4 rfl,rfl,rfl⟩).mono λe w' ⟨v,h1,h2,h3⟩=>⟨by rw [h1,h2],h3⟩
theorem a0q{w b r p c}(h:wN w b r p c):Γ F.Im #[ε b 0] w λe w'=>e=.returned (.int .i64 r.υ)/\w'=w :=
 (aFc b 0 w (λu w'=>u=.int .i64 r.υ/\w'=w) ⟨r.υ,h.at 5 rfl,rfl,rfl⟩).mono λe w' ⟨v,h1,h2,h3⟩=>⟨by rw [h1,h2],h3⟩
theorem aEc{W w S}{Φ:θ}[O Φ]{b r p c}(y:Ctx W w (Θ b r p c++S) Φ){K}(hK:∀ w',Ctx W w' (Θ b r p c++S) Φ->K (.returned (.int .i64 r.υ)) w'):
  Γ F.Im #[ε b 0] w K :=
 (a0q (Ez y)).mono λe w' ⟨h1,h2⟩=>by subst h2;rw [h1];exact hK _ y
theorem aEx{W w S}{Φ:θ}[O Φ]{b r p c}(y:Ctx W w (Θ b r p c++S) Φ){K}(hK:∀ w',Ctx W w' (Θ b r p c++S) Φ->K (.returned (.agg #[.int .i64 r.term,.int .i64 r.ρ])) w'):
  Γ F.YN #[ε b 0] w K:=by
 refine ak (aDu b 0 (J:=K∘.returned) y ?_);exact λ_ w G y=>⟨r.term,r.ρ,y.row 0 rfl (D9 (vs:=[.int .i64 r.term,.int .i64 r.ρ]) rfl),λw G y=>hK w y.left⟩
structure sX where
 q:ld
 x:za
 cb:Nat
 rb:Nat
 rp:Option Addr
 rc:Nat
def ia(u:Bool)(b:Nat):Option Addr:=if u=true then some ⟨b,0,none⟩ else none
abbrev oR(P:sX)(u:Bool):List Value:=[ε P.q.db 0,.pointer (ia u P.x.ax),.pointer (ia u P.cb),.pointer (ia u P.rb)]
def aQv(P:sX)(d:b7)(u:kz):List Own:=Θ P.rb u.r P.rp P.rc++(aL P.x P.q u.j++(ξ P.q d++[aP P.cb P.q u.c]))
def dX(P:sX)(m:rG):List Own:=match m.up with
 | none=>ξ P.q m.d
 | some u=>aQv P m.d u
structure rF(Φ:θ)(P:sX)(m:rG):Prop where
 dq:cG P.q m.d
 dk:gk Φ P.q m.d
 sb:∀ u,m.up=some u->fY P.x.p P.x.cap u.j.list P.x.o
structure gQ where
 gb:Nat
 N:Jq
 cp:Option Addr
 cc:Nat
 P:Nat->sX
abbrev aJj(L:gQ)(aQ:List ByteArray):List Value:=[ε L.N.nb 0,.slice L.cp aQ.length L.cc]
def bU(L:gQ)(G:aa):List Value:=oR (L.P 0) (G.mem 0).up.isSome++(oR (L.P 1) (G.mem 1).up.isSome++(oR (L.P 2) (G.mem 2).up.isSome++aJj L G.aQ))
abbrev uU(L:gQ)(aQ:List ByteArray):Own:=.buf L.cp aQ.length L.cc (bX aQ) 9 1
def xR(L:gQ)(G:aa):List Own:=dX (L.P 0) (G.mem 0)++(dX (L.P 1) (G.mem 1)++dX (L.P 2) (G.mem 2))
def Ξ(L:gQ)(G:aa):List Own:=ω L.gb (bU L G) :: (cT L.N G.aD++(uU L G.aQ :: xR L G))
def Fb(L:gQ)(G:aa)(i:Nat):List Own:=if i=0 then dX (L.P 1) (G.mem 1)++dX (L.P 2) (G.mem 2) else if i=1 then dX (L.P 0) (G.mem 0)++dX (L.P 2) (G.mem 2) else dX (L.P 0) (G.mem 0)++dX (L.P 1) (G.mem 1)
def n6(L:gQ)(G:aa)(i:Nat):List Own:=cT L.N G.aD++(uU L G.aQ :: Fb L G i)
structure bf(Φ:θ)(L:gQ)(G:aa):Prop where
 mem:∀ i,i<3->rF Φ (L.P i) (G.mem i)
 jx:G.aD.aI.length<=500
section
variable {L:gQ}{G:aa}{i:Nat}
theorem a73(L G)(hi:i<3):(xR L G).Perm (dX (L.P i) (G.mem i)++Fb L G i):=by
 unfold xR Fb
 match i,hi with
 | 0,_=>exact .refl _
 | 1,_=>exact List.perm_append_comm_assoc _ _ _
 | 2,_ =>
  rw [if_neg (by decide),if_neg (by decide),<-μ];exact List.perm_append_comm
theorem LP(L G)(hi:i<3)(F):(Ξ L G++F).Perm (ω L.gb (bU L G) :: (dX (L.P i) (G.mem i)++(n6 L G i++F))):=by
 unfold Ξ n6;rw [List.cons_append];refine .cons _ ?_;rw [<-μ (dX _ _)];refine List.Perm.append_right F ?_;refine (((a73 L G hi).cons _).append_left _).trans ?_;refine ((List.perm_middle (a:=uU L G.aQ) (l₁:=dX (L.P i) (G.mem i)) (l₂:=Fb L G i)).symm.append_left _).trans ?_;exact List.perm_append_comm_assoc _ _ _
theorem Uw(L G):(bU L G).length=14:=rfl
theorem ue(L G)(hi:i<3){k}(hk:k<4):(bU L G)[i*4+k]? = (oR (L.P i) (G.mem i).up.isSome)[k]? := by
 match i,hi,k,hk with
 | 0,_,0,_=>rfl
 | 0,_,1,_=>rfl
 | 0,_,2,_=>rfl
 | 0,_,3,_=>rfl
 | 1,_,0,_=>rfl
 | 1,_,1,_=>rfl
 | 1,_,2,_=>rfl
 | 1,_,3,_=>rfl
 | 2,_,0,_=>rfl
 | 2,_,1,_=>rfl
 | 2,_,2,_=>rfl
 | 2,_,3,_=>rfl
def fS(L:gQ)(i:Nat)(P:sX):gQ:={ L with P:=put L.P i P }
theorem aPG(P m)(hi:i<3):n6 (fS L i P) (ay G i m) i=n6 L G i:=by
 unfold n6 Fb
 match i,hi with
 | 0,_=>rfl
 | 1,_=>rfl
 | 2,_=>rfl
theorem a4l{P d}(hP:P.q.db=(L.P i).q.db)(hi:i<3):wF (bU L G) (i*4)=bU (fS L i P) (ay G i ⟨d,none⟩):=by
 have e:bU (fS L i P) (ay G i ⟨d,none⟩)=bU (fS L i { P with q:={ P.q with db:=(L.P i).q.db } }) (ay G i ⟨d,none⟩):=by rw [<-hP]
 rw [e]
 match i,hi with
 | 0,_=>rfl
 | 1,_=>rfl
 | 2,_=>rfl
theorem aJi{P d u}(hP:P.q.db=(L.P i).q.db)(hi:i<3):DK (bU L G) (i*4) P.x.ax P.cb P.rb=bU (fS L i P) (ay G i ⟨d,some u⟩):=by
 have e:bU (fS L i P) (ay G i ⟨d,some u⟩)=bU (fS L i { P with q:={ P.q with db:=(L.P i).q.db } }) (ay G i ⟨d,some u⟩):=by rw [<-hP]
 rw [e]
 match i,hi with
 | 0,_=>rfl
 | 1,_=>rfl
 | 2,_=>rfl
theorem LN{P m}(hP:P.q.db=(L.P i).q.db)(hj:P.x.ax=(L.P i).x.ax)(hc:P.cb=(L.P i).cb)(hr:P.rb=(L.P i).rb)(hu:m.up.isSome=(G.mem i).up.isSome)(hi:i<3):bU L G=bU (fS L i P) (ay G i m):=by
 have key:oR P m.up.isSome=oR (L.P i) (G.mem i).up.isSome:=by rw [hu];simp only [oR];rw [hP,hj,hc,hr]
 have e:∀ j,oR ((fS L i P).P j) ((ay G i m).mem j).up.isSome=oR (L.P j) (G.mem j).up.isSome:=λj=>by
  by_cases hij:j=i
  .subst hij;show oR (put L.P j P j) ((put G.mem j m j)).up.isSome=_;rw [cF,cF];exact key
  .show oR (put L.P i P j) ((put G.mem i m j)).up.isSome=_;rw [dD _ _ hij,dD _ _ hij]
 unfold bU;rw [e,e,e];rfl
theorem Q2(P m)(hi:i<3)(F):(ω L.gb (bU (fS L i P) (ay G i m)) :: (dX P m++(n6 L G i++F))).Perm (Ξ (fS L i P) (ay G i m)++F):=by
 have h:=LP (fS L i P) (ay G i m) hi F;rw [aPG P m hi] at h;have e1:(fS L i P).P i=P:=cF _ _ _;have e2:(ay G i m).mem i=m:=cF _ _ _;rw [e1,e2] at h;exact h.symm
theorem bf.put{Φ}(h:bf Φ L G){P m}(hm:rF Φ P m):bf Φ (fS L i P) (ay G i m):=⟨λj hj=>by
 by_cases e:j=i
 .subst e;have e1:(fS L j P).P j=P:=cF _ _ _;have e2:(ay G j m).mem j=m:=cF _ _ _;rw [e1,e2];exact hm
 .have e1:(fS L i P).P j=L.P j:=dD _ _ e;have e2:(ay G i m).mem j=G.mem j:=dD _ _ e;rw [e1,e2];exact h.mem j hj,h.jx⟩
theorem rF.weak{Φ Ψ P m}(h:rF Φ P m)(e:∀ M w,Ψ M w->Φ M w):rF Ψ P m:=⟨h.dq,h.dk.weak e,h.sb⟩
theorem bf.weak{Φ Ψ}(h:bf Φ L G)(e:∀ M w,Ψ M w->Φ M w):bf Ψ L G:=⟨λi hi=>(h.mem i hi).weak e,h.jx⟩
end
def mc(L:gQ)(cp:Option Addr)(cc:Nat):gQ:={ L with cp:=cp,cc:=cc }
def uT(G:aa)(l:List ByteArray):aa:={ G with aQ:=l }
section
variable {L:gQ}{G:aa}{i:Nat}
abbrev r5(L:gQ)(G:aa)(i:Nat)(u:kz)(F:List Own):List Own:=ω L.gb (bU L G) :: ((aL (L.P i).x (L.P i).q u.j++(ξ (L.P i).q (G.mem i).d++[aP (L.P i).cb (L.P i).q u.c]))++(n6 L G i++F))
theorem Eo(hi:i<3){u}(hu:(G.mem i).up=some u)(F):(Ξ L G++F).Perm (Θ (L.P i).rb u.r (L.P i).rp (L.P i).rc++r5 L G i u F):=by
 refine (LP L G hi F).trans ?_;have e:dX (L.P i) (G.mem i)=Θ (L.P i).rb u.r (L.P i).rp (L.P i).rc++(aL (L.P i).x (L.P i).q u.j++(ξ (L.P i).q (G.mem i).d++[aP (L.P i).cb (L.P i).q u.c])):=by unfold dX;rw [hu];rfl
 rw [e,μ];exact List.perm_middle.symm
abbrev zo(L:gQ)(G:aa)(F:List Own):List Own:=ω L.gb (bU L G) :: (cT L.N G.aD++(xR L G++F))
theorem a4m(L G F):(Ξ L G++F).Perm (uU L G.aQ :: zo L G F):=by
 have e:Ξ L G++F=(ω L.gb (bU L G) :: cT L.N G.aD)++(uU L G.aQ :: (xR L G++F)):=by
  unfold Ξ;simp only [μ,List.cons_append]
 rw [e];exact List.perm_middle
def FT(G:aa):Nat->aa
 | 0=>G
 | i+1=>gZ (FT G i) i
theorem a7V(G):∀ i,(FT G i).mem=G.mem/\(FT G i).aD=G.aD
 | 0=>⟨rfl,rfl⟩
 | i+1=>by
  have h:=a7V G i;unfold FT gZ;split
  .exact h
  .split<;>exact h
theorem aHL(L G S F):zo L G S++F=zo L G (S++F):=by simp only [zo,List.cons_append,μ]
abbrev Tr(L:gQ)(G:aa)(i:Nat)(u:kz)(F:List Own):List Own:=(ω L.gb (bU L G) :: cT L.N G.aD)++(((aL (L.P i).x (L.P i).q u.j++(ξ (L.P i).q (G.mem i).d++[aP (L.P i).cb (L.P i).q u.c]))++Fb L G i)++F)
theorem aHO(hi:i<3){u}(hu:(G.mem i).up=some u)(F):(zo L G F).Perm (Θ (L.P i).rb u.r (L.P i).rp (L.P i).rc++Tr L G i u F):=by
 have e:dX (L.P i) (G.mem i)=Θ (L.P i).rb u.r (L.P i).rp (L.P i).rc++(aL (L.P i).x (L.P i).q u.j++(ξ (L.P i).q (G.mem i).d++[aP (L.P i).cb (L.P i).q u.c])):=by unfold dX;rw [hu];rfl
 have h:=(a73 L G hi).append_right F;rw [e,μ,μ] at h;have h2:=h.append_left (ω L.gb (bU L G) :: cT L.N G.aD);refine List.Perm.trans h2 ?_;rw [<-μ (aL (L.P i).x (L.P i).q u.j++_) (Fb L G i) F];exact List.perm_append_comm_assoc _ _ _
abbrev jj(k:Nat)(vs:List Value):Own:=.blk k vs 54
theorem aNN{w0 rb r p c}(h:wN w0 rb r p c){w}(e:∃ k,w=w0.drewN k):Γ F.Im #[ε rb 0] w λe w'=>e=.returned (.int .i64 r.υ)/\∃ k,w'=w0.drewN k:=by
 obtain ⟨k,rfl⟩:=e;exact (a0q (h.drew k)).mono λe w' ⟨h1,h2⟩=>⟨h1,k,h2⟩
theorem Sq{W w S}{Φ:θ}[O Φ](hw:∀ i,i<3->∀ u,(G.mem i).up=some u->u.r.bA)(y:Ctx W w (Ξ L G++S) Φ){K}(hk:∀ cp cc w',Ctx W w' (Ξ (mc L cp cc) (ek G)++S) Φ->K (.returned (.tuple #[])) w'):Γ F.LX #[ε L.gb 0] w K:=by
 refine ak (aDE L.gb 0 (J:=K∘.returned) y λw av y=>?_);refine ⟨some ⟨(L.P 0).q.db,0,none⟩,ia (G.mem 0).up.isSome (L.P 0).x.ax,ia (G.mem 0).up.isSome (L.P 0).cb,ia (G.mem 0).up.isSome (L.P 0).rb,some ⟨(L.P 1).q.db,0,none⟩,ia (G.mem 1).up.isSome (L.P 1).x.ax,ia (G.mem 1).up.isSome (L.P 1).cb,ia (G.mem 1).up.isSome (L.P 1).rb,some ⟨(L.P 2).q.db,0,none⟩,ia (G.mem 2).up.isSome (L.P 2).x.ax,ia (G.mem 2).up.isSome (L.P 2).cb,ia (G.mem 2).up.isSome (L.P 2).rb,?_,?_⟩
 .exact y.row 0 rfl (D9 (cs:=bU L G) (vs:=[.pointer (some ⟨(L.P 0).q.db,0,none⟩),.pointer (ia (G.mem 0).up.isSome (L.P 0).x.ax),.pointer (ia (G.mem 0).up.isSome (L.P 0).cb),.pointer (ia (G.mem 0).up.isSome (L.P 0).rb),.pointer (some ⟨(L.P 1).q.db,0,none⟩),.pointer (ia (G.mem 1).up.isSome (L.P 1).x.ax),.pointer (ia (G.mem 1).up.isSome (L.P 1).cb),.pointer (ia (G.mem 1).up.isSome (L.P 1).rb),.pointer (some ⟨(L.P 2).q.db,0,none⟩),.pointer (ia (G.mem 2).up.isSome (L.P 2).x.ax),.pointer (ia (G.mem 2).up.isSome (L.P 2).cb),.pointer (ia (G.mem 2).up.isSome (L.P 2).rb)]) rfl)
 clear y;refine fD (λfH R' Ψ bY=>∃ (i:Nat) (cp:Option Addr) (cc:Nat),fH=i/\i<=3/\bY=3 - i/\Ψ=Φ/\R'=Ξ (mc L cp cc) (FT G i)++S) ⟨⟨_,Φ,_,δ,λw G y=>y,0,L.cp,L.cc,rfl,Nat.zero_le _,rfl,rfl,rfl⟩,?_⟩;rintro fH R' Ψ bY _ ⟨i,cp,cc,rfl,hi,rfl,rfl,rfl⟩;refine γ.intro (λhlt=>⟨by have:=aN hlt;omega,λk w F y=>?_⟩) (λhge=>λw F y=>?_)
 rotate_left 1
 .have he:i=3:=by have:=Λ hge;omega
  subst he;exact hk cp cc w y.left
 have hi:i<3:=by have:=aN hlt;omega
 obtain ⟨az,iI⟩:∃ az,mc L cp cc=az:=⟨_,rfl⟩;obtain ⟨av,wu⟩:∃ av,FT G i=av:=⟨_,rfl⟩;have hmem:av.mem=G.mem:=by rw [<-wu];exact (a7V G i).1
 have aJu:az.P=L.P:=by rw [<-iI];rfl
 have hgb:az.gb=L.gb:=by rw [<-iI];rfl
 have Uc:FT G (i+1)=gZ av i:=by rw [<-wu];rfl
 have key:List.take 4 (List.drop (0+((i:Nat):Int).toNat*4) [Value.pointer (some ⟨(L.P 0).q.db,0,none⟩),.pointer (ia (G.mem 0).up.isSome (L.P 0).x.ax),.pointer (ia (G.mem 0).up.isSome (L.P 0).cb),.pointer (ia (G.mem 0).up.isSome (L.P 0).rb),.pointer (some ⟨(L.P 1).q.db,0,none⟩),.pointer (ia (G.mem 1).up.isSome (L.P 1).x.ax),.pointer (ia (G.mem 1).up.isSome (L.P 1).cb),.pointer (ia (G.mem 1).up.isSome (L.P 1).rb),.pointer (some ⟨(L.P 2).q.db,0,none⟩),.pointer (ia (G.mem 2).up.isSome (L.P 2).x.ax),.pointer (ia (G.mem 2).up.isSome (L.P 2).cb),.pointer (ia (G.mem 2).up.isSome (L.P 2).rb)])=oR (az.P i) (av.mem i).up.isSome:=by
  rw [hmem,aJu]
  match i,hi with
  | 0,_=>rfl
  | 1,_=>rfl
  | 2,_=>rfl
 have hb:∀ (P:sX) (u:Bool),((oR P u).length.beq 4&&(oR P u).all ga)=true:=λ_ _=>rfl;rw [iI,wu] at y;rw [key,hb];refine ⟨y.can 0 rfl (by show 0+4<=4;omega),λw' hw'=>⟨jj k (oR (az.P i) (av.mem i).up.isSome) :: (Ξ az av++S),Ψ,δ,y.pO 0 hw' rfl,λw F y=>?_⟩⟩;have next:∀ {Q:List Own},κ ((i:Int)+1):=fun {_}=>by unfold κ;omega
 cases hu:(av.mem i).up with
 | none =>
  have e1:gZ av i=av:=by unfold gZ;rw [hu]
  rw [hu] at y;refine ⟨none,y.get 0 rfl rfl,none,λh=>(by cases h),0,λh=>(by cases h),none,0,0,λh=>(by cases h),γ.intro (λ_=>⟨by unfold κ;omega,Ξ az av++S,Ψ,3 - (i+1),δ,λw G y=>(Ctx.drop1 y),⟨i+1,cp,cc,by omega,by omega,rfl,rfl,by rw [iI,Uc,e1]⟩,by omega⟩) (λh=>by cases h)⟩
 | some u =>
  have hok:u.r.bA:=hw i hi u (by rw [<-hmem];exact hu);have cW:=hok.υ;have hlen:=hok.len;have um:∀ x∈u.r.log,x.bA:=hok.ζ;rw [hu] at y;have hrb:ia (some u).isSome (az.P i).rb=some ⟨(az.P i).rb,0,none⟩:=rfl;have pr:∀ (vs:List Value) (F:List Own),((jj k vs :: (Ξ az av++S))++F).Perm (Θ (az.P i).rb u.r (az.P i).rp (az.P i).rc++(jj k vs :: r5 az av i u (S++F))):=λvs F=>by
   rw [List.cons_append,μ];exact ((Eo hi hu (S++F)).cons _).trans List.perm_middle.symm
  have hh:=Ez (y.perm (pr _ F));have Ed:(bU az av)[13]? = some (.slice az.cp av.aQ.length az.cc):=rfl;refine ⟨_,y.get 0 rfl rfl,_,λ_=>y.get 0 rfl rfl,u.r.υ,λ_ w h=>aNN hh h,_,_,_,λ_=>by rw [<-hgb];exact y.get 1 rfl Ed,γ.intro (λh=>?_) (λh=>λw F y=>?_)⟩
  .have h:(u.r.υ:Int)<=av.aQ.length:=by
    have h:(false||decide ((u.r.υ:Int)<=(av.aQ.length:Int)))=true:=h;simpa using h
   have e1:gZ av i=av:=by unfold gZ;rw [hu];simp only;rw [if_neg (by omega)]
   exact ⟨by unfold κ;omega,Ξ az av++S,Ψ,3 - (i+1),δ,λw G y=>(Ctx.drop1 y),⟨i+1,cp,cc,by omega,by omega,rfl,rfl,by rw [iI,Uc,e1]⟩,by omega⟩
  .have h:¬ (u.r.υ:Int)<=av.aQ.length:=by
    have h:(false||decide ((u.r.υ:Int)<=(av.aQ.length:Int)))=false:=h;simpa using h
   have e1:gZ av i=uT av ((u.r.log.take u.r.υ).map aS.data):=by unfold gZ;rw [hu];simp only;rw [if_pos (by omega)];rfl
   obtain ⟨vs,hvs⟩:∃ vs,vs=oR (az.P i) (some u).isSome:=⟨_,rfl⟩;have a5i:vs[3]? = some (.pointer (some ⟨(az.P i).rb,0,none⟩)):=by rw [hvs];rfl
   rw [<-hvs] at y;have c1:Ctx W w (jj k vs :: zo az av (S++F)) Ψ:=by
    have c2:=y.perm (show ((jj k vs :: (Ξ az av++S))++F).Perm (uU az av.aQ :: (jj k vs :: zo az av (S++F))) from by
     rw [List.cons_append,μ];exact ((a4m az av (S++F)).cons _).trans (.swap _ _ _))
    exact Ctx.drop1 c2
   obtain ⟨Z,hZ⟩:∃ Z:Option Addr->Nat->List ByteArray->List Own->List Own,Z=λcp cc l F=>zo (mc az cp cc) (uT av l) F:=⟨_,rfl⟩;have G8:∀ cp cc l S F,Z cp cc l S++F=Z cp cc l (S++F):=λcp cc l S F=>by rw [hZ];exact aHL _ _ _ _
   have aS7:∀ cp cc l F,(Z cp cc l F).Perm (Θ (az.P i).rb u.r (az.P i).rp (az.P i).rc++Tr (mc az cp cc) (uT av l) i u F):=λcp cc l F=>by rw [hZ];exact aHO (L:=mc az cp cc) (G:=uT av l) hi hu F
   have aCB:∀ {w w':World} {cp cc l jV jU l2 F} {aV:θ} [O aV],Ctx W w (jj k vs :: Z cp cc l F) aV->w'=w.setCell (Addr.mk L.gb (0+13) none) (.slice jV (List.length l2) jU)->Ctx W w' (jj k vs :: Z jV jU l2 F) aV:=fun {w w' cp cc l jV jU l2 F aV} _ c e=>by
    rw [hZ] at c ⊢;rw [<-hgb] at e;exact c.put 1 e rfl
   have aCA:∀ {w:World} {cp cc l F} {aV:θ},Ctx W w (jj k vs :: Z cp cc l F) aV->au w L.gb (0+13) 1:=fun {w cp cc l F aV} c=>by
    rw [hZ] at c;rw [<-hgb];exact c.can 1 rfl (by show 0+13+1<=14;omega)
   have c1:Ctx W w (jj k vs :: Z az.cp az.cc av.aQ (S++F)) Ψ:=by rw [hZ];exact c1
   have e9:∀ Y:List Own,List.Sublist [jj k vs] (jj k vs :: Y):=λY=>.cons_cons _ (List.nil_sublist _);refine ⟨aCA c1,λw' hw'=>⟨jj k vs :: Z none 0 [] S,Ψ,δ,by
    rw [List.cons_append,G8];exact aCB c1 hw',[jj k vs],lE,δ,λw G y=>dS y (e9 _),some ⟨(az.P i).rb,0,none⟩,λw G y=>⟨_,y.get 0 rfl a5i,rfl⟩,some ⟨(az.P i).rb,0,none⟩,λw G y=>⟨_,y.get 0 rfl a5i,rfl⟩,λw F y=>?_⟩⟩
   have Ii:∀ F,((jj k vs :: Z none 0 [] S)++F).Perm (Θ (az.P i).rb u.r (az.P i).rp (az.P i).rc++(jj k vs :: Tr (mc az none 0) (uT av []) i u (S++F))):=λF=>by
    rw [List.cons_append,G8];exact ((aS7 none 0 [] (S++F)).cons _).trans List.perm_middle.symm
   refine aF7 (y.perm (Ii F)) um hlen λq cap w HY hcap2 y=>?_;obtain ⟨aV,tL⟩:∃ aV:θ,aV=λM w=>Ψ M w/\Δ M w q u.r.log:=⟨_,rfl⟩
   haveI:O aV:=by rw [tL];infer_instance
   have hw1:∀ M w,aV M w->Ψ M w:=by rw [tL];exact λM w h=>h.1
   have dw:∀ M w,aV M w->Δ M w q u.r.log:=by rw [tL];exact λM w h=>h.2
   rw [<-tL] at y;have xE:Gr q u.r.log.length:=(dw _ _ y.cy).there;refine ⟨q,u.r.log.length,cap,rfl,jj k vs :: Z none 0 [] S,aV,δ,y.perm (Ii F).symm,λw G y=>dS y (e9 _),λw F y=>aEc (y.perm (Ii F)) λw y=>⟨u.r.υ,rfl,jj k vs :: Z none 0 [] S,aV,δ,y.perm (Ii F).symm,λw G y=>dS y (e9 _),by omega,?_⟩⟩;obtain ⟨D,hD⟩:∃ D:Nat->List ByteArray,D=λj=>(u.r.log.take j).map aS.data:=⟨_,rfl⟩;have V6:∀ j,j<=u.r.υ->(D j).length=j:=λj hj=>by rw [hD];show ((u.r.log.take j).map aS.data).length=j;rw [List.length_map,List.length_take];omega
   have aJp:D 0=[]:=by rw [hD];rfl
   refine fD (λfH R' y7 bY=>∃ (j:Nat) (cp:Option Addr) (cc:Nat),fH=j/\j<=u.r.υ/\bY=u.r.υ - j/\y7=aV/\R'=jj k vs :: .buf cp j cc (bX (D j)) 9 1 :: Z cp cc (D j) S) ⟨⟨_,aV,_,δ,λw G y=>(y.Gz 9 1).perm (.swap _ _ _),0,none,0,rfl,Nat.zero_le _,rfl,rfl,by rw [aJp]⟩,?_⟩;rintro fH dM y7 aTZ _ ⟨j,jV,jU,rfl,hj,rfl,rfl,rfl⟩;rw [Int.toNat_natCast];refine γ.intro (λhlt=>?_) (λhge=>?_)
   .have hlt:j<u.r.υ:=by have:=aN hlt;omega
    have vr:j<u.r.log.length:=by omega
    obtain ⟨g,Mh,rfl⟩:=xE (by omega);have es:eB (some (⟨g,Mh,none⟩:Addr)) 2 0 cap=some ⟨g,Mh,none⟩:=by
     unfold eB;split
     .rfl
     .rw [Option.map_some,Nat.zero_mul];rfl
    rw [es];refine ⟨by omega,eu g Mh rfl λw F y=>⟨u.r.log[j].term,u.r.log[j].data,by rw [Int.toNat_natCast];exact J3 (dw _ _ y.cy) vr,λ_=>?_⟩⟩;have aS8:∀ (cp:Option Addr) (cc:Nat) (l:List ByteArray) (Y:List Own),∃ T,Z cp cc l Y=ω az.gb (bU (mc az cp cc) (uT av l)) :: T:=λcp cc l Y=>by rw [hZ];exact ⟨_,rfl⟩
    obtain ⟨T,hT⟩:=aS8 jV jU (D j) S;have Ed:∀ cp cc l,(bU (mc az cp cc) (uT av l))[13]? = some (.slice cp l.length cc):=λ_ _ _=>rfl;have Iy:∀ A:List Own,List.Sublist [ω az.gb (bU (mc az jV jU) (uT av (D j)))] (A++Z jV jU (D j) S):=λA=>by
     rw [hT];exact (List.Sublist.cons_cons _ (List.nil_sublist _)).trans (List.sublist_append_right A _)
    refine ⟨[ω az.gb (bU (mc az jV jU) (uT av (D j)))],lE,δ,λw G y=>dS y (Iy [_,_]),jV,j,jU,λw G y=>⟨_,_,_,by
     rw [<-hgb];have:=y.get 0 rfl (Ed jV jU (D j));rw [V6 j hj] at this;exact this,rfl⟩,λgB=>⟨λw G y=>dS y (Iy [_,_,_]),λw F y=>?_⟩⟩
    obtain ⟨p',c',w',hr,_,ep⟩:=(y.perm (show (Own.blk gB [Value.string u.r.log[j].data] 9 :: (jj k vs :: .buf jV j jU (bX (D j)) 9 1 :: Z jV jU (D j) S)++F).Perm (Own.blk gB [Value.string u.r.log[j].data] 9 :: .buf jV j jU (bX (D j)) 9 1 :: (jj k vs :: Z jV jU (D j) S++F)) from .cons _ (.swap _ _ _))).yM (ts:=40) (ty:=40) (kb:=#[false,false]) (bytes:=16) (P:=prog) (by kernel_rfl) (by omega) rfl rfl (by omega) (by omega)
    have ed:D j++[u.r.log[j].data]=D (j+1):=by
     rw [hD];show (u.r.log.take j).map aS.data++[u.r.log[j].data]=(u.r.log.take (j+1)).map aS.data;rw [List.take_succ_eq_append_getElem vr,List.map_append];rfl
    have et:bX (D j)++[Value.string u.r.log[j].data]=bX (D (j+1)):=by
     rw [<-ed];simp only [bX,List.map_append,List.map_cons,List.map_nil]
    rw [et] at ep;refine ⟨_,_,_,w',hr,.buf p' (j+1) c' (bX (D (j+1))) 9 1 :: jj k vs :: Z jV jU (D j) S,y7,δ,ep,λw G y=>dS y (Iy [_,_]),λw F y=>?_⟩;have c3:Ctx W w (jj k vs :: Z jV jU (D j) (S++F++[.buf p' (j+1) c' (bX (D (j+1))) 9 1])) y7:=y.perm (by
     show (Own.buf p' (j+1) c' (bX (D (j+1))) 9 1 :: jj k vs :: (Z jV jU (D j) S++F)).Perm _;rw [G8,<-G8 jV jU (D j) (S++F)];exact (List.perm_append_comm (l₁:=[Own.buf p' (j+1) c' (bX (D (j+1))) 9 1]) (l₂:=jj k vs :: Z jV jU (D j) (S++F))))
    refine ⟨aCA c3,λw' hw'=>⟨jj k vs :: .buf p' (j+1) c' (bX (D (j+1))) 9 1 :: Z p' c' (D (j+1)) S,y7,δ,?_,by unfold κ;omega,_,y7,_,δ,λw G y=>y,⟨j+1,p',c',by omega,by omega,rfl,rfl,rfl⟩,by omega⟩⟩;have hd1:=V6 (j+1) (by omega);have F8:w'=w.setCell (Addr.mk L.gb (0+13) none) (.slice p' (D (j+1)).length c'):=by rw [hd1];exact hw'
    have c4:=aCB (l2:=D (j+1)) c3 F8;refine c4.perm ?_;have mg:Z p' c' (D (j+1)) (S++F++[.buf p' (j+1) c' (bX (D (j+1))) 9 1])=(Z p' c' (D (j+1)) S++F)++[.buf p' (j+1) c' (bX (D (j+1))) 9 1]:=by rw [G8,G8]
    rw [mg];show (jj k vs :: ((Z p' c' (D (j+1)) S++F)++[_])).Perm (jj k vs :: .buf p' (j+1) c' (bX (D (j+1))) 9 1 :: (Z p' c' (D (j+1)) S++F));exact .cons _ List.perm_append_comm
   .have he:j=u.r.υ:=by have:=Λ hge;omega
    subst he;refine ⟨by unfold κ;omega,Ξ (mc az jV jU) (uT av (D u.r.υ))++S,Ψ,3 - (i+1),δ,λw F y=>?_,⟨i+1,jV,jU,by omega,by omega,rfl,rfl,by rw [Uc,e1,<-iI,hD];rfl⟩,by omega⟩;have c5:Ctx W w (.buf jV u.r.υ jU (bX (D u.r.υ)) 9 1 :: zo (mc az jV jU) (uT av (D u.r.υ)) (S++F)) y7:=by
     have rO:Ctx W w (.buf jV u.r.υ jU (bX (D u.r.υ)) 9 1 :: (Z jV jU (D u.r.υ) S++F)) y7:=Ctx.drop1 y;rw [G8,hZ] at rO;exact rO
    have iT:uU (mc az jV jU) (uT av (D u.r.υ)).aQ=.buf jV u.r.υ jU (bX (D u.r.υ)) 9 1:=by
     show Own.buf jV (D u.r.υ).length jU _ 9 1=_;rw [V6 _ (Nat.le_refl _)];rfl
    have pc:=a4m (mc az jV jU) (uT av (D u.r.υ)) (S++F);rw [iT] at pc;rw [μ];exact (c5.weak hw1).perm pc.symm
end
def KD(m:aH):Prop:=m.kind=1/\m.yes=true
structure Bs(r:aG)(x:aG × fN):Prop where
 keep:r.term=x.1.term->r.ρ ≠ -1->x.1.ρ=r.ρ
 yes:∀ m∈x.2.send,KD m->m.src=r.id/\m.term=x.1.term/\m.to=x.1.ρ/\0<=m.to
theorem yL(r):∀ m∈bT r,m.kind=2:=λm hm=>by
 unfold bT at hm;obtain ⟨i,_,rfl⟩:=List.mem_map.1 hm;rfl
theorem XN{l:List aH}{k}(hk:k≠1)(h:∀ m∈l,m.kind=k){P:aH->Prop}:∀ m∈l,KD m->P m:=λm hm hy=>absurd ((h m hm).symm.trans hy.1) hk
theorem aQl(r):Bs r (cr r):=by
 unfold cr;split
 .exact ⟨λ_ _=>rfl,XN (by decide) (yL r)⟩
 split
 .exact ⟨λ_ _=>rfl,λm hm=>by cases hm⟩
 .refine ⟨λh=>?_,λm hm hy=>?_⟩
  .have:r.term=r.term+1:=h;omega
  .obtain ⟨i,_,rfl⟩:=List.mem_map.1 hm;cases hy.1
theorem aOS(r data):Bs r ((aq r data).1,(aq r data).2.2.2):=by
 unfold aq;split
 .exact ⟨λ_ _=>rfl,λm hm=>by cases hm⟩
 split
 .exact ⟨λ_ _=>rfl,λm hm=>by cases hm⟩
 split
 .exact ⟨λ_ _=>rfl,λm hm=>by cases hm⟩
 .exact ⟨λ_ _=>rfl,XN (by decide) (yL _)⟩
theorem aRH(r m)(h0:0<=m.src):Bs r (cV r m)/\(cV r m).1.term=r.term:=by
 unfold cV;split
 .rename_i hc;simp only [Bool.and_eq_true,Bool.or_eq_true,decide_eq_true_eq] at hc;refine ⟨⟨λ_ hv=>?_,λv hv hy=>?_⟩,rfl⟩
  .rcases hc.1.2 with h|h
   .exact absurd h hv
   .exact h.symm
  .rw [List.mem_singleton.1 hv];exact ⟨rfl,rfl,rfl,h0⟩
 .refine ⟨⟨λ_ _=>rfl,λv hv hy=>?_⟩,rfl⟩;rw [List.mem_singleton.1 hv] at hy;cases hy.2
structure Bd(r:aG)(x:aG × fN):Prop where
 term:x.1.term=r.term
 ρ:x.1.ρ=r.ρ
 send:∀ m∈x.2.send,m.kind≠1
theorem II{r r'}(h1:r'.term=r.term)(h2:r'.ρ=r.ρ):Bd r (r',er):=⟨h1,h2,λm hm=>by cases hm⟩
theorem aRK(r m):Bd r (eC r m):=by
 unfold eC;split
 .exact II rfl rfl
 simp only;split
 .exact II rfl rfl
 .exact ⟨rfl,rfl,λv hv=>by rw [yL _ v hv];decide⟩
theorem a2Y(r m):Bd r (cM r m):=by
 have h3:∀ {r':aG} {a:aH},r'.term=r.term->r'.ρ=r.ρ->a.kind=3->Bd r (r',gL [a]):=λh1 h2 h=>⟨h1,h2,λv hv=>by rw [List.mem_singleton.1 hv,h];decide⟩;unfold cM;split
 .exact h3 rfl rfl rfl
 split
 .exact II rfl rfl
 simp only;split
 .exact h3 rfl rfl rfl
 split
 .split
  .exact II rfl rfl
  .exact ⟨rfl,rfl,λv hv=>by rw [List.mem_singleton.1 hv];show (3:Int)≠1;decide⟩
 .exact h3 rfl rfl rfl
theorem PA(r):(cA r).term=r.term/\(cA r).ρ=r.ρ:=by
 unfold cA;split<;>exact ⟨rfl,rfl⟩
theorem a2a(r m):Bd r (dQ r m):=by
 have h2:∀ {r':aG} {a:aH},r'.term=r.term->r'.ρ=r.ρ->a.kind=2->Bd r (r',gL [a]):=λh1 h2 h=>⟨h1,h2,λv hv=>by rw [List.mem_singleton.1 hv,h];decide⟩;unfold dQ;split
 .exact II rfl rfl
 simp only;split
 .exact h2 rfl rfl rfl
 split
 .exact h2 (PA _).1 (PA _).2 rfl
 .exact II (PA _).1 (PA _).2
theorem Bd.v{r r1 x}(h:Bd r1 x)(h1:r1.term=r.term->r1.ρ=r.ρ):Bs r x :=
 ⟨λht _=>by rw [h.ρ,h1 (by rw [<-h.term,<-ht])],λm hm hy=>absurd hy.1 (h.send m hm)⟩
theorem aJV{r x}(h:Bs r x):Bs r (mD r x):=by
 unfold mD;split
 .exact h
 .exact ⟨h.keep,h.yes⟩
theorem aKQ(r m):Bs r (aU r m):=by
 cases hy:kC r.id m with
 | false=>rw [uj hy];exact ⟨λ_ _=>rfl,λv hv=>by cases hv⟩
 | true =>
  have hm:=sE.1 hy;rw [xA hy];refine aJV ?_;obtain ⟨r1,gx⟩:∃ r1,(if r.term<m.term then jr r m else r)=r1:=⟨_,rfl⟩;have h1:r1.term=r.term->r1.ρ=r.ρ:=by
   rw [<-gx];split
   .rename_i hlt;intro h;have:m.term=r.term:=h;omega
   .exact λ_=>rfl
  have hid:r1.id=r.id:=by rw [<-gx];split<;>rfl
  rw [gx];unfold cv;split
  .obtain ⟨⟨hk,hs⟩,ht⟩:=aRH r1 m hm.src.2.1;refine ⟨λh hv=>?_,λv hv W9=>?_⟩
   .have e:=h1 (by rw [<-ht,<-h]);rw [hk (by rw [ht]) (by rw [e];exact hv),e]
   .rw [<-hid];exact hs v hv W9
  split
  .exact (aRK r1 m).v h1
  split
  .exact (a2Y r1 m).v h1
  .exact (a2a r1 m).v h1
def jE(φ:Int->List aS)(l:List aS):Prop:=∀ p x,l[p]? = some x->l.take (p+1)=(φ x.term).take (p+1)
def Ext(φ kL:Int->List aS):Prop:=∀ t,∃ s,kL t=φ t++s
theorem Ext.refl(φ):Ext φ φ:=λt=>⟨[],(List.append_nil _).symm⟩
theorem a8s(φ):jE φ []:=λp x h=>by simp at h
theorem a8t{φ l}(h:jE φ l)(n):jE φ (l.take n):=λp x hx=>by
 rw [List.getElem?_take] at hx;split at hx
 .rename_i hp;rw [List.take_take,Nat.min_eq_left (by omega)];exact h p x hx
 .cases hx
theorem take_len{φ:Int->List aS}{l:List aS}{p t}(hp:p<l.length)(h:l.take (p+1)=(φ t).take (p+1)):p<(φ t).length:=by
 have:=congrArg List.length h;rw [List.length_take,List.length_take] at this;omega
theorem N8{φ kL}(he:Ext φ kL){l}(h:jE φ l):jE kL l:=λp x hx=>by
 have h1:=h p x hx;have hp:=(List.getElem?_eq_some_iff.1 hx).1;have h2:=take_len hp h1;obtain ⟨s,hs⟩:=he x.term;rw [hs,List.take_append_of_le_length (by omega)];exact h1
theorem a8r{φ a b}(ha:jE φ a)(hb:jE φ b){p x U}(hx:a[p]? = some x)(hy:b[p]? = some U)(e:x.term=U.term):a.take (p+1)=b.take (p+1):=by
 rw [ha p x hx,hb p U hy,e]
theorem BF{l p x}(h:l[p]? = some x):bB l (p+1)=x.term:=by
 show (match l[p]? with
  | some x=>x.term
  | none=>0)=x.term
 rw [h]
theorem ZK{l s p}(h:p<=l.length):bB (l++s) p=bB l p:=by
 cases p with
 | zero=>rfl
 | succ p =>
  have hp:p<l.length:=h;obtain ⟨x,hx⟩:∃ x,l[p]? = some x:=⟨_,List.getElem?_eq_getElem hp⟩;rw [BF hx,BF (x:=x) (by rw [List.getElem?_append_left hp];exact hx)]
theorem aMu{φ a b}(ha:jE φ a)(hb:jE φ b){ix}(h1:ix<=a.length)(h2:ix<=b.length)(e:bB a ix=bB b ix):a.take ix=b.take ix:=by
 cases ix with
 | zero=>simp
 | succ p =>
  obtain ⟨x,hx⟩:∃ x,a[p]? = some x:=⟨_,List.getElem?_eq_getElem h1⟩;obtain ⟨U,hy⟩:∃ U,b[p]? = some U:=⟨_,List.getElem?_eq_getElem h2⟩;rw [BF hx,BF hy] at e;exact a8r ha hb hx hy e
theorem a6v{φ l M ζ ix}(hl:jE φ l)(gu:jE φ M)(h1:ix<=l.length)(h2:ix+ζ.length<=M.length)(hr:ζ=(M.drop ix).take ζ.length)(e:bB l ix=bB M ix):
  l.take (ix+agree (l.drop ix) ζ)=M.take (ix+agree (l.drop ix) ζ):=by
 rcases Nat.eq_zero_or_pos (agree (l.drop ix) ζ) with h0|h0
 .rw [h0];exact aMu hl gu h1 (by omega) e
 .obtain ⟨k,hk⟩:∃ k,agree (l.drop ix) ζ=k+1:=⟨agree (l.drop ix) ζ - 1,by omega⟩;rw [hk];obtain ⟨ha,hb,ht⟩:=KH (l.drop ix) ζ k (by omega);have hx:l[ix+k]? = some (l.drop ix)[k]:=by
   rw [List.getElem_drop];exact List.getElem?_eq_getElem _
  have hy:M[ix+k]? = some ζ[k]:=by
   have h3:ζ[k]? = some ζ[k]:=List.getElem?_eq_getElem hb;have h4:((M.drop ix).take ζ.length)[k]? = some ζ[k]:=by rw [<-hr];exact h3
   rw [List.getElem?_take_of_lt hb,List.getElem?_drop] at h4;exact h4
  exact a8r hl gu hx hy ht
theorem aQ5{M ζ:List aS}{ix k}(hr:ζ=(M.drop ix).take ζ.length):ζ.drop k=(M.drop (ix+k)).take (ζ.length - k):=by
 have h:((M.drop ix).take ζ.length).drop k=(M.drop (ix+k)).take (ζ.length - k):=by rw [List.drop_take,List.drop_drop]
 rw [<-h,<-hr]
theorem a6w{φ l M ζ ix}(hl:jE φ l)(gu:jE φ M)(h1:ix<=l.length)(h2:ix+ζ.length<=M.length)(hr:ζ=(M.drop ix).take ζ.length)(e:bB l ix=bB M ix)(hk:agree (l.drop ix) ζ<=ζ.length):
  l.take (ix+agree (l.drop ix) ζ)++ζ.drop (agree (l.drop ix) ζ)=M.take (ix+ζ.length):=by
 rw [a6v hl gu h1 h2 hr e,aQ5 hr,<-List.take_add]
 congr 1
 omega
structure fK where
 V:Int->Nat->Int
 b5:Int->Int
 φ:Int->List aS
def wL(φ:Int->List aS)(m:aH):Prop :=
 0<=m.index/\m.index.toNat+m.ζ.length<=(φ m.term).length/\m.ζ=((φ m.term).drop m.index.toNat).take m.ζ.length/\m.prev=bB (φ m.term) m.index.toNat
structure nY(C:cJ)(g:fK):Prop where
 wf:C.bq
 now:∀ j,j<3->g.V (C.nd j).rep.term j=(C.nd j).rep.ρ
 later:∀ j,j<3->∀ t,(C.nd j).rep.term<t->g.V t j = -1
 yes:∀ m∈C.sent,KD m->∃ j:Nat,j<3/\m.src=j/\g.V m.term j=m.to/\0<=m.to
 cand:∀ i,i<3->(C.nd i).rep.role=1->(∀ j,j<3->(C.nd i).rep.bh j=true->g.V (C.nd i).rep.term j=i)/\g.b5 (C.nd i).rep.term≠i
 lead:∀ i,i<3->(C.nd i).rep.role=2->g.b5 (C.nd i).rep.term=i/\g.φ (C.nd i).rep.term=(C.nd i).rep.log
 quo:∀ t,g.b5 t ≠ -1->∃ a b,a<3/\b<3/\a≠b/\g.V t a=g.b5 t/\g.V t b=g.b5 t
 Qz:∀ t,g.b5 t ≠ -1->∃ j:Nat,j<3/\g.b5 t=j/\t<=(C.nd j).rep.term
 none:∀ t,g.b5 t = -1->g.φ t=[]
 log:∀ i,i<3->jE g.φ (C.nd i).rep.log
 ll:∀ t,jE g.φ (g.φ t)
 app:∀ m∈C.sent,m.kind=2->wL g.φ m
theorem wL.ext{φ kL}(he:Ext φ kL){m}(h:wL φ m):wL kL m:=by
 obtain ⟨h1,h2,h3,h4⟩:=h;obtain ⟨s,hs⟩:=he m.term;refine ⟨h1,by rw [hs,List.length_append];omega,?_,?_⟩
 .rw [hs,List.drop_append_of_le_length (by omega),List.take_append_of_le_length (by rw [List.length_drop];omega)];exact h3
 .rw [hs,ZK (by omega)];exact h4
def xm(V:Int->Nat->Int)(i:Nat)(t v:Int):Int->Nat->Int:=λu j=>if u=t/\j=i then v else V u j
theorem xo(V i t v):xm V i t v t i=v:=if_pos ⟨rfl,rfl⟩
theorem vM(V){i j t u}(v)(h:¬ (u=t/\j=i)):xm V i t v u j=V u j:=if_neg h
structure mV(C:cJ)(g:fK)(i:Nat)(r:aG)(send:List aH)(g':fK):Prop where
 V:g'.V=xm g.V i r.term r.ρ
 up:(C.nd i).rep.term<=r.term
 keep:(C.nd i).rep.term=r.term->(C.nd i).rep.ρ ≠ -1->r.ρ=(C.nd i).rep.ρ
 yes:∀ m∈send,KD m->m.src=i/\m.term=r.term/\m.to=r.ρ/\0<=m.to
 b5:∀ t,g'.b5 t=g.b5 t\/(g.b5 t = -1/\g'.b5 t=i/\t<=r.term/\∃ a b,a<3/\b<3/\a≠b/\g'.V t a=i/\g'.V t b=i)
 ext:Ext g.φ g'.φ
 φ:∀ t,g'.φ t=g.φ t\/(g'.b5 t=i/\jE g'.φ (g'.φ t))
 cand:r.role=1->(∀ j,j<3->r.bh j=true->g'.V r.term j=i)/\g'.b5 r.term≠i
 lead:r.role=2->g'.b5 r.term=i/\g'.φ r.term=r.log
 log:jE g'.φ r.log
 app:∀ m∈send,m.kind=2->wL g'.φ m
theorem mV.aNc{C g g' i r send}(f:mV C g i r send g')(h:nY C g)(hi:i<3){t j}(hv:g.V t j ≠ -1):g'.V t j=g.V t j:=by
 rw [f.V];by_cases hc:t=r.term/\j=i
 .obtain ⟨rfl,rfl⟩:=hc;rw [xo];have gA:=f.up;rcases Int.lt_or_eq_of_le gA with hlt|heq
  .exact absurd (h.later j hi r.term hlt) hv
  .have h1:=h.now j hi;rw [heq] at h1;rw [f.keep heq (by rw [<-h1];exact hv),<-h1]
 .exact vM _ _ hc
theorem nY.node{C bC g g' i r send}(h:nY C g)(hi:i<3)(f:mV C g i r send g')(hw:bC.bq)(hr:(bC.nd i).rep=r)(hne:∀ j,j≠i->bC.nd j=C.nd j)(hs:∀ m∈bC.sent,m∈C.sent\/m∈send):nY bC g':=by
 have old:=fun {t:Int} {j:Nat} (hv:g.V t j ≠ -1)=>f.aNc h hi hv;refine ⟨hw,λj hj=>?_,λj hj t ht=>?_,λm hm hy=>?_,λj hj cI=>?_,λj hj cI=>?_,λt ht=>?_,λt ht=>?_,λt ht=>?_,λj hj=>?_,λt=>?_,λm hm hk=>?_⟩
 .by_cases hji:j=i
  .subst hji;rw [hr,f.V,xo]
  .rw [hne j hji,f.V,vM _ _ (λhc=>hji hc.2)];exact h.now j hj
 .by_cases hji:j=i
  .subst hji;rw [hr] at ht;have:=f.up;rw [f.V,vM _ _ (by omega)];exact h.later j hj t (by omega)
  .rw [hne j hji] at ht;rw [f.V,vM _ _ (λhc=>hji hc.2)];exact h.later j hj t ht
 .rcases hs m hm with hm|hm
  .obtain ⟨j,hj,a1,a2,a3⟩:=h.yes m hm hy;exact ⟨j,hj,a1,by rw [old (by omega),a2],a3⟩
  .obtain ⟨a1,a2,a3,a4⟩:=f.yes m hm hy;exact ⟨i,hi,a1,by rw [f.V,a2,xo,a3],a4⟩
 .by_cases hji:j=i
  .subst hji;rw [hr] at cI ⊢;exact f.cand cI
  .rw [hne j hji] at cI ⊢;obtain ⟨a1,a2⟩:=h.cand j hj cI;refine ⟨λk hk hv=>?_,?_⟩
   .have:=a1 k hk hv;rw [old (by omega),this]
   .rcases f.b5 (C.nd j).rep.term with e|⟨_,e,_⟩
    .rw [e];exact a2
    .rw [e];omega
 .by_cases hji:j=i
  .subst hji;rw [hr] at cI ⊢;exact f.lead cI
  .rw [hne j hji] at cI ⊢;obtain ⟨a1,a2⟩:=h.lead j hj cI;have e1:g'.b5 (C.nd j).rep.term=j:=by
    rcases f.b5 (C.nd j).rep.term with e|⟨e,_⟩
    .rw [e];exact a1
    .omega
   refine ⟨e1,?_⟩;rcases f.φ (C.nd j).rep.term with e|⟨e,_⟩
   .rw [e];exact a2
   .omega
 .rcases f.b5 t with e|⟨_,e,_,a,b,a1,a2,a3,a4,a5⟩
  .rw [e] at ht ⊢;obtain ⟨a,b,a1,a2,a3,a4,a5⟩:=h.quo t ht;exact ⟨a,b,a1,a2,a3,by rw [old (by rw [a4];exact ht),a4],by rw [old (by rw [a5];exact ht),a5]⟩
  .exact ⟨a,b,a1,a2,a3,by rw [a4,e],by rw [a5,e]⟩
 .rcases f.b5 t with e|⟨_,e,a1,_⟩
  .rw [e] at ht ⊢;obtain ⟨j,hj,a1,a2⟩:=h.Qz t ht;refine ⟨j,hj,a1,?_⟩;by_cases hji:j=i
   .subst hji;rw [hr];have:=f.up;omega
   .rw [hne j hji];exact a2
  .exact ⟨i,hi,e,by rw [hr];exact a1⟩
 .have e1:g.b5 t = -1:=by
   rcases f.b5 t with e|⟨e,e2,_⟩
   .rw [<-e];exact ht
   .exact e
  rcases f.φ t with e|⟨e,_⟩
  .rw [e];exact h.none t e1
  .omega
 .by_cases hji:j=i
  .subst hji;rw [hr];exact f.log
  .rw [hne j hji];exact N8 f.ext (h.log j hj)
 .rcases f.φ t with e|⟨_,e⟩
  .rw [e];exact N8 f.ext (h.ll t)
  .exact e
 .rcases hs m hm with hm|hm
  .exact (h.app m hm hk).ext f.ext
  .exact f.app m hm hk
theorem nY.drop{C g}(h:nY C g){n}(hn:n<C.sent.length):nY (yU C n) g:=by
 have hs:∀ m∈(yU C n).sent,m∈C.sent:=λm hm=>by
  rcases List.mem_append.1 hm with hm|hm
  .exact List.mem_of_mem_take hm
  .exact List.mem_of_mem_drop hm
 exact ⟨a44 h.wf hn,h.now,h.later,λm hm=>h.yes m (hs m hm),h.cand,h.lead,h.quo,h.Qz,h.none,h.log,h.ll,λm hm=>h.app m (hs m hm)⟩
theorem a2W{φ r}(hL:φ r.term=r.log){f}(h1:1<=r.next f)(h2:r.next f<=r.log.length+1):wL φ (entriesOf r f):=by
 have e0:(entriesOf r f).index.toNat=r.next f - 1:=Int.toNat_natCast _;have e1:(entriesOf r f).ζ=(r.log.drop (r.next f - 1)).take 8:=rfl;have e2:(entriesOf r f).ζ.length=min 8 (r.log.length - (r.next f - 1)):=by rw [e1,List.length_take,List.length_drop]
 refine ⟨Int.natCast_nonneg _,?_,?_,?_⟩
 .rw [e0,e2,show (entriesOf r f).term=r.term from rfl,hL];omega
 .rw [e0,e2,show (entriesOf r f).term=r.term from rfl,hL,e1];rw [List.take_eq_take_iff,List.length_drop];omega
 .rw [e0,show (entriesOf r f).term=r.term from rfl,hL];rfl
theorem aBP{C g}(h:nY C g){i}(hi:i<3){r:aG}(up:(C.nd i).rep.term<=r.term)(keep:(C.nd i).rep.term=r.term->(C.nd i).rep.ρ ≠ -1->r.ρ=(C.nd i).rep.ρ){t j}(hv:g.V t j ≠ -1):xm g.V i r.term r.ρ t j=g.V t j:=by
 by_cases hc:t=r.term/\j=i
 .obtain ⟨rfl,rfl⟩:=hc;rw [xo];rcases Int.lt_or_eq_of_le up with hlt|heq
  .exact absurd (h.later j hi r.term hlt) hv
  .have h1:=h.now j hi;rw [heq] at h1;rw [keep heq (by rw [<-h1];exact hv),<-h1]
 .exact vM _ _ hc
abbrev fK.ρ(g:fK)(i:Nat)(r:aG):fK:={ g with V:=xm g.V i r.term r.ρ }
theorem R4{C g}(h:nY C g){i}(hi:i<3){r}(hr:(C.nd i).rep=r){x}(hf:Fits r x.1 x.2)(hv:Bs r x)(cand:x.1.role=1->(∀ j,j<3->x.1.bh j=true->g.V x.1.term j=i)/\g.b5 x.1.term≠i)(lead:x.1.role=2->g.b5 x.1.term=i/\g.φ x.1.term=x.1.log)(log:jE g.φ x.1.log)(app:∀ m∈x.2.send,m.kind=2->wL g.φ m):mV C g i x.1 x.2.send (g.ρ i x.1):=by
 subst hr;have hid:=(h.wf.rep i hi).2;refine ⟨rfl,hf.term,hv.keep,λm hm hy=>?_,λt=>.inl rfl,Ext.refl _,λt=>.inl rfl,λhr=>?_,lead,log,app⟩
 .obtain ⟨a,b⟩:=hv.yes m hm hy;exact ⟨by rw [a,hid],b⟩
 .obtain ⟨a,b⟩:=cand hr;exact ⟨λj hj M4=>by
   have e:=a j hj M4;show xm g.V i x.1.term x.1.ρ x.1.term j=i;rw [aBP h hi hf.term hv.keep (by omega),e],b⟩
theorem TU{φ r}(hL:φ r.term=r.log)(hn:∀ f,1<=r.next f/\r.next f<=r.log.length+1):∀ m∈bT r,wL φ m:=λm hm=>by
 unfold bT at hm;obtain ⟨f,_,rfl⟩:=List.mem_map.1 hm;exact a2W hL (hn f).1 (hn f).2
theorem aQj{C g}(h:nY C g){i}(hi:i<3):∃ g',mV C g i (cr (C.nd i).rep).1 (cr (C.nd i).rep).2.send g'/\g'.φ=g.φ/\g'.b5=g.b5:=by
 obtain ⟨hw,hid⟩:=h.wf.rep i hi;have hf:=(Nl hw).2;have hv:=aQl (C.nd i).rep;have hc:=h.cand i hi;have hl:=h.lead i hi;have hg:=h.log i hi;have q2:=h.now i hi;have a5U:=h.Qz ((C.nd i).rep.term+1);generalize hr:(C.nd i).rep=r at hw hid hf hv hc hl hg q2 a5U;by_cases h2:r.role=2
 .have e:cr r=(r,gL (bT r)):=if_pos h2;refine ⟨_,R4 h hi hr hf hv ?_ ?_ ?_ ?_,rfl,rfl⟩;all_goals rw [e]
  .exact hc
  .exact hl
  .exact hg
  .exact λm hm _=>TU (hl h2).2 (λf=>⟨(hw.ok.next h2 f).1,(hw.ok.next h2 f).2.1⟩) m hm
 by_cases h3:r.term=1099511627776
 .have e:cr r=(r,er):=by unfold cr;rw [if_neg h2,if_pos h3]
  refine ⟨_,R4 h hi hr hf hv ?_ ?_ ?_ ?_,rfl,rfl⟩;all_goals rw [e]
  .exact hc
  .exact hl
  .exact hg
  .exact λm hm _=>by cases hm
 .have e:cr r=({ r with term:=r.term+1,ρ:=r.id,role:=1,bh:=λi=>decide (i=r.id) },⟨true,r.term+1,r.id,0,[],(bu r.id).map λk=>jS { r with term:=r.term+1,ρ:=r.id,role:=1,bh:=λi=>decide (i=r.id) } k⟩):=by
   unfold cr;rw [if_neg h2,if_neg h3]
  rw [e];refine ⟨g.ρ i { r with term:=r.term+1,ρ:=r.id,role:=1,bh:=λi=>decide (i=r.id) },⟨rfl,by rw [hr];show r.term<=r.term+1;omega,λht=>?_,λm hm hy=>?_,λt=>.inl rfl,Ext.refl _,λt=>.inl rfl,λ_=>⟨λj hj M4=>?_,?_⟩,λh0=>(by cases (show (1:Int)=2 from h0)),hg,λm hm hk=>?_⟩,rfl,rfl⟩
  .rw [hr] at ht;have:r.term=r.term+1:=ht;omega
  .obtain ⟨k,_,rfl⟩:=List.mem_map.1 hm;cases hy.1
  .have hj:j=r.id:=aN M4;show xm g.V i (r.term+1) r.id (r.term+1) j=i;rw [hj,hid,xo]
  .intro iV;have iV:g.b5 (r.term+1)=i:=iV;obtain ⟨j,hj,a1,a2⟩:=a5U (by omega);have:j=i:=by omega
   subst this;rw [hr] at a2;omega
  .obtain ⟨k,_,rfl⟩:=List.mem_map.1 hm;cases hk
theorem aOP{C g}(h:nY C g){i}(hi:i<3)(data):∃ g',mV C g i (aq (C.nd i).rep data).1 (aq (C.nd i).rep data).2.2.2.send g'/\g'.b5=g.b5/\(∀ t,t≠(C.nd i).rep.term->g'.φ t=g.φ t)/\((aq (C.nd i).rep data).2.2.2=er->g'.φ=g.φ):=by
 obtain ⟨hw,hid⟩:=h.wf.rep i hi;have hf:=aOO hw data;have hv:=aOS (C.nd i).rep data;have hc:=h.cand i hi;have hl:=h.lead i hi;have hg:=h.log i hi;generalize hr:(C.nd i).rep=r at hw hid hf hv hc hl hg;have same:aq r data=(r,(aq r data).2.1,(aq r data).2.2.1,er)->∃ g',mV C g i (aq r data).1 (aq r data).2.2.2.send g'/\g'.b5=g.b5/\(∀ t,t≠r.term->g'.φ t=g.φ t)/\((aq r data).2.2.2=er->g'.φ=g.φ):=λe=>by
  rw [e];rw [e] at hf hv;exact ⟨_,R4 (x:=(r,er)) h hi hr hf hv hc hl hg (λm hm _=>by cases hm),rfl,λ_ _=>rfl,λ_=>rfl⟩
 by_cases h2:r.role=2
 .by_cases h3:2000<(data.size:Int)
  .exact same (by unfold aq;rw [if_neg (by simpa using h2),if_pos h3])
  by_cases h4:r.log.length=4000
  .exact same (by unfold aq;rw [if_neg (by simpa using h2),if_neg h3,if_pos h4])
  obtain ⟨x,hx⟩:∃ x:aS,x=⟨r.term,data⟩:=⟨_,rfl⟩;have M5:x.term=r.term:=by rw [hx]
  have e1:(aq r data).1={ r with log:=r.log++[x] }:=by unfold aq;rw [if_neg (by simpa using h2),if_neg h3,if_neg h4,hx]
  have e2:(aq r data).2.2.2.send=bT { r with log:=r.log++[x] }:=by unfold aq;rw [if_neg (by simpa using h2),if_neg h3,if_neg h4,hx]
  have bL:(aq r data).2.2.2≠er:=λe=>by
   have:=congrArg fN.send e;rw [e2] at this;have:=congrArg List.length this;unfold bT at this;rw [List.length_map,Fc] at this;cases this
  rw [e1,e2];obtain ⟨AJ,mG⟩:=hl h2;obtain ⟨kL,cC⟩:∃ kL:Int->List aS,(λt=>if t=r.term then r.log++[x] else g.φ t)=kL:=⟨_,rfl⟩;have iI:kL r.term=r.log++[x]:=by rw [<-cC];exact if_pos rfl
  have Eu:∀ t,t≠r.term->kL t=g.φ t:=λt ht=>by rw [<-cC];exact if_neg ht
  have kU:Ext g.φ kL:=λt=>by
   by_cases ht:t=r.term
   .subst ht;exact ⟨[x],by rw [iI,mG]⟩
   .exact ⟨[],by rw [Eu t ht,List.append_nil]⟩
  have hpre:jE kL (r.log++[x]):=λp U hy=>by
   rcases Nat.lt_or_ge p r.log.length with hp|hp
   .rw [List.getElem?_append_left hp] at hy;rw [List.take_append_of_le_length (by omega)];exact N8 kU hg p U hy
   .rw [List.getElem?_append_right hp] at hy;have hz:p - r.log.length=0:=by
     have:=(List.getElem?_eq_some_iff.1 hy).1;simp at this;omega
    rw [hz] at hy;have hy:x=U:=by simpa using hy
    rw [<-hy,M5,iI]
  refine ⟨⟨xm g.V i r.term r.ρ,g.b5,kL⟩,⟨rfl,by rw [hr];exact Int.le_refl _,λ_ _=>by rw [hr],XN (by decide) (yL _),λt=>.inl rfl,kU,λt=>?_,λh1=>?_,λ_=>⟨AJ,iI⟩,hpre,λm hm _=>TU (r:={ r with log:=r.log++[x] }) iI (λf=>?_) m hm⟩,rfl,Eu,λe=>absurd e bL⟩
  .by_cases ht:t=r.term
   .subst ht;exact .inr ⟨AJ,by show jE kL (kL r.term);rw [iI];exact hpre⟩
   .exact .inl (Eu t ht)
  .have h1:r.role=1:=h1;omega
  .have:=hw.ok.next h2 f;refine ⟨this.1,?_⟩;show r.next f<=(r.log++[x]).length+1;rw [List.length_append];omega
 .exact same (by unfold aq;rw [if_pos h2])
structure y8(g:fK)(i:Nat)(r:aG):Prop where
 cand:r.role=1->(∀ j,j<3->r.bh j=true->g.V r.term j=i)/\g.b5 r.term≠i
 lead:r.role=2->g.b5 r.term=i/\g.φ r.term=r.log
 log:jE g.φ r.log
theorem y8.as{g i r r'}(h:y8 g i r)(h1:r'.role=r.role)(h2:r'.term=r.term)(h3:r'.bh=r.bh)(h4:r'.log=r.log):y8 g i r' :=
 ⟨by rw [h1,h2,h3];exact h.cand,by rw [h1,h2,h4];exact h.lead,by rw [h4];exact h.log⟩
theorem y8.A5{g i r'}(h:jE g.φ r'.log)(h1:r'.role=0):y8 g i r' :=
 ⟨λhr=>by omega,λhr=>by omega,h⟩
theorem aGX{g i r m}(h:y8 g i r)(vr:∀ t,jE g.φ (g.φ t))(ha:wL g.φ m):y8 g i (cM r m).1:=by
 unfold cM;split
 .exact h
 split
 .exact h
 simp only;split
 .exact .A5 h.log rfl
 rename_i hc;simp only [Bool.or_eq_true,decide_eq_true_eq,not_or] at hc;obtain ⟨vo,iV⟩:=hc;obtain ⟨a1,a2,a3,a4⟩:=ha;split
 .split
  .exact .A5 h.log rfl
  .refine .A5 ?_ rfl;show jE g.φ (r.log.take (m.index.toNat+agree (r.log.drop m.index.toNat) m.ζ)++m.ζ.drop (agree (r.log.drop m.index.toNat) m.ζ));rw [a6w h.log (vr m.term) (by omega) a2 a3 (by rw [<-a4];exact Decidable.of_not_not iV) (KF _ _)];exact a8t (vr m.term) _
 .exact .A5 h.log rfl
theorem aGY(r m):∀ v∈(cM r m).2.send,v.kind=3:=by
 unfold cM;split
 .exact λv hv=>by rw [List.mem_singleton.1 hv];rfl
 split
 .exact λv hv=>by cases hv
 simp only;split
 .exact λv hv=>by rw [List.mem_singleton.1 hv]
 split
 .split
  .exact λv hv=>by cases hv
  .exact λv hv=>by rw [List.mem_singleton.1 hv];rfl
 .exact λv hv=>by rw [List.mem_singleton.1 hv];rfl
theorem wZ(r):(cA r).role=r.role/\(cA r).term=r.term/\(cA r).bh=r.bh/\(cA r).log=r.log:=by
 unfold cA;split<;>exact ⟨rfl,rfl,rfl,rfl⟩
theorem a2b(r m):((dQ r m).1.role=r.role/\(dQ r m).1.term=r.term/\(dQ r m).1.bh=r.bh/\(dQ r m).1.log=r.log)/\∀ v∈(dQ r m).2.send,r.role=2/\∃ f,v=entriesOf (dQ r m).1 f:=by
 unfold dQ;split
 .exact ⟨⟨rfl,rfl,rfl,rfl⟩,λv hv=>by cases hv⟩
 rename_i hc;simp only [Bool.or_eq_true,decide_eq_true_eq,not_or] at hc;have h2:r.role=2:=by omega
 simp only;split
 .exact ⟨⟨rfl,rfl,rfl,rfl⟩,λv hv=>⟨h2,_,List.mem_singleton.1 hv⟩⟩
 split
 .exact ⟨wZ _,λv hv=>⟨h2,_,List.mem_singleton.1 hv⟩⟩
 .exact ⟨wZ _,λv hv=>by cases hv⟩
theorem aBO(r m):((cV r m).1.role=r.role/\(cV r m).1.term=r.term/\(cV r m).1.bh=r.bh/\(cV r m).1.log=r.log)/\∀ v∈(cV r m).2.send,v.kind=1:=by
 unfold cV;split
 .exact ⟨⟨rfl,rfl,rfl,rfl⟩,λv hv=>by rw [List.mem_singleton.1 hv]⟩
 .exact ⟨⟨rfl,rfl,rfl,rfl⟩,λv hv=>by rw [List.mem_singleton.1 hv];rfl⟩
theorem ZQ{v}(h:¬ ni v<2):∃ a b,a<3/\b<3/\a≠b/\v a=true/\v b=true:=by
 unfold ni wg at h;cases h0:v 0<;>cases h1:v 1<;>cases h2:v 2<;>rw [h0,h1,h2] at h<;>simp at h
 .exact ⟨1,2,by decide,by decide,by decide,h1,h2⟩
 .exact ⟨0,2,by decide,by decide,by decide,h0,h2⟩
 .exact ⟨0,1,by decide,by decide,by decide,h0,h1⟩
 .exact ⟨0,1,by decide,by decide,by decide,h0,h1⟩
def a1A(C:cJ)(g:fK)(i:Nat)(r:aG)(send:List aH)(g':fK):Prop :=
 (g'.φ=g.φ/\g'.b5=g.b5)\/((C.nd i).rep.role=1/\r.role=2/\r.term=(C.nd i).rep.term/\r.log=(C.nd i).rep.log/\r.υ=(C.nd i).rep.υ/\r.ρ=(C.nd i).rep.ρ/\(∀ f,r.Ω f=0)/\g.b5 r.term = -1 /\
  (∀ t,t≠r.term->g'.φ t=g.φ t/\g'.b5 t=g.b5 t)/\send=bT r/\∃ a b,a<3/\b<3/\a≠b/\g.V r.term a=i/\g.V r.term b=i)
theorem aKN{C g}(h:nY C g){i}(hi:i<3){m}(aKr:KD m->∃ j:Nat,j<3/\m.src=j/\g.V m.term j=m.to/\0<=m.to)(hma:m.kind=2->wL g.φ m):
  ∃ g',mV C g i (aU (C.nd i).rep m).1 (aU (C.nd i).rep m).2.send g'/\a1A C g i (aU (C.nd i).rep m).1 (aU (C.nd i).rep m).2.send g':=by
 obtain ⟨hw,hid⟩:=h.wf.rep i hi;have hf:=(CF (m:=m) hw).2;have aTF:=(CF (m:=m) hw).1;have hv:=aKQ (C.nd i).rep m;have hb:y8 g i (C.nd i).rep:=⟨h.cand i hi,h.lead i hi,h.log i hi⟩;have same:y8 g i (aU (C.nd i).rep m).1->(∀ v∈(aU (C.nd i).rep m).2.send,v.kind=2->wL g.φ v)->∃ g',mV C g i (aU (C.nd i).rep m).1 (aU (C.nd i).rep m).2.send g'/\a1A C g i (aU (C.nd i).rep m).1 (aU (C.nd i).rep m).2.send g':=λhb ha =>
  ⟨_,R4 h hi rfl hf hv hb.cand hb.lead hb.log ha,.inl ⟨rfl,rfl⟩⟩
 cases hy:kC (C.nd i).rep.id m with
 | false =>
  rw [uj hy] at same ⊢;exact same hb λv hv=>by cases hv
 | true =>
  have hm:=sE.1 hy;obtain ⟨r1,gx⟩:∃ r1,(if (C.nd i).rep.term<m.term then jr (C.nd i).rep m else (C.nd i).rep)=r1:=⟨_,rfl⟩;have e1:(aU (C.nd i).rep m).1=(cv r1 m).1:=by rw [xA hy,gx,C3]
  have e2:(aU (C.nd i).rep m).2.send=(cv r1 m).2.send:=by rw [xA hy,gx,Un]
  have oN:y8 g i r1:=by
   rw [<-gx];split
   .exact .A5 hb.log rfl
   .exact hb
  have hw1:r1.bq:=by
   rw [<-gx];split
   .exact SD hw hm (by assumption)
   .exact hw
  have Hj:r1.id=i:=by
   rw [<-gx];split
   .exact hid
   .exact hid
  have cI:r1.role=1->r1=(C.nd i).rep:=by
   rw [<-gx];split
   .intro h0;cases (show (0:Int)=1 from h0)
   .exact λ_=>rfl
  rw [e1,e2] at same;by_cases e9:m.kind=0
  .have e:cv r1 m=cV r1 m:=by unfold cv;rw [if_pos e9]
   rw [e] at same e1 e2;rw [e1,e2];obtain ⟨⟨s1,s2,en,dL⟩,iB⟩:=aBO r1 m;exact same (oN.as s1 s2 en dL) λv hv hk=>by rw [iB v hv] at hk;cases hk
  by_cases lS:m.kind=1
  .have e:cv r1 m=eC r1 m:=by unfold cv;rw [if_neg e9,if_pos lS]
   rw [e] at same e1 e2;by_cases hc:(decide (r1.role≠1)||decide (m.term≠r1.term) || !m.yes)=true
   .have bI:eC r1 m=(r1,er):=by unfold eC;rw [if_pos hc]
    rw [e1,e2];rw [bI] at same ⊢;exact same oN λv hv=>by cases hv
   have ji:=hc;simp only [Bool.or_eq_true,decide_eq_true_eq,not_or,Bool.not_eq_true',Bool.not_eq_false] at ji;obtain ⟨⟨c1,c2⟩,c3⟩:=ji;have c1:r1.role=1:=by omega
   have c2:m.term=r1.term:=by omega
   obtain ⟨j,hj,a1,a2,a3⟩:=aKr ⟨lS,c3⟩;have hto:m.to=i:=by rw [hm.to,hid]
   have hsrc:m.src.toNat=j:=by omega
   obtain ⟨b1,b2⟩:=oN.cand c1;have Hv:∀ k,k<3->put r1.bh m.src.toNat true k=true->g.V r1.term k=i:=λk hk Qk=>by
    by_cases hkj:k=m.src.toNat
    .rw [hkj,hsrc,<-c2,a2,hto]
    .rw [dD _ _ hkj] at Qk;exact b1 k hk Qk
   by_cases iV:ni (put r1.bh m.src.toNat true)<2
   .have bI:eC r1 m=({ r1 with bh:=put r1.bh m.src.toNat true },er):=by unfold eC;rw [if_neg hc];simp only;rw [if_pos iV]
    rw [e1,e2];rw [bI] at same ⊢;exact same ⟨λ_=>⟨Hv,b2⟩,λh0=>by have h0:r1.role=2:=h0;omega,oN.log⟩ λv hv=>by cases hv
   ·-- leads
    obtain ⟨r2,uk⟩:∃ r2:aG,({ r1 with bh:=put r1.bh m.src.toNat true,role:=2,next:=λ_=>r1.log.length+1,Ω:=λ_=>0 }:aG)=r2:=⟨_,rfl⟩;have bI:eC r1 m=(r2,gL (bT r2)):=by unfold eC;rw [if_neg hc];simp only;rw [if_neg iV,<-uk]
    have t2:r2.term=r1.term:=by rw [<-uk]
    have v2:r2.ρ=r1.ρ:=by rw [<-uk]
    have l2:r2.log=r1.log:=by rw [<-uk]
    have o2:r2.role=2:=by rw [<-uk]
    have n2:∀ f,r2.next f=r1.log.length+1:=λf=>by rw [<-uk]
    rw [bI] at e1 e2;have uo:=cI c1;have hfree:g.b5 r1.term = -1:=by
     refine Decidable.byContradiction λhne=>?_;obtain ⟨a,b,q1,bP,gC,jK,z1⟩:=h.quo _ hne;obtain ⟨c,d,p1,p2,p3,bR,n4⟩:=ZQ iV;have oV:=Hv c p1 bR;have gM:=Hv d p2 n4;have:a=c\/a=d\/b=c\/b=d:=by omega
     rcases this with rfl|rfl|rfl|rfl
     .exact b2 (by rw [<-jK,oV])
     .exact b2 (by rw [<-jK,gM])
     .exact b2 (by rw [<-z1,oV])
     .exact b2 (by rw [<-z1,gM])
    obtain ⟨kL,cC⟩:∃ kL:Int->List aS,(λt=>if t=r1.term then r1.log else g.φ t)=kL:=⟨_,rfl⟩;have iI:kL r1.term=r1.log:=by rw [<-cC];exact if_pos rfl
    have Eu:∀ t,t≠r1.term->kL t=g.φ t:=λt ht=>by rw [<-cC];exact if_neg ht
    have kU:Ext g.φ kL:=λt=>by
     by_cases ht:t=r1.term
     .subst ht;exact ⟨r1.log,by rw [iI,h.none _ hfree,List.nil_append]⟩
     .exact ⟨[],by rw [Eu t ht,List.append_nil]⟩
    rw [e1,e2];have hkeep:=hv.keep;rw [e1] at hf hkeep;have hV:∀ k,k<3->put r1.bh m.src.toNat true k=true->xm g.V i r2.term r2.ρ r1.term k=i:=λk hk Qk=>by
     have:=Hv k hk Qk;have bz:=aBP h hi (r:=r2) hf.term hkeep (t:=r1.term) (j:=k) (by omega);rw [bz,this]
    refine ⟨⟨xm g.V i r2.term r2.ρ,λt=>if t=r1.term then i else g.b5 t,kL⟩,⟨rfl,hf.term,hkeep,λv nE W9=>absurd ((yL _ v nE).symm.trans W9.1) (by decide),λt=>?_,kU,λt=>?_,λh1=>(by have h1:r2.role=1:=h1;omega),λ_=>⟨by rw [t2];exact if_pos rfl,by rw [t2,l2];exact iI⟩,by rw [l2];exact N8 kU oN.log,λv nE _=>TU (by rw [t2,l2];exact iI) (λf=>by rw [n2,l2];omega) v nE⟩,?_⟩
    .by_cases ht:t=r1.term
     .subst ht;obtain ⟨c,d,p1,p2,p3,bR,n4⟩:=ZQ iV;exact .inr ⟨hfree,if_pos rfl,by rw [t2];exact Int.le_refl _,c,d,p1,p2,p3,hV c p1 bR,hV d p2 n4⟩
     .exact .inl (if_neg ht)
    .by_cases ht:t=r1.term
     .subst ht;exact .inr ⟨if_pos rfl,by show jE kL (kL r1.term);rw [iI];exact N8 kU oN.log⟩
     .exact .inl (Eu t ht)
    .obtain ⟨c,d,p1,p2,p3,bR,n4⟩:=ZQ iV;refine .inr ⟨by rw [<-uo];exact c1,o2,by rw [<-uo];exact t2,by rw [<-uo];exact l2,by rw [<-uo,<-uk],by rw [<-uo];exact v2,λf=>by rw [<-uk],by show g.b5 r2.term = -1;rw [t2];exact hfree,λt ht=>?_,rfl,c,d,p1,p2,p3,by show g.V r2.term c=i;rw [t2];exact Hv c p1 bR,by show g.V r2.term d=i;rw [t2];exact Hv d p2 n4⟩;have ht:t≠r2.term:=ht;rw [t2] at ht;exact ⟨Eu t ht,if_neg ht⟩
  by_cases hk2:m.kind=2
  .have e:cv r1 m=cM r1 m:=by unfold cv;rw [if_neg e9,if_neg lS,if_pos hk2]
   rw [e] at same e1 e2;rw [e1,e2];exact same (aGX oN h.ll (hma hk2)) λv hv hk=>by rw [aGY r1 m v hv] at hk;cases hk
  .have e:cv r1 m=dQ r1 m:=by unfold cv;rw [if_neg e9,if_neg lS,if_neg hk2]
   rw [e] at same e1 e2;rw [e1,e2];obtain ⟨⟨s1,s2,en,dL⟩,iB⟩:=a2b r1 m;refine same (oN.as s1 s2 en dL) λv hv hk=>?_;obtain ⟨h2,f,rfl⟩:=iB v hv;have Hw:=(PF hw1 (m:=m) hm.index.1).1;have hn:=Hw.ok.next (by rw [s1];exact h2) f;exact a2W (by rw [s2,dL];exact (oN.lead h2).2) hn.1 hn.2.1
theorem aN4:nY EW ⟨λ_ _ => -1,λ_ => -1,λ_=>[]⟩ :=
 ⟨aHH,λ_ _=>rfl,λ_ _ _ _=>rfl,λm hm=>(by cases hm),λi hi hr=>(by cases (show (0:Int)=1 from hr)),λi hi hr=>(by cases (show (0:Int)=2 from hr)),λt ht=>absurd rfl ht,λt ht=>absurd rfl ht,λ_ _=>rfl,λi hi=>a8s _,λt=>a8s _,λm hm=>(by cases hm)⟩
def Valid(g:fK)(t:Int)(p:Nat):Prop:=1<=p/\p<=(g.φ t).length/\bB (g.φ t) p=t
def dB(g:fK)(t:Int)(p:Nat)(l:List aS):Prop:=p<=l.length/\l.take p=(g.φ t).take p
def qO(C:cJ)(A:Int->Nat->Nat)(t:Int)(p:Nat):Prop:=∃ x U,x<3/\U<3/\x≠U/\t<(C.nd x).rep.term/\t<(C.nd U).rep.term/\A t x<p/\A t U<p
def zW(g:fK)(A:Int->Nat->Nat)(t:Int)(p:Nat):Prop:=Valid g t p/\∃ a b,a<3/\b<3/\a≠b/\p<=A t a/\p<=A t b
def ef(g:fK)(A:Int->Nat->Nat)(s:Int)(l:List aS)(n:Nat):Prop:=n=0\/∃ t p,zW g A t p/\t<=s/\n<=p/\dB g t n l
structure c8(C:cJ)(g:fK)(A:Int->Nat->Nat):Prop where
 m:nY C g
 iq:∀ t,nc (g.φ t) t
 a1:∀ t j,A t j<=(g.φ t).length
 a2:∀ t j,j<3->0<A t j->t<=(C.nd j).rep.term
 a3:∀ i,i<3->(C.nd i).rep.role=2->A (C.nd i).rep.term i=(C.nd i).rep.log.length
 q5:∀ t j p,j<3->1<=p->p<=A t j->dB g t p (C.nd j).rep.log\/∃ u,t<u/\u<=(C.nd j).rep.term/\g.b5 u ≠ -1/\¬ dB g t p (g.φ u)
 ib:∀ t u p,Valid g t p->t<u->g.b5 u ≠ -1->dB g t p (g.φ u)\/qO C A t p
 FB:∀ m∈C.sent,m.kind=0->∃ c:Nat,c<3/\m.src=c/\m.term<=(C.nd c).rep.term/\((C.nd c).rep.role=1->m.term=(C.nd c).rep.term->m.index=(C.nd c).rep.log.length/\m.prev=bB (C.nd c).rep.log (C.nd c).rep.log.length)
 il:∀ c,c<3->(C.nd c).rep.role=1->∀ x∈(C.nd c).rep.log,x.term<(C.nd c).rep.term
 iv:∀ c,c<3->(C.nd c).rep.role=1->∀ x,x<3->g.V (C.nd c).rep.term x=c->∀ t p,t<(C.nd c).rep.term->Valid g t p->p<=A t x->dB g t p (C.nd c).rep.log\/qO C A t p
 gh:∀ t x c,x<3->c<3->g.V t x=((c:Nat):Int)->t<=(C.nd c).rep.term
 im:∀ i,i<3->(C.nd i).rep.role=2->∀ f,f<3->f≠i->(C.nd i).rep.Ω f<=A (C.nd i).rep.term f
 ik:∀ m∈C.sent,m.kind=3->m.yes=true->∃ f:Nat,f<3/\m.src=f/\m.index.toNat<=A m.term f
 F9:∀ m∈C.sent,m.kind=2->ef g A m.term (g.φ m.term) m.υ.toNat
 co:∀ j,j<3->ef g A (C.nd j).rep.term (C.nd j).rep.log (C.nd j).rep.υ
def Grow(g g':fK):Prop:=∀ u,g.b5 u ≠ -1->∃ s,g'.φ u=g.φ u++s/\∀ x∈s,x.term=u
theorem Valid.ext{g g'}(he:Ext g.φ g'.φ){t p}(h:Valid g t p):Valid g' t p:=by
 obtain ⟨s,hs⟩:=he t;obtain ⟨h1,h2,h3⟩:=h;exact ⟨h1,by rw [hs,List.length_append];omega,by rw [hs,ZK h2];exact h3⟩
theorem Valid.back{g g'}(he:Ext g.φ g'.φ){t p}(h:Valid g' t p)(hp:p<=(g.φ t).length):Valid g t p:=by
 obtain ⟨s,hs⟩:=he t;obtain ⟨h1,h2,h3⟩:=h;exact ⟨h1,hp,by rw [hs,ZK hp] at h3;exact h3⟩
theorem dB.ext{g g'}(he:Ext g.φ g'.φ){t p l}(hp:p<=(g.φ t).length):dB g' t p l ↔ dB g t p l:=by
 obtain ⟨s,hs⟩:=he t;unfold dB;rw [hs,List.take_append_of_le_length hp]
theorem dB.more{g t p l s}(h:dB g t p l):dB g t p (l++s) :=
 ⟨by rw [List.length_append];have:=h.1;omega,by rw [List.take_append_of_le_length h.1];exact h.2⟩
theorem dB.less{g t p n l}(h:dB g t p l)(hn:n<=p):dB g t n l:=by
 obtain ⟨h1,h2⟩:=h;refine ⟨by omega,?_⟩;have:=congrArg (List.take n) h2
 rwa [List.take_take,List.take_take,Nat.min_eq_left hn] at this
theorem VK{g g' t}(he:Ext g.φ g'.φ)(hg:Grow g g')(hs:nc (g.φ t) t){u p}(htu:t<u)(hp:p<=(g.φ t).length)(hu:g.b5 u ≠ -1)(h:dB g' t p (g'.φ u)):dB g t p (g.φ u):=by
 rw [dB.ext he hp] at h;obtain ⟨s,e,hx⟩:=hg u hu;obtain ⟨h1,h2⟩:=h;rcases Nat.lt_or_ge (g.φ u).length p with hlt|hge
 .exfalso;obtain ⟨q,rfl⟩:∃ q,p=q+1:=⟨p - 1,by omega⟩;have hq1:q<(g'.φ u).length:=h1;have cX:q<(g.φ t).length:=hp;have e1:(g'.φ u)[q]? = (g.φ t)[q]? := by
   have:=congrArg (λl=>l[q]?) h2;simpa [List.getElem?_take_of_lt (show q<q+1 by omega)] using this
  obtain ⟨z,hz⟩:∃ z,(g'.φ u)[q]? = some z:=⟨_,List.getElem?_eq_getElem hq1⟩;have aLc:(g.φ t)[q]? = some z:=by rw [<-e1];exact hz
  have bI:z.term=u:=hx z (by
   rw [e,List.getElem?_append_right (by omega)] at hz;exact List.mem_of_getElem? hz)
  have bL:=hs.hi z (List.mem_of_getElem? aLc);omega
 .rw [e,List.take_append_of_le_length hge] at h2;exact ⟨hge,h2⟩
def ng(A:Int->Nat->Nat)(i:Nat)(t:Int)(n:Nat):Int->Nat->Nat:=λu j=>if u=t/\j=i then n else A u j
theorem Gt(A i t n):ng A i t n t i=n:=if_pos ⟨rfl,rfl⟩
theorem wX(A){i j t u}(n)(h:¬ (u=t/\j=i)):ng A i t n u j=A u j:=if_neg h
theorem KE{A i t n}(h:A t i<=n)(u j):A u j<=ng A i t n u j:=by
 unfold ng;split
 .rename_i hc;obtain ⟨rfl,rfl⟩:=hc;exact h
 .exact Nat.le_refl _
theorem zW.ext{g g' A bK}(he:Ext g.φ g'.φ)(ha:∀ t j,A t j<=bK t j){t p}(h:zW g A t p):zW g' bK t p:=by
 obtain ⟨hv,a,b,h1,h2,h3,h4,h5⟩:=h;exact ⟨hv.ext he,a,b,h1,h2,h3,Nat.le_trans h4 (ha t a),Nat.le_trans h5 (ha t b)⟩
theorem ef.ext{g g' A bK}(he:Ext g.φ g'.φ)(ha:∀ t j,A t j<=bK t j){s s'}(hs:s<=s'){l r n}(h:ef g A s l n):ef g' bK s' (l++r) n:=by
 rcases h with h|⟨t,p,h1,h2,h3,h4⟩
 .exact .inl h
 .refine .inr ⟨t,p,h1.ext he ha,by omega,h3,dB.more ?_⟩;have:=h1.1.2.1;exact (dB.ext he (by omega)).2 h4
theorem ef.Ek{g g' A bK}(he:Ext g.φ g'.φ)(ha:∀ t j,A t j<=bK t j){s s'}(hs:s<=s'){l n}(h:ef g A s l n):ef g' bK s' l n:=by
 have:=h.ext (r:=[]) he ha hs
 rwa [List.append_nil] at this
theorem zW.no{C g A t p}(h:zW g A t p)(hc:qO C A t p):False:=by
 obtain ⟨_,a,b,h1,h2,h3,h4,h5⟩:=h;obtain ⟨x,U,k1,k2,b8,_,_,cQ,gB⟩:=hc;have:a=x\/a=U\/b=x\/b=U:=by omega
 rcases this with rfl|rfl|rfl|rfl<;>omega
structure kP(C:cJ)(g:fK)(A:Int->Nat->Nat)(i:Nat)(r:aG)(send:List aH)(g':fK)(n:Nat):Prop where
 m:mV C g i r send g'
 grow:Grow g g'
 iq:∀ t,nc (g'.φ t) t
 le:A r.term i<=n
 a1:n<=(g'.φ r.term).length
 a3:r.role=2->n=r.log.length
 q5:∀ t p,1<=p->p<=ng A i r.term n t i->dB g' t p r.log\/∃ u,t<u/\u<=r.term/\g'.b5 u ≠ -1/\¬ dB g' t p (g'.φ u)
 new:∀ u,g.b5 u = -1->g'.b5 u ≠ -1->(∀ t p,Valid g t p->t<u->dB g t p (g'.φ u)\/qO C A t p)/\∀ p,¬ Valid g' u p
 old:∀ t p,g.b5 t ≠ -1->Valid g' t p->(g.φ t).length<p->t=(C.nd i).rep.term/\t=r.term
 FB:∀ m∈send,m.kind=0->m.src=i/\m.term<=r.term/\(r.role=1->m.term=r.term->m.index=r.log.length/\m.prev=bB r.log r.log.length)
 a5s:r.role=1->(C.nd i).rep.term<r.term\/((C.nd i).rep.role=1/\r.term=(C.nd i).rep.term/\r.log=(C.nd i).rep.log)
 il:r.role=1->∀ x∈r.log,x.term<r.term
 iv:r.role=1->∀ x,x<3->g'.V r.term x=i->∀ t p,t<r.term->Valid g t p->p<=A t x->dB g t p r.log\/qO C A t p
 ρ:∀ c,c<3->c≠i->(C.nd c).rep.role=1->(C.nd c).rep.term=r.term->r.ρ=c->g.V r.term i≠c->∀ t p,t<r.term->Valid g t p->p<=A t i->dB g t p (C.nd c).rep.log\/qO C A t p
 gh:∀ c,c<3->c≠i->r.ρ=((c:Nat):Int)->g.V r.term i=c\/r.term<=(C.nd c).rep.term
 im:r.role=2->∀ f,f<3->f≠i->r.Ω f<=A r.term f
 ik:∀ m∈send,m.kind=3->m.yes=true->m.src=i/\m.term=r.term/\m.index.toNat<=n
 F9:∀ m∈send,m.kind=2->ef g' (ng A i r.term n) m.term (g'.φ m.term) m.υ.toNat
 co:ef g' (ng A i r.term n) r.term r.log r.υ
theorem c8.MO{C g A}(h:c8 C g A){t p}(hv:Valid g t p):g.b5 t ≠ -1:=λe=>by
 have:=h.m.none t e;have h1:=hv.1;have h2:=hv.2.1;rw [this] at h2;simp at h2;omega
theorem Nr{C g}(h:nY C g){u x}(hx:x<3)(hv:g.V u x ≠ -1):u<=(C.nd x).rep.term:=by
 rcases Int.lt_or_le (C.nd x).rep.term u with hlt|hle
 .exact absurd (h.later x hx u hlt) hv
 .exact hle
theorem c8.node{C bC g g' A i n r send}(h:c8 C g A)(hi:i<3)(f:kP C g A i r send g' n)(hw:bC.bq)(hr:(bC.nd i).rep=r)(hne:∀ j,j≠i->bC.nd j=C.nd j)(hs:∀ m∈bC.sent,m∈C.sent\/m∈send):c8 bC g' (ng A i r.term n):=by
 have hm:=h.m.node hi f.m hw hr hne hs;have he:=f.m.ext;have gA:=f.m.up;have ha:∀ t j,A t j<=ng A i r.term n t j:=KE f.le;have AQ:∀ j,(C.nd j).rep.term<=(bC.nd j).rep.term:=λj=>by
  by_cases hji:j=i
  .subst hji;rw [hr];exact gA
  .rw [hne j hji];exact Int.le_refl _
 have e5:∀ u,g.b5 u ≠ -1->g'.b5 u=g.b5 u:=λu hu=>by
  rcases f.m.b5 u with e|⟨e,_⟩
  .exact e
  .exact absurd e hu
 have MM:∀ t x,t<(C.nd x).rep.term->ng A i r.term n t x=A t x:=λt x ht=>wX _ _ λhc=>by
  obtain ⟨rfl,rfl⟩:=hc;omega
 have can:∀ t p,qO C A t p->qO bC (ng A i r.term n) t p:=λt p hc=>by
  obtain ⟨x,U,h1,h2,h3,h4,h5,h6,h7⟩:=hc;have hx:=AQ x;have hy:=AQ U;exact ⟨x,U,h1,h2,h3,by omega,by omega,by rw [MM t x h4];exact h6,by rw [MM t U h5];exact h7⟩
 have aMm:∀ t p,Valid g' t p->g'.b5 t ≠ -1:=λt p hv e=>by
  have h1:=hm.none t e;have h2:=hv.1;have h3:=hv.2.1;rw [h1] at h3;simp at h3;omega
 have fresh:∀ t p,Valid g' t p->(g.φ t).length<p->g.b5 t ≠ -1/\t=(C.nd i).rep.term/\t=r.term:=λt p hv hp=>by
  have hl:g.b5 t ≠ -1:=λe=>(f.new t e (aMm t p hv)).2 p hv;exact ⟨hl,f.old t p hl hv hp⟩
 refine ⟨hm,f.iq,λt j=>?_,λt j hj hp=>?_,λj hj cI=>?_,λt j p hj h1 hp=>?_,λt u p hv htu hu=>?_,λm hmem hk=>?_,λc hc cI=>?_,λc hc cI x hx hV t p ht hv hp=>?_,λt x c hx hc hV=>?_,λj hj cI k hk hkj=>?_,λm hmem hk hy=>?_,λm hmem hk=>?_,λj hj=>?_⟩
 .by_cases hc:t=r.term/\j=i
  .obtain ⟨rfl,rfl⟩:=hc;rw [Gt];exact f.a1
  .rw [wX _ _ hc];obtain ⟨s,e⟩:=he t;have:=h.a1 t j;rw [e,List.length_append];omega
 .by_cases hc:t=r.term/\j=i
  .obtain ⟨rfl,rfl⟩:=hc;rw [hr];exact Int.le_refl _
  .rw [wX _ _ hc] at hp;exact Int.le_trans (h.a2 t j hj hp) (AQ j)
 .by_cases hji:j=i
  .subst hji;rw [hr] at cI ⊢;rw [Gt];exact f.a3 cI
  .rw [hne j hji] at cI ⊢;rw [wX _ _ (λhc=>hji hc.2)];exact h.a3 j hj cI
 .by_cases hji:j=i
  .subst hji;rw [hr];exact f.q5 t p h1 hp
  .rw [wX _ _ (λhc=>hji hc.2)] at hp;rw [hne j hji];have hpl:=Nat.le_trans hp (h.a1 t j);rcases h.q5 t j p hj h1 hp with h2|⟨u,h2,h3,h4,h5⟩
   .exact .inl ((dB.ext he hpl).2 h2)
   .exact .inr ⟨u,h2,h3,by rw [e5 u h4];exact h4,λhh=>h5 (VK he f.grow (h.iq t) h2 hpl h4 hh)⟩
 .by_cases hp:p<=(g.φ t).length
  .have hv0:=hv.back he hp;by_cases e:g.b5 u = -1
   .rcases (f.new u e hu).1 t p hv0 htu with h1|h1
    .exact .inl ((dB.ext he hp).2 h1)
    .exact .inr (can t p h1)
   .rcases h.ib t u p hv0 htu e with h1|h1
    .obtain ⟨s,es,_⟩:=f.grow u e;refine .inl ((dB.ext he hp).2 ?_);rw [es];exact h1.more
    .exact .inr (can t p h1)
  .obtain ⟨_,e1,e2⟩:=fresh t p hv (by omega);have e:g.b5 u ≠ -1:=λe=>by
    rcases f.m.b5 u with bI|⟨_,_,bI,_⟩
    .exact hu (by rw [bI];exact e)
    .omega
   obtain ⟨x,U,hx,hy,hxy,aLW,aLX⟩:=h.m.quo u e;have tx:=Nr h.m hx (by rw [aLW];exact e);have ty:=Nr h.m hy (by rw [aLX];exact e);have aTW:=AQ x;have aTX:=AQ U;have aGq:=h.a1 t x;have aSj:=h.a1 t U;exact .inr ⟨x,U,hx,hy,hxy,by omega,by omega,by rw [MM t x (by omega)];omega,by rw [MM t U (by omega)];omega⟩
 .rcases hs m hmem with h1|h1
  .obtain ⟨c,hc,a1,a2,a3⟩:=h.FB m h1 hk;refine ⟨c,hc,a1,Int.le_trans a2 (AQ c),?_⟩;by_cases nC:c=i
   .subst nC;rw [hr];intro hro ht;rcases f.a5s hro with h2|⟨h2,h3,h4⟩
    .omega
    .rw [h4];exact a3 h2 (by omega)
   .rw [hne c nC];exact a3
  .obtain ⟨a1,a2,a3⟩:=f.FB m h1 hk;exact ⟨i,hi,a1,by rw [hr];exact a2,by rw [hr];exact a3⟩
 .by_cases nC:c=i
  .subst nC;rw [hr] at cI ⊢;exact f.il cI
  .rw [hne c nC] at cI ⊢;exact h.il c hc cI
 .by_cases nC:c=i
  .subst nC;rw [hr] at cI hV ht ⊢;have hpl:p<=(g.φ t).length:=Decidable.byContradiction λhn=>by
    obtain ⟨_,_,e2⟩:=fresh t p hv (by omega);omega
   have hv0:=hv.back he hpl;rw [wX _ _ (λhc=>by omega)] at hp;rcases f.iv cI x hx hV t p ht hv0 hp with h1|h1
   .exact .inl ((dB.ext he hpl).2 h1)
   .exact .inr (can t p h1)
  .rw [hne c nC] at cI hV ht ⊢;have a5G:g.V (C.nd c).rep.term x=c->(C.nd c).rep.term<=(C.nd x).rep.term:=λe=>Nr h.m hx (by rw [e];omega);by_cases hpl:p<=(g.φ t).length
   .have hv0:=hv.back he hpl;have fin:dB g t p (C.nd c).rep.log\/qO C A t p->dB g' t p (C.nd c).rep.log\/qO bC (ng A i r.term n) t p:=λq=>by
     rcases q with h1|h1
     .exact .inl ((dB.ext he hpl).2 h1)
     .exact .inr (can t p h1)
    by_cases hold:g.V (C.nd c).rep.term x=c
    .have:=a5G hold;rw [MM t x (by omega)] at hp;exact fin (h.iv c hc cI x hx hold t p ht hv0 hp)
    .rw [f.m.V] at hV;by_cases uh:(C.nd c).rep.term=r.term/\x=i
     .obtain ⟨e1,rfl⟩:=uh;rw [e1,xo] at hV;rw [wX _ _ (λhc=>by omega)] at hp;exact fin (f.ρ c hc nC cI e1 hV (by rw [<-e1];exact hold) t p (by omega) hv0 hp)
     .rw [vM _ _ uh] at hV;exact absurd hV hold
   .exfalso;obtain ⟨_,e1,e2⟩:=fresh t p hv (by omega);have aGq:=h.a1 t x;by_cases xH:x=i
    .subst xH;rw [f.m.V,vM _ _ (λhc=>by omega)] at hV;have:=a5G hV;omega
    .rw [wX _ _ (λhc=>xH hc.2)] at hp;omega
 .rw [f.m.V] at hV;by_cases uh:t=r.term/\x=i
  .obtain ⟨rfl,rfl⟩:=uh;rw [xo] at hV;by_cases nC:c=x
   .subst nC;rw [hr];exact Int.le_refl _
   .rcases f.gh c hc nC hV with e|e
    .exact Int.le_trans (h.gh _ _ c hx hc e) (AQ c)
    .exact Int.le_trans e (AQ c)
  .rw [vM _ _ uh] at hV;exact Int.le_trans (h.gh t x c hx hc hV) (AQ c)
 .by_cases hji:j=i
  .subst hji;rw [hr] at cI ⊢;exact Nat.le_trans (f.im cI k hk hkj) (ha _ _)
  .rw [hne j hji] at cI ⊢;exact Nat.le_trans (h.im j hj cI k hk hkj) (ha _ _)
 .rcases hs m hmem with h1|h1
  .obtain ⟨k,fy,a1,a2⟩:=h.ik m h1 hk hy;exact ⟨k,fy,a1,Nat.le_trans a2 (ha _ _)⟩
  .obtain ⟨a1,a2,a3⟩:=f.ik m h1 hk hy;exact ⟨i,hi,a1,by rw [a2,Gt];exact a3⟩
 .rcases hs m hmem with h1|h1
  .obtain ⟨s,e⟩:=he m.term;rw [e];exact (h.F9 m h1 hk).ext he ha (Int.le_refl _)
  .exact f.F9 m h1 hk
 .by_cases hji:j=i
  .subst hji;rw [hr];exact f.co
  .rw [hne j hji];exact (h.co j hj).Ek he ha (Int.le_refl _)
theorem ED(A i t):ng A i t (A t i)=A:=by
 funext u j
 unfold ng;split
 .rename_i hc;obtain ⟨rfl,rfl⟩:=hc;rfl
 .rfl
theorem QE{g g'}(h:g'.φ=g.φ):Grow g g':=λu _=>⟨[],by rw [h,List.append_nil],λx hx=>by cases hx⟩
theorem yc{g g'}(h:g'.φ=g.φ){t p l}:dB g' t p l ↔ dB g t p l:=by unfold dB;rw [h]
theorem ZG{g g'}(h:g'.φ=g.φ){A s l n}(hs:ef g A s l n):ef g' A s l n :=
 hs.Ek (λt=>⟨[],by rw [h,List.append_nil]⟩) (λ_ _=>Nat.le_refl _) (Int.le_refl _)
theorem Rx{C g g' A}(h:c8 C g A){i}(hi:i<3){r send}(aJ:mV C g i r send g')(cC:g'.φ=g.φ)(e5:g'.b5=g.b5)(gw:r.log=(C.nd i).rep.log)(h1:r.role=1->(C.nd i).rep.role=1/\r.term=(C.nd i).rep.term)(h2:r.role=2->(C.nd i).rep.role=2/\r.term=(C.nd i).rep.term)(M1:r.role=1->∀ x,x<3->g'.V r.term x=i->g.V r.term x=i)(aLU:∀ c,c<3->c≠i->(C.nd c).rep.role=1->(C.nd c).rep.term=r.term->r.ρ=c->g.V r.term i≠c->∀ t p,t<r.term->Valid g t p->p<=A t i->dB g t p (C.nd c).rep.log\/qO C A t p)(aLV:∀ c,c<3->c≠i->r.ρ=((c:Nat):Int)->g.V r.term i=c\/r.term<=(C.nd c).rep.term)(tH:r.role=2->∀ f,f<3->f≠i->r.Ω f<=A r.term f)(e9:∀ m∈send,m.kind≠0)(hik:∀ m∈send,m.kind=3->m.yes=true->m.src=i/\m.term=r.term/\m.index.toNat<=A r.term i)(hic:∀ m∈send,m.kind=2->ef g A m.term (g.φ m.term) m.υ.toNat)(lR:ef g A r.term r.log r.υ):kP C g A i r send g' (A r.term i):=by
 refine ⟨aJ,QE cC,by rw [cC];exact h.iq,Nat.le_refl _,by rw [cC];exact h.a1 _ _,λhr=>?_,λt p oO hp=>?_,λu hu bF=>absurd hu (by rw [<-e5];exact bF),λt p _ hv hlt=>?_,λm hm hk=>absurd hk (e9 m hm),λhr=>?_,λhr=>?_,λhr x hx hv t p ht hval hp=>?_,aLU,aLV,tH,hik,λm hm hk=>?_,?_⟩
 .obtain ⟨a,b⟩:=h2 hr;rw [b,gw];exact h.a3 i hi a
 .rw [ED] at hp;rw [gw];rcases h.q5 t i p hi oO hp with q|⟨u,q1,bP,gC,jK⟩
  .exact .inl ((yc cC).2 q)
  .exact .inr ⟨u,q1,Int.le_trans bP aJ.up,by rw [e5];exact gC,λhh=>jK (by rw [cC] at hh;exact (yc cC).1 hh)⟩
 .have:=hv.2.1;rw [cC] at this;omega
 .obtain ⟨a,b⟩:=h1 hr;exact .inr ⟨a,b,gw⟩
 .obtain ⟨a,b⟩:=h1 hr;rw [gw,b];exact h.il i hi a
 .obtain ⟨a,b⟩:=h1 hr;have:=M1 hr x hx hv;rw [b] at this ht;rw [gw];exact h.iv i hi a x hx this t p ht hval hp
 .rw [ED,cC];exact ZG cC (hic m hm hk)
 .rw [ED];exact ZG cC lR
theorem aQF{C g}(h:nY C g){i}(hi:i<3):mV C g i (fR i (C.nd i).vK (C.nd i).BC (C.nd i).vJ) [] g:=by
 obtain ⟨h1,h2,h3⟩:=h.wf.rX i hi;refine ⟨?_,by show _<=(C.nd i).vK;omega,λ_ _=>h2,λm hm=>(by cases hm),λt=>.inl rfl,Ext.refl _,λt=>.inl rfl,λhr=>(by cases (show (0:Int)=1 from hr)),λhr=>(by cases (show (0:Int)=2 from hr)),?_,λm hm=>(by cases hm)⟩
 .funext t j
  by_cases hc:t=(C.nd i).vK/\j=i
  .obtain ⟨rfl,rfl⟩:=hc;have:=h.now j hi;rw [<-h1,<-h2] at this;rw [this];exact (xo _ _ _ _).symm
  .exact (vM _ _ hc).symm
 .show jE g.φ (C.nd i).vJ;rw [h3];exact h.log i hi
theorem c8.start{C g A}(h:c8 C g A){i}(hi:i<3):c8 (th C i) g A:=by
 obtain ⟨h1,h2,h3⟩:=h.m.wf.rX i hi;have e:((th C i).nd i).rep=fR i (C.nd i).vK (C.nd i).BC (C.nd i).vJ:=by
  unfold th;simp only [cF];rfl
 have f:kP C g A i (fR i (C.nd i).vK (C.nd i).BC (C.nd i).vJ) [] g (A (fR i (C.nd i).vK (C.nd i).BC (C.nd i).vJ).term i) :=
  Rx h hi (aQF h.m hi) rfl rfl h3 (λhr=>(by cases (show (0:Int)=1 from hr))) (λhr=>(by cases (show (0:Int)=2 from hr))) (λhr=>(by cases (show (0:Int)=1 from hr)))
   (λc hc nC hro ht hv hV=>absurd (by
    have:=h.m.now i hi;show g.V (C.nd i).vK i=c;rw [h1,this,<-h2];exact hv) hV)
   (λc hc nC hv=>.inl (by
    have:=h.m.now i hi;show g.V (C.nd i).vK i=c;rw [h1,this,<-h2];exact hv)) (λhr=>(by cases (show (0:Int)=2 from hr))) (λm hm=>(by cases hm)) (λm hm=>(by cases hm)) (λm hm=>(by cases hm)) (.inl rfl)
 have:=h.node hi f (Z8 h.m.wf hi) e (λj hj=>dD _ _ hj) λm hm=>.inl hm
 rwa [ED] at this
theorem c8.call{C g g' A}(h:c8 C g A){i n}(hi:i<3){x}(hx:x.1.bq)(hf:Fits (C.nd i).rep x.1 x.2)(f:kP C g A i x.1 x.2.send g' n):(c8 (zn C i x) g A/\g=g)\/c8 (zn C i x) g' (ng A i x.1.term n):=by
 have hid:=(h.m.wf.rep i hi).2;have hw:=aH9 h.m.wf hi hx hf;have hh:(x6 C i x.1).bq:=VJ h.m.wf hi hx (by rw [hf.id];exact hid);rw [Tk h.m.wf hi hf] at hw ⊢;split
 .exact .inl ⟨h.start hi,rfl⟩
 rename_i hs1;rw [if_neg hs1] at hw;split
 .have h1:=h.node hi f hh (by unfold x6;simp only [cF];rfl) (λj hj=>dD _ _ hj) λm hm=>.inl hm;exact .inr (h1.start hi)
 .rename_i hs2;rw [if_neg hs2] at hw;refine .inr (h.node hi f hw (by unfold x6;simp only [cF];rfl) (λj hj=>dD _ _ hj) λm hm=>?_);rcases List.mem_append.1 hm with hm|hm
  .exact .inl hm
  .exact .inr (List.mem_of_mem_take hm)
theorem c8.drop{C g A}(h:c8 C g A){n}(hn:n<C.sent.length):c8 (yU C n) g A:=by
 have hs:∀ m∈(yU C n).sent,m∈C.sent:=λm hm=>by
  rcases List.mem_append.1 hm with hm|hm
  .exact List.mem_of_mem_take hm
  .exact List.mem_of_mem_drop hm
 exact ⟨h.m.drop hn,h.iq,h.a1,h.a2,h.a3,h.q5,h.ib,λm hm=>h.FB m (hs m hm),h.il,h.iv,h.gh,h.im,λm hm=>h.ik m (hs m hm),λm hm=>h.F9 m (hs m hm),h.co⟩
theorem aRC{C g}(h:nY C g){i}(hi:i<3):xm g.V i (C.nd i).rep.term (C.nd i).rep.ρ=g.V:=by
 funext t j
 by_cases hc:t=(C.nd i).rep.term/\j=i
 .obtain ⟨rfl,rfl⟩:=hc;rw [xo];exact (h.now j hi).symm
 .exact vM _ _ hc
theorem TW{g A r}(hs:ef g A r.term (g.φ r.term) r.υ):∀ m∈bT r,ef g A m.term (g.φ m.term) m.υ.toNat:=λm hm=>by
 unfold bT at hm;obtain ⟨f,_,rfl⟩:=List.mem_map.1 hm;exact hs
theorem Rw{C g g' A}(h:c8 C g A){i}(hi:i<3){send}(aJ:mV C g i (C.nd i).rep send g')(cC:g'.φ=g.φ)(e5:g'.b5=g.b5)(e9:∀ m∈send,m.kind≠0)(hik:∀ m∈send,m.kind=3->m.yes=true->m.src=i/\m.term=(C.nd i).rep.term/\m.index.toNat<=A (C.nd i).rep.term i)(hic:∀ m∈send,m.kind=2->ef g A m.term (g.φ m.term) m.υ.toNat):
  kP C g A i (C.nd i).rep send g' (A (C.nd i).rep.term i) :=
 Rx h hi aJ cC e5 rfl (λhr=>⟨hr,rfl⟩) (λhr=>⟨hr,rfl⟩) (λ_ x _ hv=>by rw [aJ.V,aRC h.m hi] at hv;exact hv) (λc _ _ _ _ hv hV=>absurd ((h.m.now i hi).trans hv) hV) (λc _ _ hv=>.inl ((h.m.now i hi).trans hv)) (h.im i hi) e9 hik hic (h.co i hi)
theorem aAx{C g A}(h:c8 C g A){i}(hi:i<3):∃ g' n,kP C g A i (cr (C.nd i).rep).1 (cr (C.nd i).rep).2.send g' n:=by
 obtain ⟨hw,hid⟩:=h.m.wf.rep i hi;obtain ⟨g',aJ,cC,e5⟩:=aQj h.m hi;by_cases h2:(C.nd i).rep.role=2
 .have e:cr (C.nd i).rep=((C.nd i).rep,gL (bT (C.nd i).rep)):=if_pos h2;rw [e] at aJ ⊢;refine ⟨g',_,Rw h hi aJ cC e5 (λm hm=>by rw [yL _ m hm];decide) (λm hm hk=>by rw [yL _ m hm] at hk;cases hk) λm hm _=>TW ?_ m hm⟩;rw [(h.m.lead i hi h2).2];exact h.co i hi
 by_cases h3:(C.nd i).rep.term=1099511627776
 .have e:cr (C.nd i).rep=((C.nd i).rep,er):=by unfold cr;rw [if_neg h2,if_pos h3]
  rw [e] at aJ ⊢;exact ⟨g',_,Rw h hi aJ cC e5 (λm hm=>by cases hm) (λm hm=>by cases hm) (λm hm=>by cases hm)⟩
 .obtain ⟨r',hr'⟩:∃ r':aG,({ (C.nd i).rep with term:=(C.nd i).rep.term+1,ρ:=(C.nd i).rep.id,role:=1,bh:=λk=>decide (k=(C.nd i).rep.id) }:aG)=r':=⟨_,rfl⟩;have e1:(cr (C.nd i).rep).1=r':=by unfold cr;rw [if_neg h2,if_neg h3,<-hr']
  have e2:(cr (C.nd i).rep).2.send=(bu (C.nd i).rep.id).map λk=>jS r' k:=by unfold cr;rw [if_neg h2,if_neg h3,<-hr']
  rw [e1,e2] at aJ ⊢;have t1:r'.term=(C.nd i).rep.term+1:=by rw [<-hr']
  have l1:r'.log=(C.nd i).rep.log:=by rw [<-hr']
  have v1:r'.ρ=i:=by rw [<-hr',hid]
  have i1:r'.id=i:=by rw [<-hr',hid]
  have c1:r'.υ=(C.nd i).rep.υ:=by rw [<-hr']
  have o1:r'.role=1:=by rw [<-hr']
  have CB:∀ m∈(bu (C.nd i).rep.id).map (λk=>jS r' k),∃ k,m=jS r' k:=λm hm=>by
   obtain ⟨k,_,rfl⟩:=List.mem_map.1 hm;exact ⟨k,rfl⟩
  have mine:∀ t p,Valid g t p->p<=A t i->dB g t p (C.nd i).rep.log\/qO C A t p:=λt p hv hp=>by
   rcases h.q5 t i p hi hv.1 hp with q|⟨u,q1,_,gC,jK⟩
   .exact .inl q
   .rcases h.ib t u p hv q1 gC with q|q
    .exact absurd q jK
    .exact .inr q
  refine ⟨g',A r'.term i,aJ,QE cC,by rw [cC];exact h.iq,Nat.le_refl _,by rw [cC];exact h.a1 _ _,λhr=>by omega,λt p oO hp=>?_,λu hu bF=>absurd hu (by rw [<-e5];exact bF),λt p _ hv hlt=>?_,λm hm hk=>?_,λ_=>.inl (by omega),λ_ x hx=>?_,λ_ x hx hV t p ht hv hp=>?_,λc _ nC _ _ hv=>absurd (by rw [v1] at hv;omega) nC,λc _ nC hv=>absurd (by rw [v1] at hv;omega) nC,λhr=>by omega,λm hm hk=>?_,λm hm hk=>?_,?_⟩
  .rw [ED] at hp;rw [l1];rcases h.q5 t i p hi oO hp with q|⟨u,q1,bP,gC,jK⟩
   .exact .inl ((yc cC).2 q)
   .exact .inr ⟨u,q1,by omega,by rw [e5];exact gC,λhh=>jK (by rw [cC] at hh;exact (yc cC).1 hh)⟩
  .have:=hv.2.1;rw [cC] at this;omega
  .obtain ⟨k,rfl⟩:=CB m hm;exact ⟨by show (r'.id:Int)=i;rw [i1],Int.le_refl _,λ_ _=>⟨rfl,rfl⟩⟩
  .rw [l1] at hx;have:=hw.ok.log.hi x hx;omega
  .rw [l1];by_cases xH:x=i
   .subst xH;exact mine t p hv hp
   .rw [aJ.V,vM _ _ (λhc=>xH hc.2)] at hV;have:=h.gh _ x i hx hi hV;omega
  .obtain ⟨k,rfl⟩:=CB m hm;cases hk
  .obtain ⟨k,rfl⟩:=CB m hm;cases hk
  .rw [ED,l1,c1];exact ZG cC ((h.co i hi).Ek (Ext.refl _) (λ_ _=>Nat.le_refl _) (by omega))
theorem a8v{C g A}(h:c8 C g A){i}(hi:i<3)(data):∃ g' n,kP C g A i (aq (C.nd i).rep data).1 (aq (C.nd i).rep data).2.2.2.send g' n:=by
 obtain ⟨hw,hid⟩:=h.m.wf.rep i hi;have hw':=(Ig hw data).1;obtain ⟨g',aJ,e5,V8,QI⟩:=aOP h.m hi data;have same:aq (C.nd i).rep data=((C.nd i).rep,(aq (C.nd i).rep data).2.1,(aq (C.nd i).rep data).2.2.1,er)->∃ g' n,kP C g A i (aq (C.nd i).rep data).1 (aq (C.nd i).rep data).2.2.2.send g' n:=λe=>by
  rw [e] at aJ QI ⊢;exact ⟨g',_,Rw h hi aJ (QI rfl) e5 (λm hm=>by cases hm) (λm hm=>by cases hm) (λm hm=>by cases hm)⟩
 by_cases h2:(C.nd i).rep.role=2
 .by_cases h3:2000<(data.size:Int)
  .exact same (by unfold aq;rw [if_neg (by simpa using h2),if_pos h3])
  by_cases h4:(C.nd i).rep.log.length=4000
  .exact same (by unfold aq;rw [if_neg (by simpa using h2),if_neg h3,if_pos h4])
  obtain ⟨x,hx⟩:∃ x:aS,x=⟨(C.nd i).rep.term,data⟩:=⟨_,rfl⟩;obtain ⟨r',hr'⟩:∃ r':aG,({ (C.nd i).rep with log:=(C.nd i).rep.log++[x] }:aG)=r':=⟨_,rfl⟩;have e1:(aq (C.nd i).rep data).1=r':=by unfold aq;rw [if_neg (by simpa using h2),if_neg h3,if_neg h4,<-hr',hx]
  have e2:(aq (C.nd i).rep data).2.2.2.send=bT r':=by unfold aq;rw [if_neg (by simpa using h2),if_neg h3,if_neg h4,<-hr',hx]
  rw [e1,e2] at aJ ⊢;rw [e1] at hw';have t1:r'.term=(C.nd i).rep.term:=by rw [<-hr']
  have l1:r'.log=(C.nd i).rep.log++[x]:=by rw [<-hr']
  have v1:r'.ρ=(C.nd i).rep.ρ:=by rw [<-hr']
  have c1:r'.υ=(C.nd i).rep.υ:=by rw [<-hr']
  have o1:r'.role=2:=by rw [<-hr'];exact h2
  have m1:r'.Ω=(C.nd i).rep.Ω:=by rw [<-hr']
  obtain ⟨AJ,mG⟩:=h.m.lead i hi h2;have iI:g'.φ (C.nd i).rep.term=(C.nd i).rep.log++[x]:=by have:=(aJ.lead o1).2;rw [t1,l1] at this;exact this
  have VG:=h.a3 i hi h2;have he:=aJ.ext;have hgrow:Grow g g':=λu _=>by
   by_cases hu:u=(C.nd i).rep.term
   .subst hu;exact ⟨[x],by rw [iI,mG],λU hy=>by rw [List.mem_singleton.1 hy,hx]⟩
   .exact ⟨[],by rw [V8 u hu,List.append_nil],λU hy=>by cases hy⟩
  have hle:A r'.term i<=(C.nd i).rep.log.length+1:=by rw [t1,VG];omega
  have lR:ef g' (ng A i r'.term ((C.nd i).rep.log.length+1)) r'.term r'.log r'.υ:=by
   rw [l1,c1];exact (h.co i hi).ext he (KE hle) (by omega)
  refine ⟨g',(C.nd i).rep.log.length+1,aJ,hgrow,λt=>?_,hle,by rw [t1,iI];simp,λ_=>by rw [l1];simp,λt p oO hp=>?_,λu hu bF=>absurd hu (by rw [<-e5];exact bF),λt p _ hv hlt=>?_,λm hm hk=>(by rw [yL _ m hm] at hk;cases hk),λhr=>by omega,λhr=>by omega,λhr=>by omega,λc _ _ _ _ hv hV=>absurd (by rw [t1,h.m.now i hi,<-v1];exact hv) hV,λc _ _ hv=>.inl (by rw [t1,h.m.now i hi,<-v1];exact hv),λ_ f hf qf=>by rw [m1,t1];exact h.im i hi h2 f hf qf,λm hm hk=>(by rw [yL _ m hm] at hk;cases hk),λm hm _=>TW ?_ m hm,lR⟩
  .by_cases ht:t=(C.nd i).rep.term
   .rw [ht,iI,<-l1,<-t1];exact hw'.ok.log
   .rw [V8 t ht];exact h.iq t
  .by_cases ht:t=(C.nd i).rep.term
   .subst ht;rw [<-t1,Gt] at hp;refine .inl ⟨by rw [l1];simp;omega,by rw [l1,iI]⟩
   .rw [wX _ _ (λhc=>ht (by rw [<-t1];exact hc.1))] at hp;have hpl:=Nat.le_trans hp (h.a1 t i);rcases h.q5 t i p hi oO hp with q|⟨u,q1,bP,gC,jK⟩
    .rw [l1];exact .inl ((dB.ext he hpl).2 q.more)
    .exact .inr ⟨u,q1,by omega,by rw [e5];exact gC,λhh=>jK (VK he hgrow (h.iq t) q1 hpl gC hh)⟩
  .by_cases ht:t=(C.nd i).rep.term
   .exact ⟨ht,by rw [t1];exact ht⟩
   .have:=hv.2.1;rw [V8 t ht] at this;omega
  .rw [(aJ.lead o1).2];exact lR
 .exact same (by unfold aq;rw [if_pos h2])
theorem aMg{C g g' A}(h:c8 C g A){i}(hi:i<3){r send}(aJ:mV C g i r send g')(h1:(C.nd i).rep.role=1)(o1:r.role=2)(t1:r.term=(C.nd i).rep.term)(l1:r.log=(C.nd i).rep.log)(c1:r.υ=(C.nd i).rep.υ)(v1:r.ρ=(C.nd i).rep.ρ)(m1:∀ f,r.Ω f=0)(hfree:g.b5 r.term = -1)(hsame:∀ t,t≠r.term->g'.φ t=g.φ t/\g'.b5 t=g.b5 t)(hsend:send=bT r)(hq:∃ a b,a<3/\b<3/\a≠b/\g.V r.term a=i/\g.V r.term b=i):
  kP C g A i r send g' r.log.length:=by
 obtain ⟨hw,hid⟩:=h.m.wf.rep i hi;have he:=aJ.ext;have QI:g.φ r.term=[]:=h.m.none _ hfree;have a4o:A r.term i=0:=by have:=h.a1 r.term i;rw [QI] at this;simpa using this
 obtain ⟨AJ,mG⟩:=aJ.lead o1;have hgrow:Grow g g':=λu hu=>⟨[],by rw [(hsame u (λe=>hu (by rw [e];exact hfree))).1,List.append_nil],λx hx=>by cases hx⟩;have hle:A r.term i<=r.log.length:=by omega
 have lR:ef g' (ng A i r.term r.log.length) r.term r.log r.υ:=by
  rw [l1,c1];exact (h.co i hi).Ek he (KE (by rw [<-l1];exact hle)) (by omega)
 have rZ:=h.il i hi h1;have hk:∀ m∈send,m.kind=2:=by rw [hsend];exact yL r
 refine ⟨aJ,hgrow,λt=>?_,hle,by rw [mG];exact Nat.le_refl _,λ_=>rfl,λt p oO hp=>?_,λu hu bF=>?_,λt p hl hv hlt=>?_,λm hm e9=>(by rw [hk m hm] at e9;cases e9),λhr=>by omega,λhr=>by omega,λhr=>by omega,
  λc _ _ _ _ hv hV=>absurd (by rw [t1,h.m.now i hi,<-v1];exact hv) hV,λc _ _ hv=>.inl (by rw [t1,h.m.now i hi,<-v1];exact hv),λ_ f _ _=>by rw [m1];exact Nat.zero_le _,λm hm e9=>(by rw [hk m hm] at e9;cases e9),λm hm _=>?_,lR⟩
 .by_cases ht:t=r.term
  .rw [ht,mG,l1,t1];exact hw.ok.log
  .rw [(hsame t ht).1];exact h.iq t
 .by_cases ht:t=r.term
  .subst ht;rw [Gt] at hp;exact .inl ⟨hp,by rw [mG]⟩
  .rw [wX _ _ (λhc=>ht hc.1)] at hp;have hpl:=Nat.le_trans hp (h.a1 t i);rcases h.q5 t i p hi oO hp with q|⟨u,q1,bP,gC,jK⟩
   .rw [l1];exact .inl ((dB.ext he hpl).2 q)
   .have hu:u≠r.term:=λe=>gC (by rw [e];exact hfree);exact .inr ⟨u,q1,by omega,by rw [(hsame u hu).2];exact gC,λhh=>jK (VK he hgrow (h.iq t) q1 hpl gC hh)⟩
 .have hu1:u=r.term:=Decidable.byContradiction λe=>bF (by rw [(hsame u e).2];exact hu);subst hu1;refine ⟨λt p hv ht=>?_,λp hv=>?_⟩
  .obtain ⟨a,b,ha,hb,hab,a5j,a5k⟩:=hq;rw [mG,l1];have ta:=Nr h.m ha (by rw [a5j];omega);have tb:=Nr h.m hb (by rw [a5k];omega);by_cases h3:p<=A t a
   .exact h.iv i hi h1 a ha (by rw [<-t1];exact a5j) t p (by omega) hv h3
   by_cases h4:p<=A t b
   .exact h.iv i hi h1 b hb (by rw [<-t1];exact a5k) t p (by omega) hv h4
   exact .inr ⟨a,b,ha,hb,hab,by omega,by omega,by omega,by omega⟩
  .obtain ⟨h3,h4,h5⟩:=hv;rw [mG,l1] at h4 h5;obtain ⟨q,rfl⟩:∃ q,p=q+1:=⟨p - 1,by omega⟩;obtain ⟨x,hx⟩:∃ x,(C.nd i).rep.log[q]? = some x:=⟨_,List.getElem?_eq_getElem h4⟩;rw [BF hx] at h5;have:=rZ x (List.mem_of_getElem? hx);omega
 .have ht:t≠r.term:=λe=>hl (by rw [e];exact hfree);have:=hv.2.1;rw [(hsame t ht).1] at this;omega
 .rw [hsend] at hm;exact TW (by rw [mG];exact lR) m hm
theorem a8q{φ l}(h:jE φ l)(h0:0<l.length):l=(φ (bB l l.length)).take l.length/\l.length<=(φ (bB l l.length)).length/\∃ z,l[l.length - 1]? = some z/\z.term=bB l l.length:=by
 obtain ⟨n,hn⟩:∃ n,l.length=n+1:=⟨l.length - 1,by omega⟩;obtain ⟨z,hz⟩:∃ z,l[n]? = some z:=⟨_,List.getElem?_eq_getElem (by omega)⟩;have e:=h n z hz;have hl:=take_len (by omega) e;rw [hn,BF hz];refine ⟨?_,by omega,z,by rw [Nat.add_sub_cancel];exact hz,rfl⟩;rw [<-e,<-hn,List.take_length]
theorem aJc{C g A}(h:c8 C g A){x c}(hx:x<3)(hc:c<3)(hfr:bB (C.nd x).rep.log (C.nd x).rep.log.length<bB (C.nd c).rep.log (C.nd c).rep.log.length\/(bB (C.nd c).rep.log (C.nd c).rep.log.length=bB (C.nd x).rep.log (C.nd x).rep.log.length/\(C.nd x).rep.log.length<=(C.nd c).rep.log.length)){t p}(hv:Valid g t p)(hp:dB g t p (C.nd x).rep.log):dB g t p (C.nd c).rep.log\/qO C A t p:=by
 have px:=h.m.log x hx;have pc:=h.m.log c hc;have ZH:=(h.m.wf.rep x hx).1.ok.log;generalize (C.nd x).rep.log=a at px ZH hp hfr;generalize hb:(C.nd c).rep.log=b at pc hfr ⊢;obtain ⟨v1,v2,v3⟩:=hv;obtain ⟨p1,p2⟩:=hp;obtain ⟨ea,la,z,hz,aLd⟩:=a8q px (by omega);have hb0:0<b.length:=by
  rcases hfr with q|q
  .rcases Nat.eq_zero_or_pos b.length with e|e
   .rw [e] at q;have h1:=ZH.lo z (List.mem_of_getElem? hz);have:bB b 0=0:=rfl;omega
   .exact e
  .omega
 obtain ⟨eb,lb,U,hy,aTG⟩:=a8q pc hb0;rcases hfr with q|⟨q1,bP⟩
 ·-- the asker's last term is greater
  obtain ⟨k,rfl⟩:∃ k,p=k+1:=⟨p - 1,by omega⟩;obtain ⟨e,he⟩:∃ e,(g.φ t)[k]? = some e:=⟨_,List.getElem?_eq_getElem v2⟩;rw [BF he] at v3;have AE:a[k]? = some e:=by
   have:=congrArg (λl=>l[k]?) p2;simp only [List.getElem?_take_of_lt (show k<k+1 by omega)] at this;rw [this,he]
  have hts:t<=bB a a.length:=by
   have h1:=ZH.iq k (a.length - 1) (by omega) (by omega) (by omega);have e1:a[k]=e:=by have:=AE;rw [List.getElem?_eq_getElem (by omega)] at this;simpa using this
   have e2:a[a.length - 1]=z:=by have:=hz;rw [List.getElem?_eq_getElem (by omega)] at this;simpa using this
   rw [e1,e2,v3,aLd] at h1;exact h1
  have aKj:g.b5 (bB b b.length) ≠ -1:=λe=>by
   rw [h.m.none _ e] at lb;simp at lb;rw [lb] at hb0;simp at hb0
  rcases h.ib t (bB b b.length) (k+1) ⟨v1,v2,by rw [BF he];exact v3⟩ (by omega) aKj with ⟨r1,r2⟩|r
  .left
   have hkb:k+1<=b.length:=Decidable.byContradiction λhn=>by
    have h1:(g.φ (bB b b.length))[b.length - 1]? = some U:=by
     have:=hy;rw [eb,List.getElem?_take_of_lt (by rw [List.length_take];omega)] at this;rw [List.length_take,Nat.min_eq_left lb] at this;exact this
    have h2:(g.φ t)[b.length - 1]? = some U:=by
     have:=congrArg (λl=>l[b.length - 1]?) r2;simp only [List.getElem?_take_of_lt (show b.length - 1<k+1 by omega)] at this;rw [<-this,h1]
    have:=(h.iq t).hi U (List.mem_of_getElem? h2);omega
   refine ⟨hkb,?_⟩;rw [eb,List.take_take,Nat.min_eq_left hkb];exact r2
  .exact .inr r
 .left
  refine ⟨by omega,?_⟩;rw [<-p2,eb,ea,q1,List.take_take,List.take_take]
  congr 1
  omega
theorem mine{C g A}(h:c8 C g A){i}(hi:i<3){t p}(hv:Valid g t p)(hp:p<=A t i):dB g t p (C.nd i).rep.log\/qO C A t p:=by
 rcases h.q5 t i p hi hv.1 hp with q|⟨u,q1,_,gC,jK⟩
 .exact .inl q
 .rcases h.ib t u p hv q1 gC with q|q
  .exact absurd q jK
  .exact .inr q
theorem B7{C g g' A}(h:c8 C g A){i}(hi:i<3){r send}(aJ:mV C g i r send g')(cC:g'.φ=g.φ)(e5:g'.b5=g.b5)(gw:r.log=(C.nd i).rep.log)(h1:r.role=1->(C.nd i).rep.role=1/\r.term=(C.nd i).rep.term)(h2:r.role=2->(C.nd i).rep.role=2/\r.term=(C.nd i).rep.term)(hv:(r.term=(C.nd i).rep.term/\r.ρ=(C.nd i).rep.ρ)\/r.ρ = -1)(tH:r.role=2->∀ f,f<3->f≠i->r.Ω f<=A r.term f)(e9:∀ m∈send,m.kind≠0)(hik:∀ m∈send,m.kind=3->m.yes=true->m.src=i/\m.term=r.term/\m.index.toNat<=A r.term i)(hic:∀ m∈send,m.kind=2->ef g A m.term (g.φ m.term) m.υ.toNat)(lR:ef g A r.term r.log r.υ):kP C g A i r send g' (A r.term i):=by
 have q2:∀ c:Nat,r.ρ=c->g.V r.term i=c:=λc hc=>by
  rcases hv with ⟨a,b⟩|b
  .rw [a,h.m.now i hi,<-b];exact hc
  .omega
 refine Rx h hi aJ cC e5 gw h1 h2 (λhr x hx hV=>?_) (λc _ _ _ _ hc hV=>absurd (q2 c hc) hV) (λc _ _ hc=>.inl (q2 c hc)) tH e9 hik hic lR;rw [aJ.V] at hV;by_cases xH:x=i
 .subst xH;rw [xo] at hV;exact q2 x hV
 .rw [vM _ _ (λhc=>xH hc.2)] at hV;exact hV
structure wV(C:cJ)(i:Nat)(r1:aG):Prop where
 up:(C.nd i).rep.term<=r1.term
 hv:(r1.term=(C.nd i).rep.term/\r1.ρ=(C.nd i).rep.ρ)\/r1.ρ = -1
 log:r1.log=(C.nd i).rep.log
 same:r1.role≠0->r1=(C.nd i).rep
 υ:r1.υ=(C.nd i).rep.υ
 id:r1.id=i
theorem wV.one{C i r1}(u:wV C i r1){k}(hk:k≠0)(hr:r1.role=k):(C.nd i).rep.role=k/\r1.term=(C.nd i).rep.term:=by
 have:=u.same (by omega);exact ⟨by rw [<-this];exact hr,by rw [<-this]⟩
theorem wV.co{C g A}(h:c8 C g A){i}(hi:i<3){r1}(u:wV C i r1):ef g A r1.term r1.log r1.υ:=by
 rw [u.log,u.υ];exact (h.co i hi).Ek (Ext.refl _) (λ_ _=>Nat.le_refl _) u.up
theorem aRD{C g g' A}(h:c8 C g A){i}(hi:i<3){r1}(u:wV C i r1){m}(hmem:m∈C.sent)(hm:m.eO i)(hk:m.kind=0)(aJ:mV C g i (cV r1 m).1 (cV r1 m).2.send g')(cC:g'.φ=g.φ)(e5:g'.b5=g.b5):
  kP C g A i (cV r1 m).1 (cV r1 m).2.send g' (A (cV r1 m).1.term i):=by
 obtain ⟨⟨s1,s2,en,dL⟩,iB⟩:=aBO r1 m;have hs:∀ {k:Int},k≠1->∀ v∈(cV r1 m).2.send,v.kind≠k:=λlS v hv=>by rw [iB v hv];exact λe=>lS e.symm
 have c1:(cV r1 m).1.υ=r1.υ/\(cV r1 m).1.Ω=r1.Ω:=by unfold cV;split<;>exact ⟨rfl,rfl⟩
 have lR:ef g A (cV r1 m).1.term (cV r1 m).1.log (cV r1 m).1.υ:=by rw [s2,dL,c1.1];exact u.co h hi
 have tH:(cV r1 m).1.role=2->∀ f,f<3->f≠i->(cV r1 m).1.Ω f<=A (cV r1 m).1.term f:=λhr f hf qf=>by
  rw [s1] at hr;have e:=u.same (by omega);rw [c1.2,s2,e];exact h.im i hi (by rw [<-e];exact hr) f hf qf
 by_cases hg:(decide (m.term=r1.term)&&(decide (r1.ρ = -1)||decide (r1.ρ=m.src))&&C6 r1 m)=true
 .have ev:(cV r1 m).1.ρ=m.src:=by unfold cV;rw [if_pos hg]
  simp only [Bool.and_eq_true,decide_eq_true_eq] at hg;obtain ⟨⟨g1,_⟩,g3⟩:=hg;obtain ⟨c,hc,a1,a2,a3⟩:=h.FB m hmem hk;have nC:c≠i:=λe=>hm.src.1 (by rw [a1,e]);refine Rx h hi aJ cC e5 (by rw [dL];exact u.log) (λhr=>by rw [s2];exact u.one (by decide) (by rw [<-s1];exact hr)) (λhr=>by rw [s2];exact u.one (by decide) (by rw [<-s1];exact hr)) (λhr x hx hV=>?_) (λd hd aKC hro ht hv hV t p aTE hval hp=>?_) (λd hd aKC hv=>.inr ?_) tH (hs (by decide)) (λv hv fy=>absurd fy (hs (by decide) v hv)) (λv hv hk2=>absurd hk2 (hs (by decide) v hv)) lR
  .rw [aJ.V] at hV;by_cases xH:x=i
   .subst xH;rw [xo,ev] at hV;omega
   .rw [vM _ _ (λhc=>xH hc.2)] at hV;exact hV
  .rw [ev] at hv;have hdc:d=c:=by omega
   subst hdc;obtain ⟨b1,b2⟩:=a3 hro (by rw [ht,s2,g1]);rcases mine h hi hval hp with q|q
   .refine aJc h hi hd ?_ hval q;rw [<-u.log];unfold C6 at g3;simp only [Bool.or_eq_true,Bool.and_eq_true,decide_eq_true_eq] at g3;rw [b2,b1] at g3;rcases g3 with g3|⟨g3,g4⟩
    .exact .inl g3
    .exact .inr ⟨g3,by omega⟩
   .exact .inr q
  .rw [ev] at hv;have hdc:d=c:=by omega
   subst hdc;rw [s2,<-g1];exact a2
 .have ev:(cV r1 m).1.ρ=r1.ρ:=by unfold cV;rw [if_neg hg]
  exact B7 h hi aJ cC e5 (by rw [dL];exact u.log) (λhr=>by rw [s2];exact u.one (by decide) (by rw [<-s1];exact hr)) (λhr=>by rw [s2];exact u.one (by decide) (by rw [<-s1];exact hr)) (by rw [s2,ev];exact u.hv) tH (hs (by decide)) (λv hv fy=>absurd fy (hs (by decide) v hv)) (λv hv hk2=>absurd hk2 (hs (by decide) v hv)) lR
theorem aRL{C g g' A}(h:c8 C g A){i}(hi:i<3){r1}(u:wV C i r1){m}(aJ:mV C g i (eC r1 m).1 (eC r1 m).2.send g')(cC:g'.φ=g.φ)(e5:g'.b5=g.b5):
  kP C g A i (eC r1 m).1 (eC r1 m).2.send g' (A (eC r1 m).1.term i):=by
 have tH:r1.role=2->∀ f,f<3->f≠i->r1.Ω f<=A r1.term f:=λhr f hf qf=>by
  have e:=u.same (by omega);rw [e] at hr ⊢;exact h.im i hi hr f hf qf
 by_cases hc:(decide (r1.role≠1)||decide (m.term≠r1.term) || !m.yes)=true
 .have e:eC r1 m=(r1,er):=by unfold eC;rw [if_pos hc]
  rw [e] at aJ ⊢;exact B7 h hi aJ cC e5 u.log (u.one (by decide)) (u.one (by decide)) u.hv tH (λv hv=>by cases hv) (λv hv=>by cases hv) (λv hv=>by cases hv) (u.co h hi)
 have ji:=hc;simp only [Bool.or_eq_true,decide_eq_true_eq,not_or,Bool.not_eq_true',Bool.not_eq_false] at ji;obtain ⟨⟨c1,_⟩,_⟩:=ji;have c1:r1.role=1:=by omega
 by_cases iV:ni (put r1.bh m.src.toNat true)<2
 .have e:eC r1 m=({ r1 with bh:=put r1.bh m.src.toNat true },er):=by unfold eC;rw [if_neg hc];simp only;rw [if_pos iV]
  rw [e] at aJ ⊢;exact B7 h hi aJ cC e5 u.log (u.one (by decide)) (u.one (by decide)) u.hv tH (λv hv=>by cases hv) (λv hv=>by cases hv) (λv hv=>by cases hv) (u.co h hi)
 .exfalso;have e:(eC r1 m).1.role=2/\(eC r1 m).1.term=r1.term:=by unfold eC;rw [if_neg hc];simp only;rw [if_neg iV];exact ⟨rfl,rfl⟩
  obtain ⟨a,b⟩:=u.one (k:=1) (by decide) c1;have:=(aJ.lead e.1).1;rw [e5,e.2,b] at this;exact (h.m.cand i hi a).2 this
theorem aN8(r)(h:r.id<=2):qs r=0\/∃ f,f<3/\f≠r.id/\r.Ω f=qs r:=by
 have two:∀ a b:Nat,(([a,b]:List Nat).foldl (λx i=>max x (r.Ω i)) 0=r.Ω a)\/(([a,b]:List Nat).foldl (λx i=>max x (r.Ω i)) 0=r.Ω b):=λa b=>by
  simp only [List.foldl_cons,List.foldl_nil];omega
 unfold qs bu;split
 .rcases two 1 2 with e|e
  .exact .inr ⟨1,by decide,by omega,e.symm⟩
  .exact .inr ⟨2,by decide,by omega,e.symm⟩
 split
 .rcases two 0 2 with e|e
  .exact .inr ⟨0,by decide,by omega,e.symm⟩
  .exact .inr ⟨2,by decide,by omega,e.symm⟩
 .rcases two 0 1 with e|e
  .exact .inr ⟨0,by decide,by omega,e.symm⟩
  .exact .inr ⟨1,by decide,by omega,e.symm⟩
theorem aGM{g A i}(hi:i<3){r}(hid:r.id=i)(hL:g.φ r.term=r.log)(C9:∀ t j,A t j<=(g.φ t).length)(ha:A r.term i=r.log.length)(tH:∀ f,f<3->f≠i->r.Ω f<=A r.term f)(hs:ef g A r.term r.log r.υ):
  ef g A r.term r.log (cA r).υ:=by
 unfold cA;split
 .rename_i hc;simp only [Bool.and_eq_true,decide_eq_true_eq] at hc;obtain ⟨c1,c2⟩:=hc;rcases aN8 r (by omega) with e|⟨f,hf,qf,e⟩
  .omega
  .have h1:=tH f hf (by omega);have h2:=C9 r.term f;rw [hL] at h2;refine .inr ⟨r.term,qs r,⟨⟨by omega,by rw [hL];omega,by rw [hL];exact c2⟩,i,f,hi,hf,by omega,by omega,by omega⟩,Int.le_refl _,Nat.le_refl _,by show qs r<=r.log.length;omega,by rw [hL]⟩
 .exact hs
theorem aGe{C g g' A}(h:c8 C g A){i}(hi:i<3){r1}(u:wV C i r1){m}(hmem:m∈C.sent)(hm:m.eO i)(hk:m.kind=3)(aJ:mV C g i (dQ r1 m).1 (dQ r1 m).2.send g')(cC:g'.φ=g.φ)(e5:g'.b5=g.b5):
  kP C g A i (dQ r1 m).1 (dQ r1 m).2.send g' (A (dQ r1 m).1.term i):=by
 obtain ⟨⟨s1,s2,en,dL⟩,iB⟩:=a2b r1 m;have sv:=(a2a r1 m).ρ;have VZ:r1.role=2->∀ f,f<3->f≠i->r1.Ω f<=A r1.term f:=λhr f hf qf=>by
  have e:=u.same (by omega);rw [e] at hr ⊢;exact h.im i hi hr f hf qf
 have Vg:r1.role=2->g.φ r1.term=r1.log/\A r1.term i=r1.log.length:=λhr=>by
  have e:=u.same (by omega);rw [e] at hr ⊢;exact ⟨(h.m.lead i hi hr).2,h.a3 i hi hr⟩
 have key:(r1.role=2->∀ f,f<3->f≠i->(dQ r1 m).1.Ω f<=A r1.term f)/\ef g A r1.term r1.log (dQ r1 m).1.υ:=by
  unfold dQ;split
  .exact ⟨VZ,u.co h hi⟩
  rename_i hc;simp only [Bool.or_eq_true,decide_eq_true_eq,not_or] at hc;obtain ⟨⟨d1,d2⟩,_⟩:=hc;have h2:r1.role=2:=by omega
  have d2:m.term=r1.term:=by omega
  simp only;split
  .exact ⟨VZ,u.co h hi⟩
  rename_i hy;have hy:m.yes=true:=by simpa using hy
  obtain ⟨f0,aSz,b1,b2⟩:=h.ik m hmem hk hy;have hf:m.src.toNat=f0:=by omega
  have Vi:∀ f,f<3->f≠i->put r1.Ω m.src.toNat (max (r1.Ω m.src.toNat) m.index.toNat) f<=A r1.term f:=λf VR qf=>by
   have h3:=VZ h2 f VR qf;by_cases Hi:f=m.src.toNat
   .rw [Hi,cF];rw [Hi] at h3;rw [d2] at b2;rw [hf] at h3 ⊢;omega
   .rw [dD _ _ Hi];exact h3
  have VI:∀ r:aG,(cA r).Ω=r.Ω:=λr=>by unfold cA;split<;>rfl
  have hres:(r1.role=2->∀ f,f<3->f≠i->(cA { r1 with Ω:=put r1.Ω m.src.toNat (max (r1.Ω m.src.toNat) m.index.toNat),next:=put r1.next m.src.toNat (max (r1.Ω m.src.toNat) m.index.toNat+1) }).Ω f<=A r1.term f) /\
    ef g A r1.term r1.log (cA { r1 with Ω:=put r1.Ω m.src.toNat (max (r1.Ω m.src.toNat) m.index.toNat),next:=put r1.next m.src.toNat (max (r1.Ω m.src.toNat) m.index.toNat+1) }).υ :=
   ⟨λ_ f VR qf=>by rw [VI];exact Vi f VR qf,aGM (r:={ r1 with Ω:=put r1.Ω m.src.toNat (max (r1.Ω m.src.toNat) m.index.toNat),next:=put r1.next m.src.toNat (max (r1.Ω m.src.toNat) m.index.toNat+1) }) hi u.id (Vg h2).1 h.a1 (Vg h2).2 Vi (u.co h hi)⟩
  split
  .exact hres
  .exact hres
 have lR:ef g A (dQ r1 m).1.term (dQ r1 m).1.log (dQ r1 m).1.υ:=by rw [s2,dL];exact key.2
 have hk2:∀ v∈(dQ r1 m).2.send,v.kind=2:=λv hv=>by
  obtain ⟨_,f,rfl⟩:=iB v hv;rfl
 refine B7 h hi aJ cC e5 (by rw [dL];exact u.log) (λhr=>by rw [s2];exact u.one (by decide) (by rw [<-s1];exact hr)) (λhr=>by rw [s2];exact u.one (by decide) (by rw [<-s1];exact hr)) (by rw [s2,sv];exact u.hv) (λhr f hf qf=>by rw [s2];exact key.1 (by rw [<-s1];exact hr) f hf qf)
  (λv hv=>by rw [hk2 v hv];decide) (λv hv fy=>by rw [hk2 v hv] at fy;cases fy) (λv hv _=>?_) lR
 obtain ⟨h2,f,rfl⟩:=iB v hv;show ef g A (dQ r1 m).1.term (g.φ (dQ r1 m).1.term) ((dQ r1 m).1.υ:Int).toNat;rw [s2,(Vg h2).1,Int.toNat_natCast];exact key.2
theorem PB:∀ (a b:List aS),agree a b<b.length->∀ x U,a[agree a b]? = some x->b[agree a b]? = some U->x.term≠U.term
 | [],b,_,x,U,hx,_=>by cases b<;>simp [agree] at hx
 | p :: a,[],h,_,_,_,_=>by simp [agree] at h
 | p :: a,q :: b,h,x,U,hx,hy=>by
  unfold agree at h hx hy;by_cases e:p.term=q.term
  .rw [if_pos e] at h hx hy;simp only [List.getElem?_cons_succ] at hx hy;exact PB a b (by simpa using h) x U hx hy
  .rw [if_neg e] at hx hy;simp only [List.getElem?_cons_zero,Option.some.injEq] at hx hy;rw [<-hx,<-hy];exact e
structure Acc(g:fK)(r1 r:aG)(m:aH):Prop where
 role:r.role=0
 term:r.term=r1.term
 ρ:r.ρ=r1.ρ
 p1:m.index.toNat+m.ζ.length<=r.log.length/\r.log.take (m.index.toNat+m.ζ.length)=(g.φ r1.term).take (m.index.toNat+m.ζ.length)
 p2:∀ p,p<=r1.log.length->p<=(g.φ r1.term).length->r1.log.take p=(g.φ r1.term).take p->p<=r.log.length/\r.log.take p=(g.φ r1.term).take p
 p3:∀ n,n<=r1.υ->n<=r1.log.length->n<=r.log.length/\r.log.take n=r1.log.take n
 bR:m.ζ.length=0->r.log=r1.log
 υ:r.υ=max r1.υ (min m.υ.toNat (m.index.toNat+m.ζ.length))
theorem a2J{C g g' A}(h:c8 C g A){i}(hi:i<3){r1 r}(u:wV C i r1)(hw1:r1.bq){m}(hmem:m∈C.sent)(hk:m.kind=2)(rj:m.term=r1.term){send}(hsend:send=[l5 r1 m])(hr:Acc g r1 r m)(aJ:mV C g i r send g')(cC:g'.φ=g.φ)(e5:g'.b5=g.b5):kP C g A i r send g' (max (A r.term i) (m.index.toNat+m.ζ.length)):=by
 obtain ⟨a1,a2,a3,a4⟩:=h.m.app m hmem hk;rw [rj] at a2 a3 a4;have q2:∀ c:Nat,r.ρ=c->g.V r.term i=c:=λc hc=>by
  rw [hr.ρ] at hc;rw [hr.term];rcases u.hv with ⟨a,b⟩|b
  .rw [a,h.m.now i hi,<-b];exact hc
  .omega
 have hro:=hr.role;have hA:=h.a1 r1.term i;have hle:A r.term i<=max (A r.term i) (m.index.toNat+m.ζ.length):=by omega
 have cW:=hw1.ok.υ;have fy:∀ v∈send,v=l5 r1 m:=λv hv=>by rw [hsend] at hv;exact List.mem_singleton.1 hv
 have gA:=u.up;have lR:ef g A r.term r.log r.υ:=by
  rw [hr.term,hr.υ];by_cases hc:min m.υ.toNat (m.index.toNat+m.ζ.length)<=r1.υ
  .rw [Nat.max_eq_left hc];rcases u.co h hi with e|⟨t,p,q1,bP,gC,jK,z1⟩
   .exact .inl e
   .obtain ⟨Sc,z2⟩:=hr.p3 r1.υ (Nat.le_refl _) cW;exact .inr ⟨t,p,q1,bP,gC,Sc,by rw [z2];exact z1⟩
  .rw [Nat.max_eq_right (by omega)];rcases h.F9 m hmem hk with e|⟨t,p,q1,bP,gC,jK⟩
   .omega
   .rw [rj] at bP jK;have z1:=jK.less (Nat.min_le_left m.υ.toNat (m.index.toNat+m.ζ.length));obtain ⟨y1,aS5⟩:=hr.p1;refine .inr ⟨t,p,q1,bP,by omega,by omega,?_⟩;rw [<-z1.2];have:=congrArg (List.take (min m.υ.toNat (m.index.toNat+m.ζ.length))) aS5;rw [List.take_take,List.take_take,Nat.min_eq_left (by omega)] at this;exact this
 refine ⟨aJ,QE cC,by rw [cC];exact h.iq,hle,by rw [cC,hr.term];omega,λh0=>by omega,λt p oO hp=>?_,λw hu bF=>absurd hu (by rw [<-e5];exact bF),λt p _ hv hlt=>?_,λv hv e9=>(by rw [fy v hv] at e9;cases e9),λh0=>by omega,λh0=>by omega,λh0=>by omega,
  λc _ _ _ _ hv hV=>absurd (q2 c hv) hV,λc _ _ hv=>.inl (q2 c hv),λh0=>by omega,λv hv _ _=>?_,λv hv e9=>(by rw [fy v hv] at e9;cases e9),?_⟩
 .have keep:∀ {t p},dB g t p (C.nd i).rep.log->p<=(g.φ r1.term).length->(C.nd i).rep.log.take p=(g.φ r1.term).take p->dB g t p r.log:=λq hpl e=>by
   obtain ⟨Sc,z2⟩:=hr.p2 _ (by rw [u.log];exact q.1) hpl (by rw [u.log];exact e);exact ⟨Sc,by rw [z2,<-e];exact q.2⟩
  by_cases ht:t=r.term
  .subst ht;rw [Gt] at hp;by_cases Hr:p<=m.index.toNat+m.ζ.length
   .refine .inl ((yc cC).2 ?_);rw [hr.term];exact dB.less (p:=m.index.toNat+m.ζ.length) hr.p1 Hr
   .have AO:p<=A r.term i:=by omega
    rcases h.q5 r.term i p hi oO AO with q|⟨w,q1,bP,_,_⟩
    .rw [hr.term] at q AO ⊢;exact .inl ((yc cC).2 (keep q (by omega) q.2))
    .rw [hr.term] at q1;omega
  .rw [wX _ _ (λhc=>ht hc.1)] at hp;have M3:=h.a2 t i hi (by omega);rw [hr.term] at ht ⊢;rcases h.q5 t i p hi oO hp with q|⟨w,q1,bP,gC,jK⟩
   .by_cases gu:dB g t p (g.φ r1.term)
    .exact .inl ((yc cC).2 (keep q gu.1 (q.2.trans gu.2.symm)))
    .by_cases hl:g.b5 r1.term = -1
     .have h0:=h.m.none _ hl;rw [h0] at a2;have h1:m.ζ.length=0:=by simp at a2;rw [a2.2];rfl
      rw [hr.bR h1,u.log];exact .inl ((yc cC).2 q)
     .exact .inr ⟨r1.term,by omega,Int.le_refl _,by rw [e5];exact hl,λhh=>gu (by rw [cC] at hh;exact (yc cC).1 hh)⟩
   .exact .inr ⟨w,q1,by omega,by rw [e5];exact gC,λhh=>jK (by rw [cC] at hh;exact (yc cC).1 hh)⟩
 .have:=hv.2.1;rw [cC] at this;omega
 .rw [fy v hv];refine ⟨by show (r1.id:Int)=i;rw [u.id],by rw [hr.term];rfl,?_⟩;show (m.index+(m.ζ.length:Int)).toNat<=_;omega
 .exact (lR.Ek (λt=>⟨[],by rw [cC,List.append_nil]⟩) (KE hle) (Int.le_refl _))
theorem aGb{C g g' A}(h:c8 C g A){i}(hi:i<3){r1}(u:wV C i r1)(hw1:r1.bq){m}(hmem:m∈C.sent)(hk:m.kind=2)(rj:m.term<=r1.term)(aJ:mV C g i (cM r1 m).1 (cM r1 m).2.send g')(cC:g'.φ=g.φ)(e5:g'.b5=g.b5):∃ n,kP C g A i (cM r1 m).1 (cM r1 m).2.send g' n:=by
 have tH:r1.role=2->∀ f,f<3->f≠i->r1.Ω f<=A r1.term f:=λhr f hf qf=>by
  have e:=u.same (by omega);rw [e] at hr ⊢;exact h.im i hi hr f hf qf
 have cW:=hw1.ok.υ;by_cases h1:m.term<r1.term
 .have e:cM r1 m=(r1,gL [lA r1 3 m.src]):=by unfold cM;rw [if_pos h1]
  rw [e] at aJ ⊢;exact ⟨_,B7 h hi aJ cC e5 u.log (u.one (by decide)) (u.one (by decide)) u.hv tH (λv hv=>by rw [List.mem_singleton.1 hv];show (3:Int)≠0;decide) (λv hv _ hy=>by rw [List.mem_singleton.1 hv] at hy;cases hy) (λv hv hk2=>by rw [List.mem_singleton.1 hv] at hk2;cases hk2) (u.co h hi)⟩
 have rj:m.term=r1.term:=by omega
 by_cases h2:r1.role=2
 .have e:cM r1 m=(r1,er):=by unfold cM;rw [if_neg h1,if_pos h2]
  rw [e] at aJ ⊢;exact ⟨_,B7 h hi aJ cC e5 u.log (u.one (by decide)) (u.one (by decide)) u.hv tH (λv hv=>by cases hv) (λv hv=>by cases hv) (λv hv=>by cases hv) (u.co h hi)⟩
 have no:∀ k:Int,k≠0->({ r1 with role:=0 }:aG).role=k->(C.nd i).rep.role=k/\({ r1 with role:=0 }:aG).term=(C.nd i).rep.term:=λk e9 hr=>absurd hr.symm e9;by_cases h3:(decide ((r1.log.length:Int)<m.index)||decide (bB r1.log m.index.toNat≠m.prev))=true
 .have e:cM r1 m=({ r1 with role:=0 },gL [⟨3,r1.id,m.src,r1.term,min (r1.log.length:Int) (m.index - 1),0,0,false,[]⟩]):=by unfold cM;rw [if_neg h1,if_neg h2];simp only;rw [if_pos h3]
  rw [e] at aJ ⊢;exact ⟨_,B7 h hi aJ cC e5 u.log (no 1 (by decide)) (no 2 (by decide)) u.hv (λhr=>(by cases (show (0:Int)=2 from hr))) (λv hv=>by rw [List.mem_singleton.1 hv];show (3:Int)≠0;decide) (λv hv _ hy=>by rw [List.mem_singleton.1 hv] at hy;cases hy) (λv hv hk2=>by rw [List.mem_singleton.1 hv] at hk2;cases hk2) (u.co h hi)⟩
 have Ld:=h3;simp only [Bool.or_eq_true,decide_eq_true_eq,not_or] at Ld;obtain ⟨h4,h5⟩:=Ld;have h5:bB r1.log m.index.toNat=m.prev:=Decidable.of_not_not h5;obtain ⟨a1,a2,a3,a4⟩:=h.m.app m hmem hk;rw [rj] at a2 a3 a4;have hpl:jE g.φ r1.log:=by rw [u.log];exact h.m.log i hi
 have Vp:=h.m.ll r1.term;have nD:m.index.toNat<=r1.log.length:=by omega
 have hag:=a6v hpl Vp nD a2 a3 (by rw [h5];exact a4);have hkb:=KF (r1.log.drop m.index.toNat) m.ζ;have hka:m.index.toNat+agree (r1.log.drop m.index.toNat) m.ζ<=r1.log.length:=by
  rcases Nat.eq_zero_or_pos (agree (r1.log.drop m.index.toNat) m.ζ) with e|e
  .omega
  .obtain ⟨q,_⟩:=KH (r1.log.drop m.index.toNat) m.ζ (agree (r1.log.drop m.index.toNat) m.ζ - 1) (by omega);rw [List.length_drop] at q;omega
 by_cases h6:agree (r1.log.drop m.index.toNat) m.ζ<m.ζ.length
 .by_cases h7:m.index.toNat+agree (r1.log.drop m.index.toNat) m.ζ+1<=r1.υ
  .have e:cM r1 m=({ r1 with role:=0 },er):=by unfold cM;rw [if_neg h1,if_neg h2];simp only;rw [if_neg h3,if_pos h6,if_pos h7]
   rw [e] at aJ ⊢;exact ⟨_,B7 h hi aJ cC e5 u.log (no 1 (by decide)) (no 2 (by decide)) u.hv (λhr=>(by cases (show (0:Int)=2 from hr))) (λv hv=>by cases hv) (λv hv=>by cases hv) (λv hv=>by cases hv) (u.co h hi)⟩
  .have e1:(cM r1 m).1={ r1 with role:=0,log:=r1.log.take (m.index.toNat+agree (r1.log.drop m.index.toNat) m.ζ)++m.ζ.drop (agree (r1.log.drop m.index.toNat) m.ζ),υ:=max r1.υ (min m.υ.toNat (m.index.toNat+m.ζ.length)) }:=by unfold cM;rw [if_neg h1,if_neg h2];simp only;rw [if_neg h3,if_pos h6,if_neg h7]
   have e2:(cM r1 m).2.send=[l5 r1 m]:=by unfold cM;rw [if_neg h1,if_neg h2];simp only;rw [if_neg h3,if_pos h6,if_neg h7]
   have hnew:=a6w hpl Vp nD a2 a3 (by rw [h5];exact a4) hkb;rw [e1] at aJ ⊢;refine ⟨_,a2J h hi u hw1 hmem hk rj e2 ⟨rfl,rfl,rfl,?_,λp oO Hr AO=>?_,λn AM hn2=>?_,λh0=>by omega,rfl⟩ aJ cC e5⟩
   .show m.index.toNat+m.ζ.length<=(r1.log.take _++_).length/\(r1.log.take _++_).take _=_;rw [hnew,List.length_take,List.take_take,Nat.min_self];exact ⟨by omega,rfl⟩
   .show p<=(r1.log.take _++_).length/\(r1.log.take _++_).take _=_;have hpk:p<=m.index.toNat+agree (r1.log.drop m.index.toNat) m.ζ:=Decidable.byContradiction λhn=>by
     have hq:m.index.toNat+agree (r1.log.drop m.index.toNat) m.ζ<r1.log.length:=by omega
     obtain ⟨x,hx⟩:∃ x,r1.log[m.index.toNat+agree (r1.log.drop m.index.toNat) m.ζ]? = some x:=⟨_,List.getElem?_eq_getElem hq⟩;obtain ⟨U,hy⟩:∃ U,m.ζ[agree (r1.log.drop m.index.toNat) m.ζ]? = some U:=⟨_,List.getElem?_eq_getElem h6⟩;have hne:=PB _ _ h6 x U (by rw [List.getElem?_drop];exact hx) hy;have W8:(g.φ r1.term)[m.index.toNat+agree (r1.log.drop m.index.toNat) m.ζ]? = some U:=by
      have h9:((List.drop m.index.toNat (g.φ r1.term)).take m.ζ.length)[agree (r1.log.drop m.index.toNat) m.ζ]? = some U:=by rw [<-a3];exact hy
      rw [List.getElem?_take_of_lt h6,List.getElem?_drop] at h9;exact h9
     have:=congrArg (λl=>l[m.index.toNat+agree (r1.log.drop m.index.toNat) m.ζ]?) AO;simp only [List.getElem?_take_of_lt (show m.index.toNat+agree (r1.log.drop m.index.toNat) m.ζ<p by omega)] at this;rw [hx,W8] at this;cases this;exact hne rfl
    rw [hnew,List.length_take,List.take_take];exact ⟨by omega,by rw [Nat.min_eq_left (show p<=m.index.toNat+m.ζ.length by omega)]⟩
   .show n<=(r1.log.take _++_).length/\(r1.log.take _++_).take _=_;have F2:n<=(r1.log.take (m.index.toNat+agree (r1.log.drop m.index.toNat) m.ζ)).length:=by rw [List.length_take];omega
    rw [List.take_append_of_le_length F2,List.take_take,Nat.min_eq_left (by omega),List.length_append];exact ⟨by omega,rfl⟩
 .have e1:(cM r1 m).1={ r1 with role:=0,υ:=max r1.υ (min m.υ.toNat (m.index.toNat+m.ζ.length)) }:=by unfold cM;rw [if_neg h1,if_neg h2];simp only;rw [if_neg h3,if_neg h6]
  have e2:(cM r1 m).2.send=[l5 r1 m]:=by unfold cM;rw [if_neg h1,if_neg h2];simp only;rw [if_neg h3,if_neg h6]
  have hkk:agree (r1.log.drop m.index.toNat) m.ζ=m.ζ.length:=by omega
  rw [hkk] at hag hka;rw [e1] at aJ ⊢;exact ⟨_,a2J h hi u hw1 hmem hk rj e2 ⟨rfl,rfl,rfl,⟨hka,hag⟩,λp oO Hr AO=>⟨oO,AO⟩,λn AM hn2=>⟨hn2,rfl⟩,λ_=>rfl,rfl⟩ aJ cC e5⟩
theorem VQ{C g A}(h:c8 C g A){i}(hi:i<3){m}(hmem:m∈C.sent):∃ g' n,kP C g A i (aU (C.nd i).rep m).1 (aU (C.nd i).rep m).2.send g' n:=by
 obtain ⟨hw,hid⟩:=h.m.wf.rep i hi;obtain ⟨g',aJ,hg⟩:=aKN h.m hi (h.m.yes m hmem) (h.m.app m hmem);rcases hg with ⟨cC,e5⟩|⟨q1,bP,gC,jK,z1,a96,aOf,aOg,aOh,aOd,aOe⟩
 .refine ⟨g',?_⟩;cases hy:kC (C.nd i).rep.id m with
  | false =>
   rw [uj hy] at aJ ⊢;exact ⟨_,Rw h hi aJ cC e5 (λv hv=>by cases hv) (λv hv=>by cases hv) (λv hv=>by cases hv)⟩
  | true =>
   have hm:=sE.1 hy;obtain ⟨r1,gx⟩:∃ r1,(if (C.nd i).rep.term<m.term then jr (C.nd i).rep m else (C.nd i).rep)=r1:=⟨_,rfl⟩;have e1:(aU (C.nd i).rep m).1=(cv r1 m).1:=by rw [xA hy,gx,C3]
   have e2:(aU (C.nd i).rep m).2.send=(cv r1 m).2.send:=by rw [xA hy,gx,Un]
   rw [e1,e2] at aJ ⊢;have hw1:r1.bq:=by
    rw [<-gx];split
    .exact SD hw hm (by assumption)
    .exact hw
   have rj:m.term<=r1.term:=by
    rw [<-gx];split
    .exact Int.le_refl _
    .omega
   have u:wV C i r1:=by
    rw [<-gx];split
    .rename_i hlt;exact ⟨by show _<=m.term;omega,.inr rfl,rfl,λhr=>absurd rfl hr,rfl,hid⟩
    .exact ⟨Int.le_refl _,.inl ⟨rfl,rfl⟩,rfl,λ_=>rfl,rfl,hid⟩
   rw [hid] at hm;by_cases e9:m.kind=0
   .have e:cv r1 m=cV r1 m:=by unfold cv;rw [if_pos e9]
    rw [e] at aJ ⊢;exact ⟨_,aRD h hi u hmem hm e9 aJ cC e5⟩
   by_cases lS:m.kind=1
   .have e:cv r1 m=eC r1 m:=by unfold cv;rw [if_neg e9,if_pos lS]
    rw [e] at aJ ⊢;exact ⟨_,aRL h hi u aJ cC e5⟩
   by_cases hk2:m.kind=2
   .have e:cv r1 m=cM r1 m:=by unfold cv;rw [if_neg e9,if_neg lS,if_pos hk2]
    rw [e] at aJ ⊢;exact aGb h hi u hw1 hmem hk2 rj aJ cC e5
   .have e:cv r1 m=dQ r1 m:=by unfold cv;rw [if_neg e9,if_neg lS,if_neg hk2]
    rw [e] at aJ ⊢;have:=hm.kind;exact ⟨_,aGe h hi u hmem hm (by omega) aJ cC e5⟩
 .exact ⟨g',_,aMg h hi aJ q1 bP gC jK z1 a96 aOf aOg aOh aOd aOe⟩
structure lK(g:fK)(A:Int->Nat->Nat)(g':fK)(bK:Int->Nat->Nat):Prop where
 ext:Ext g.φ g'.φ
 b5:∀ u,g.b5 u ≠ -1->g'.b5 u=g.b5 u
 a:∀ t j,A t j<=bK t j
theorem lK.refl(g A):lK g A g A:=⟨Ext.refl _,λ_ _=>rfl,λ_ _=>Nat.le_refl _⟩
theorem kP.uQ{C g g' A i n r send}(f:kP C g A i r send g' n):lK g A g' (ng A i r.term n) :=
 ⟨f.m.ext,λu hu=>by
  rcases f.m.b5 u with e|⟨e,_⟩
  .exact e
  .exact absurd e hu,KE f.le⟩
def Ss(C:cJ)(g:fK)(A:Int->Nat->Nat)(bC:cJ):Prop:=∃ g' bK,c8 bC g' bK/\lK g A g' bK
theorem c8.goes{C g A}(h:c8 C g A){i}(hi:i<3){x}(hx:x.1.bq)(hf:Fits (C.nd i).rep x.1 x.2)(he:∃ g' n,kP C g A i x.1 x.2.send g' n):Ss C g A (zn C i x):=by
 obtain ⟨g',n,f⟩:=he;rcases h.call hi hx hf f with ⟨q,_⟩|q
 .exact ⟨g,A,q,lK.refl g A⟩
 .exact ⟨g',_,q,f.uQ⟩
theorem c8.rP{C g A}(h:c8 C g A){m}(hmem:m∈C.sent):Ss C g A (rP C m):=by
 have hi:=aC5 m.to;have hh:=CF (m:=m) (h.m.wf.rep _ hi).1;exact h.goes hi hh.1 hh.2 (VQ h hi hmem)
theorem c8.aGh{C g A}(h:c8 C g A)(n keep):Ss C g A (Gw C n keep):=by
 unfold Gw;split
 .exact ⟨g,A,h,lK.refl g A⟩
 .rename_i m hm;have hlt:=(List.getElem?_eq_some_iff.1 hm).1;have hmem:m∈C.sent:=List.mem_of_getElem? hm;cases keep with
  | true=>exact h.rP hmem
  | false =>
   have hi:=aC5 m.to;have hh:=CF (m:=m) (h.m.wf.rep _ hi).1;have hd:=h.drop hlt;exact c8.goes hd hi (x:=aU (C.nd (iA m.to 3).toNat).rep m) hh.1 hh.2 (by
    obtain ⟨g',n,f⟩:=VQ h hi hmem;exact ⟨g',n,⟨⟨f.m.V,f.m.up,f.m.keep,f.m.yes,f.m.b5,f.m.ext,f.m.φ,f.m.cand,f.m.lead,f.m.log,f.m.app⟩,f.grow,f.iq,f.le,f.a1,f.a3,f.q5,f.new,f.old,f.FB,f.a5s,f.il,f.iv,f.ρ,f.gh,f.im,f.ik,f.F9,f.co⟩⟩)
abbrev LL:fK:=⟨λ_ _ => -1,λ_ => -1,λ_=>[]⟩
theorem aQ0:c8 EW LL λ_ _=>0:=by
 have hv:∀ t p,¬ Valid LL t p:=λt p h=>by
  have h1:=h.1;have h2:=h.2.1;simp at h2;omega
 exact ⟨aN4,λt=>⟨by simp,by simp,by simp,by simp⟩,λ_ _=>Nat.le_refl _,λt j _ h=>absurd h (Nat.lt_irrefl _),λi hi hr=>(by cases (show (0:Int)=2 from hr)),λt j p _ h1 h2=>absurd (Nat.le_trans h1 h2) (by decide),λt u p h=>absurd h (hv t p),λm hm=>(by cases hm),λc _ hr=>(by cases (show (0:Int)=1 from hr)),λc _ hr=>(by cases (show (0:Int)=1 from hr)),
  λt x c _ _ h=>absurd (show (-1:Int)=c from h) (by omega),λi hi hr=>(by cases (show (0:Int)=2 from hr)),λm hm=>(by cases hm),λm hm=>(by cases hm),λj hj=>.inl rfl⟩
theorem QK{g t p n l}(h:dB g t p l)(hn:n<=p):l.take n=(g.φ t).take n:=(h.less hn).2
theorem c8.Qy{C g A}(h:c8 C g A){t u p}(hc:zW g A t p)(htu:t<u)(hu:g.b5 u ≠ -1):dB g t p (g.φ u):=by
 rcases h.ib t u p hc.1 htu hu with q|q
 .exact q
 .exact (hc.no q).elim
theorem c8.aQZ{C g A}(h:c8 C g A){s s' l l' n n'}(h1:ef g A s l n)(h2:ef g A s' l' n')(hn:n<=n'):l.take n=l'.take n:=by
 rcases h1 with e|⟨t,p,c1,_,k1,q1⟩
 .subst e;simp
 rcases h2 with e|⟨t',p',c2,_,k2,bP⟩
 .have:n=0:=by omega
  subst this;simp
 rw [q1.2,QK bP hn];rcases Int.lt_trichotomy t t' with e|e|e
 .exact (QK (h.Qy c1 e (h.MO c2.1)) k1).symm
 .rw [e]
 .exact QK (h.Qy c2 e (h.MO c1.1)) (by omega)
theorem ef.cut{g A s s' l n}(h:ef g A s l n)(hs:s<=s'):ef g A s' (l.take n) n:=by
 rcases h with e|⟨t,p,h1,h2,h3,h4,h5⟩
 .exact .inl e
 .exact .inr ⟨t,p,h1,by omega,h3,by rw [List.length_take];omega,by rw [List.take_take,Nat.min_self];exact h5⟩
end Go.Proofs.YtcmgeboolmmdkaaGreatDoor
end

