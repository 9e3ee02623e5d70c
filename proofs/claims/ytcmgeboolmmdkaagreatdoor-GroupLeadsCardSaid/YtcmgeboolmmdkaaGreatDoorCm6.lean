/-
 The conditions of the walks of some functions,one formula each;'B<f>_run' says that they suffice. The formulas are printed by a program;the kernel compares them with the functions' code.
-/
import Derived.Test.YtcmgeboolmmdkaaGreatDoorCm5
import Derived.WalkKit
import Derived.Handy
import Derived.Test.YtcmgeboolmmdkaaGreatDoorCm4
import Derived.Test.YtcmgeboolmmdkaaGreatDoorCm1
import Derived.Shelf.Strings.Builder1
import Derived.Shelf.Strconv.Itoa3
import Derived.Lib.AppendStr
import Derived.Lib.LaidTab
import Derived.LaidMore
import Derived.OpenShut
import Derived.Stop.Joined
open Go.Proofs.Tryz
set_option linter.unusedVariables false
set_option linter.unusedSimpArgs false
section
namespace Go.Proofs.YtcmgeboolmmdkaaGreatDoor
set_option maxRecDepth 100000
open Go.Vc
def aDH:OW:=λW R Φ J=>
 ο W R Φ F.XJ #[] λe2 q=>∃ bR,e2=.returned (.pointer bR)/\q λag an=>∀ (jI:Nat),eE λ(jc:Int->List Own->θ->Nat->Prop)=>(∃ dh eV gW,O eV/\aE W (Own.blk jI [Value.pointer none,Value.pointer none,Value.pointer none,Value.pointer none,Value.pointer none,Value.pointer none,Value.pointer none,Value.pointer none,Value.pointer none,Value.pointer none,Value.pointer none,Value.pointer none,Value.pointer bR,Value.slice none 0 0] 57 :: ag) an (dh) eV/\jc 0 dh eV gW)/\∀ jk gS Jk dK,O Jk->jc jk gS Jk dK->γ (decide (jk<3)) (∃ ju vT,O vT/\aE W gS Jk ju vT/\∀ sL oJ,Ctx W sL (gS++oJ) Jk->Γ F.T' #[] sL λEe ja=>∃ tc,Ee=.returned (.pointer tc)/\∃ kr zP,O zP/\Ctx W ja (kr++oJ) zP /\ aE W kr zP ju vT/\(0<=jk/\jk<3)/\∀ zJ K6,Ctx W zJ (kr++K6) zP->au zJ jI (0+jk.toNat*4) 1/\∀ (oc:World),oc=zJ.setCell (ν jI (0+jk.toNat*4)) (Value.pointer tc)->∃ iE mT,O mT/\Ctx W oc (iE++K6) mT/\(0<=jk/\jk<3)/\ο W iE mT F.QC #[ε jI (0+jk.toNat*4),I jk] λKy q=>∃ ym,Ky=.returned (I ym)/\q λrJ y4=>κ (jk+1)/\eD W rJ y4 dK (jc (jk+1))) (ι W gS Jk J (ε jI 0))
theorem aDI:aR F.Q9 #[] aDH:=aT {hV [0,1,2,6,7] with iC:=[(5,[.held [(0,true),(1,true),(3,true),(4,true),(2,false)],.bJ [5] none,.bJ [6] (some 7)])],loops:=[(3,[(6,.one (.int .i64))],[])] }
theorem aCy(aX aY:Nat):aR F.HN #[ε aX aY] λW R Φ J=>
 π W R Φ λw0=>∃ p2,w0.cell? (ν aX (aY+12))=some (.pointer p2)/\ο W R Φ F.XG #[.pointer p2] λbz q=>bz=.returned (Value.tuple #[])/\q λcO fV=>ι W cO fV J (Value.tuple #[]):=aT (hV [])
theorem aD0(aX aY:Nat)(id:Int)(n:Int):aR F.HO #[ε aX aY,.int .i64 id,.int .i64 n] λW R Φ J=>
 ∀ (k0:Nat) w1 dM,Ctx W w1 (Own.blk k0 [I n] 3 :: R++dM) Φ->Γ F.HR #[ε aX aY,I id,Value.func (Fn.func 34) #[] #[ε k0 0]] w1 λbI kG=>∃ n5,bI=.returned (I n5)/\∃ fX gG,O gG/\Ctx W kG (fX++dM) gG/\ι W fX gG J (I n5):=aT (hV [0,1,5,6])
theorem aCq(aX aY:Nat)(id:Int)(n:Int)(xQ:Option Addr)(k4 yl:Nat):aR F.HM #[ε aX aY,.int .i64 id,.int .i64 n,.slice xQ k4 yl] λW R Φ J=>
 ∀ (k0 k1:Nat) w2 jg,Ctx W w2 (Own.blk k1 [.slice xQ k4 yl] 30 :: Own.blk k0 [I n] 3 :: R++jg) Φ->Γ F.HR #[ε aX aY,I id,Value.func (Fn.func 36) #[] #[ε k0 0,ε k1 0]] w2 λbL eK=>∃ bg,bL=.returned (I bg)/\∃ cO fV,O fV/\Ctx W eK (cO++jg) fV/\ι W cO fV J (I bg):=aT (hV [0,1,6,7,8])
theorem aDB(aX aY:Nat)(id:Int):aR F.LV #[ε aX aY,.int .i64 id] λW R Φ J=>
 ο W R Φ F.Er #[ε aX aY,I id] λe2 q=>∃ b6,e2=.returned (I b6)/\q λag an=>ι W ag an J (.bool (decide (b6=0))):=aT (hV [0,1,4])
theorem aD7(aX aY:Nat)(id:Int):aR F.HP #[ε aX aY,.int .i64 id] λW R Φ J=>
 ∀ (k0:Nat) w1 dM,Ctx W w1 (Own.blk k0 [I id] 3 :: R++dM) Φ->∃ cN,w1.cell? (ν k0 0)=some (I cN)/\ο W (Own.blk k0 [I id] 3 :: R) Φ F.HR #[ε aX aY,I cN,Value.func (Fn.func 39) #[] #[ε k0 0]] λeX q=>∃ bt,eX=.returned (I bt)/\q λdh eV=>ι W dh eV J (I bt):=aT (hV [0,3,4])
theorem aD4(aX aY:Nat)(id:Int)(most:Int):aR F.wo #[ε aX aY,.int .i64 id,.int .i64 most] λW R Φ J=>
 ο W R Φ F.Q7 #[ε aX aY,I id] λe2 q=>∃ b6,e2=.returned (I b6)/\q λag an=>eE λ(Du:Int->List Own->θ->Nat->Prop)=>(iF W ag an (Du 0))/\∀ j6 jF Oe l8,O Oe->Du j6 jF Oe l8->γ (decide (j6<most)) (ο W jF Oe F.Q5 #[ε aX aY] λuX q=>∃ nL,uX=.returned (I nL)/\q λjw oF=>γ (decide (0<nL)) (∀ gj dJ,Ctx W gj (jw++dJ) oF->Γ F.Ep #[ε aX aY,I 0] gj λrR oa=>∃ gK,rR=.returned (I gK)/\∃ jf ki,O ki/\Ctx W oa (jf ++ dJ) ki/\κ (j6+1)/\eD W jf ki l8 (Du (j6+1))) (ι W jw oF J (I j6))) (ι W jF Oe J (I j6)):=aT {hV [0,1,2,6,7,18] with split:=[3],loops:=[(3,[(7,.one (.int .i64))],[])] }
theorem aD3(aX aY:Nat)(id:Int):aR F.Q6 #[ε aX aY,.int .i64 id] λW R Φ J=>
 ο W R Φ F.LV #[ε aX aY,I id] λe2 q=>∃ c4,e2=.returned (.bool c4)/\q λag an=>γ (!c4) (ι W ag an J (I (-1))) ((0<=id/\id<3)/\π W ag an λfJ=>∃ jl,fJ.cell? (ν aX (aY+id.toNat*4+3))=some (.pointer jl)/\ο W ag an F.Re #[.pointer jl] λpq q=>∃ cq,pq=.returned (I cq)/\q λcK fk=>ι W cK fk J (I cq)):=aT (hV [0,1,4,8])
theorem aD2(aX aY:Nat)(id:Int)(data:ByteArray):aR F.C8 #[ε aX aY,.int .i64 id,.string data] λW R Φ J=>
 ο W R Φ F.Er #[ε aX aY,I id] λe2 q=>∃ b6,e2=.returned (I b6)/\q λag an=>γ (decide (b6≠0)) (ι W ag an J (Value.tuple #[I 0,I b6])) ((0<=id/\id<3)/\π W ag an λfJ=>∃ jl,fJ.cell? (ν aX (aY+id.toNat*4+3))=some (.pointer jl)/\ο W ag an F.YQ #[.pointer jl,.string data] λpq q=>∃ cq ff PT lB mJ nL n3 nI oQ RJ MI AY,pq=.returned (Value.tuple #[I cq,I ff,Value.agg #[.bool PT,I lB,I mJ,I nL,.slice n3 nI oQ,.slice RJ MI AY]])/\q λow y2=>∀ (b:Nat),γ (decide (ff=0)) (ο W ow y2 F.LW #[ε aX aY,I id,Value.agg #[.bool PT,I lB,I mJ,I nL,.slice n3 nI oQ,.slice RJ MI AY]] λUH q=>∃ oS,UH=.returned (I oS)/\q λuK De=>γ (decide (oS≠0)) (ι W uK De J (Value.tuple #[I 0,I oS])) (ι W uK De J (Value.tuple #[I cq,I 0]))) (γ (decide (ff≠0)) (ι W ow y2 J (Value.tuple #[I 0,I ff])) (ι W ow y2 J (Value.tuple #[I cq,I 0])))):=aT {hV [0,1,2,6,7,8,9,10,11,16,32,38] with gO:=[11] }
theorem aCr(aX aY:Nat):aR F.Q4 #[ε aX aY] λW R Φ J=>
 π W R Φ λw0=>∃ p2 b8 cQ,w0.cell? (ν aX (aY+13))=some (.slice p2 b8 cQ)/\ο W R Φ F.Yy #[.slice p2 b8 cQ] λiT q=>∃ mM dx gW,iT=.returned (.slice mM dx gW)/\q λeN jB=>ι W eN jB J (.slice mM dx gW):=aT (hV [0,2])
theorem aD8(aX aY:Nat)(id:Int):aR F.HQ #[ε aX aY,.int .i64 id] λW R Φ J=>
 ο W R Φ F.Er #[ε aX aY,I id] λe2 q=>∃ b6,e2=.returned (I b6)/\q λag an=>γ (decide (b6=1)) (ι W ag an J (.slice none 0 0)) ((0<=id/\id<3)/\π W ag an λfJ=>∃ jl,fJ.cell? (ν aX (aY+id.toNat*4))=some (.pointer jl)/\ο W ag an F.Tx #[.pointer jl] λpq q=>∃ wC,pq=.returned (.pointer wC)/\q λcK fk=>ο W cK fk F.Pe #[.pointer wC,I 0] λyV q=>yV=.returned (Value.tuple #[])/\q λoJ qK=>ο W oJ qK F.Pd #[.pointer wC,I 0,.slice none 0 0] λKt q=>Kt=.returned (Value.tuple #[])/\q λjf ki=>ο W jf ki F.H8 #[.pointer wC,.slice none 0 0] λKw q=>Kw=.returned (Value.tuple #[])/\q λuK De=>ο W uK De F.Pf #[.pointer wC] λzy q=>zy=.returned (Value.tuple #[])/\q λrJ y4=>ο W rJ y4 F.Qo #[.pointer wC,I 0] λHA q=>∃ td MU,HA=.returned (Value.tuple #[.pointer td,I MU])/\q λkN lI=>γ (decide (MU≠0)) (ι W kN lI J (.slice none 0 0)) (ο W kN lI F.QA #[.pointer td] λzz q=>∃ Cw CU tP,zz=.returned (.slice Cw CU tP)/\q λuL uA=>ι W uL uA J (.slice Cw CU tP))):=aT (hV [0,1,4,5,6,7,11,34])
theorem aD9(aX aY:Nat)(id:Int):aR F.V2 #[ε aX aY,.int .i64 id] λW R Φ J=>
 ο W R Φ F.LV #[ε aX aY,I id] λe2 q=>∃ c4,e2=.returned (.bool c4)/\q λag an=>γ (!c4) (ι W ag an J (I 0)) ((0<=id/\id<3)/\π W ag an λfJ=>∃ jl,fJ.cell? (ν aX (aY+id.toNat*4+3))=some (.pointer jl)/\ο W ag an F.YN #[.pointer jl] λpq q=>∃ cq ff,pq=.returned (Value.agg #[I cq,I ff])/\q λju vT=>ι W ju vT J (I cq)):=aT (hV [0,1,4,8])
def aDn:OW:=λW R Φ J=>
 ∀ (k0:Nat) (w1:World) (dM:List Own),Ctx W w1 (Own.blk k0 [.slice none 0 0,I 0] 84 :: R++dM) Φ->J (ε k0 0) w1
theorem aDo:aR F.XJ #[] aDn:=aT (hV [0])
theorem aDP(j3 mO:Nat)(id:Int):aR F.QC #[ε j3 mO,.int .i64 id] λW R Φ J=>
 ∀ (k0 k1 k2 b8:Nat) kG ag,Ctx W kG (Own.blk b8 [Value.func (Fn.func 51) #[] #[ε k0 0],Value.func (Fn.func 53) #[] #[ε k0 0,ε k1 0],Value.func (Fn.func 54) #[] #[ε k0 0,ε k2 0]] 91 :: Own.blk k2 [Value.pointer none] 51 :: Own.blk k1 [Value.pointer none] 50 :: Own.blk k0 [ε j3 mO] 63 :: R++ag) Φ->Γ F.QB #[.slice (ie b8 0) 3 3] kG λeX hJ=>∃ bt,eX=.returned (I bt)/\∃ dh eV,O eV/\Ctx W hJ (dh++ag) eV/\γ (decide (bt=0)) (∃ je rB,O rB/\aE W dh eV je rB/\∃ (mz:Option Addr),(π W je rB λfj=>∃ xY,fj.cell? (ν k0 0)=some (.pointer xY)/\Value.pointer xY = Value.pointer mz)/\∃ (Cr:Option Addr),(π W je rB λpR=>∃ n3,pR.cell? (ν k0 0)=some (.pointer n3)/\Value.pointer n3=Value.pointer Cr)/\∃ (oU:Option Addr),(π W je rB λgj=>∃ tc,gj.cell? (ν k0 0)=some (.pointer tc)/\Value.pointer tc=Value.pointer oU)/\∃ (xb:Option Addr),(π W je rB λnR=>∃ Mr,nR.cell? (ν k1 0)=some (.pointer Mr)/\Value.pointer Mr=Value.pointer xb)/\∃ (Ms:Option Addr),(π W je rB λob=>∃ nP,ob.cell? (ν k2 0)=some (.pointer nP)/\Value.pointer nP=Value.pointer Ms)/\∃ (Cs:Option Addr),(π W je rB λBK=>∃ Mv,BK.cell? (ν k2 0)=some (.pointer Mv)/\Value.pointer Mv=Value.pointer Cs)/\∃ (Cu:Option Addr),(π W je rB λxp=>∃ yu,xp.cell? (ν k1 0)=some (.pointer yu)/\Value.pointer yu=Value.pointer Cu)/\ο W dh eV F.V3 #[.pointer Cs] λHA q=>∃ MT MU,HA=.returned (Value.agg #[I MT,I MU])/\q λkN lI=>aE W kN lI je rB/\ο W kN lI F.QA #[.pointer Cu] λzz q=>∃ Cw CU tP,zz=.returned (.slice Cw CU tP)/\q λuL uA=>aE W uL uA je rB/\ο W uL uA F.YK #[I id,Value.agg #[I MT,I MU],Value.slice Cw CU tP] λL4 q=>∃ a8U,L4=.returned (.pointer a8U)/\q λoK rD=>aE W oK rD je rB /\ k9 none mz λuw xN=>∀ JM K9,Ctx W JM (oK++K9) rD->au JM uw (xN+1) 1/\∀ JN,JN=JM.setCell (ν uw (xN+1)) (Value.pointer xb)->∃ uM y6,O y6/\Ctx W JN (uM++K9) y6/\aE W uM y6 je rB/\k9 none Cr λxO tQ=>∀ DY E7,Ctx W DY (uM++E7) y6->au DY xO (tQ+2) 1/\∀ DZ,DZ=DY.setCell (ν xO (tQ+2)) (Value.pointer Ms)->∃ yJ Dh,O Dh/\Ctx W DZ (yJ++E7) Dh/\aE W yJ Dh je rB/\k9 none oU λa6Z a6a=>∀ a08 wU,Ctx W a08 (yJ++wU) Dh->au a08 a6Z (a6a+3) 1/\∀ aC1,aC1=a08.setCell (ν a6Z (a6a+3)) (Value.pointer a8U)->∃ E8 Di,O Di/\Ctx W aC1 (E8++wU) Di/\ι W E8 Di J (I bt)) (ι W dh eV J (I bt)):=aT {hV [1,2,4,5,6,7,14] with iC:=[(5,[.held [(0,true),(1,true),(2,true),(3,true),(4,true),(5,true),(6,true),(8,true),(7,false),(9,false),(10,false),(11,true),(12,true),(13,false),(14,true),(15,true),(16,false)],.bJ [17] none,.bJ [18] (some 19)])] }
theorem aD1(aX aY:Nat):aR F.Q5 #[ε aX aY] λW R Φ J=>
 π W R Φ λw0=>∃ p2,w0.cell? (ν aX (aY+12))=some (.pointer p2)/\ο W R Φ F.XC #[.pointer p2] λbz q=>∃ n7,bz=.returned (I n7)/\q λfO lJ=>ι W fO lJ J (I n7):=aT (hV [0,2])
theorem aDA(aX aY:Nat)(id:Int):aR F.Q7 #[ε aX aY,.int .i64 id] λW R Φ J=>
 ο W R Φ F.Q8 #[ε aX aY,I id,Value.func (Fn.func 60) #[] #[]] λe2 q=>∃ b6,e2=.returned (I b6)/\q λag an=>ι W ag an J (I b6):=aT (hV [0,1,4])
theorem aCv(aX aY:Nat)(i:Int):aR F.Ep #[ε aX aY,.int .i64 i] λW R Φ J=>
 π W R Φ λw0=>∃ p2,w0.cell? (ν aX (aY+12))=some (.pointer p2)/\ο W R Φ F.XD #[.pointer p2,I i] λbz q=>∃ n7 bt NV pI,bz=.returned (Value.tuple #[Value.agg #[I n7,I bt,.string NV],I pI])/\q λje rB=>∀ (gy:Nat) iO gS,Ctx W iO (Own.blk gy [I 0,I 0,Value.string (ByteArray.mk #[])] 100 :: je++gS) rB->au iO gy 0 3/\∀ fj,fj=iO.setCells gy 0 [I n7,I bt,.string NV]->∃ cK fk,O fk/\Ctx W fj (cK++gS) fk/\γ (decide (pI≠0)) (ι W cK fk J (I pI)) (π W cK fk λjM=>∃ nM,jM.cell? (ν gy 1)=some (I nM)/\ο W cK fk F.Q8 #[ε aX aY,I nM,Value.func (Fn.func 62) #[] #[ε gy 0]] λrR q=>∃ gK,rR=.returned (I gK)/\q λjf ki=>ι W jf ki J (I gK)):=aT (hV [0,1,4,5,6,17])
theorem aCx(aX aY:Nat)(i:Int):aR F.LS #[ε aX aY,.int .i64 i] λW R Φ J=>
 π W R Φ λw0=>∃ p2,w0.cell? (ν aX (aY+12))=some (.pointer p2)/\ο W R Φ F.XF #[.pointer p2,I i] λbz q=>∃ n7,bz=.returned (I n7)/\q λfO lJ=>ι W fO lJ J (I n7):=aT (hV [0,1,4])
theorem aCw(aX aY:Nat)(i:Int):aR F.LR #[ε aX aY,.int .i64 i] λW R Φ J=>
 π W R Φ λw0=>∃ p2,w0.cell? (ν aX (aY+12))=some (.pointer p2)/\ο W R Φ F.XE #[.pointer p2,I i] λbz q=>∃ n7,bz=.returned (I n7)/\q λfO lJ=>ι W fO lJ J (I n7):=aT (hV [0,1,4])
theorem aD5(aX aY:Nat)(mask:Int):aR F.LU #[ε aX aY,.int .i64 mask] λW R Φ J=>
 π W R Φ λw0=>∃ p2,w0.cell? (ν aX (aY+12))=some (.pointer p2)/\ο W R Φ F.XI #[.pointer p2,I mask] λbz q=>bz=.returned (Value.tuple #[])/\q λcO fV=>ι W cO fV J (Value.tuple #[]):=aT (hV [])
theorem aCt(aX aY:Nat)(id:Int)(xQ:Option Addr)(k4 yl:Nat):aR F.LQ #[ε aX aY,.int .i64 id,.slice xQ k4 yl] λW R Φ J=>
 ∀ (k0:Nat) w1 dM,Ctx W w1 (Own.blk k0 [.slice xQ k4 yl] 30 :: R++dM) Φ->Γ F.HR #[ε aX aY,I id,Value.func (Fn.func 68) #[] #[ε k0 0]] w1 λbI kG=>∃ n5,bI=.returned (I n5)/\∃ fX gG,O gG/\Ctx W kG (fX++dM) gG/\ι W fX gG J (I n5):=aT (hV [0,1,5,6])
theorem aDi(eg ei:Nat):aR F.XG #[ε eg ei] λW R Φ J=>
 ∀ w0 aW,Ctx W w0 (R++aW) Φ->au w0 eg (ei+1) 1/\∀ w2,w2=w0.setCell (ν eg (ei+1)) (I 0)->∃ jg og,O og/\Ctx W w2 (jg++aW) og/\ι W jg og J (Value.tuple #[]):=aT (hV [])
theorem aDD(aX aY:Nat)(id:Int)(fF:FuncId)(fC:Array Value):aR F.HR #[ε aX aY,.int .i64 id,.func (.func fF) #[] fC] λW R Φ J=>
 ο W R Φ F.Er #[ε aX aY,I id] λe2 q=>∃ b6,e2=.returned (I b6)/\q λag an=>γ (decide (b6=1)) (ι W ag an J (I 1)) ((0<=id/\id<3)/\∀ fJ pY,Ctx W fJ (ag++pY) an->nx prog fF=true/\Calls prog fF (Array.mk (Value.pointer (ie aX (aY+id.toNat*4)) :: fC.toList)) fJ λEc gi=>∃ j6,Ec=.returned (I j6)/\∃ jF kH,O kH/\Ctx W gi (jF++pY) kH/\ο W jF kH F.LX #[ε aX aY] λwk q=>wk=.returned (Value.tuple #[])/\q λjG nU=>ι W jG nU J (I j6)):=aT {hV [0,1,2,6,7,11] with wrap:=[18] }
theorem aCz(j3 mO kB bV:Nat):aR F.V0 #[ε j3 mO,ε kB bV] λW R Φ J=>
 ∃ R0 ψ,O ψ/\aE W R Φ R0 ψ/\∃ (b6:Int),(π W R0 ψ λeK=>∃ n7,eK.cell? (ν kB bV)=some (I n7)/\I n7=I b6)/\∃ (kf:Option Addr),(π W R0 ψ λfJ=>∃ jl,fJ.cell? (ν j3 mO)=some (.pointer jl)/\Value.pointer jl=Value.pointer kf)/\ο W R Φ F.Pe #[.pointer kf,I b6] λpq q=>pq=.returned (Value.tuple #[])/\q λov aSF=>ι W ov aSF J (I 0):=aT {hV [0,1,3] with iC:=[(1,[.held [(0,true),(4,true),(1,true),(2,true),(3,true)],.bJ [] (some 5)])] }
theorem aCp(j3 mO kB bV qo qp:Nat):aR F.Uy #[ε j3 mO,ε kB bV,ε qo qp] λW R Φ J=>
 ∃ R0 ψ,O ψ/\aE W R Φ R0 ψ/\∃ (b6:Int),(π W R0 ψ λeK=>∃ n7,eK.cell? (ν kB bV)=some (I n7)/\I n7=I b6)/\∃ (kf:Option Addr) (fQ dx:Nat),(π W R0 ψ λjA=>∃ j8 dW fe,jA.cell? (ν qo qp)=some (.slice j8 dW fe)/\Value.slice j8 dW fe=Value.slice kf fQ dx)/\∃ (wC:Option Addr),(π W R0 ψ λlY=>∃ Cr,lY.cell? (ν j3 mO)=some (.pointer Cr)/\Value.pointer Cr=Value.pointer wC)/\ο W R Φ F.Pd #[.pointer wC,I b6,.slice kf fQ dx] λKr q=>Kr=.returned (Value.tuple #[])/\q λiQ jb=>ι W iQ jb J (I 0):=aT {hV [0,1,2,4] with iC:=[(1,[.held [(0,true),(4,true),(5,true),(1,true),(2,true),(3,true)],.bJ [] (some 6)])] }
theorem aDG(aX aY:Nat)(id:Int):aR F.Er #[ε aX aY,.int .i64 id] λW R Φ J=>
 π W R Φ λw0=>γ (decide (id<0)||decide (3<=id)) (ι W R Φ J (I 1)) ((0<=id/\id<3)/\π W R Φ λkG=>∃ oV,kG.cell? (ν aX (aY+id.toNat*4+3))=some (.pointer oV)/\γ oV.isNone (ι W R Φ J (I 9)) (ι W R Φ J (I 0))):=aT (hV [0,1,4,5,12])
theorem aD6(j3 mO kB bV:Nat):aR F.V1 #[ε j3 mO,ε kB bV] λW R Φ J=>
 π W R Φ λw0=>∃ p2,w0.cell? (ν j3 (mO+3))=some (.pointer p2)/\γ (!p2.isNone) (ι W R Φ J (I 7)) (π W R Φ λeK=>∃ gM,eK.cell? (ν j3 mO)=some (.pointer gM)/\ο W R Φ F.Pf #[.pointer gM] λp8 q=>p8=.returned (Value.tuple #[])/\q λeN jB=>π W eN jB λiO=>∃ cq,iO.cell? (ν kB bV)=some (I cq)/\ο W eN jB F.QC #[ε j3 mO,I cq] λuX q=>∃ nL,uX=.returned (I nL)/\q λjw oF=>ι W jw oF J (I nL)):=aT (hV [0,1,3,8])
theorem aDC(aX aY:Nat)(id:Int)(o0:Bool)(o1:Int)(o2:Int)(gz:Int)(qz:Option Addr)(qy qx:Nat)(At:Option Addr)(yt Cl:Nat):aR F.LW #[ε aX aY,.int .i64 id,.agg #[.bool o0,.int .i64 o1,.int .i64 o2,.int .i64 gz,.slice qz qy qx,.slice At yt Cl]] λW R Φ J=>
 ∀ (b:Nat),∃ R0 ψ,O ψ/\aE W R Φ R0 ψ/\(0<=id/\id<3)/\ο W R Φ F.QD #[ε aX (aY+id.toNat*4),Value.agg #[.bool o0,I o1,I o2,I gz,.slice qz qy qx,.slice At yt Cl]] λeX q=>∃ bt,eX=.returned (I bt)/\q λdh eV=>γ (decide (bt=0)) (eE λ(Su:Int->List Own->θ->Nat->Prop)=>(iF W dh eV (Su 0))/\∀ ff ju GX tN,O GX->Su ff ju GX tN->γ (decide (ff<(↑yt:Int))) (kQ ff yt At λql qm=>π W ju GX λoD=>∃ w8 k6 mK gK iZ k7 kX a3C Mu ry qn,bS oD ql (qm+ff.toNat*9) [I w8,I k6,I mK,I gK,I iZ, I k7,I kX,.bool a3C,.slice Mu ry qn]/\∀ (b:Nat),∃ gp kJ,O kJ/\aE W ju GX gp kJ/\∃ (Mw:Option Addr),(π W gp kJ λNy=>∃ Cv,Ny.cell? (ν aX (aY+12))=some (.pointer Cv)/\Value.pointer Cv=Value.pointer Mw)/\ο W ju GX F.NK #[Value.agg #[I w8,I k6,I mK,I gK,I iZ,I k7,I kX,.bool a3C,.slice Mu ry qn]] λaIk q=>∃ NT,aIk=.returned (.string NT)/\q λkN lI=>aE W kN lI gp kJ/\ο W kN lI F.XH #[.pointer Mw,I id,I mK,.string NT] λzz q=>∃ nv,zz=.returned (I nv)/\q λrL GG=>κ (ff+1)/\eD W rL GG tN (Su (ff+1))) (ο W ju GX F.LX #[ε aX aY] λaIr q=>aIr=.returned (Value.tuple #[])/\q λoK rD=>ι W oK rD J (I bt))) (ο W dh eV F.LX #[ε aX aY] λEg q=>Eg=.returned (Value.tuple #[])/\q λyI GK=>ι W yI GK J (I bt)):=aT {hV [0,1,5,6,7,9,18,20,21,22,23] with gO:=[5,9],iC:=[(1,[.held [(0,true),(1,true),(5,true),(2,true),(3,true),(4,true)],.bJ [] (some 6),.bJ [7] none]),(6,[.held [(0,true),(4,true),(5,true),(7,true),(1,true),(6,true),(2,true),(3,true),(8,false)],.bJ [] (some 9)])],loops:=[(4,[(22,.one (.int .i64))],[])] }
theorem aEF(ey:Option Addr)(cE eT:Nat):aR F.Yy #[.slice ey cE eT] λW R Φ J=>
 γ ey.isNone (ι W R Φ J (.slice none 0 0)) (∀ (k2:Nat) w3 mX,Ctx W w3 (Own.blk k2 [] 9 :: R++mX) Φ->∃ n4 jH jI qI,Sem.run prog (builtin Builtin.append #[40,40] 40 #[false,false] #[.slice (ie k2 0) 0 0,.slice ey cE eT]) w3=.ok (.value (.slice n4 jH jI)) qI/\∃ dh eV,O eV/\Ctx W qI (dh++mX) eV/\ι W dh eV J (.slice n4 jH jI)):=aT (hV [0,2,4])
theorem aDJ(eF eG:Nat):aR F.QA #[ε eF eG] λW R Φ J=>
 ο W R Φ F.WE #[ε eF eG] λe2 q=>∃ bR gB jH,e2=.returned (.slice bR gB jH)/\q λcO fV=>eE λ(fM:Option Addr->Nat->Nat->Int->List Own->θ->Nat->Prop)=>(iF W cO fV (fM none 0 0 0))/\∀ mz l8 dK mu de qQ ql,O qQ->fM mz l8 dK mu de qQ ql->γ (decide (mu<(↑gB:Int))) (kQ mu gB bR λqm nI=>π W de qQ λgj=>∃ a9k,gj.cell? (ν qm (nI+mu.toNat))=some (.string a9k)/\∀ oa ow,Ctx W oa (de++ow) qQ->Γ F.YM #[.string a9k] oa λKu sM=>∃ kX B4 yP,Ku=.returned (Value.tuple #[Value.agg #[I kX,.string B4],Value.bool yP])/\∃ iE mT,O mT /\ Ctx W sM (iE++ow) mT/\∀ (b rz:Nat) oE kM,Ctx W oE (Own.blk rz [I kX,.string B4] 76 :: iE++kM) mT->∃ Cu MJ vw tv,Sem.run prog (builtin Builtin.append #[43,43] 43 #[false,false] #[.slice mz l8 dK,.slice (ie rz 0) 1 1]) oE=.ok (.value (.slice Cu MJ vw)) tv/\∃ qT zQ,O zQ/\Ctx W tv (qT++kM) zQ/\κ (mu+1)/\eD W qT zQ ql (fM Cu MJ vw (mu+1))) (ι W de qQ J (.slice mz l8 dK)):=aT {hV [0,2,3,5,6,9,10,11,12] with gO:=[6],loops:=[(3,[(3,.one (.slice)),(11,.one (.int .i64))],[])] }
theorem aDK(a3U:Option Addr)(Tl aHA:Nat):aR F.QB #[.slice a3U Tl aHA] λW R Φ J=>
 eE λ(js:Int->List Own->θ->Nat->Prop)=>(iF W R Φ (js 0))/\∀ bg cO jc fQ,O jc->js bg cO jc fQ->γ (decide (bg<(↑Tl:Int))) (kQ bg Tl a3U λdx gW=>π W cO jc λgi=>∃ (ZS:FuncId) (aB9 u16:Array Value),gi.cell? (ν dx (gW+bg.toNat))=some (Value.func (Fn.func ZS) aB9 u16)/\∀ lY ju,Ctx W lY (cO++ju) jc->nx prog ZS=true/\Calls prog ZS (Array.mk ((aB9.toList.append []).append u16.toList)) lY λuX pR=>∃ nL,uX=.returned (I nL)/\∃ jw oF,O oF/\Ctx W pR (jw++ju) oF/\γ (decide (nL≠0)) (ι W jw oF J (I nL)) (κ (bg+1)/\eD W jw oF fQ (js (bg+1)))) (ι W cO jc J (I 0)):=aT {hV [0,2,4,5,6,7,8,9,15] with wrap:=[13],loops:=[(2,[(8,.one (.int .i64))],[])] }
theorem aDM(kB bV:Nat):aR F.LY #[ε kB bV] λW R Φ J=>
 π W R Φ λw0=>∃ p2,w0.cell? (ν kB bV)=some (.pointer p2)/\k9 none p2 λb8 cQ=>π W R Φ λeK=>∃ gM,eK.cell? (ν b8 cQ)=some (.pointer gM)/\ο W R Φ F.Bz #[.pointer gM,I 2] λp8 q=>∃ nu,p8=.returned (I nu)/\q λmW mR=>ι W mW mR J (I nu):=aT (hV [0,1])
theorem aDN(kB bV qo qp:Nat):aR F.LZ #[ε kB bV,ε qo qp] λW R Φ J=>
 π W R Φ λw0=>∃ p2,w0.cell? (ν kB bV)=some (.pointer p2)/\k9 none p2 λb8 cQ=>π W R Φ λeK=>∃ gM,eK.cell? (ν b8 cQ)=some (.pointer gM)/\ο W R Φ F.Qo #[.pointer gM,I 0] λp8 q=>∃ nO j6,p8=.returned (Value.tuple #[.pointer nO,I j6])/\q λjF kH=>∀ fj cK,Ctx W fj (jF++cK) kH->au fj qo qp 1/\∀ iD,iD=fj.setCell (ν qo qp) (Value.pointer nO)->∃ de fm,O fm/\Ctx W iD (de++cK) fm/\ι W de fm J (I j6):=aT (hV [0,1,2])
theorem aDO(kB bV qo qp:Nat):aR F.La #[ε kB bV,ε qo qp] λW R Φ J=>
 π W R Φ λw0=>∃ p2,w0.cell? (ν kB bV)=some (.pointer p2)/\k9 none p2 λb8 cQ=>π W R Φ λeK=>∃ gM,eK.cell? (ν b8 cQ)=some (.pointer gM)/\ο W R Φ F.PW #[.pointer gM,I 2] λp8 q=>∃ nO j6,p8=.returned (Value.tuple #[.pointer nO,I j6])/\q λjF kH=>∀ fj cK,Ctx W fj (jF++cK) kH->au fj qo qp 1/\∀ iD,iD=fj.setCell (ν qo qp) (Value.pointer nO)->∃ de fm,O fm/\Ctx W iD (de++cK) fm/\ι W de fm J (I j6):=aT (hV [0,1,2])
theorem aDL(gI gJ:Nat):aR F.V3 #[ε gI gJ] λW R Φ J=>
 ∀ (b:Nat) w0 aW,Ctx W w0 (R++aW) Φ->Γ F.PU #[ε gI gJ] w0 λe2 w3=>∃ dL c5,e2=.returned (Value.tuple #[.string dL,.bool c5])/\∃ fX gG,O gG/\Ctx W w3 (fX++aW) gG/\γ (!c5) (ι W fX gG J (Value.agg #[I 0,I (-1)])) (ο W fX gG F.G7 #[.string dL] λKn q=>∃ r3,Kn=.returned (.pointer r3)/\q λgS mS=>ο W gS mS F.sP #[.pointer r3] λuX q=>∃ nL,uX=.returned (I nL)/\q λjw oF=>∀ gj dJ,Ctx W gj (jw++dJ) oF->Γ F.sP #[.pointer r3] gj λrR oa=>∃ gK,rR=.returned (I gK) /\ ∃ jf ki,O ki/\Ctx W oa (jf++dJ) ki/\ι W jf ki J (Value.agg #[I nL,I gK])):=aT {hV [0,2,3,4,5,12] with gO:=[2] }
theorem aDe(eg ei:Nat):aR F.XC #[ε eg ei] λW R Φ J=>
 π W R Φ λw0=>∃ p2 b8 cQ,w0.cell? (ν eg ei)=some (.slice p2 b8 cQ)/\ι W R Φ J (I (↑b8:Int)):=aT (hV [0,2])
theorem aDF(aX aY:Nat)(id:Int)(fF:FuncId)(fC:Array Value):aR F.Q8 #[ε aX aY,.int .i64 id,.func (.func fF) #[] fC] λW R Φ J=>
 ο W R Φ F.Er #[ε aX aY,I id] λe2 q=>∃ b6,e2=.returned (I b6)/\q λag an=>γ (decide (b6≠0)) (ι W ag an J (I b6)) ((0<=id/\id<3)/\π W ag an λfJ=>∃ jl,fJ.cell? (ν aX (aY+id.toNat*4+3))=some (.pointer jl)/\∀ gi mW,Ctx W gi (ag++mW) an->nx prog fF=true/\Calls prog fF (Array.mk (Value.pointer jl :: fC.toList)) gi λpq oC=>∃ Bx ff mu lB Mp ql qm oU oQ FF,pq=.returned (Value.agg #[.bool Bx,I ff,I mu,I lB,.slice Mp ql qm,.slice oU oQ FF])/\∃ jP nV,O nV/\Ctx W oC (jP++mW) nV/\ο W jP nV F.LW #[ε aX aY,I id,Value.agg #[.bool Bx,I ff,I mu,I lB,.slice Mp ql qm,.slice oU oQ FF]] λuY q=>∃ n32,uY=.returned (I n32)/\q λgm gF=>ι W gm gF J (I n32)):=aT {hV [0,1,2,6,7,12] with wrap:=[24] }
theorem aDf(eg ei:Nat)(i:Int):aR F.XD #[ε eg ei,.int .i64 i] λW R Φ J=>
 ∀ (b:Nat) w0 aW,Ctx W w0 (R++aW) Φ->Γ F.R8 #[ε eg ei,I i] w0 λe2 w3=>∃ b6 n5 jm vi,e2=.returned (Value.tuple #[Value.agg #[I b6,I n5,.string jm],Value.bool vi])/\∃ fO lJ,O lJ/\Ctx W w3 (fO++aW) lJ/\∀ (b:Nat),γ (!vi) (ι W fO lJ J (Value.tuple #[Value.agg #[I 0,I 0,Value.string (ByteArray.mk #[])],I 4])) (ο W fO lJ F.R7 #[ε eg ei,I b6,I n5] λpq q=>∃ Bx,pq=.returned (.bool Bx)/\q λcK fk=>γ (!Bx) (ι W cK fk J (Value.tuple #[Value.agg #[I 0,I 0,Value.string (ByteArray.mk #[])],I 10])) (ι W cK fk J (Value.tuple #[Value.agg #[I b6,I n5,.string jm],I 0]))):=aT {hV [0,1,4,5,6,7,14,18] with gO:=[4,6] }
theorem aCu(σ τ kB bV:Nat):aR F.U' #[ε σ τ,ε kB bV] λW R Φ J=>
 ∀ (b:Nat) w0 aW,Ctx W w0 (R++aW) Φ->∃ s2,w0.cell? (ν kB (bV+2))=some (.string s2)/\ο W R Φ F.YL #[.string s2] λbz q=>∃ n7 bt qA pI gY nu j6 a2v mz l8 dK PT,bz=.returned (Value.tuple #[Value.agg #[I n7,I bt,I qA,I pI,I gY,I nu,I j6,.bool a2v,.slice mz l8 dK],Value.bool PT])/\q λde fm=>∀ (b:Nat) jM jw,Ctx W jM (de++jw) fm->Γ F.YO #[ε σ τ,Value.agg #[I n7,I bt,I qA,I pI,I gY,I nu,I j6,.bool a2v,.slice mz l8 dK]] jM λKs gj=>∃ KU k6 mK gK a8N FG FH Mt nr ry,Ks=.returned (Value.agg #[.bool KU,I k6,I mK,I gK,.slice a8N FG FH,.slice Mt nr ry])/\∃ uK De,O De/\Ctx W gj (uK++jw) De/\ι W uK De J (Value.agg #[.bool KU,I k6,I mK,I gK,.slice a8N FG FH,.slice Mt nr ry]):=aT {hV [0,1,3,4] with gO:=[3,4] }
theorem aDh(eg ei:Nat)(i:Int):aR F.XF #[ε eg ei,.int .i64 i] λW R Φ J=>
 ο W R Φ F.R8 #[ε eg ei,I i] λe2 q=>∃ b6 n5 jm vi,e2=.returned (Value.tuple #[Value.agg #[I b6,I n5,.string jm],Value.bool vi])/\q λfO lJ=>∀ (b:Nat),γ (!vi) (ι W fO lJ J (I 4)) (ι W fO lJ J (I 0)):=aT {hV [0,1,4,6,14] with gO:=[5] }
theorem aDg(eg ei:Nat)(i:Int):aR F.XE #[ε eg ei,.int .i64 i] λW R Φ J=>
 π W R Φ λw0=>∃ (p2:Option Addr) (b8 cQ:Nat),((!decide (i<0))=true->w0.cell? (ν eg ei)=some (.slice p2 b8 cQ))/\γ (decide (i<0)||decide ((↑b8:Int)<=i)) (ι W R Φ J (I 4)) (π W R Φ λhJ=>∃ mM dx gW,hJ.cell? (ν eg ei)=some (.slice mM dx gW)/\γ (decide (500<=(↑dx:Int))) (ι W R Φ J (I 6)) (∃ jF kH,O kH/\aE W R Φ jF kH/\∃ (xY:Option Addr) (l9 tN:Nat),(π W jF kH λjM=>∃ oU oQ FF,jM.cell? (ν eg ei)=some (.slice oU oQ FF)/\Value.slice oU oQ FF=Value.slice xY l9 tN)/\∃ (tc:Option Addr) (AY Qs:Nat),(π W jF kH λBI=>∃ Ms ru nr,BI.cell? (ν eg ei)=some (.slice Ms ru nr)/\Value.slice Ms ru nr=Value.slice tc AY Qs)/\kQ i AY tc λry qn=>∃ (s6 v7:Int) (Yf:ByteArray),(π W jF kH λJJ=>∃ xS qt a9o,bS JJ ry (qn+i.toNat*3) [I xS,I qt,.string a9o]/\Value.agg #[I xS,I qt,.string a9o]=Value.agg #[I s6,I v7,.string Yf])/\∀ (tO:Nat),aE W (Own.blk tO [I s6,I v7,.string Yf] 100 :: R) Φ (jF) kH/\∀ vP wS,Ctx W vP (Own.blk tO [I s6,I v7,.string Yf] 100 :: R++wS) Φ->∃ a8P Ab mI qH,Sem.run prog (builtin Builtin.append #[82,82] 82 #[false,false] #[.slice xY l9 tN,.slice (ie tO 0) 1 1]) vP=.ok (.value (.slice a8P Ab mI)) qH/\∃ kO iP,O iP/\Ctx W qH (kO++wS) iP/\aE W kO iP jF kH/\∀ G2 rL,Ctx W G2 (kO ++ rL) iP->au G2 eg ei 1/\∀ SQ,SQ=G2.setCell (ν eg ei) (Value.slice a8P Ab mI)->∃ uL uA,O uA/\Ctx W SQ (uL++rL) uA/\ι W uL uA J (I 0))):=aT {hV [0,1,4,5,17] with iC:=[(5,[.held [(0,true),(1,true),(5,true),(9,true),(2,true),(6,true),(3,true),(7,true),(4,true),(8,true),(10,true),(11,true),(12,false),(13,false)],.bJ [14] none,.bJ [15] (some 16)])] }
theorem aDl(eg ei:Nat)(mask:Int):aR F.XI #[ε eg ei,.int .i64 mask] λW R Φ J=>
 ∃ (n0:Int),(∀ (w1:World),Sem.run prog (binOp BinOp.and 3 (I mask) (I 65535)) w1=Result.ok (I n0) w1)/\∀ w2 jg,Ctx W w2 (R++jg) Φ->au w2 eg (ei+1) 1/\∀ kG,kG=w2.setCell (ν eg (ei+1)) (I n0)->∃ ag an,O an/\Ctx W kG (ag++jg) an/\ι W ag an J (Value.tuple #[]):=aT (hV [])
theorem aCs(j3 mO kB bV:Nat):aR F.Uz #[ε j3 mO,ε kB bV] λW R Φ J=>
 ∃ R0 ψ,O ψ/\aE W R Φ R0 ψ/\∃ (bR:Option Addr) (gB jH:Nat),(π W R0 ψ λhJ=>∃ mM dx gW,hJ.cell? (ν kB bV)=some (.slice mM dx gW)/\Value.slice mM dx gW=Value.slice bR gB jH)/\∃ (nO:Option Addr),(π W R0 ψ λvN=>∃ mz,vN.cell? (ν j3 mO)=some (.pointer mz)/\Value.pointer mz=Value.pointer nO)/\ο W R Φ F.H8 #[.pointer nO,.slice bR gB jH] λwk q=>wk=.returned (Value.tuple #[])/\q λjG nU=>ο W jG nU F.Lb #[ε j3 mO] λEe q=>Ee=.returned (Value.tuple #[])/\q λjP nV=>ι W jP nV J (I 0):=aT {hV [0,1,3] with iC:=[(1,[.held [(0,true),(4,true),(1,true),(2,true),(3,true)],.bJ [] (some 5)])] }
theorem aDQ(j3 mO:Nat):aR F.Lb #[ε j3 mO] λW R Φ J=>
 ∀ w0 aW,Ctx W w0 (R++aW) Φ->au w0 j3 (mO+1) 1/\∀ w2,w2=w0.setCell (ν j3 (mO+1)) (Value.pointer none)->∃ jg og,O og/\Ctx W w2 (jg++aW) og/\∀ eK fX,Ctx W eK (jg++fX) og->au eK j3 (mO+2) 1/\∀ hJ,hJ=eK.setCell (ν j3 (mO+2)) (Value.pointer none)->∃ fO lJ,O lJ/\Ctx W hJ (fO++fX) lJ/\∀ tu je,Ctx W tu (fO++je) lJ->au tu j3 (mO+3) 1/\∀ gi,gi=tu.setCell (ν j3 (mO+3)) (Value.pointer none)->∃ mW mR,O mR/\Ctx W gi (mW++je) mR/\ι W mW mR J (Value.tuple #[]):=aT (hV [])
theorem aDE(aX aY:Nat):aR F.LX #[ε aX aY] λW R Φ J=>
 π W R Φ λw0=>∃ p2 p3 bR n4 oV gM kf mM vE jl nO j8,bS w0 aX aY [Value.pointer p2,Value.pointer p3,Value.pointer bR,Value.pointer n4,Value.pointer oV,Value.pointer gM,Value.pointer kf,Value.pointer mM,Value.pointer vE,Value.pointer jl,Value.pointer nO,Value.pointer j8]/\eE λ(Od:Int->List Own->θ->Nat->Prop)=>(iF W R Φ (Od 0))/\∀ mJ jv uF nI,O uF->Od mJ jv uF nI->γ (decide (mJ<3)) ((0<=mJ/\mJ<3)/\∀ (oQ:Nat) ja jP,Ctx W ja (Own.blk oQ [Value.pointer none,Value.pointer none,Value.pointer none,Value.pointer none] 54 :: jv++jP) uF->match (List.take 4 (List.drop (0+mJ.toNat*4) [Value.pointer p2,Value.pointer p3,Value.pointer bR,Value.pointer n4,Value.pointer oV,Value.pointer gM,Value.pointer kf,Value.pointer mM,Value.pointer vE,Value.pointer jl,Value.pointer nO,Value.pointer j8])).length.beq 4&&(List.take 4 (List.drop (0+mJ.toNat*4) [Value.pointer p2,Value.pointer p3,Value.pointer bR,Value.pointer n4,Value.pointer oV,Value.pointer gM,Value.pointer kf,Value.pointer mM,Value.pointer vE,Value.pointer jl,Value.pointer nO,Value.pointer j8])).all ga with|true=>au ja oQ 0 4/\∀ BI,BI=ja.setCells oQ 0 (List.take 4 (List.drop (0+mJ.toNat*4) [Value.pointer p2,Value.pointer p3,Value.pointer bR,Value.pointer n4,Value.pointer oV,Value.pointer gM,Value.pointer kf,Value.pointer mM,Value.pointer vE,Value.pointer jl,Value.pointer nO,Value.pointer j8]))->∃ lf sR,O sR/\Ctx W BI (lf++jP) sR/\π W lf sR λob=>∃ nP,ob.cell? (ν oQ 3)=some (.pointer nP)/\∃ (Cs:Option Addr),((!nP.isNone)=true->ob.cell? (ν oQ 3)=some (.pointer Cs))/\∃ (s6:Int),((!nP.isNone)=true->∀ (oE:World),(∃ (nJ:Nat),oE=ob.drewN nJ)->Γ F.Im #[.pointer Cs] oE λzy xp=>zy=.returned (I s6)/\∃ (vw:Nat),xp=ob.drewN vw)/\∃ (yu:Option Addr) (Aa tO:Nat),((!nP.isNone)=true->ob.cell? (ν aX (aY+13))=some (.slice yu Aa tO))/\γ (nP.isNone||decide (s6<=(↑Aa:Int))) (κ (mJ+1)/\eD W lf sR nI (Od (mJ+1))) (∀ qG jQ,Ctx W qG (lf++jQ) sR->au qG aX (aY+13) 1/\∀ qH,qH=qG.setCell (ν aX (aY+13)) (Value.slice none 0 0)->∃ kO iP,O iP/\Ctx W qH (kO++jQ) iP/\∃ sk vU,O vU/\aE W kO iP sk vU/\∃ (a8R:Option Addr), (π W sk vU λNz=>∃ My,Nz.cell? (ν oQ 3)=some (.pointer My)/\Value.pointer My=Value.pointer a8R)/\∃ (Mz:Option Addr),(π W sk vU λJL=>∃ N0,JL.cell? (ν oQ 3)=some (.pointer N0)/\Value.pointer N0=Value.pointer Mz)/\ο W kO iP F.YP #[.pointer a8R] λUR q=>∃ N1 Ad uw,UR=.returned (.slice N1 Ad uw)/\q λnZ rE=>aE W nZ rE sk vU/\ο W nZ rE F.Im #[.pointer Mz] λaIt q=>∃ pK,aIt=.returned (I pK)/\q λGn GL=>aE W Gn GL sk vU/\(0<=pK/\pK<=(↑uw:Int))/\eE λ(TA:Int->List Own->θ->Nat->Prop)=>(∃ P5 OM Wg,O OM /\ aE W Gn GL P5 OM/\TA 0 P5 OM Wg)/\∀ oT wU Dv a6c,O Dv->TA oT wU Dv a6c->γ (decide (oT<(↑pK.toNat:Int))) ((0<=oT/\oT<(↑pK.toNat:Int))/\k9 none (eB N1 2 0 uw) λaMD Qv=>π W wU Dv λSU=>∃ n101 Yb,bS SU aMD (Qv+oT.toNat*2) [I n101,.string Yb]/\∀ (b:Nat),∃ zf zN,O zN/\aE W wU Dv zf zN/\∃ (a7r:Option Addr) (a5y tM:Nat),(π W zf zN λDO=>∃ Ml FC rq,DO.cell? (ν aX (aY+13))=some (.slice Ml FC rq)/\Value.slice Ml FC rq=Value.slice a7r a5y tM)/\∀ (uv:Nat),aE W (Own.blk uv [.string Yb] 9 :: wU) Dv (zf) zN/\∀ Fy Dy,Ctx W Fy (Own.blk uv [.string Yb] 9 :: wU++Dy) Dv->∃ a7t Qp a60 DR,Sem.run prog (builtin Builtin.append #[40,40] 40 #[false,false] #[.slice a7r a5y tM,.slice (ie uv 0) 1 1]) Fy=.ok (.value (.slice a7t Qp a60)) DR/\∃ sZ vS,O vS/\Ctx W DR (sZ++Dy) vS/\aE W sZ vS zf zN/\∀ DS Bi,Ctx W DS (sZ++Bi) vS->au DS aX (aY+13) 1/\∀ Fz,Fz=DS.setCell (ν aX (aY+13)) (Value.slice a7t Qp a60)->∃ Gf Dc,O Dc/\Ctx W Fz (Gf++Bi) Dc/\κ (oT+1)/\eD W Gf Dc a6c (TA (oT+1))) (κ (mJ+1)/\eD W wU Dv nI (Od (mJ+1))))|false=>False) (ι W jv uF J (Value.tuple #[])):=aT {hV [0,3,5,9,10,11,26,36,37,38,39] with gO:=[5],iC:=[(5,[.held [(0,true),(3,true),(8,true),(1,true),(4,true),(2,false),(5,false),(6,true),(7,true)]]),(8,[.held [(0,true),(1,true),(5,true),(2,true),(6,true),(3,true),(4,true),(7,false),(8,false)],.bJ [9] none,.bJ [10] (some 11)])],loops:=[(6,[(38,.one (.int .i64))],[]),(1,[(10,.one (.int .i64))],[])] }
theorem aDT(j3 mO:Nat)(o0:Bool)(o1:Int)(o2:Int)(gz:Int)(qz:Option Addr)(qy qx:Nat)(At:Option Addr)(yt Cl:Nat):aR F.QD #[ε j3 mO,.agg #[.bool o0,.int .i64 o1,.int .i64 o2,.int .i64 gz,.slice qz qy qx,.slice At yt Cl]] λW R Φ J=>
 ∀ (k0 k1:Nat),eE λ(qP:Int->List Own->θ->Prop)=>(π W (Own.blk k1 [Value.bool o0,I o1,I o2,I gz,Value.slice qz qy qx,Value.slice At yt Cl] 70 :: Own.blk k0 [ε j3 mO] 63 :: R) Φ λw3=>∃ c5,w3.cell? (ν k1 0)=some (.bool c5)/\γ c5 (∃ fX gG,O gG/\aE W (Own.blk k1 [Value.bool o0,I o1,I o2,I gz,Value.slice qz qy qx,Value.slice At yt Cl] 70 :: Own.blk k0 [ε j3 mO] 63 :: R) Φ (fX) gG/\∃ (vE:Option Addr),(π W fX gG λjA=>∃ j8,jA.cell? (ν k0 0)=some (.pointer j8)/\Value.pointer j8=Value.pointer vE)/\k9 none vE λdW fe=>∃ (cq:Int),(π W fX gG λlY=>∃ lB, lY.cell? (ν k1 1)=some (I lB)/\I lB=I cq)/\∃ (mJ:Int),(π W fX gG λjM=>∃ nM,jM.cell? (ν k1 2)=some (I nM)/\I nM=I mJ)/\∃ (Mq:Option Addr),(π W fX gG λja=>∃ xb,ja.cell? (ν dW (fe+2))=some (.pointer xb)/\Value.pointer xb=Value.pointer Mq)/\ο W (Own.blk k1 [Value.bool o0,I o1,I o2,I gz,Value.slice qz qy qx,Value.slice At yt Cl] 70 :: Own.blk k0 [ε j3 mO] 63 :: R) Φ F.zL #[I cq] λuY q=>∃ B4,uY=.returned (.string B4)/\q λgm gF=>aE W gm gF fX gG/\ο W gm gF F.zL #[I mJ] λzy q=>∃ Iw,zy=.returned (.string Iw)/\q λBl Df=>aE W Bl Df fX gG/\(B4.size+Iw.size).le 9223372036854775807/\ο W Bl Df F.PV #[.pointer Mq,.string (B4++Iw)] λUM q=>∃ v8,UM=.returned (I v8)/\q λjQ mU=>∃ kO iP,O iP/\aE W jQ mU kO iP/\qP v8 kO iP) (∃ oz y5,O y5/\aE W (Own.blk k1 [Value.bool o0,I o1,I o2,I gz,Value.slice qz qy qx,Value.slice At yt Cl] 70 :: Own.blk k0 [ε j3 mO] 63 :: R) Φ (oz) y5/\qP 0 oz y5))/\∀ (IK:Int) (vb:List Own) (Ba:List Nat->World->Prop), O Ba->qP IK vb Ba->π W vb Ba λJL=>∃ (Ao:Int),(decide (IK=0)=true->JL.cell? (ν k1 3)=some (I Ao))/\γ (decide (IK=0)&&decide (0<Ao)) (∀ (Ac:Nat) BN oK,Ctx W BN (Own.blk Ac [.slice none 0 0] 40 :: vb++oK) Ba->∃ a8V ML Ad,BN.cell? (ν k1 4)=some (.slice a8V ML Ad)/\eE λ(T9:Int->List Own->θ->Nat->Prop)=>(∃ nZ rE Ae,O rE/\aE W (Own.blk Ac [.slice none 0 0] 40 :: vb) Ba (nZ) rE/\T9 0 nZ rE Ae)/\∀ qu uN GZ xO,O GZ->T9 qu uN GZ xO->γ (decide (qu<(↑ML:Int))) (kQ qu ML a8V λtQ Ag=>π W uN GZ λJO=>∃ MZ a9y,bS JO tQ (Ag+qu.toNat*2) [I MZ,.string a9y]/\∀ (b:Nat),∃ Gp GM,O GM/\aE W uN GZ Gp GM/\∃ (Cy : Option Addr) (xP ux:Nat),(π W Gp GM λSS=>∃ N4 CY M8,SS.cell? (ν Ac 0)=some (.slice N4 CY M8)/\Value.slice N4 CY M8=Value.slice Cy xP ux)/\ο W uN GZ F.NL #[Value.agg #[I MZ,.string a9y]] λEb q=>∃ B2,Eb=.returned (.string B2)/\q λuJ u6=>aE W uJ u6 Gp GM/\∀ (AV:Nat),aE W (Own.blk AV [.string B2] 9 :: uJ) u6 (Gp) GM/\∀ DP a1U,Ctx W DP (Own.blk AV [.string B2] 9 :: uJ++a1U) u6->∃ Mm M9 xK Fy,Sem.run prog (builtin Builtin.append #[40,40] 40 #[false,false] #[.slice Cy xP ux,.slice (ie AV 0) 1 1]) DP=.ok (.value (.slice Mm M9 xK)) Fy/\∃ Dy O7,O O7 /\ Ctx W Fy (Dy++a1U) O7/\∀ Nt Dz,Ctx W Nt (Dy++Dz) O7->au Nt Ac 0 1/\∀ DR,DR=Nt.setCell (ν Ac 0) (Value.slice Mm M9 xK)->∃ sZ vS,O vS/\Ctx W DR (sZ++Dz) vS/\κ (qu+1)/\eD W sZ vS xO (T9 (qu+1))) (∀ (MC:Nat) aBZ a1Z,Ctx W aBZ (Own.blk MC [Value.func (Fn.func 114) #[] #[ε k0 0,ε k1 0],Value.func (Fn.func 117) #[] #[ε k0 0,ε Ac 0]] 91 :: uN++a1Z) GZ->Γ F.QB #[.slice (ie MC 0) 2 2] aBZ λaI2 SJ=>∃ n136,aI2=.returned (I n136)/\∃ wP u7,O u7/\Ctx W SJ (wP++a1Z) u7/\γ (decide (n136≠0)) (π W wP u7 λDT=>∃ a7z,DT.cell? (ν k0 0)=some (.pointer a7z)/\ο W wP u7 F.Lb #[.pointer a7z] λaI6 q=>aI6=.returned (Value.tuple #[])/\q λsg OA=>ι W sg OA J (I n136)) (ι W wP u7 J (I n136)))) (γ (decide (IK≠0)) (π W vb Ba λaRS=>∃ a86,aRS.cell? (ν k0 0)=some (.pointer a86)/\ο W vb Ba F.Lb #[.pointer a86] λUD q=>UD=.returned (Value.tuple #[])/\q λTG a0Y=>ι W TG a0Y J (I IK)) (ι W vb Ba J (I IK))):=aT {hV [2,3,4,5,6,8,10,31,33,34,35,36,50] with gO:=[8],iC:=[(3,[.held [(0,true),(4,true),(8,true),(1,true),(5,true),(9,true),(2,true),(6,true),(10,true),(3,true),(7,false),(11,false),(12,true)],.bJ [] (some 13),.bJ [14] none]),(9,[.held [(0,true),(1,true),(2,false),(3,false)],.bJ [] (some 4),.bJ [] (some 5)])],loops:=[(7,[(35,.one (.int .i64))],[])],Kc:=[(4,[(5,.one (.int .i64))],[])] }
theorem aDk(eg ei:Nat)(LK:Int)(to:Int)(body:ByteArray):aR F.XH #[ε eg ei,.int .i64 LK,.int .i64 to,.string body] λW R Φ J=>
 π W R Φ λw0=>∃ (c2:Bool),(∀ w3,w3=w0->Γ F.IQ #[I LK] w3 λbL eK=>bL=.returned (.bool c2)/\eK=w0)/\∃ (rO:Bool),((!!c2)=true->∀ hJ,hJ=w0->Γ F.IQ #[I to] hJ λnB fJ=>nB=.returned (.bool rO)/\fJ=w0)/\γ (!c2 || !rO||decide (LK=to)) (ι W R Φ J (I 1)) (ο W R Φ F.R7 #[ε eg ei,I LK,I to] λpq q=>∃ Bx,pq=.returned (.bool Bx)/\q λcK fk=>γ (!Bx) (ι W cK fk J (I 10)) (π W cK fk λjM=>∃ oU oQ FF,jM.cell? (ν eg ei)=some (.slice oU oQ FF)/\γ (decide (500<=(↑oQ:Int))) (ι W cK fk J (I 6)) (π W cK fk λnR=>∃ Mr FH ru,nR.cell? (ν eg ei)=some (.slice Mr FH ru)/\∀ (nr:Nat) BJ uK,Ctx W BJ (Own.blk nr [I LK,I to,.string body] 100 :: cK++uK) fk->∃ Av FI nJ JJ,Sem.run prog (builtin Builtin.append #[82,82] 82 #[false,false] #[.slice Mr FH ru,.slice (ie nr 0) 1 1]) BJ=.ok (.value (.slice Av FI nJ)) JJ/\∃ mY lH,O lH/\Ctx W JJ (mY++uK) lH/\∀ tv qT,Ctx W tv (mY++qT) lH->au tv eg ei 1/\∀ sN,sN=tv.setCell (ν eg ei) (Value.slice Av FI nJ)->∃ rK sS,O sS/\Ctx W sN (rK++qT) sS/\ι W rK sS J (I 0)))):=aT (hV [0,1,2,3,8,9,23,29])
theorem aDm(eg ei:Nat)(i:Int):aR F.R8 #[ε eg ei,.int .i64 i] λW R Φ J=>
 ∀ (b:Nat) w0 aW,Ctx W w0 (R++aW) Φ->∃ (p2:Option Addr) (b8 cQ:Nat),((!decide (i<0))=true->w0.cell? (ν eg ei)=some (.slice p2 b8 cQ))/\γ (decide (i<0)||decide ((↑b8:Int)<=i)) (ι W R Φ J (Value.tuple #[Value.agg #[I 0,I 0,Value.string (ByteArray.mk #[])],Value.bool false])) (π W R Φ λhJ=>∃ mM dx gW,hJ.cell? (ν eg ei)=some (.slice mM dx gW)/\kQ i dx mM λq6 gy=>π W R Φ λiO=>∃ cq ff kD,bS iO q6 (gy+i.toNat*3) [I cq,I ff,.string kD]/\∀ (b:Nat) mP jG,Ctx W mP (R++jG) Φ->∃ xZ qm nI,mP.cell? (ν eg ei)=some (.slice xZ qm nI)/\κ (i+1)/\ο W R Φ F.Z1 #[.slice xZ qm nI,I i,I (i+1)] λrR q=>∃ a8M AZ FG,rR=.returned (.slice a8M AZ FG)/\q λlq u9=>∀ oc iE,Ctx W oc (lq++iE) u9->au oc eg ei 1/\∀ mQ,mQ=oc.setCell (ν eg ei) (Value.slice a8M AZ FG)->∃ gp kJ,O kJ/\Ctx W mQ (gp++iE) kJ/\ι W gp kJ J (Value.tuple #[Value.agg #[I cq,I ff,.string kD],Value.bool true])):=aT {hV [0,1,4,5,6,17] with gO:=[4,6] }
theorem aDj(eg ei:Nat)(a:Int)(b:Int):aR F.R7 #[ε eg ei,.int .i64 a,.int .i64 b] λW R Φ J=>
 π W R Φ λw0=>∃ (c2:Bool),(∀ (w3:World),(∃ (cQ:Nat),w3=w0.drewN cQ)->Γ F.IQ #[I a] w3 λbz lG=>bz=.returned (.bool c2)/\∃ (jI:Nat),lG=w0.drewN jI)/\∃ (nh:Bool),(c2=true->∀ (fJ:World),(∃ (dx:Nat),fJ=w0.drewN dx)->Γ F.IQ #[I b] fJ λEc gi=>Ec=.returned (.bool nh)/\∃ (gy:Nat),gi=w0.drewN gy)/\∃ (jk:Int),((c2&&nh)=true->w0.cell? (ν eg (ei+1))=some (I jk))/\∃ (cx:Int),((c2&&nh)=true->∀ (fj:World),Sem.run prog (binOp BinOp.shr 3 (I jk) (I a)) fj=Result.ok (I cx) fj)/\∃ (ff:Int),((c2&&nh)=true->∀ (iD:World),Sem.run prog (binOp BinOp.and 3 (I cx) (I 1)) iD=Result.ok (I ff) iD)/\∃ (lB:Int),((c2&&nh)=true->w0.cell? (ν eg (ei+1))=some (I lB))/\∃ (mJ:Int),((c2&&nh)=true->∀ (jM:World),Sem.run prog (binOp BinOp.shr 3 (I lB) (I b)) jM=Result.ok (I mJ) jM)/\∃ (IJ:Int),((c2&&nh)=true->∀ (oD:World),Sem.run prog (binOp BinOp.and 3 (I mJ) (I 1)) oD=Result.ok (I IJ) oD)/\ι W R Φ J (.bool (c2&&nh&&decide (ff=IJ))):=aT (hV [0,1,2,6])
theorem aDR(kB bV qo qp:Nat):aR F.HS #[ε kB bV,ε qo qp] λW R Φ J=>
 ∃ R0 ψ,O ψ/\aE W R Φ R0 ψ/\∃ (bR:Option Addr),(π W R0 ψ λeK=>∃ gM,eK.cell? (ν kB bV)=some (.pointer gM)/\Value.pointer gM=Value.pointer bR)/\∃ (kf:Option Addr),(π W R0 ψ λfJ=>∃ jl,fJ.cell? (ν kB bV)=some (.pointer jl)/\Value.pointer jl=Value.pointer kf)/\k9 none bR λq6 gy=>∃ (jk:Int),(π W R0 ψ λoC=>∃ ff,oC.cell? (ν qo (qp+3))=some (I ff)/\I ff=I jk)/\k9 none kf λnH l9=>κ (jk - 1)/\∃ (Mp:Option Addr),(π W R0 ψ λjM=>∃ oU,jM.cell? (ν q6 (gy+1))=some (.pointer oU)/\Value.pointer oU=Value.pointer Mp)/\∃ (Mq:Option Addr),(π W R0 ψ λja=>∃ xb,ja.cell? (ν nH (l9+1))=some (.pointer xb)/\Value.pointer xb=Value.pointer Mq)/\ο W R Φ F.WI #[.pointer Mq] λuY q=>∃ n32,uY=.returned (I n32)/\q λgm gF=>aE W gm gF R0 ψ/\ο W gm gF F.WH #[.pointer Mp,I (min (jk - 1) n32)] λzy q=>∃ xS,zy=.returned (I xS)/\q λBl Df=>ι W Bl Df J (I xS):=aT {hV [0,1,2] with iC:=[(1,[.held [(0,true),(4,true),(7,true),(1,true),(5,true),(8,true),(2,true),(6,true),(9,true),(3,true),(10,true),(11,false),(12,true)],.bJ [] (some 13),.bJ [14] none])] }
theorem aDS(kB bV qo qp:Nat):aR F.HT #[ε kB bV,ε qo qp] λW R Φ J=>
 ∃ R0 ψ,O ψ/\aE W R Φ R0 ψ/\∃ (bR:Option Addr),(π W R0 ψ λeK=>∃ gM,eK.cell? (ν kB bV)=some (.pointer gM)/\Value.pointer gM=Value.pointer bR)/\∃ (kf:Option Addr) (fQ dx:Nat),(π W R0 ψ λjA=>∃ j8 dW fe,jA.cell? (ν qo qp)=some (.slice j8 dW fe)/\Value.slice j8 dW fe=Value.slice kf fQ dx)/\k9 none bR λl8 dK=>∃ (xY:Option Addr),(π W R0 ψ λmP=>∃ xZ,mP.cell? (ν l8 (dK+1))=some (.pointer xZ)/\Value.pointer xZ=Value.pointer xY)/\ο W R Φ F.WG #[.pointer xY,.slice kf fQ dx] λEe q=>∃ k6,Ee=.returned (I k6)/\q λkr zP=>ι W kr zP J (I k6):=aT {hV [0,1,2] with iC:=[(1,[.held [(0,true),(4,true),(1,true),(2,true),(3,true)],.bJ [] (some 5),.bJ [6] none])] }
theorem aEI(ey:Option Addr)(cE eT:Nat)(i:Int)(j:Int):aR F.Z1 #[.slice ey cE eT,.int .i64 i,.int .i64 j] λW R Φ J=>
 (0<=i/\i<=j/\j<=(↑cE:Int)/\(↑cE:Int)<=(↑eT:Int))/\γ (decide (i=j)) (ι W R Φ J (.slice ey cE eT)) (∃ dM hO,O hO/\aE W R Φ dM hO/\(0<=i/\i<=(↑eT:Int))/\(0<=j/\j<=(↑cE:Int)/\cE<=eT)/\∀ lG cO,Ctx W lG (R++cO) Φ->∃ kf fQ dx jA,Sem.run prog (builtin Builtin.append #[82,82] 82 #[false,false] #[.slice (eB ey 3 0 eT) i.toNat eT,.slice (eB ey 3 j.toNat eT) (cE - j.toNat) (eT - j.toNat)]) lG=.ok (.value (.slice kf fQ dx)) jA/\∃ eN jB,O jB/\Ctx W jA (eN++cO) jB/\(0<=(↑fQ:Int)/\(↑fQ:Int)<=(↑cE:Int)/\(↑cE:Int)<=(↑dx:Int))/\∀ iO gS,Ctx W iO (eN++gS) jB->∃ (fj:World),Sem.run prog (builtin Builtin.clear #[82] 0 #[false] #[.slice (eB kf 3 (↑fQ:Int).toNat dx) ((↑cE:Int).toNat - (↑fQ:Int).toNat) (dx - (↑fQ : Int).toNat)]) iO=.ok (.value (Value.tuple #[])) fj/\∃ cK fk,O fk/\Ctx W fj (cK++gS) fk/\ι W cK fk J (.slice kf fQ dx)):=aT {hV [0,1,2,6,7,16] with iC:=[(5,[.held [(0,true),(1,true),(3,true),(4,true),(2,true),(5,true)],.bJ [] (some 6),.bJ [7] none])] }
end Go.Proofs.YtcmgeboolmmdkaaGreatDoor
end

section
namespace Go.Proofs.YtcmgeboolmmdkaaGreatDoor
open Go.Vc
def a1Q(a:Int)(w:World)(J:Value->World->Prop):Prop :=
 J (.bool (decide (0<=a)&&decide (a<16))) w
theorem aFa(a:Int)(w:World)(J:Value->World->Prop)(h:a1Q a w J):Γ F.IQ #[.int .i64 a] w λe w'=>∃ v,e=.returned v/\J v w':=by
 refine calls_of_wp (fn:=Tryz.f119) (by kernel_rfl) rfl ?_;unfold a1Q at h
 go_wp2
 all_goals go_returns
 .rename_i q;rw [decide_eq_true q] at h;exact ⟨.bool (decide (a<16)),by kernel_rfl,h⟩
 .rename_i q;rw [decide_eq_false (show ¬ 0<=a by omega)] at h;exact ⟨.bool false,by kernel_rfl,h⟩
end Go.Proofs.YtcmgeboolmmdkaaGreatDoor
end

section
namespace Go.Vc
section
variable {P:Program}{W w:World}{S F:List Own}{Φ Ψ:θ}
structure Quiet(P:Program)(f:FuncId)(args:Array Value)(v:Value):Prop where
 go:∀ w,Calls P f args w λe w'=>e=.returned v/\w'=w
structure Dq(P:Program)(f:FuncId)(args:Array Value)(v:Value):Prop where
 go:∀ (W w:World) (S:List Own) (Φ:θ),O Φ->Ctx W w S Φ->Calls P f args w λe w'=>e=.returned v/\Ctx W w' S Φ
theorem Quiet.at{f args v}(h:Quiet P f args v){w w0}(e:w=w0):Calls P f args w λe w'=>e=.returned v/\w'=w0:=by subst e;exact h.go w
theorem Quiet.PJ{f args v}(h:Quiet P f args v){w w0:World}(e:∃ n,w=w0.drewN n):Calls P f args w λe w'=>e=.returned v/\∃ n,w'=w0.drewN n:=by
 obtain ⟨n,rfl⟩:=e;exact (h.go _).mono λe w' ⟨h1,h2⟩=>⟨h1,n,h2⟩
theorem Quiet.HL{f args v}(h:Quiet P f args v):Dq P f args v :=
 ⟨λW w S Φ _ c=>(h.go w).mono λe w' ⟨h1,h2⟩=>by subst h2;exact ⟨h1,c⟩⟩
theorem Dq.use{f args v}(h:Dq P f args v)[hs:O Φ](c:Ctx W w S Φ){K}(hk:∀ w',Ctx W w' S Φ->K (.returned v) w'):Calls P f args w K :=
 (h.go W w S Φ hs c).mono λe w' ⟨he,c'⟩=>by subst he;exact hk w' c'
structure fL(Φ:θ)(P:Program)(f:FuncId)(args:Array Value)(v:Value):Prop where
 go:∀ (W w:World) (S:List Own),Ctx W w S Φ->Calls P f args w λe w'=>e=.returned v/\Ctx W w' S Φ
theorem fL.use{f args v}(h:fL Φ P f args v)(c:Ctx W w S Φ){K}(hk:∀ w',Ctx W w' S Φ->K (.returned v) w'):Calls P f args w K :=
 (h.go W w S c).mono λe w' ⟨he,c'⟩=>by subst he;exact hk w' c'
theorem Dq.in[hs:O Φ]{f args v}(h:Dq P f args v):fL Φ P f args v:=⟨λW w S c=>h.go W w S Φ hs c⟩
theorem rW[O Φ]{f args v}{B:World->List Own->θ->(Value->World->Prop)->Prop}(run:∀ ⦃W w:World⦄ ⦃R:List Own⦄ ⦃Φ:θ⦄ [O Φ] ⦃J:Value->World->Prop⦄,Ctx W w R Φ->B W R Φ J->Calls P f args w λe w'=>∃ v,e=.returned v/\J v w')(h:∀ (W:World) (R:List Own),B W R Φ λu w'=>u=v/\Ctx W w' R Φ):fL Φ P f args v :=
 ⟨λW w S c=>a3V (run c (h W S)) λu w' ⟨h1,h2⟩=>⟨by rw [h1],h2⟩⟩
theorem Ctx.left[O Φ](c:Ctx W w (S++F) Φ):Ctx W w S Φ:=c.sub (List.sublist_append_left _ _)
theorem Ctx.right[O Φ](c:Ctx W w (S++F) Φ):Ctx W w F Φ:=c.sub (List.sublist_append_right _ _)
theorem Ctx.fst[O Φ][O Ψ](c:Ctx W w S (λM w=>Φ M w/\Ψ M w)):Ctx W w S Φ:=c.weak λ_ _ h=>h.1
theorem D9{cs vs:List Value}{o}(h:(cs.drop o).take vs.length=vs):∀ j,(hj:j<vs.length)->cs[o+j]? = some vs[j]:=by
 intro j hj;have h1:((cs.drop o).take vs.length)[j]? = vs[j]? := by rw [h]
 rw [List.getElem?_take_of_lt hj,List.getElem?_drop] at h1;rw [h1,List.getElem?_eq_getElem hj]
theorem quiet_of{f args v}{B:World->(Value->World->Prop)->Prop}(run:∀ (w:World) (J:Value->World->Prop),B w J->Calls P f args w λe w'=>∃ v,e=.returned v/\J v w')(h:∀ w,B w λu w'=>u=v/\w'=w):Quiet P f args v :=
 ⟨λw=>a3V (run w _ (h w)) λu w' ⟨h1,h2⟩=>⟨by rw [h1],h2⟩⟩
end
def rH{α:Type}[aB α](b o:Nat)(cs:List (List Value))(l:List α)(M:List Nat)(w:World):Prop :=
 ∀ j,(hj:j<l.length)->b ∉ M/\bS w b (o+j*(aB.ty α).size) (cs.getD j [])/\aB.rep M w (cs.getD j []) l[j]
instance aTN{α:Type}[aB α](b o:Nat)(cs:List (List Value))(l:List α):O (λM w=>rH b o cs l M w):=⟨λhs h j hj=>by
 obtain ⟨h2,h3,h4⟩:=h j hj;have hlt:=a9X h3 (by rw [aB.len h4];exact aB.pos);exact ⟨λhm=>by rcases hs.sub b hm with h|h;exact h2 h;omega,hs.qV.row h3 h2,aB.pQ hs h4⟩⟩
theorem Δ.RQ{α}[aB α]{M w p}{l:List α}(h:Δ M w p l):∃ b o cs,(0<l.length->p=some ⟨b,o,none⟩)/\rH b o cs l M w:=by
 by_cases h0:0<l.length
 .obtain ⟨b,o,_,hp,_⟩:=h 0 h0;have key:∀ j,j<l.length->∃ cs:List Value,∀ hj:j<l.length,b ∉ M/\bS w b (o+j*(aB.ty α).size) cs/\aB.rep M w cs l[j]:=by
   intro j hj;obtain ⟨b',o',cs,h1,h2,h3,h4⟩:=h j hj;rw [hp] at h1;cases h1;exact ⟨cs,λ_=>⟨h2,h3,h4⟩⟩
  obtain ⟨cs,hl,hcs⟩:=Wp l.length key;refine ⟨b,o,cs,λ_=>hp,λj hj=>?_⟩;have:=hcs j (by omega) hj;rw [show cs.getD j []=cs[j] by simp [List.getD,show j<cs.length by omega]];exact this
 .exact ⟨0,0,[],λh=>absurd h h0,λj hj=>by omega⟩
theorem Ctx.RQ{W w S}{Φ:θ}(c:Ctx W w S Φ){α}[aB α]{p}{l:List α}(h:Δ (dom S) w p l):
  ∃ b o cs,(0<l.length->p=some ⟨b,o,none⟩)/\Ctx W w S (λM w=>Φ M w/\rH b o cs l M w):=by
 obtain ⟨b,o,cs,hp,CK⟩:=h.RQ;exact ⟨b,o,cs,hp,c.add CK⟩
theorem fL.pinned{Φ:θ}[O Φ]{P f args v α}[aB α]{p}{l:List α}(cL:∀ M w,Φ M w->Δ M w p l)(h:∀ b o cs,(0<l.length->p=some ⟨b,o,none⟩)->fL (λM w=>Φ M w/\rH b o cs l M w) P f args v):fL Φ P f args v :=
 ⟨λW w S c=>by
  obtain ⟨b,o,cs,hp,c'⟩:=c.RQ (cL _ _ c.cy);exact ((h b o cs hp).go W w S c').mono λe w' ⟨h1,h2⟩=>⟨h1,h2.fst⟩⟩
section
variable {P:Program}{W w:World}{S F:List Own}{Φ Ψ:θ}
def vZ(W:World)(o:Own)(M:List Nat)(w:World):Prop:=o.at w/\∀ b∈o.dom,b ∉ M/\W.heap.size<=b
instance aLj(D:List Nat)(Φ:θ)[O Φ]:O (λM w=>Φ (D++M) w):=⟨fun {M M' w w'} hs h =>
 O.step (Φ:=Φ) (M:=D++M) (M':=D++M') ⟨hs.qV.mono λx hx=>List.mem_append_right _ hx,λb hb=>by
  rcases List.mem_append.1 hb with h|h
  .exact .inl (List.mem_append_left _ h)
  .rcases hs.sub b h with h|h
   .exact .inl (List.mem_append_right _ h)
   .exact .inr h⟩ h⟩
theorem Own.nodup(o:Own):o.dom.Nodup:=by
 cases o with
 | blk=>simp [Own.dom]
 | obj=>simp [Own.dom]
 | buf p=>cases p<;>simp [Own.dom]
theorem Kl(o S):dom (o :: S)=o.dom++dom S:=rfl
theorem Ctx.aO7{o}(c:Ctx W w (o :: S) Φ):Ctx W w S (λM w=>Φ (o.dom++M) w/\vZ W o M w) :=
 ⟨c.qV,λx hx=>c.own x (List.mem_cons_of_mem _ hx),λb hb=>c.BP b (by rw [Kl];exact List.mem_append_right _ hb),
  (by have:=c.nodup;rw [Kl,List.nodup_append] at this;exact this.2.1),c.cy,c.own o List.mem_cons_self,λb hb =>
   ⟨λhm=>by have:=c.nodup;rw [Kl,List.nodup_append] at this;exact this.2.2 b hb b hm rfl,c.BP b (by rw [Kl];exact List.mem_append_left _ hb)⟩⟩
theorem vZ.sl{α}[aB α]{M D p n cap cs t}{l:List α}(h:vZ W (.buf p n cap cs t (aB.ty α).size) M w)(he:dA (D++M) w cs l):Δ M w p l:=by
 obtain ⟨⟨h1,h2⟩,h3⟩:=h;have hpos:0<(aB.ty α).size:=aB.pos;intro j hj;have hle:(j+1)*(aB.ty α).size<=cs.length:=by rw [he.1];exact Nat.mul_le_mul_right _ hj
 rw [Nat.add_mul,Nat.one_mul] at hle;rcases h2 with ⟨e,rfl⟩|⟨g,cap',cur,e,_,hg,hnc,hcm,hcs,oP⟩
 .rw [Nat.zero_mul] at h1;omega
 .cases e;refine ⟨g,0,(cs.drop (j*(aB.ty α).size)).take (aB.ty α).size,rfl,(h3 g (by simp [Own.dom])).1,λi hi=>?_,?_⟩
  .rw [Nat.zero_add];simp only [List.length_take,List.length_drop] at hi;rw [List.getElem_take,List.getElem_drop];have hlt:j*(aB.ty α).size+i<cs.length:=by omega
   have h2:∀ k v,k<cs.length->cs[k]? = some v->cur[k]? = some v:=by
    intro k v hk hv;rw [<-oP,List.getElem?_take_of_lt (by omega)] at hv;simpa using hv
   have h2:=h2 _ _ hlt (List.getElem?_eq_getElem hlt);simp [World.cell?,hg,h2]
  .exact aB.pQ ⟨bZ.refl _ _,λb hb=>.inl (List.mem_append_right _ hb)⟩ (he.2 j hj)
def Gr(p:Option Addr)(n:Nat):Prop:=0<n->∃ b o,p=some ⟨b,o,none⟩
theorem Δ.there{α}[aB α]{M w p}{l:List α}(h:Δ M w p l):Gr p l.length:=λh0=>by
 obtain ⟨b,o,_,h1,_⟩:=h 0 h0;exact ⟨b,o,h1⟩
theorem Δ.nil{α}[aB α]{M w p}:Δ M w p ([]:List α):=λj hj=>by simp at hj
theorem fL.there{f args v p n}(cL:∀ M w,Φ M w->Gr p n)(h:Gr p n->fL Φ P f args v):fL Φ P f args v :=
 ⟨λW w S c=>(h (cL _ _ c.cy)).go W w S c⟩
def Gu(P:Program)(ts t:TypeId)(size bytes:Nat):Bool :=
 (match P.underlying ts with|some (.slice u)=>decide (u=t)|_=>false)&&(match P.info? t with
  | some i=>(match i.zero with|some z=>decide (z.cells.size=size)|none=>false)&&decide (i.size=size)&&decide (i.bytes=bytes)
  | none=>false)
theorem Bu{ts t size bytes}(h:Gu P ts t size bytes=true):∃ i z,P.underlying ts=some (.slice t)/\P.info? t=some i/\i.zero=some z/\i.size=size/\z.cells.size=size/\i.bytes=bytes:=by
 unfold Gu at h;rw [Bool.and_eq_true] at h;obtain ⟨h1,h2⟩:=h;split at h1
 .rename_i u hu;have:u=t:=by simpa using h1
  subst this;split at h2
  .rename_i i hi;simp only [Bool.and_eq_true] at h2;obtain ⟨⟨h2,h3⟩,h4⟩:=h2;split at h2
   .rename_i z hz;exact ⟨i,z,hu,hi,hz,by simpa using h3,by simpa using h2,by simpa using h4⟩
   .cases h2
  .cases h2
 .cases h1
theorem zB{ats ty cs args v w w'}(h:(Builtin.append_ ats ty args).run P w=.ok v w'):Sem.run P (builtin Builtin.append ats ty cs args) w=.ok (.value v) w':=by
 unfold builtin;simp only [Sem.run_bind,h,Result.andThen,Sem.run_pure]
theorem Ctx.yM[O Φ]{b news t' p n cap cs t size bytes}(c:Ctx W w (.blk b news t' :: .buf p n cap cs t size :: S) Φ){ts ty kb}(hb:Gu P ts t size bytes=true)(h0:0<size)(hl:news.length=size)(h1:(news.all λu=>ga u)=true)(hlen:n<100000000)(hbytes:bytes<=1000):
  ∃ p' cap' w',Sem.run P (builtin Builtin.append #[ts,ts] ty kb #[.slice p n cap,.slice (some ⟨b,0,none⟩) 1 1]) w=.ok (.value (.slice p' (n+1) cap')) w'/\(∃ g,p'=some ⟨g,0,none⟩)/\Ctx W w' (.buf p' (n+1) cap' (cs++news) t size :: S) Φ:=by
 obtain ⟨i,z,e1,e2,bI,bL,bz,eX⟩:=Bu hb;have hby:(n+1)*i.bytes<=100000000*1000:=Nat.mul_le_mul (by omega) (by omega);obtain ⟨p',cap',w',h2,c'⟩:=c.append 1 rfl (ty:=ty) e1 e2 bI bL bz (a:=⟨b,0,none⟩) (m:=1) (c2:=1) (news:=news) (by omega) (by rw [hl,Nat.one_mul]) (λj u hj=>by rw [addr_add,Nat.zero_add];exact c.get 0 rfl hj)
  (λu hu=>List.all_eq_true.1 h1 u hu) (by omega) (by omega)
 refine ⟨p',cap',w',zB h2,?_,c'.drop1⟩;obtain ⟨g,hg,_⟩:=c'.uR 1 rfl (by rw [List.length_append];omega);exact ⟨g,hg⟩
theorem Ctx.yp[O Φ](c:Ctx W w S Φ)(t size):Ctx W w (.buf none 0 0 [] t size :: S) Φ:=c.Gz t size
theorem vZ.aGt{α}[aB α]{M b cs t}{l:List α}(h:vZ W (.blk b cs t) M w)(he:dA M w cs l):Δ M w (some ⟨b,0,none⟩) l:=by
 obtain ⟨h1,h2⟩:=h;have h1:dc w b cs t:=h1;intro j hj;have hle:(j+1)*(aB.ty α).size<=cs.length:=by rw [he.1];exact Nat.mul_le_mul_right _ hj
 rw [Nat.add_mul,Nat.one_mul] at hle;refine ⟨b,0,(cs.drop (j*(aB.ty α).size)).take (aB.ty α).size,rfl,(h2 b (by simp [Own.dom])).1,λi hi=>?_,he.2 j hj⟩;simp only [List.length_take,List.length_drop] at hi;rw [Nat.zero_add,List.getElem_take,List.getElem_drop];exact h1.EV (List.getElem?_eq_getElem (by omega))
theorem Ctx.LJ[O Φ]{α}[aB α]{b cs t}{l:List α}(c:Ctx W w (.blk b cs t :: S) Φ)(he:dA (dom (.blk b cs t :: S)) w cs l):Ctx W w S Φ/\Δ (dom S) w (some ⟨b,0,none⟩) l:=by
 have c':=c.aO7;refine ⟨c.drop1,c'.cy.2.aGt ⟨he.1,λj hj=>?_⟩⟩;exact aB.pQ ⟨bZ.refl _ _,λb hb=>.inl (by rw [Kl];exact List.mem_append_right _ hb)⟩ (he.2 j hj)
theorem dA.one{α}[aB α]{M cs}{x:α}(h1:aB.rep M w cs x):dA M w cs [x]:=dA.snoc (l:=[]) (cs:=[]) dA.nil h1
end
section
variable {P:Program}{W w w':World}{S S' F:List Own}{Φ Ψ:θ}
theorem Ctx.swap[O Φ]{a b}(c:Ctx W w (a :: b :: S) Φ):Ctx W w (b :: a :: S) Φ:=c.perm (List.Perm.swap _ _ _)
theorem Ctx.a2p(c:Ctx W w S Φ)(k:Nat){p n cap cs t size}(hk:S[k]? = some (.buf p n cap cs t size))(h0:0<cs.length):
  ∃ b cur,p=some ⟨b,0,none⟩/\dc w b cur t/\cur.take (n*size)=cs/\n<=cap/\cap<=maxLen/\cur.length=cap*size/\cs.length=n*size:=by
 obtain ⟨h1,h2⟩:=c.own _ (List.mem_of_getElem? hk);rcases h2 with ⟨e,rfl⟩|⟨g,cap',cur,e,_,hg,hnc,hcm,hcs,oP⟩
 .rw [Nat.zero_mul] at h1;omega
 .cases e;exact ⟨g,cur.toList,rfl,by simpa [dc] using hg,oP,hnc,hcm,by simpa using hcs,h1⟩
theorem Ctx.Tg(c:Ctx W w S Φ)(k:Nat){p n cap cs t size}(hk:S[k]? = some (.buf p n cap cs t size)){b o}(hp:p=some ⟨b,0,none⟩){vs}(hv:∀ j,(hj:j<vs.length)->cs[o+j]? = some vs[j]):bS w b o vs:=by
 intro j hj;have hlt:o+j<cs.length:=(List.getElem?_eq_some_iff.1 (hv j hj)).1;obtain ⟨b',h1,_,h2⟩:=c.uR k hk (by omega);rw [hp] at h1;cases h1;exact (h2 _ _ (hv j hj)).1
theorem Ctx.Tf(c:Ctx W w S Φ)(k:Nat){p n cap cs t size}(hk:S[k]? = some (.buf p n cap cs t size)){b o m}(hp:p=some ⟨b,0,none⟩)(hm:o+m<=cs.length):au w b o m:=by
 intro j hj;obtain ⟨b',h1,_,h2⟩:=c.uR k hk (by omega);rw [hp] at h1;cases h1;have:=h2 (o+j) cs[o+j] (List.getElem?_eq_getElem (by omega));exact ⟨by rw [this.1];rfl,this.2⟩
theorem Nc:∀ (vs:List Value) (cs:List Value) (o:Nat),(gd cs o vs).length=cs.length
 | [],_,_=>rfl
 | v :: r,cs,o=>by unfold gd;rw [Nc r];simp
theorem aAC:∀ (vs:List Value) (cs:List Value) (o m:Nat),o+vs.length<=m->(gd cs o vs).take m=gd (cs.take m) o vs
 | [],_,_,_,_=>rfl
 | v :: r,cs,o,m,h=>by
  unfold gd;simp only [List.length_cons] at h;rw [aAC r _ _ _ (by omega),List.take_set]
theorem B6:∀ (vs:List Value) (cs:List Value) (o i:Nat),(i<o\/o+vs.length<=i)->(gd cs o vs)[i]? = cs[i]?
 | [],_,_,_,_=>rfl
 | v :: r,cs,o,i,h=>by
  unfold gd;simp only [List.length_cons] at h;rw [B6 r _ _ _ (by omega),List.getElem?_set_ne (by omega)]
theorem Nb:∀ (vs:List Value) (cs:List Value) (o i:Nat),i<vs.length->o+vs.length<=cs.length->(gd cs o vs)[o+i]? = vs[i]?
 | [],_,_,_,h,_=>by simp at h
 | v :: r,cs,o,0,h,hl=>by
  unfold gd;simp only [List.length_cons] at hl;rw [B6 r _ _ _ (by omega),Nat.add_zero,List.getElem?_set_self (by omega)];rfl
 | v :: r,cs,o,i+1,h,hl=>by
  unfold gd;simp only [List.length_cons] at hl h;rw [show o+(i+1)=o+1+i by omega,Nb r _ _ _ (by omega) (by simp;omega)];rfl
theorem Ctx.PO[O Φ](c:Ctx W w S Φ)(k){p n cap cs vs t size}(hk:S[k]? = some (.buf p n cap cs t size)){b o}(hp:p=some ⟨b,0,none⟩)(h0:0<cs.length)(ho:o+vs.length<=cs.length)(e:w'=w.setCells b o vs):Ctx W w' (S.set k (.buf p n cap (gd cs o vs) t size)) Φ:=by
 obtain ⟨b',cur,h1,hb,oP,hnc,hcm,cW,hl⟩:=c.a2p k hk h0;rw [hp] at h1;cases h1;subst e;refine c.sI hk ((bZ.refl _ _).setCells (by subst hp;simp [Own.dom]) o vs) (λx hx=>.inl (by subst hp;exact hx)) (by subst hp;simp [Own.dom]) ?_;have hb':=dc.sets vs o hb;refine ⟨by rw [Nc,hl],.inr ⟨b,cap,(gd cur o vs).toArray,by rw [hp],Nat.zero_le _,hb',hnc,hcm,by simp [Nc,cW],?_⟩⟩;rw [<-oP,aAC _ _ _ _ (by omega)]
theorem Δ.cells{α}[aB α]{M p}{l:List α}(h:Δ M w p l)(h1:∀ M w cs (x:α),aB.rep M w cs x->(cs.all λu=>ga u)=true)(h0:0<l.length):
  ∃ b o news,p=some ⟨b,o,none⟩/\news.length=l.length*(aB.ty α).size/\(∀ j u,news[j]? = some u->w.cell? ⟨b,o+j,none⟩=some u)/\dA M w news l/\(news.all λu=>ga u)=true:=by
 obtain ⟨b,o,_,hp,_⟩:=h 0 h0;have key:∀ k,k<=l.length->∃ news:List Value,news.length=k*(aB.ty α).size/\(∀ j u,news[j]? = some u->w.cell? ⟨b,o+j,none⟩=some u)/\dA M w news (l.take k)/\(news.all λu=>ga u)=true:=by
  intro k
  induction k with
  | zero=>intro _;exact ⟨[],by simp,λj u hj=>by simp at hj,by rw [List.take_zero];exact dA.nil,rfl⟩
  | succ k ih =>
   intro hk;obtain ⟨news,g1,g2,g3,g4⟩:=ih (by omega);obtain ⟨b',o',cs,e1,_,bI,bL⟩:=h k (by omega);rw [hp] at e1;cases e1;have hlen:=aB.len bL;refine ⟨news++cs,by rw [List.length_append,g1,hlen,Nat.add_mul,Nat.one_mul],λj u hj=>?_,?_,by rw [List.all_append,g4,h1 _ _ _ _ bL];rfl⟩
   .by_cases hlt:j<news.length
    .rw [List.getElem?_append_left hlt] at hj;exact g2 j u hj
    .rw [List.getElem?_append_right (by omega)] at hj;have mG:j - news.length<cs.length:=(List.getElem?_eq_some_iff.1 hj).1;have:=bI (j - news.length) mG;rw [show o+k*(aB.ty α).size+(j - news.length)=o+j by omega] at this;rw [this,<-hj,List.getElem?_eq_getElem mG]
   .rw [List.take_succ_eq_append_getElem (by omega)];exact g3.snoc bL
 obtain ⟨news,g1,g2,g3,g4⟩:=key l.length (Nat.le_refl _);rw [List.take_length] at g3;exact ⟨b,o,news,hp,g1,g2,g3,g4⟩
theorem Ctx.TZ[O Φ]{α}[aB α]{q}{l:List α}{c2 p n cap cs t bytes}(c:Ctx W w (.buf p n cap cs t (aB.ty α).size :: S) Φ){ts ty kb}(hb:Gu P ts t (aB.ty α).size bytes=true)(h1:∀ M w cs (x:α),aB.rep M w cs x->(cs.all λu=>ga u)=true)(bp:∀ M w,Φ M w->Δ M w q l)(h0:0<l.length)(hlen:n+l.length<100000000)(hbytes:bytes<=1000):
  ∃ p' cap' w' news,Sem.run P (builtin Builtin.append #[ts,ts] ty kb #[.slice p n cap,.slice q l.length c2]) w=.ok (.value (.slice p' (n+l.length) cap')) w'/\(∃ g,p'=some ⟨g,0,none⟩) /\
   Ctx W w' (.buf p' (n+l.length) cap' (cs++news) t (aB.ty α).size :: S) (λM w=>Φ M w/\dA M w news l):=by
 obtain ⟨i,z,e1,e2,bI,bL,bz,eX⟩:=Bu hb;have hby:(n+l.length)*i.bytes<=100000000*1000:=Nat.mul_le_mul (by omega) (by omega);obtain ⟨b,o,news,hp,g1,g2,g3,g4⟩:=(bp _ _ c.cy).cells h1 h0;obtain ⟨p',cap',w',h2,c'⟩:=(c.add (Ψ:=λM w=>dA M w news l) g3).append 0 rfl (ty:=ty) e1 e2 bI bL bz (a:=⟨b,o,none⟩) (m:=l.length) (c2:=c2) (news:=news) h0 g1 (λj u hj=>by rw [addr_add];exact g2 j u hj)
  (λu hu=>List.all_eq_true.1 g4 u hu) (by omega) (by omega)
 have hpos:0<(aB.ty α).size:=aB.pos;have mG:0<l.length*(aB.ty α).size:=Nat.mul_pos h0 hpos;refine ⟨p',cap',w',news,by rw [hp];exact zB h2,?_,c'⟩;obtain ⟨g,hg,_⟩:=c'.uR 0 rfl (by rw [List.length_append];omega);exact ⟨g,hg⟩
end
section
variable {P:Program}{W w w':World}{S S' F:List Own}{Φ Ψ:θ}
theorem O.less{Φ:θ}[O Φ]{D M w}(h:Φ (D++M) w):Φ M w :=
 O.step (Φ:=Φ) ⟨bZ.refl _ _,λb hb=>.inl (List.mem_append_right _ hb)⟩ h
theorem Ctx.PY[O Φ]{α}[aB α]{q}{l:List α}{c2 k t bytes}(c:Ctx W w (.blk k [] t :: S) Φ){ts ty kb}(hb:Gu P ts t (aB.ty α).size bytes=true)(h1:∀ M w cs (x:α),aB.rep M w cs x->(cs.all λu=>ga u)=true)(bp:∀ M w,Φ M w->Δ M w q l)(hlen:l.length<100000000)(hbytes:bytes<=1000):
  ∃ p' cap' w' cs,Sem.run P (builtin Builtin.append #[ts,ts] ty kb #[.slice (some ⟨k,0,none⟩) 0 0,.slice q l.length c2]) w=.ok (.value (.slice p' l.length cap')) w' /\
   Ctx W w' (.buf p' l.length cap' cs t (aB.ty α).size :: S) (λM w=>Φ M w/\dA M w cs l):=by
 have c':Ctx W w (.buf (some ⟨k,0,none⟩) 0 0 [] t (aB.ty α).size :: S) Φ:=c.aAy 0 0 (aB.ty α).size rfl (by simp) (by simp [maxLen]);rcases Nat.eq_zero_or_pos l.length with h0|h0
 .obtain ⟨i,z,e1,e2,bI,bL,bz,eX⟩:=Bu hb;have hl:l=[]:=List.eq_nil_of_length_eq_zero h0;subst hl;exact ⟨_,_,w,[],zB (c'.aGV 0 rfl e1 e2 q c2),c'.add dA.nil⟩
 .obtain ⟨p',cap',w',news,h2,_,c3⟩:=c'.TZ (ty:=ty) (kb:=kb) (c2:=c2) hb h1 bp h0 (by omega) hbytes;rw [Nat.zero_add] at h2 c3;exact ⟨p',cap',w',news,h2,c3⟩
def aGC(b o:Nat)(vs:List Value)(M:List Nat)(w:World):Prop:=b ∉ M/\bS w b o vs/\b<w.heap.size
theorem vZ.aPP{M b o cs vs t}(h:vZ W (.blk b cs t) M w)(hv:∀ j,(hj:j<vs.length)->cs[o+j]? = some vs[j]):aGC b o vs M w :=
 ⟨(h.2 b (by simp [Own.dom])).1,dc.row (show dc w b cs t from h.1) hv,Own.Tb h.1 b (by simp [Own.dom])⟩
def TD(W:World)(Q:List Own)(M:List Nat)(w:World):Prop:=(∀ o∈Q,o.at w)/\(dom Q).Nodup/\∀ b∈dom Q,b ∉ M/\W.heap.size<=b
instance aTM(W:World)(Q:List Own):O (λM w=>TD W Q M w):=⟨λhs h=>by
 have hlt:∀ b∈dom Q,b<_:=λb hb=>by
  obtain ⟨o,ho,hb⟩:=List.mem_flatMap.1 hb;exact Own.Tb (h.1 o ho) b hb
 exact ⟨λo ho=>Own.KM (h.1 o ho) λb hb=>hs.qV.block b (hlt b (uz ho hb)) (h.2.2 b (uz ho hb)).1,h.2.1,λb hb=>⟨λhm=>by
  rcases hs.sub b hm with h1|h1
  .exact (h.2.2 b hb).1 h1
  .have:=hlt b hb;omega,(h.2.2 b hb).2⟩⟩⟩
def lZ(W:World)(Q:List Own)(Φ:θ):θ:=λM w=>Φ (dom Q++M) w/\TD W Q M w
instance aTH(W:World)(Q:List Own)(Φ:θ)[O Φ]:O (lZ W Q Φ) :=
 have h1:O (λM w=>Φ (dom Q++M) w):=aLj (dom Q) Φ
 vv (λM w=>Φ (dom Q++M) w) (λM w=>TD W Q M w)
theorem Ctx.aside{Q}(c:Ctx W w (Q++S) Φ):Ctx W w S (lZ W Q Φ):=by
 have hd:=zx Q S;have hn:=c.nodup;rw [hd,List.nodup_append] at hn;refine ⟨c.qV,λx hx=>c.own x (List.mem_append_right _ hx),λb hb=>c.BP b (by rw [hd];exact List.mem_append_right _ hb),hn.2.1,?_,λo ho=>c.own o (List.mem_append_left _ ho),hn.1,λb hb=>⟨λhm=>hn.2.2 b hb b hm rfl,c.BP b (by rw [hd];exact List.mem_append_left _ hb)⟩⟩;have:=c.cy;rw [hd] at this;exact this
theorem Ctx.DJ{Q}(c:Ctx W w S (lZ W Q Φ)):Ctx W w (Q++S) Φ:=by
 obtain ⟨h1,h2,h3,h4⟩:=c.cy;have hd:=zx Q S;refine ⟨c.qV,λx hx=>?_,λb hb=>?_,?_,by rw [hd];exact h1⟩
 .rcases List.mem_append.1 hx with hx|hx
  .exact h2 x hx
  .exact c.own x hx
 .rw [hd] at hb;rcases List.mem_append.1 hb with hb|hb
  .exact (h4 b hb).2
  .exact c.BP b hb
 .rw [hd,List.nodup_append];exact ⟨h3,c.nodup,λa ha b hb e=>by subst e;exact (h4 a ha).1 hb⟩
theorem lZ.parked{Q M}(h:lZ W Q Φ M w){o}(ho:o∈Q):vZ W o M w:=⟨h.2.1 o ho,λb hb=>h.2.2.2 b (uz ho hb)⟩
theorem lZ.less[O Φ]{Q M}(h:lZ W Q Φ M w):Φ M w:=O.less h.1
theorem Ctx.re(c:Ctx W w S Φ)(e:S=S'):Ctx W w S' Φ:=e ▸ c
theorem Ctx.aGk{Q T G}(c:Ctx W w (Q++T++G) Φ):Ctx W w (T++G) (lZ W Q Φ):=Ctx.aside (c.re (μ _ _ _))
theorem Ctx.aQu{Q T G}(c:Ctx W w (T++G) (lZ W Q Φ)):Ctx W w (Q++T++G) Φ:=c.DJ.re (μ _ _ _).symm
theorem Ctx.a2q(c:Ctx W w S Φ)(k:Nat){p n cap cs t size}(hk:S[k]? = some (.buf p n cap cs t size)){b i v}(hp:p=some ⟨b,0,none⟩)(hv:cs[i]? = some v):w.cell? ⟨b,i,none⟩=some v:=by
 obtain ⟨b',h1,_,h2⟩:=c.uR k hk (by have:=(List.getElem?_eq_some_iff.1 hv).1;omega);rw [hp] at h1;cases h1;exact (h2 _ _ hv).1
theorem a2L{α}[aB α]{M p}{l:List α}{cap}(h:Δ M w p l)(k)(hc:l.length<=cap):Δ M w (eB p (aB.ty α).size k cap) (l.drop k):=by
 intro j hj;rw [List.length_drop] at hj;obtain ⟨b,o,cs,rfl,h2,h3,h4⟩:=h (k+j) (by omega);refine ⟨b,o+k*(aB.ty α).size,cs,?_,h2,?_,?_⟩
 .unfold eB;rw [if_neg (by omega)];simp [Addr.add]
 .rw [show o+k*(aB.ty α).size+j*(aB.ty α).size=o+(k+j)*(aB.ty α).size by rw [Nat.add_mul];omega];exact h3
 .rw [List.getElem_drop];exact h4
end
end Go.Vc
end

section
namespace Go.Proofs.YtcmgeboolmmdkaaGreatDoor
open Go.Vc
structure aS where
 term:Int
 data:ByteArray
instance:aB aS:=aB.via (β:=Int × ByteArray) (λx=>(x.term,x.data)) (λU=>⟨U.1,U.2⟩) (λ_=>rfl)
theorem aP8{x U:aS}:x=U ↔ (x.term=U.term/\x.data=U.data):=by cases x;cases U;simp
instance:DecidableEq aS:=λ_ _=>decidable_of_iff _ aP8.symm
structure aH where
 kind:Int
 src:Int
 to:Int
 term:Int
 index:Int
 prev:Int
 υ:Int
 yes:Bool
 ζ:List aS
instance:aB aH:=aB.via (β:=Int × Int × Int × Int × Int × Int × Int × Bool × List aS) (λx=>(x.kind,x.src,x.to,x.term,x.index,x.prev,x.υ,x.yes,x.ζ))
 (λU=>⟨U.1,U.2.1,U.2.2.1,U.2.2.2.1,U.2.2.2.2.1,U.2.2.2.2.2.1,U.2.2.2.2.2.2.1,U.2.2.2.2.2.2.2.1,U.2.2.2.2.2.2.2.2⟩) (λ_=>rfl)
structure fN where
 save:Bool
 term:Int
 ρ:Int
 src:Int
 ζ:List aS
 send:List aH
abbrev er:fN:=⟨false,0,0,0,[],[]⟩
abbrev gL(l:List aH):fN:=⟨false,0,0,0,[],l⟩
structure aG where
 id:Nat
 term:Int
 ρ:Int
 log:List aS
 role:Int
 υ:Nat
 bh:Nat->Bool
 next:Nat->Nat
 Ω:Nat->Nat
def r7:List aS->Int->Int->Bool
 | [],_,_=>true
 | x :: l,least,most=>if (decide (x.term<least)||decide (most<x.term)||decide (2000<(x.data.size:Int)))=true then false else r7 l x.term most
def bB(l:List aS):Nat->Int
 | 0=>0
 | k+1=>match l[k]? with
  | some x=>x.term
  | none=>0
def bu(id:Nat):List Nat:=if id=0 then [1,2] else if id=1 then [0,2] else [0,1]
def put{α:Type}(f:Nat->α)(i:Nat)(x:α):Nat->α:=λj=>if j=i then x else f j
def lA(r:aG)(kind to:Int):aH:=⟨kind,r.id,to,r.term,0,0,0,false,[]⟩
def entriesOf(r:aG)(to:Nat):aH :=
 ⟨2,r.id,to,r.term,((r.next to - 1:Nat):Int),bB r.log (r.next to - 1),r.υ,false,(r.log.drop (r.next to - 1)).take 8⟩
def bT(r:aG):List aH:=(bu r.id).map λi=>entriesOf r i
def fR(id:Nat)(term ρ:Int)(log:List aS):aG:=⟨id,term,ρ,log,0,0,λ_=>false,λ_=>0,λ_=>0⟩
def jS(r:aG)(to:Nat):aH:=⟨0,r.id,to,r.term,r.log.length,bB r.log r.log.length,0,false,[]⟩
def cr(r:aG):aG × fN :=
 if r.role=2 then (r,gL (bT r))
 else if r.term=1099511627776 then (r,er)
 else
  let r1:aG:={ r with term:=r.term+1,ρ:=r.id,role:=1,bh:=λi=>decide (i=r.id) }
  (r1,⟨true,r1.term,r1.ρ,0,[],(bu r.id).map λi=>jS r1 i⟩)
def kC(id:Nat)(m:aH):Bool :=
 decide (0<=m.kind)&&decide (m.kind<=3)&&decide (m.to=id)&&decide (m.src≠id)&&decide (0<=m.src)&&decide (m.src<=2)&&decide (1<=m.term)&&decide (m.term<=1099511627776)&&decide (0<=m.index)&&decide (m.index<=4000) &&
  decide (0<=m.prev)&&decide (m.prev<=m.term) && !(decide (m.index=0)&&decide (m.prev≠0))&&decide (0<=m.υ)&&decide (m.υ<=4000)&&decide ((m.ζ.length:Int)<=8)&&decide (m.index+(m.ζ.length:Int)<=4000)&&r7 m.ζ (max 1 m.prev) m.term
def C6(r:aG)(m:aH):Bool:=decide (bB r.log r.log.length<m.prev)||decide (m.prev=bB r.log r.log.length)&&decide ((r.log.length:Int)<=m.index)
def cV(r:aG)(m:aH):aG × fN :=
 if (decide (m.term=r.term)&&(decide (r.ρ = -1)||decide (r.ρ=m.src))&&C6 r m)=true then ({ r with ρ:=m.src },gL [⟨1,r.id,m.src,r.term,0,0,0,true,[]⟩])
 else (r,gL [lA r 1 m.src])
def wg(b:Bool):Nat:=if b then 1 else 0
def ni(v:Nat->Bool):Nat:=wg (v 0)+wg (v 1)+wg (v 2)
def eC(r:aG)(m:aH):aG × fN :=
 if (decide (r.role≠1)||decide (m.term≠r.term) || !m.yes)=true then (r,er)
 else
  let r1:aG:={ r with bh:=put r.bh m.src.toNat true }
  if ni r1.bh<2 then (r1,er)
  else
   let r2:aG:={ r1 with role:=2,next:=λ_=>r.log.length+1,Ω:=λ_=>0 }
   (r2,gL (bT r2))
def agree:List aS->List aS->Nat
 | a :: l,b :: r=>if a.term=b.term then agree l r+1 else 0
 | _,_=>0
def l5(r:aG)(m:aH):aH:=⟨3,r.id,m.src,r.term,m.index+m.ζ.length,0,0,true,[]⟩
def cM(r:aG)(m:aH):aG × fN :=
 if m.term<r.term then (r,gL [lA r 3 m.src])
 else if r.role=2 then (r,er)
 else
  let r1:aG:={ r with role:=0 }
  if (decide ((r.log.length:Int)<m.index)||decide (bB r.log m.index.toNat≠m.prev))=true then (r1,gL [⟨3,r.id,m.src,r.term,min (r.log.length:Int) (m.index - 1),0,0,false,[]⟩])
  else
   let ix:=m.index.toNat
   let k:=agree (r.log.drop ix) m.ζ
   let c:=max r.υ (min m.υ.toNat (ix+m.ζ.length))
   if k<m.ζ.length then
    if ix+k+1<=r.υ then (r1,er)
    else ({ r1 with log:=r.log.take (ix+k)++m.ζ.drop k,υ:=c },⟨false,0,0,((ix+k+1:Nat):Int),m.ζ.drop k,[l5 r m]⟩)
   else ({ r1 with υ:=c },gL [l5 r m])
def qs(r:aG):Nat:=(bu r.id).foldl (λa i=>max a (r.Ω i)) 0
def cA(r:aG):aG:=if (decide (r.υ<qs r)&&decide (bB r.log (qs r)=r.term))=true then { r with υ:=qs r } else r
def dQ(r:aG)(m:aH):aG × fN :=
 if (decide (r.role≠2)||decide (m.term≠r.term)||m.yes&&decide ((r.log.length:Int)<m.index))=true then (r,er)
 else
  let f:=m.src.toNat
  if m.yes=false then
   let r1:aG:={ r with next:=put r.next f (max (r.Ω f+1) (min (r.next f - 1) (m.index.toNat+1))) }
   (r1,gL [entriesOf r1 f])
  else
   let mt:=max (r.Ω f) m.index.toNat
   let r1:aG:=cA { r with Ω:=put r.Ω f mt,next:=put r.next f (mt+1) }
   if mt+1<=r.log.length then (r1,gL [entriesOf r1 f]) else (r1,er)
def aU(r:aG)(m:aH):aG × fN :=
 if kC r.id m=false then (r,er)
 else
  let r1:aG:=if r.term<m.term then { r with term:=m.term,ρ := -1,role:=0 } else r
  let x:aG × fN:=if m.kind=0 then cV r1 m else if m.kind=1 then eC r1 m else if m.kind=2 then cM r1 m else dQ r1 m
  if (decide (x.1.term=r.term)&&decide (x.1.ρ=r.ρ))=true then x
  else (x.1,{ x.2 with save:=true,term:=x.1.term,ρ:=x.1.ρ })
def aq(r:aG)(data:ByteArray):aG × Int × Int × fN :=
 if r.role≠2 then (r,0,24,er)
 else if 2000<(data.size:Int) then (r,0,1,er)
 else if r.log.length=4000 then (r,0,6,er)
 else
  let x:aS:=⟨r.term,data⟩
  let r1:aG:={ r with log:=r.log++[x] }
  (r1,((r.log.length+1:Nat):Int),0,⟨false,0,0,((r.log.length+1:Nat):Int),[x],bT r1⟩)
structure nc(l:List aS)(most:Int):Prop where
 lo:∀ x∈l,1<=x.term
 hi:∀ x∈l,x.term<=most
 data:∀ x∈l,x.data.size<=2000
 iq:∀ i j,i<=j->(hj:j<l.length)->(hi:i<l.length)->l[i].term<=l[j].term
structure aG.bA(r:aG):Prop where
 id:r.id<=2
 jn:0<=r.term
 gf:r.term<=1099511627776
 sJ : -1<=r.ρ
 sK:r.ρ<=2
 log:nc r.log r.term
 len:r.log.length<=4000
 role:r.role=0\/r.role=1\/r.role=2
 υ:r.υ<=r.log.length
 next:r.role=2->∀ i,1<=r.next i/\r.next i<=r.log.length+1/\r.Ω i<=r.log.length
 bound:∀ i,r.next i<=4001/\r.Ω i<=4000
end Go.Proofs.YtcmgeboolmmdkaaGreatDoor
end

section
namespace Go.Vc
open Go.ChangeShapes Go.WideShapes Go.RowKit
section
variable {H:Type}{enc:TypeId × Value->H}{P:Program}{W:World}
theorem aNo{α}[aB α](d){t v x ps}(hty:gq.is P d (aB.ty α) t=true)(h:DataW.Trod enc P W 0 (λ_=>true) true t v x ps):∃ U:α,aB.rep [] W v.cells.toList U:=by
 obtain ⟨fuel,h⟩:=h;exact aB.opens.ap hty h
theorem aNp{α}[aB α](d){t e v r base x ps}(ht:P.underlying t=some (.slice e))(hv:Value.okWide P W r base t v)(hty:gq.is P d (aB.ty (List α)) t=true)(h:DataW.Trod enc P W 0 (λ_=>true) true t v x ps):∃ (p:Option Addr) (cap:Nat) (l:List α),v=.slice p l.length cap/\l.length<=cap/\cap<=maxLen/\Δ [] W p l:=by
 obtain ⟨a,len,cap,rfl⟩:=okWide_slice ht hv;obtain ⟨l,hl⟩:=aNo (α:=List α) d hty h;obtain ⟨p,c,e,h1,h2,h3⟩:=a9T.1 hl;simp only [Value.cells,List.cons.injEq,Value.slice.injEq,and_true] at e;obtain ⟨rfl,rfl,rfl⟩:=e;exact ⟨a,cap,l,rfl,h1,h2,h3⟩
theorem fL.law{Φ f args}(h:fL Φ P f args (.bool true))(h0:Φ [] W):Calls P f args W λe W'=>∃ u,e=.returned u/\(u=.bool true/\bZ [] W W') :=
 (h.go W W [] (Ctx.start W h0)).mono λe w' ⟨h1,h2⟩=>⟨_,h1,rfl,h2.qV⟩
end
end Go.Vc
end

section
namespace Go.Vc
open Go.RowKit Go.Shelf
section
variable {P:Program}{W w w':World}{S R F:List Own}{Φ Ψ:θ}
theorem Ctx.lose[O Φ](c:Ctx W w (R++S) Φ)(h:bZ (dom R) w w'):Ctx W w' S Φ:=by
 have hn:=c.nodup;rw [zx,List.nodup_append] at hn;refine c.go ⟨h.mono λx hx=>by rw [zx];exact List.mem_append_left _ hx,λb hb=>.inl (by rw [zx];exact List.mem_append_right _ hb)⟩ (λo ho=>?_) hn.2.1;exact Own.KM (c.own o (List.mem_append_right _ ho)) λb hb=>h.block b (c.lt (uz (List.mem_append_right _ ho) hb)) λhm=>hn.2.2 b hm b (uz ho hb) rfl
theorem Ctx.aGT[O Φ]{p n cap cs e}(c:Ctx W w (.buf p n cap cs e 1 :: S) Φ){t u ty kb i}(ht:P.underlying t=some (.slice e))(hu:P.underlying u=some .string)(hi:P.info? e=some i)(hz:i.zero=some (.int .u8 0))(hsize:i.size=1)(hby:i.bytes=1)(s)(hb:n+s.size<=140737488355328)(h63:n+s.size<=maxLen):
  ∃ p' cap' w',Sem.run P (builtin Builtin.append #[t,u] ty kb #[.slice p n cap,.string s]) w=.ok (.value (.slice p' (n+s.size) cap')) w'/\Ctx W w' (.buf p' (n+s.size) cap' (cs++Lib.strCells s) e 1 :: S) Φ:=by
 have hown:=c.own _ (List.mem_cons_self);obtain ⟨cW,hown⟩:=hown;have hxl:cs.length=n:=by simpa using cW
 have hlen:(cs++Lib.strCells s).length=(n+s.size)*1:=by rw [List.length_append,hxl,Lib.strCells_length,Nat.mul_one]
 have grown:∀ (old:Nat),old<n+s.size ->
   Ctx W (w.drew.alloc (.cells (cs.toArray++(Lib.strCells s).toArray++Builtin.zeroCells (Value.int .u8 0).cells (grownCap w (n+s.size) old e - (n+s.size))) e))
    (.buf (some ⟨w.heap.size,0,none⟩) (n+s.size) (grownCap w (n+s.size) old e) (cs++Lib.strCells s) e 1 :: S) Φ:=by
  intro old ho;have hge:=grownCap_ge w (n+s.size) old e;have hcm:grownCap w (n+s.size) old e<=maxLen:=grownCap_le_maxLen w (n+s.size) old e h63;have h:=c.sI (k:=0) (o':=.buf (some ⟨w.heap.size,0,none⟩) (n+s.size) (grownCap w (n+s.size) old e) (cs++Lib.strCells s) e 1) rfl (((bZ.refl _ _).drewN 1).alloc (.cells (cs.toArray++(Lib.strCells s).toArray++Builtin.zeroCells (Value.int .u8 0).cells (grownCap w (n+s.size) old e - (n+s.size))) e)) (by simp [Own.dom]) (by simp [Own.dom])
   ⟨hlen,.inr ⟨w.heap.size,_,_,rfl,Nat.zero_le _,Ly w.drew _,hge,hcm,?_,?_⟩⟩
  .exact h
  .have hz1:(Value.int IntKind.u8 0).cells.size=1:=rfl;simp only [Array.size_append,List.size_toArray,size_zeroCells,hz1,hxl,Lib.strCells_length];omega
  .simp only [Array.toList_append,μ];rw [<-μ,<-hlen];exact List.take_left
 rcases hown with ⟨e1,rfl⟩|⟨g,cap',cur,e1,_,hg,hnc,hcm,hcs,oP⟩
 .cases e1;have hx:cs=[]:=List.eq_nil_of_length_eq_zero hxl;subst hx;by_cases hm:s.size=0
  .have hn:Lib.strCells s=[]:=List.eq_nil_of_length_eq_zero (by rw [Lib.strCells_length];exact hm);refine ⟨none,0,w,zB ?_,by rw [hm,hn];exact c⟩;have hf:=Lib.run_firstCells_string (P:=P) w 1 s;rw [hm] at hf;simp [Builtin.append_,run_underlying ht,run_underlying hu,sizeOf,typeInfo,hi,hsize,Builtin.lenOf,hm,hf]
  .have hr:=run_append_nil_string (P:=P) w t u ty e i (.int .u8 0) ht hu hi hz s (by omega) (by omega) (by rw [hby];omega);have F1:=grown 0 (by omega);simp only [Nat.zero_add,List.nil_append,Array.empty_append] at F1 ⊢;have e1:(s.data.map λb=>Value.int .u8 b.toNat)=(Lib.strCells s).toArray:=by
    apply Array.ext';simp [Lib.strCells]
   rw [e1] at hr;exact ⟨_,_,_,zB hr,F1⟩
 .cases e1;have aSy:cur.size=cap:=by simpa using hcs
  have ht':cur.toList.take n=cs:=by simpa using oP
  by_cases hroom:n+s.size<=cap
  .have hr:=Lib.run_append_room_string (P:=P) w t u ty e i ht hu hi hsize g n cap cur hg s hroom (by omega);refine ⟨_,_,_,zB hr,?_⟩;have h:=c.sI (k:=0) (w':=w.setRow g (cur.toList.take n++Lib.strCells s++cur.toList.drop (n+s.size)).toArray) (o':=.buf (some ⟨g,0,none⟩) (n+s.size) cap (cs++Lib.strCells s) e 1) rfl ⟨rfl,rfl,rfl,by simp,λb _ hb=>setRow_other w g b _ (by simpa [Own.dom] using hb)⟩ (by simp [Own.dom]) (by simp [Own.dom])
    ⟨hlen,.inr ⟨g,cap,_,rfl,Nat.zero_le _,setRow_heap w g cur _ e _ hg,hroom,hcm,?_,?_⟩⟩
   .exact h
   .simp only [List.size_toArray,List.length_append,List.length_take,List.length_drop,Array.length_toList,Lib.strCells_length];omega
   .rw [ht',<-hlen];exact List.take_left
  .have holds:∀ j u,cs[j]? = some u->w.cell? ((⟨g,0,none⟩:Addr).add j)=some u:=by
    intro j u hj;have hlt:j<cs.length:=(List.getElem?_eq_some_iff.1 hj).1;have h2:cur[j]? = some u:=by
     rw [<-ht',List.getElem?_take_of_lt (by omega)] at hj;simpa using hj
    rw [addr_add,Nat.zero_add];simp [World.cell?,hg,h2]
   have hr:=Lib.run_append_grow_string (P:=P) w t u ty e i (.int .u8 0) ht hu hi hz ⟨g,0,none⟩ n cap cs (by rw [hsize];simpa using hxl) holds s (by omega) (by omega) (by rw [hby];exact growslice_fits (by omega) (by omega));exact ⟨_,_,_,zB hr,grown cap (by omega)⟩
def zV(T e:TypeId)(b:Nat)(l:List UInt8)(R:List Own):Prop :=
 ∃ (pa:Value) (p:Option Addr) (cap:Nat),(pa=.pointer none\/pa=.pointer (some ⟨b,0,none⟩))/\R=[.blk b [pa,.slice p l.length cap] T,.buf p l.length cap (Lib.byteCells l) e 1]
theorem zV.fresh[O Φ]{T e b}(c:Ctx W w (.blk b [.pointer none,.slice none 0 0] T :: S) Φ):Ctx W w ([.blk b [.pointer none,.slice none 0 0] T,.buf none 0 0 [] e 1]++S) Φ :=
 ((c.Gz e 1).perm (List.Perm.swap _ _ _))
theorem zV.nil{T e b}:zV T e b [] [.blk b [.pointer none,.slice none 0 0] T,.buf none 0 0 [] e 1]:=⟨.pointer none,none,0,.inl rfl,rfl⟩
end
section
open Go.Proofs
variable {P:Program}{χ:Ren}
theorem aHF{a w D}(h:bZ D a w){p}(hp:p.block∈D)(n):bZ D a (w.freeze p n):=by
 refine h.trans (T:=D) ?_ (λx hx=>.inl hx);unfold World.freeze;split
 .exact bZ.refl _ _
 .refine ⟨rfl,rfl,rfl,by simp,λk hk hn=>?_⟩;simp only [Array.getElem?_modify];rw [if_neg (λe=>hn (by rw [<-e];exact hp))]
set_option maxHeartbeats 1000000 in
set_option maxRecDepth 100000 in
theorem aH1(L:Lays.n169 P χ)(X:Builder.Extra P χ)(b g cap pa l w)(h0:l≠[])(hbk:w.heap[b]? = some (.cells #[pa,.slice (some ⟨g,0,none⟩) l.length cap] (χ.t 72) (0,0)))(hown:w.ownsRow 0 (χ.t 5) 1 (.slice (some ⟨g,0,none⟩) l.length cap) l.length (Lib.byteCells l)):
  Calls P (χ.f 169) #[ε b 0] w λe w'=>e=.returned (.string ⟨l.toArray⟩)/\bZ [g] w w':=by
 have hl0:l.length≠0:=by simpa using h0
 obtain ⟨cur,hg,hnc,hcm,hcs,oP⟩:∃ cur,w.heap[g]? = some (.cells cur (χ.t 5) (0,0))/\l.length<=cap/\cap<=maxLen/\cur.size=cap*1/\cur.toList.take (l.length*1)=Lib.byteCells l:=by
  rcases hown.2 with ⟨hv,_⟩|⟨g',cap',cur,hv,_,r⟩
  .cases hv
  .cases hv;exact ⟨cur,r⟩
 have c1:w.drew.cell? ⟨b,1,none⟩=some (.slice (some ⟨g,0,none⟩) l.length cap):=by
  have:w.drew.heap[b]? = some (.cells #[pa,.slice (some ⟨g,0,none⟩) l.length cap] (χ.t 72) (0,0)):=hbk;rw [Lib.cell_of_heap this];rfl
 have VC:(Builtin.unsafeSliceData_ #[(χ.t 37)] (χ.t 127) #[.slice (some ⟨g,0,none⟩) l.length cap]).run P w.drew=.ok (ε g 0) w.drew :=
  Lib.run_unsafeSliceData_row _ _ _ _ _ _ (by omega)
 have VE:(Builtin.unsafeString_ #[(χ.t 127),(χ.t 3)] (χ.t 9) #[ε g 0,.int .i64 l.length]).run P w.drew=.ok (.string ⟨l.toArray⟩) (w.drew.freeze ⟨g,0,none⟩ l.length):=by
  refine Lib.run_unsafeString_row w.drew (χ.t 127) (χ.t 3) (χ.t 9) (χ.t 5) L.t127 X.cellsByte g cur.size (by have hg':w.drew.heap[g]? = some (.cells cur (χ.t 5) (0,0)):=hg;simp [World.shape?,hg']) l h0 (by omega) (by unfold maxLen at hcm;omega) ?_;intro j x hx;have:=hown.cells (g:=g) rfl j (.int .u8 x.toNat) (by simp [Lib.byteCells,hx]);exact this
 have mixed:=L.mixed;have t72:=L.t72;have a72:=L.a72;have z72:=L.z72;have v72:=L.v72;have ZX:=run_underlying L.t72;have t70:=L.t70;have a70:=L.a70;have z70:=L.z70;have v70:=L.v70;have ZW:=run_underlying L.t70;have t37:=L.t37;have a37:=L.a37;have z37:=L.z37;have v37:=L.v37;have ZU:=run_underlying L.t37;have t127:=L.t127;have a127:=L.a127;have z127:=L.z127;have v127:=L.v127;have ZR:=run_underlying L.t127
 have t3:=L.t3;have a3:=L.a3;have z3:=L.z3;have v3:=L.v3;have u3:=run_underlying L.t3;have t9:=L.t9;have a9:=L.a9;have z9:=L.z9;have v9:=L.v9;have ZZ:=run_underlying L.t9;have t5:=X.t5;have a5:=X.a5;have z5:=X.z5;have v5:=X.v5;have ZV:=run_underlying X.t5
 go_enter L.f169,Body.n169_ntmps χ
 go_wp2
 go_region_o
 all_goals (go_wp2;go_ret;exact ⟨rfl,aHF ((bZ.refl _ _).drewN 1) (p:=⟨g,0,none⟩) (by simp) _⟩)
set_option maxHeartbeats 2000000 in
set_option maxRecDepth 100000 in
theorem aGy(L:Lays.n169 P χ)(X:Builder.Extra P χ)(b p w)(hbk:w.heap[b]? = some (.cells #[p,.slice none 0 0] (χ.t 72) (0,0))):
  Calls P (χ.f 169) #[ε b 0] w λe w'=>e=.returned (.string ⟨#[]⟩)/\bZ [] w w':=by
 have VE:=Any.unsafeString_none L X;have c1:w.drew.cell? ⟨b,1,none⟩=some (.slice none 0 0):=by
  have:w.drew.heap[b]? = some (.cells #[p,.slice none 0 0] (χ.t 72) (0,0)):=hbk;rw [Lib.cell_of_heap this];rfl
 have VC:(Builtin.unsafeSliceData_ #[(χ.t 37)] (χ.t 127) #[.slice none 0 0]).run P w.drew=.ok (.pointer none) w.drew:=rfl;have mixed:=L.mixed;have t72:=L.t72;have a72:=L.a72;have z72:=L.z72;have v72:=L.v72;have ZX:=run_underlying L.t72;have t70:=L.t70;have a70:=L.a70;have z70:=L.z70;have v70:=L.v70;have ZW:=run_underlying L.t70;have t37:=L.t37;have a37:=L.a37;have z37:=L.z37;have v37:=L.v37;have ZU:=run_underlying L.t37
 have t127:=L.t127;have a127:=L.a127;have z127:=L.z127;have v127:=L.v127;have ZR:=run_underlying L.t127;have t3:=L.t3;have a3:=L.a3;have z3:=L.z3;have v3:=L.v3;have u3:=run_underlying L.t3;have t9:=L.t9;have a9:=L.a9;have z9:=L.z9;have v9:=L.v9;have ZZ:=run_underlying L.t9;have t5:=X.t5;have a5:=X.a5;have z5:=X.z5;have v5:=X.v5;have ZV:=run_underlying X.t5
 go_enter L.f169,Body.n169_ntmps χ
 go_wp2
 go_region_o
 all_goals (go_wp2;go_ret;exact ⟨rfl,(bZ.refl _ _).drewN 1⟩)
set_option maxHeartbeats 2000000 in
set_option maxRecDepth 100000 in
theorem aGz(L:Lays.n169 P χ)(X:Builder.Extra P χ)(b g p cur w)(hbk:w.heap[b]? = some (.cells #[p,.slice (some ⟨g,0,none⟩) 0 0] (χ.t 72) (0,0)))(hg:w.heap[g]? = some (.cells cur (χ.t 5) (0,0))):
  Calls P (χ.f 169) #[ε b 0] w λe w'=>e=.returned (.string ⟨#[]⟩)/\bZ [] w w':=by
 have VE:=Any.unsafeString_none L X;have hlt:b<w.heap.size:=by
  rcases Nat.lt_or_ge b w.heap.size with h'|h'
  .exact h'
  .simp [Array.getElem?_eq_none h'] at hbk
 have c1:w.drew.cell? ⟨b,1,none⟩=some (.slice (some ⟨g,0,none⟩) 0 0):=by
  have:w.drew.heap[b]? = some (.cells #[p,.slice (some ⟨g,0,none⟩) 0 0] (χ.t 72) (0,0)):=hbk;rw [Lib.cell_of_heap this];rfl
 have VC:(Builtin.unsafeSliceData_ #[(χ.t 37)] (χ.t 127) #[.slice (some ⟨g,0,none⟩) 0 0]).run P w.drew=.ok (ε w.drew.heap.size 0) (w.drew.alloc (.view ⟨g,0,none⟩ (χ.t 5))) :=
  Lib.run_unsafeSliceData_zero w.drew _ _ (χ.t 5) L.t127 ⟨g,0,none⟩ 0 ((χ.t 5),cur.size) (by have hg':w.drew.heap[g]? = some (.cells cur (χ.t 5) (0,0)):=hg;simp [World.shape?,hg'])
 have c2:(w.drew.alloc (.view ⟨g,0,none⟩ (χ.t 5))).cell? ⟨b,1,none⟩=some (.slice (some ⟨g,0,none⟩) 0 0):=by
  have:(w.drew.alloc (.view ⟨g,0,none⟩ (χ.t 5))).heap[b]? = _:=(Lib.alloc_old w.drew _ b hlt).trans hbk;rw [Lib.cell_of_heap this];rfl
 have c3:(w.alloc (.view ⟨g,0,none⟩ (χ.t 5))).drew.cell? ⟨b,1,none⟩=some (.slice (some ⟨g,0,none⟩) 0 0):=c2;have c0:w.cell? ⟨b,1,none⟩=some (.slice (some ⟨g,0,none⟩) 0 0):=c1;have mixed:=L.mixed;have t72:=L.t72;have a72:=L.a72;have z72:=L.z72;have v72:=L.v72;have ZX:=run_underlying L.t72;have t70:=L.t70;have a70:=L.a70;have z70:=L.z70;have v70:=L.v70;have ZW:=run_underlying L.t70;have t37:=L.t37;have a37:=L.a37;have z37:=L.z37;have v37:=L.v37;have ZU:=run_underlying L.t37
 have t127:=L.t127;have a127:=L.a127;have z127:=L.z127;have v127:=L.v127;have ZR:=run_underlying L.t127;have t3:=L.t3;have a3:=L.a3;have z3:=L.z3;have v3:=L.v3;have u3:=run_underlying L.t3;have t9:=L.t9;have a9:=L.a9;have z9:=L.z9;have v9:=L.v9;have ZZ:=run_underlying L.t9;have t5:=X.t5;have a5:=X.a5;have z5:=X.z5;have v5:=X.v5;have ZV:=run_underlying X.t5
 go_enter L.f169,Body.n169_ntmps χ
 go_wp2
 go_region_o
 all_goals (go_wp2;go_ret;exact ⟨rfl,((bZ.refl _ _).drewN 1).alloc _⟩)
set_option maxHeartbeats 2000000 in
set_option maxRecDepth 100000 in
theorem aH0(L:Lays.n169 P χ)(X:Builder.Extra P χ)(b g cap p w)(hc0:cap≠0)(hbk:w.heap[b]? = some (.cells #[p,.slice (some ⟨g,0,none⟩) 0 cap] (χ.t 72) (0,0))):
  Calls P (χ.f 169) #[ε b 0] w λe w'=>e=.returned (.string ⟨#[]⟩)/\bZ [] w w':=by
 have VE:=Any.unsafeString_none L X;have c1:w.drew.cell? ⟨b,1,none⟩=some (.slice (some ⟨g,0,none⟩) 0 cap):=by
  have:w.drew.heap[b]? = some (.cells #[p,.slice (some ⟨g,0,none⟩) 0 cap] (χ.t 72) (0,0)):=hbk;rw [Lib.cell_of_heap this];rfl
 have VC:(Builtin.unsafeSliceData_ #[(χ.t 37)] (χ.t 127) #[.slice (some ⟨g,0,none⟩) 0 cap]).run P w.drew=.ok (ε g 0) w.drew :=
  Lib.run_unsafeSliceData_row _ _ _ _ _ _ hc0
 clear hc0;have mixed:=L.mixed;have t72:=L.t72;have a72:=L.a72;have z72:=L.z72;have v72:=L.v72;have ZX:=run_underlying L.t72;have t70:=L.t70;have a70:=L.a70;have z70:=L.z70;have v70:=L.v70;have ZW:=run_underlying L.t70;have t37:=L.t37;have a37:=L.a37;have z37:=L.z37;have v37:=L.v37;have ZU:=run_underlying L.t37;have t127:=L.t127;have a127:=L.a127;have z127:=L.z127;have v127:=L.v127;have ZR:=run_underlying L.t127
 have t3:=L.t3;have a3:=L.a3;have z3:=L.z3;have v3:=L.v3;have u3:=run_underlying L.t3;have t9:=L.t9;have a9:=L.a9;have z9:=L.z9;have v9:=L.v9;have ZZ:=run_underlying L.t9;have t5:=X.t5;have a5:=X.a5;have z5:=X.z5;have v5:=X.v5;have ZV:=run_underlying X.t5
 go_enter L.f169,Body.n169_ntmps χ
 go_wp2
 go_region_o
 all_goals (go_wp2;go_ret;exact ⟨rfl,(bZ.refl _ _).drewN 1⟩)
theorem zV.string{W w S R}{Φ:θ}[O Φ]{b l}(L:Lays.n169 P χ)(X:Builder.Extra P χ)(h:zV (χ.t 72) (χ.t 5) b l R)(c:Ctx W w (R++S) Φ){K}(hk:∀ w',Ctx W w' S Φ->K (.returned (.string ⟨l.toArray⟩)) w'):Calls P (χ.f 169) #[ε b 0] w K:=by
 obtain ⟨pa,p,cap,hpa,rfl⟩:=h;have hbk:w.heap[b]? = some (.cells #[pa,.slice p l.length cap] (χ.t 72) (0,0)):=c.blk 0 rfl;have hown:w.ownsRow 0 (χ.t 5) 1 (.slice p l.length cap) l.length (Lib.byteCells l):=c.own _ (List.mem_cons_of_mem _ List.mem_cons_self);by_cases h0:l=[]
 .subst h0;rcases hown.2 with ⟨e,_⟩|⟨g,cap',cur,e,_,hg,_⟩
  .cases e;exact (aGy L X b pa w hbk).mono λe w' ⟨he,hc⟩=>by subst he;exact hk w' (c.lose (hc.mono (by simp)))
  .cases e;by_cases hc0:cap=0
   .subst hc0;exact (aGz L X b g pa cur w hbk hg).mono λe w' ⟨he,hc⟩=>by subst he;exact hk w' (c.lose (hc.mono (by simp)))
   .exact (aH0 L X b g cap pa w hc0 hbk).mono λe w' ⟨he,hc⟩=>by subst he;exact hk w' (c.lose (hc.mono (by simp)))
 .have hl0:l.length≠0:=by simpa using h0
  obtain ⟨g,rfl⟩:∃ g,p=some ⟨g,0,none⟩:=by
   rcases hown.2 with ⟨_,hz⟩|⟨g,cap',cur,hv,_⟩
   .exact absurd hz hl0
   .cases hv;exact ⟨g,rfl⟩
  exact (aH1 L X b g cap pa l w h0 hbk hown).mono λe w' ⟨he,hc⟩=>by subst he;exact hk w' (c.lose (hc.mono (by simp [dom,Own.dom])))
end
def Bq(P:Program)(name:String)(k:IntKind)(zs:List Int):θ:=λM w=>Lib.TabIs P w name k zs/\∀ g,P.globalNamed name=some g->g ∉ M
instance aTP(P:Program)(name:String)(k:IntKind)(zs:List Int):O (Bq P name k zs):=⟨fun {M M' w w'} hs h=>by
 obtain ⟨h1,h2⟩:=h;unfold Lib.TabIs World.var? at h1;cases hg:P.globalNamed name with
 | none=>simp [hg] at h1
 | some g =>
  simp only [hg,Option.bind_some] at h1;have hlt:g<w.heap.size:=by
   rcases Nat.lt_or_ge g w.heap.size with h'|h'
   .exact h'
   .rw [Array.getElem?_eq_none h'] at h1;simp at h1
  refine ⟨?_,λg' hg' hm=>?_⟩
  .unfold Lib.TabIs World.var?;simp only [hg,Option.bind_some];rw [hs.qV.block g hlt (h2 g hg)];exact h1
  .rw [hg] at hg';cases hg';rcases hs.sub g hm with h|h
   .exact h2 g hg h
   .omega⟩
theorem Bq.start{P name k zs w}(h:Lib.TabIs P w name k zs):Bq P name k zs [] w:=⟨h,λ_ _=>by simp⟩
theorem aHG{w k os}:bZ [] w (Sort.grow (w.drewN k) os) :=
 ⟨rfl,rfl,rfl,by show w.heap.size<=(w.heap++os).size;rw [Array.size_append];omega,λj hj _=>by
  show (w.heap++os)[j]? = w.heap[j]?;rw [Array.getElem?_append_left hj]⟩
theorem aLn{P f}{Φ : θ}[O Φ]{name}(hI : ∀ (n : Int), -9223372036854775808 <= n -> n <= 9223372036854775807 -> ∀ w, Lib.TabIs P w name .u64 Lib.pow10Tab ->
   Calls P f #[.int .i64 n] w λe w'=>e=.returned (.string ⟨(Lib.itoa n).toArray⟩)/\∃ k os,w'=Sort.grow (w.drewN k) os)(cL:∀ M w,Φ M w->Bq P name .u64 Lib.pow10Tab M w)(n)(h:κ n):fL Φ P f #[.int .i64 n] (.string ⟨(Lib.itoa n).toArray⟩) :=
 ⟨λW w S c=>(hI n (by unfold κ at h;omega) (by unfold κ at h;omega) w (cL _ _ c.cy).1).mono λe w' ⟨he,k,os,hw⟩=>⟨he,by rw [hw];exact c.call aHG⟩⟩
open Go.ChangeShapes Go.WideShapes Go.ChangeAt
theorem aMT{H enc C os f fn s conds apart fresh handsOn tb b5}(own:ownKnob C.prog.godebug=none)(started:os.Started)(noInit:C.prog.inits.idxOf? f=none)(hfn:C.prog.funcs[f]? = some fn)(laid:laidOutB C.prog=true)(hvars:s.vars=[])(hspec:∀ ds:List (DataW H),ds.length=fn.params.toList.length->(s.fn H (ds++[])).results=[.lit (.bool true)]/\(s.fn H (ds++[])).args=ds/\(s.fn H (ds++[])).vars=[])(hres:fn.resultTypes=#[tb])(htb:C.prog.underlying tb=some .bool)(types:(fn.params.toList.all λt=>C.prog.readableRec t&&decide (t<C.prog.types.size))=true)(witness:∃ (w:World) (tape:Tape) (i:Input),w.os=os/\(w.forCall tape i).Shaped C.prog/\i.vars=[]/\Input.okWide C.prog (w.forCall tape i) .any w.heap.size f i /\
   ((s.pre enc C.prog fn conds apart (w.forCall tape i).memory i.args/\laidMetH C.prog b5 (w.forCall tape i).memory)/\sizedMet enc C.prog fn (OpenSpec.ofChange s) apart (w.forCall tape i).memory i.args)/\Assume.holds {} C.prog (lone (Frame.enter C.prog f i.args .normal) [] (w.forCall tape i)))(contract:∀ (W:World) (base:Nat) (args:Array Value) (ds:List (DataW H)) (p:List MemPlace),
   (∀ (j:Nat) t v,fn.params[j]? = some t->args[j]? = some v->Value.okWide C.prog W .any base t v) ->
   DataW.TrodAll enc C.prog W 0 (λ_=>true) true fn.params.toList args.toList ds p ->
   conds.all (PathCond.test C.prog ⟨fn.params.toList,ds,s.plain.varTypes C.prog,[]⟩)=true->laidMetH C.prog b5 W ->
   Calls C.prog f args W λe W'=>∃ u,e=.returned u/\(u=.bool true/\bZ [] W W')):
  ReturnsInHanded {} C os f .any (λw args=>(s.pre enc C.prog fn conds apart w args/\laidMetH C.prog b5 w)/\sizedMet enc C.prog fn (OpenSpec.ofChange s) apart w args) (s.post enc C.prog fn apart fresh handsOn false):=by
 refine returnsInHanded_of_change_and (X:=λw _=>laidMetH C.prog b5 w) (λ_ _ _ hh h=>h.of_heap hh) own started noInit hfn witness ?_;intro W base args ds gs before hval hW aK9 _ hL _;have VF:=hW;obtain ⟨p,q,hA,hV,rfl,_,_⟩:=hW;rw [hvars] at hV;obtain ⟨rfl,rfl⟩:=trodVars_none hV;simp only [List.append_nil] at VF;refine (contract W base args ds p hval hA aK9 hL).mono λe W' ⟨u,he,hu,hc⟩=>?_;subst he;subst hu
 have hb:Below W.heap.size W W':=hc.below (Nat.le_refl _) (by simp);obtain ⟨e1,e2,bI⟩:=hspec ds (aB3 hA).2;refine ⟨_,rfl,ds,[],p,[],p,[],VF,?_,?_,?_,hb.frame _,λh=>by cases h⟩
 .rw [e1,hres];exact trodAll_mk1 (t:=tb) (v:=.bool true) ⟨1,by simp [DataW.trod,Value.cells,htb]⟩
 .rw [e2];exact aB2 laid hb types hA (λx hx=>by simpa using VF.lt x hx)
 .rw [bI,hvars];rfl
end Go.Vc
end

