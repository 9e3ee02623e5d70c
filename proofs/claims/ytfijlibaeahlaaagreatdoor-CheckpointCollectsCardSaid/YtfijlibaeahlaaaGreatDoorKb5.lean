/-
 The conditions of the walks of some functions,one formula each;'B<f>_run' says that they suffice. The formulas are printed by a program;the kernel compares them with the functions' code.
-/
import Derived.Test.YtfijlibaeahlaaaGreatDoorKb4
import Derived.Lib.Bytealg
open Go.Proofs.Tryz
set_option linter.unusedVariables false
set_option linter.unusedSimpArgs false
section
namespace Go.Proofs.YtfijlibaeahlaaaGreatDoor
set_option maxRecDepth 100000
open Go.Vc
theorem aMz(au:Option Addr)(ψ Θ:Nat):aH F.mH #[.slice au ψ Θ] λW R Φ J=>
 U au.isNone (η W R Φ J (.slice none 0 0)) (∀ (k2:Nat) w3 fW,Ctx W w3 (Own.blk k2 [] 3 :: R++fW) Φ->∃ dL bl aG iN,Sem.run prog (builtin Builtin.append #[22,22] 22 #[false,false] #[.slice (dB k2 0) 0 0,.slice au ψ Θ]) w3=.ok (.value (.slice dL bl aG)) iN/\∃ aT aZ,O aZ/\Ctx W iN (aT++fW) aZ/\η W aT aZ J (.slice dL bl aG)):=aI (hV [0,2,4])
theorem aMZ(jl:Option Addr)(gV me:Nat)(jm:Option Addr)(iB mg:Nat):aH F.Vt #[.slice jl gV me,.slice jm iB mg] λW R Φ J=>
 ε W R Φ F.PI #[.slice jl gV me,.slice jm iB mg] λe2 q=>∃ cX,e2=.returned (I cX)/\q λai aX=>η W ai aX J (.bool (decide (cX=0))):=aI (hV [0,1,4])
theorem aMU(jl:Option Addr)(gV me:Nat)(jm:Option Addr)(iB mg:Nat):aH F.PI #[.slice jl gV me,.slice jm iB mg] λW R Φ J=>
 bI λ(aY:Int->List Own->Y->Nat->Prop)=>(bT W R Φ (aY 0))/\∀ ο aJ aM bZ,O aM->aY ο aJ aM bZ->π W aJ aM λrD=>U (decide (ο<(↑gV:Int))&&decide (ο<(↑iB:Int))) (∃ dR eR,O eR/\κ W aJ aM dR eR/\aa ο gV jl λbO dO=>aa ο iB jm λfe gH=>∃ (n20 n21:Int) (xo:ByteArray),(π W dR eR λiM=>∃ n25 n26 mG,aQ iM bO (dO+ο.toNat*3) [I n25,I n26,.string mG]/\Value.agg #[I n25,I n26,.string mG]=Value.agg #[I n20,I n21,.string xo])/\∃ (n28 n29:Int) (aHl:ByteArray),(π W dR eR λlO=>∃ n33 n34 jK,aQ lO fe (gH+ο.toNat*3) [I n33,I n34,.string jK]/\Value.agg #[I n33,I n34,.string jK]=Value.agg #[I n28,I n29,.string aHl])/\ε W aJ aM F.Vq #[Value.agg #[I n20,I n21,.string xo],Value.agg #[I n28,I n29,.string aHl]] λJQ q=>∃ n40,JQ=.returned (I n40)/\q λa3X aLK=>U (decide (n40≠0)) (η W a3X aLK J (I n40)) (V (ο+1)/\af W a3X aLK bZ (aY (ο+1)))) (U (decide ((↑gV:Int)<(↑iB:Int))) (η W aJ aM J (I (-1))) (U (decide ((↑iB:Int)<(↑gV:Int))) (η W aJ aM J (I 1)) (η W aJ aM J (I 0)))):=aI {hV [0,1,4,5,6,16,29,35,40] with dZ:=[(4,[.held [(0,true),(1,true),(4,true),(5,true),(2,true),(6,true),(3,true),(7,true)],.aE [] (some 8),.aE [9] none])],loops:=[(2,[(5,.one (.int .i64))],[])] }
theorem aMV(a0:Int)(a1:Int)(a2:ByteArray)(b0:Int)(b1:Int)(b2:ByteArray):aH F.Vq #[.agg #[.int .i64 a0,.int .i64 a1,.string a2],.agg #[.int .i64 b0,.int .i64 b1,.string b2]] λW R Φ J=>
 ∀ (b b:Nat),U (decide (a0<b0)) (η W R Φ J (I (-1))) (U (decide (b0<a0)) (η W R Φ J (I 1)) (U (decide (a1<b1)) (η W R Φ J (I (-1))) (U (decide (b1<a1)) (η W R Φ J (I 1)) (U (Op.bytesLess (ByteArray.toList.loop a2 0 []) (ByteArray.toList.loop b2 0 [])) (η W R Φ J (I (-1))) (∃ (a5B:Bool),(∀ (nH:World),Sem.run prog (binOp BinOp.gtr 9 (Value.string a2) (Value.string b2)) nH=Result.ok (Value.bool a5B) nH)/\U a5B (η W R Φ J (I 1)) (η W R Φ J (I 0))))))):=aI {hV [2,3,4,9,14,19,24,29,34] with cT:=[2,3] }
theorem aNO(nE:Option Addr)(iy qD:Nat):aH F.a00 #[.slice nE iy qD] λW R Φ J=>
 U (decide ((↑iy:Int)<=12)) (ε W R Φ F.a03 #[.slice nE iy qD] λe2 q=>∃ c4,e2=.returned (.bool c4)/\q λai aX=>η W ai aX J (.bool c4)) (η W R Φ J (.bool false)):=aI {hV [0,2] with split:=[1] }
theorem aNT(nE:Option Addr)(iy qD:Nat):aH F.a03 #[.slice nE iy qD] λW R Φ J=>
 ε W R Φ F.ZQ #[.slice nE iy qD,Value.func (Fn.func 159) #[] #[]] λe2 q=>∃ c4,e2=.returned (.bool c4)/\q λai aX=>η W ai aX J (.bool !c4):=aI (hV [0,2])
theorem aN3(au:Option Addr)(ψ Θ:Nat)(qf:FuncId)(td:Array Value):aH F.ZQ #[.slice au ψ Θ,.func (.func qf) #[] td] λW R Φ J=>
 ε W R Φ F.ZU #[.slice au ψ Θ,Value.func (Fn.func qf) #[] td] λe2 q=>∃ cX,e2=.returned (I cX)/\q λai aX=>η W ai aX J (.bool (decide (0<=cX))):=aI (hV [0,1,4])
theorem aNS(v0:Int)(v1:Int)(v2:ByteArray):aH F.Mq #[.agg #[.int .i64 v0,.int .i64 v1,.string v2]] λW R Φ J=>
 ∀ (b:Nat) w0 ν,Ctx W w0 (R++ν) Φ->ω F.Z' #[Value.agg #[I v0,I v1,.string v2]] w0 λe2 w3=>∃ c4,e2=.returned (.bool c4)/\∃ ai aX,O aX/\Ctx W w3 (ai++ν) aX/\η W ai aX J (.bool !c4):=aI {hV [1,2] with cT:=[1] }
theorem aNP(v0:Int)(v1:Int)(v2:ByteArray):aH F.Z' #[.agg #[.int .i64 v0,.int .i64 v1,.string v2]] λW R Φ J=>
 ∀ (b:Nat),U (decide (v0=0)) (∃ R0 θ,O θ/\κ W R Φ R0 θ/\ε W R Φ F.Zz #[I v1] λfP q=>∃ cD Lf aHX,fP=.returned (Value.agg #[I cD,I Lf,.string aHX])/\q λmX aKv=>κ W mX aKv R0 θ/\A7 prog 115=true/\η W mX aKv J (.bool (decide (v0=cD)&&(decide (v1=Lf)&&(decide (v2=aHX)&&true))))) (U (decide (v0=1)) (∃ hY nM,O nM/\κ W R Φ hY nM/\ε W R Φ F.a02 #[.string v2] λBd q=>∃ n25 n26 mG,Bd=.returned (Value.agg #[I n25,I n26,.string mG])/\q λkG mN=>κ W kG mN hY nM/\A7 prog 115=true/\U (decide (v0=n25)&&(decide (v1=n26)&&(decide (v2 = mG)&&true))) (η W kG mN J (.bool (decide ((↑v2.size:Int)<=200)))) (η W kG mN J (.bool false))) (∃ kI kj,O kj/\κ W R Φ kI kj/\ε W R Φ F.Rv #[.bool false] λwq q=>∃ n44 n45 MV,wq=.returned (Value.agg #[I n44,I n45,.string MV])/\q λlR rN=>κ W lR rN kI kj/\∃ lS Nc,O Nc/\κ W lR rN lS Nc/\A7 prog 115=true/\U (decide (v0=n44)&&(decide (v1=n45)&&(decide (v2=MV)&&true))) (η W lR rN J (.bool true)) (∀ oD gT,Ctx W oD (lR++gT) rN->ω F.Rv #[.bool true] oD λJU uc=>∃ n61 n62 aI3,JU=.returned (Value.agg #[I n61,I n62,.string aI3])/\∃ rV rQ, O rQ/\Ctx W uc (rV++gT) rQ/\κ W rV rQ lS Nc/\A7 prog 115=true/\η W rV rQ J (.bool (decide (v0=n61)&&(decide (v1=n62)&&(decide (v2=aI3)&&true))))))):=aI {hV [1,2,4,5,12] with cT:=[1],dZ:=[(3,[.held [(0,true),(1,true),(2,true),(3,false)],.aE [4,5] none]),(5,[.held [(0,true),(1,true),(2,true),(3,false)],.aE [4,5,6,7,8,9,10,11] none]),(6,[.held [(0,true),(1,false)],.held [(2,true),(3,true),(4,true),(5,false)],.aE [6,7,8] none])] }
theorem aN7(au:Option Addr)(ψ Θ:Nat)(qf:FuncId)(td:Array Value):aH F.ZU #[.slice au ψ Θ,.func (.func qf) #[] td] λW R Φ J=>
 bI λ(aY:Int->List Own->Y->Nat->Prop)=>(bT W R Φ (aY 0))/\∀ ο aJ aM bZ,O aM->aY ο aJ aM bZ->U (decide (ο<(↑ψ:Int))) (aa ο ψ au λbN dA=>π W aJ aM λcP=>∃ dV n15 AV,aQ cP bN (dA+ο.toNat*3) [I dV,I n15,.string AV]/\∀ je ct,Ctx W je (aJ++ct) aM->k6 prog qf=true/\Calls prog qf (Array.mk (Value.agg #[I dV,I n15,.string AV] :: td.toList)) je λBc iz=>∃ c21,Bc=.returned (.bool c21)/\∃ oL ue,O ue/\Ctx W iz (oL++ct) ue/\U c21 (η W oL ue J (I ο)) (V (ο+1)/\af W oL ue bZ (aY (ο+1)))) (η W aJ aM J (I (-1))):=aI {hV [0,1,4,5,7,8,9,16] with wrap:=[16],loops:=[(2,[(8,.one (.int .i64))],[])] }
theorem aNM(n:Int):aH F.Zz #[.int .i64 n] λW R Φ J=>
 ∀ (b:Nat) w0 ν,Ctx W w0 (R++ν) Φ->J (Value.agg #[I 0,I n,Value.string (ByteArray.mk #[])]) w0:=aI {hV [0,2] with cT:=[2] }
theorem aNR(s:ByteArray):aH F.a02 #[.string s] λW R Φ J=>
 ∀ (b:Nat) w0 ν,Ctx W w0 (R++ν) Φ->J (Value.agg #[I 1,I 0,.string s]) w0:=aI {hV [0,2] with cT:=[2] }
theorem aNI(b:Bool):aH F.Rv #[.bool b] λW R Φ J=>
 ∀ (b_1:Nat),U b (η W R Φ J (Value.agg #[I 2,I 1,Value.string (ByteArray.mk #[])])) (η W R Φ J (Value.agg #[I 2,I 0,Value.string (ByteArray.mk #[])])):=aI {hV [0,2,3] with cT:=[2] }
end Go.Proofs.YtfijlibaeahlaaaGreatDoor
end

section
namespace Go.Proofs.YtfijlibaeahlaaaGreatDoor
set_option maxRecDepth 100000
open Go.Vc
theorem aMh(m0:Int)(m1:Int)(m2:Int)(m3:Int)(m4:Int)(jI:Option Addr)(fy lB:Nat):aH F.Vw #[.agg #[.int .i64 m0,.int .i64 m1,.int .i64 m2,.int .i64 m3,.int .i64 m4,.slice jI fy lB]] λW R Φ J=>
 ∀ (b:Nat),bI λ(aY:Int->List Own->Y->Nat->Prop)=>(bT W R Φ (aY 0))/\∀ ο aJ aM bZ,O aM->aY ο aJ aM bZ->U (decide (ο<(↑fy:Int))) (aa ο fy jI λbN dA=>π W aJ aM λcP=>∃ ia bX bO,cP.cell? (Ξ bN (dA+ο.toNat*3+1))=some (.slice ia bX bO)/\U (decide (12<(↑bX:Int))) (η W aJ aM J (.bool false)) (bI λ(TK:Int->List Own->Y->Nat->Prop)=>(bT W aJ aM (TK 0))/\∀ n25 fU gq kS,O gq->TK n25 fU gq kS->aa ο fy jI λef fS=>π W fU gq λlO=>∃ D5 lq jX,lO.cell? (Ξ ef (fS+ο.toNat*3+1))=some (.slice D5 lq jX)/\U (decide (n25<(↑lq:Int))) (aa ο fy jI λfu jY=>π W fU gq λjO=>∃ eo cv cw,jO.cell? (Ξ fu (jY+ο.toNat*3+1))=some (.slice eo cv cw)/\aa n25 cv eo λn7 jZ=>π W fU gq λpQ=>∃ aHu,pQ.cell? (Ξ n7 (jZ+n25.toNat*3+2))=some (.string aHu)/\U (decide (210<(↑aHu.size:Int))) (η W fU gq J (.bool false)) (V (n25+1)/\af W fU gq kS (TK (n25+1)))) (V (ο+1)/\af W fU gq bZ (aY (ο+1))))) (η W aJ aM J (.bool (decide ((↑fy:Int)<=10)))):=aI {hV [1,2,3,4,9,19,28,42] with cT:=[1],loops:=[(7,[(4,.one (.int .i64))],[]),(2,[(3,.one (.int .i64))],[])] }
theorem aMj(m0:Int)(m1:Int)(m2:Int)(m3:Int)(m4:Int)(jI:Option Addr)(fy lB:Nat):aH F.Vx #[.agg #[.int .i64 m0,.int .i64 m1,.int .i64 m2,.int .i64 m3,.int .i64 m4,.slice jI fy lB]] λW R Φ J=>
 ∀ (b:Nat) w0 ν,Ctx W w0 (R++ν) Φ->π W R Φ λw2=>U (!(decide (0<=m0)&&decide (m0<3)&&decide (0<=m1)&&decide (m1<=1099511627776)&&decide (0<=m2)&&decide (m2<=1099511627776))) (η W R Φ J (.bool false)) (U (!(decide (0<=m3)&&decide (m3<=1099511627776)&&decide (-1<=m4)&&decide (m4<=1099511627776)&&(decide ((↑fy:Int)=0)||decide (m0=0))&&decide ((↑fy:Int)<=8))) (η W R Φ J (.bool false)) (ε W R Φ F.Vv #[.slice jI fy lB] λJE q=>∃ c12,JE=.returned (.bool c12)/\q λgr jg=>U (!c12) (η W gr jg J (.bool false)) (bI λ(mT:Int->List Own->Y->Nat->Prop)=>(bT W gr jg (mT 0))/\∀ n23 cl iT eH,O iT->mT n23 cl iT eH->U (decide (n23<(↑fy:Int))) (aa n23 fy jI λjy kS=>π W cl iT λAh=>∃ xd gb iX,Ah.cell? (Ξ jy (kS+n23.toNat*3+1))=some (.slice xd gb iX)/\ε W cl iT F.Vr #[.slice xd gb iX] λVR q=>∃ a5P,VR=.returned (.bool a5P)/\q λjR yK=>U (!a5P) (η W jR yK J (.bool false)) (V (n23+1)/\af W jR yK eH (mT (n23+1)))) (η W cl iT J (.bool true))))):=aI {hV [1,2,3,4,5,6,85,90,100] with cT:=[1],split:=[4],loops:=[(7,[(6,.one (.int .i64))],[])] }
theorem aMa(jl:Option Addr)(gV me:Nat)(jm:Option Addr)(iB mg:Nat):aH F.Vu #[.slice jl gV me,.slice jm iB mg] λW R Φ J=>
 ∀ (k0:Nat) w1 ck,Ctx W w1 (Own.blk k0 [] 113 :: R++ck) Φ->∃ p3 kT bY y5,Sem.run prog (builtin Builtin.append #[25,25] 25 #[false,false] #[.slice (dB k0 0) 0 0,.slice jl gV me]) w1=.ok (.value (.slice p3 kT bY)) y5/\∃ aJ ig,O ig/\Ctx W y5 (aJ++ck) ig/\∀ Gw pW,Ctx W Gw (aJ++pW) ig->∃ dK zm qn kf,Sem.run prog (builtin Builtin.append #[25,25] 25 #[false,false] #[.slice p3 kT bY,.slice jm iB mg]) Gw=.ok (.value (.slice dK zm qn)) kf/\∃ fm rL,O rL/\Ctx W kf (fm++pW) rL/\ε W fm rL F.Jc #[.slice dK zm qn] λBc q=>∃ gO cK dU,Bc=.returned (.slice gO cK dU)/\q λcl hM=>η W cl hM J (.slice gO cK dU):=aI (hV [0,1,4])
theorem aMf(jl:Option Addr)(gV me:Nat)(jm:Option Addr)(iB mg:Nat):aH F.PL #[.slice jl gV me,.slice jm iB mg] λW R Φ J=>
 U (decide ((↑gV:Int)≠(↑iB:Int))) (η W R Φ J (.bool false)) (bI λ(yT:Int->List Own->Y->Nat->Prop)=>(bT W R Φ (yT 0))/\∀ cD aT nU dA,O nU->yT cD aT nU dA->U (decide (cD<(↑gV:Int))) (∃ dR eR,O eR/\κ W aT nU dR eR/\aa cD gV jl λbO dO=>aa cD iB jm λfe gH=>∃ (n20:Int) (gO:Option Addr) (cK dU:Nat) (n24:Int),(π W dR eR λqJ=>∃ n27 lD ef fS n31,aQ qJ bO (dO+cD.toNat*3) [I n27,.slice lD ef fS,I n31]/\Value.agg #[I n27,.slice lD ef fS,I n31]=Value.agg #[I n20,.slice gO cK dU,I n24])/\∃ (n32:Int) (D5:Option Addr) (lq jX:Nat) (n36:Int),(π W dR eR λrF=>∃ n39 eo cv cw n43,aQ rF fe (gH+cD.toNat*3) [I n39,.slice eo cv cw,I n43]/\Value.agg #[I n39,.slice eo cv cw,I n43]=Value.agg #[I n32,.slice D5 lq jX,I n36])/\ε W aT nU F.FE #[Value.agg #[I n20,.slice gO cK dU,I n24],Value.agg #[I n32,.slice D5 lq jX,I n36]] λVa q=>∃ aD1,Va=.returned (I aD1)/\q λgD Av=>U (decide (aD1≠0)) (η W gD Av J (.bool false)) (aa cD gV jl λgK gd=>aa cD iB jm λk3 jF=>π W gD Av λoD=>∃ n59,oD.cell? (Ξ gK (gd+cD.toNat*3+2))=some (I n59)/\π W gD Av λuc=>∃ n62,uc.cell? (Ξ k3 (jF+cD.toNat*3+2))=some (I n62)/\U (decide (n59≠n62)) (η W gD Av J (.bool false)) (V (cD+1)/\af W gD Av dA (yT (cD+1))))) (η W aT nU J (.bool true))):=aI {hV [0,1,4,5,10,14,39] with dZ:=[(6,[.held [(0,true),(1,true),(4,true),(5,true),(2,true),(6,true),(3,true),(7,true)],.aE [] (some 8),.aE [9,10,11,12,16,17,13,18,14,19,15,20,21,22] none])],loops:=[(4,[(5,.one (.int .i64))],[])] }
theorem aMF(s:ByteArray):aH F.JA #[.string s] λW R Φ J=>
 ε W R Φ F.Gy #[.string s] λe2 q=>∃ aC,e2=.returned (.pointer aC)/\q λai aX=>ε W ai aX F.Ap #[.pointer aC] λlY q=>∃ fA,lY=.returned (I fA)/\q λdR eR=>bI λ(B1:Option Addr->Nat->Nat->Int->List Own->Y->Nat->Prop)=>(bT W dR eR (B1 none 0 0 0))/\∀ o3 dI cK n23 cl iT eH,O iT->B1 o3 dI cK n23 cl iT eH->U (decide (n23<min fA (↑s.size:Int))) (ε W cl iT F.iO #[.pointer aC] λJN q=>∃ n31,JN=.returned (I n31)/\q λiA wH=>∀ (b:Nat) uY pq,Ctx W uY (iA++pq) wH->ω F.sR #[.pointer aC] uY λVR rF=>∃ aHo,VR=.returned (.string aHo)/\∃ jR yK,O yK/\Ctx W rF (jR++pq) yK/\ε W jR yK F.Mp #[.string aHo] λJR q=>∃ M6 vW gI a5b,JR=.returned (Value.tuple #[.slice M6 vW gI,.bool a5b])/\q λgD Av=>U (!a5b) (η W gD Av J (Value.tuple #[.slice none 0 0,.bool false])) (ε W gD Av F.iO #[.pointer aC] λwv q=>∃ eP,wv=.returned (I eP)/\q λgT hO=>∀ (k4:Nat) Aj jS,Ctx W Aj (Own.blk k4 [I n31,.slice M6 vW gI,I eP] 113 :: gT++jS) hO->∃ r4 n9 ja pS,Sem.run prog (builtin Builtin.append #[25,25] 25 #[false,false] #[.slice o3 dI cK,.slice (dB k4 0) 1 1]) Aj=.ok (.value (.slice r4 n9 ja)) pS/\∃ jj kE,O kE/\Ctx W pS (jj++jS) kE/\V (n23+1)/\af W jj kE eH (B1 r4 n9 ja (n23+1)))) (ε W cl iT F.J9 #[.slice o3 dI cK] λVj q=>∃ a5s,Vj=.returned (.bool a5s)/\q λjk j0=>U (!a5s) (η W jk j0 J (Value.tuple #[.slice none 0 0,.bool false])) (ε W jk j0 F.J8 #[.slice o3 dI cK] λVk q=>∃ xu,Vk=.returned (.string xu)/\q λmc sW=>U (decide (xu≠s)) (η W mc sW J (Value.tuple #[.slice none 0 0,.bool false])) (η W mc sW J (Value.tuple #[.slice o3 dI cK,.bool true])))):=aI {hV [0,2,3,4,5,6,7,14,15,16,28,45] with cT:=[6],split:=[13],loops:=[(4,[(5,.one (.slice)),(15,.one (.int .i64))],[])] }
theorem aLn(m0:Int)(m1:Int)(m2:Int)(m3:Int)(m4:Int)(jI:Option Addr)(fy lB:Nat):aH F.Oo #[.agg #[.int .i64 m0,.int .i64 m1,.int .i64 m2,.int .i64 m3,.int .i64 m4,.slice jI fy lB]] λW R Φ J=>
 ∀ (b:Nat),∃ R0 θ,O θ/\κ W R Φ R0 θ/\ε W R Φ F.ki #[I m0] λfP q=>∃ fO,fP=.returned (.string fO)/\q λaT aZ=>κ W aT aZ R0 θ/\ε W aT aZ F.ki #[I m1] λmo q=>∃ fM,mo=.returned (.string fM)/\q λct cq=>κ W ct cq R0 θ/\(fO.size+fM.size).le 9223372036854775807/\ε W ct cq F.ki #[I m2] λjq q=>∃ gl,jq=.returned (.string gl)/\q λcM dj=>κ W cM dj R0 θ/\((fO++fM).size+gl.size).le 9223372036854775807/\∀ lO iA,Ctx W lO (cM++iA) dj->ω F.ki #[I m3] lO λwm uY=>∃ jK,wm = .returned (.string jK)/\∃ kI kj,O kj/\Ctx W uY (kI++iA) kj/\κ W kI kj R0 θ/\((fO++fM++gl).size+jK.size).le 9223372036854775807/\ε W kI kj F.ki #[I m4] λwq q=>∃ qG,wq=.returned (.string qG)/\q λuu Au=>κ W uu Au R0 θ/\((fO++fM++gl++jK).size+qG.size).le 9223372036854775807/\ε W uu Au F.J8 #[.slice jI fy lB] λwu q=>∃ xq,wu=.returned (.string xq)/\q λkK qO=>κ W kK qO R0 θ/\ε W kK qO F.y8 #[.string xq] λJV q=>∃ DW,JV=.returned (.string DW)/\q λmb Nh=>κ W mb Nh R0 θ/\((fO++fM ++ gl++jK++qG).size+DW.size).le 9223372036854775807/\η W mb Nh J (.string (fO++fM++gl++jK++qG++DW)):=aI {hV [1,2] with cT:=[1],dZ:=[(1,[.held [(0,true),(3,true),(7,true),(11,true),(15,true),(19,true),(1,true),(4,true),(8,true),(12,true),(16,true),(20,true),(2,false),(5,false),(6,true),(9,false),(10,true),(13,false),(14,true),(17,false),(18,true),(21,false),(22,false)],.aE [23,24] none])] }
theorem aMC(cx:Option Addr)(bL dh:Nat):aH F.J8 #[.slice cx bL dh] λW R Φ J=>
 ε W R Φ F.F7 #[.slice cx bL dh] λe2 q=>∃ aC bY bl,e2=.returned (.slice aC bY bl)/\q λaJ ig=>∀ (bZ:Nat) rD mX,Ctx W rD (Own.blk bZ [Value.pointer none,Value.slice none 0 0] 97 :: aJ++mX) ig->ω F.Ao #[I (↑bY:Int)] rD λwj Ad=>∃ aHb,wj=.returned (.string aHb)/\∃ fm rL,O rL/\Ctx W Ad (fm++mX) rL/\ε W fm rL F.rB #[aA bZ 0,.string aHb] λBc q=>∃ (n21:Int) (v22:Value),Bc=.returned (Value.tuple #[I n21,v22])/\q λeS jh=>bI λ(iT:Int->List Own->Y->Nat->Prop)=>(bT W eS jh (iT 0))/\∀ n31 iA EL lq,O EL->iT n31 iA EL lq->U (decide (n31<(↑bY:Int))) (aa n31 bY aC λjX fu=>π W iA EL λrF=>∃ n39 eo cv cw n43,aQ rF jX (fu+n31.toNat*3) [I n39,.slice eo cv cw,I n43]/\∀ (b:Nat),∃ e6 e5,O e5/\κ W iA EL e6 e5/\ε W iA EL F.ki #[I n39] λaSz q=>∃ RY,aSz=.returned (.string RY)/\q λux E8=>κ W ux E8 e6 e5/\ε W ux E8 F.a01 #[.slice eo cv cw] λJU q=>∃ aI2,JU=.returned (.string aI2)/\q λjS oF=>κ W jS oF e6 e5/\ε W jS oF F.y8 #[.string aI2] λVh q=>∃ DX,Vh=.returned (.string DX)/\q λqV Ay=>κ W qV Ay e6 e5/\(RY.size+DX.size).le 9223372036854775807/\ε W qV Ay F.ki #[I n43] λaU2 q=>∃ ZH,aU2=.returned (.string ZH)/\q λEs HK=>κ W Es HK e6 e5/\((RY++DX).size+ZH.size).le 9223372036854775807/\ε W Es HK F.rB #[aA bZ 0,.string (RY++DX++ZH)] λaUP q=>∃ (Qx:Int) (aZV:Value),aUP=.returned (Value.tuple #[I Qx,aZV])/\q λrX ug=>V (n31+1)/\af W rX ug lq (iT (n31+1))) (ε W iA EL F.Ml #[aA bZ 0] λaUa q=>∃ aHZ,aUa=.returned (.string aHZ)/\q λaOa abU=>η W aOa abU J (.string aHZ)):=aI {hV [0,2,3,4,6,13,14,15,16] with cT:=[6],dZ:=[(7,[.held [(0,true),(3,true),(8,true),(1,true),(4,true),(9,true),(2,false),(5,false),(6,false),(7,true),(10,false)],.aE [11] (some 12)])],loops:=[(5,[(15,.one (.int .i64))],[])] }
theorem aMN(n:Int):aH F.l6 #[.int .i64 n] λW R Φ J=>
 U (decide (n<0)) (ε W R Φ F.Bh #[I n] λe2 q=>∃ eC,e2=.returned (.string eC)/\q λai aX=>((ByteArray.mk #[OfNat.ofNat 45]).size+eC.size).le 9223372036854775807/\((ByteArray.mk #[OfNat.ofNat 45]++eC).size+(ByteArray.mk #[OfNat.ofNat 59]).size).le 9223372036854775807/\η W ai aX J (.string (ByteArray.mk #[OfNat.ofNat 45]++eC++ByteArray.mk #[OfNat.ofNat 59]))) (V (0 - n)/\ε W R Φ F.Bh #[I (0 - n)] λBa q=>∃ k8,Ba=.returned (.string k8)/\q λiq iP=>(k8.size+(ByteArray.mk #[OfNat.ofNat 59]).size).le 9223372036854775807/\η W iq iP J (.string (k8++ByteArray.mk #[OfNat.ofNat 59]))):=aI (hV [0,2,4])
theorem aMP(cx:Option Addr)(bL dh:Nat):aH F.FD #[.slice cx bL dh] λW R Φ J=>
 V (0 - (↑bL:Int))/\ε W R Φ F.Bh #[I (0 - (↑bL:Int))] λe2 q=>∃ eC,e2=.returned (.string eC)/\q λai aX=>(eC.size+(ByteArray.mk #[OfNat.ofNat 91]).size).le 9223372036854775807/\bI λ(sw:ByteArray->Int->List Own->Y->Nat->Prop)=>(bT W ai aX (sw (eC++ByteArray.mk #[OfNat.ofNat 91]) 0))/\∀ k8 dV fm j3 dO,O j3->sw k8 dV fm j3 dO->U (decide (dV<(↑bL:Int))) (aa dV bL cx λfe gH=>π W fm j3 λiz=>∃ n22,iz.cell? (Ξ fe (gH+dV.toNat))=some (I n22)/\∀ iM cl,Ctx W iM (fm++cl) j3->ω F.l6 #[I n22] iM λJL kD=>∃ mG,JL=.returned (.string mG)/\∃ kG mN, O mN/\Ctx W kD (kG++cl) mN/\(k8.size+mG.size).le 9223372036854775807/\V (dV+1)/\af W kG mN dO (sw (k8++mG) (dV+1))) ((k8.size+(ByteArray.mk #[OfNat.ofNat 93]).size).le 9223372036854775807/\η W fm j3 J (.string (k8++ByteArray.mk #[OfNat.ofNat 93]))):=aI {hV [0,2,3,4,13] with loops:=[(3,[(3,.one (.str)),(4,.one (.int .i64))],[])] }
theorem aMO(n:Int):aH F.Bg #[.int .i64 n] λW R Φ J=>
 U (decide (n<0)) (η W R Φ J (.string (ByteArray.mk #[]))) (ε W R Φ F.l6 #[I n] λbR q=>∃ DV,bR=.returned (.string DV)/\q λaJ ig=>η W aJ ig J (.string DV)):=aI (hV [0,2,4])
theorem aMQ(s:ByteArray):aH F.wz #[.string s] λW R Φ J=>
 V (0 - (↑s.size:Int))/\ε W R Φ F.Bh #[I (0 - (↑s.size:Int))] λe2 q=>∃ eC,e2=.returned (.string eC)/\q λai aX=>(eC.size+(ByteArray.mk #[OfNat.ofNat 58]).size).le 9223372036854775807/\((eC++ByteArray.mk #[OfNat.ofNat 58]).size+s.size).le 9223372036854775807/\((eC++ByteArray.mk #[OfNat.ofNat 58]++s).size+(ByteArray.mk #[OfNat.ofNat 44]).size).le 9223372036854775807/\η W ai aX J (.string (eC++ByteArray.mk #[OfNat.ofNat 58]++s++ByteArray.mk #[OfNat.ofNat 44])):=aI (hV [0,2])
theorem aMi(m0:Int)(m1:Int)(m2:Int)(m3:Int)(m4:Int)(jI:Option Addr)(fy lB:Nat):aH F.PN #[.agg #[.int .i64 m0,.int .i64 m1,.int .i64 m2,.int .i64 m3,.int .i64 m4,.slice jI fy lB]] λW R Φ J=>
 ∀ (b:Nat),∃ R0 θ,O θ/\κ W R Φ R0 θ/\ε W R Φ F.l6 #[I m0] λfP q=>∃ fO,fP=.returned (.string fO)/\q λaT aZ=>κ W aT aZ R0 θ/\ε W aT aZ F.l6 #[I m1] λmo q=>∃ fM,mo=.returned (.string fM)/\q λct cq=>κ W ct cq R0 θ/\(fO.size+fM.size).le 9223372036854775807/\ε W ct cq F.l6 #[I m2] λjq q=>∃ gl,jq=.returned (.string gl)/\q λcM dj=>κ W cM dj R0 θ/\((fO++fM).size+gl.size).le 9223372036854775807/\ε W cM dj F.l6 #[I m3] λwm q=>∃ jK,wm=.returned (.string jK)/\q λkI kj=>κ W kI kj R0 θ/\((fO++fM++gl).size+jK.size).le 9223372036854775807/\ε W kI kj F.l6 #[I m4] λwq q=>∃ qG,wq=.returned (.string qG)/\q λuu Au=>κ W uu Au R0 θ/\((fO++fM++gl++jK).size+qG.size).le 9223372036854775807/\ε W uu Au F.PK #[.slice jI fy lB] λwu q=>∃ xq,wu=.returned (.string xq)/\q λkK qO=>κ W kK qO R0 θ/\ε W kK qO F.wz #[.string xq] λJV q=>∃ DW,JV=.returned (.string DW)/\q λmb Nh=>κ W mb Nh R0 θ/\((fO++fM++gl++jK++qG).size+DW.size).le 9223372036854775807/\η W mb Nh J (.string (fO++fM++gl++jK++qG++DW)):=aI {hV [1,2] with cT:=[1],dZ:=[(1,[.held [(0,true),(3,true),(7,true),(11,true),(15,true),(19,true),(1,true),(4,true),(8,true),(12,true),(16,true),(20,true),(2,false),(5,false),(6,true),(9,false),(10,true),(13,false),(14,true),(17,false),(18,true),(21,false),(22,false)],.aE [23,24] none])] }
theorem aMb(cx:Option Addr)(bL dh:Nat):aH F.PK #[.slice cx bL dh] λW R Φ J=>
 ε W R Φ F.Jc #[.slice cx bL dh] λe2 q=>∃ aC bY bl,e2=.returned (.slice aC bY bl)/\q λaJ ig=>ε W aJ ig F.Bg #[I (↑bY:Int)] λBa q=>∃ k8,Ba=.returned (.string k8)/\q λiq iP=>bI λ(j3:ByteArray->Int->List Own->Y->Nat->Prop)=>(bT W iq iP (j3 k8 0))/\∀ xo n23 cl iT eH,O iT->j3 xo n23 cl iT eH->U (decide (n23<(↑bY:Int))) (∃ cM dj,O dj/\κ W cl iT cM dj/\aa n23 bY aC λn5 gb=>aa n23 bY aC λiX lq=>aa n23 bY aC λjX fu=>∃ (n37:Int),(∀ jO jR, Ctx W jO (cM++jR) dj->∃ n40,jO.cell? (Ξ n5 (gb+n23.toNat*3))=some (I n40)/\I n40=I n37)/\∃ (AJ:Option Addr) (cw n7:Nat),(π W cM dj λuZ=>∃ lE gI eI,uZ.cell? (Ξ iX (lq+n23.toNat*3+1))=some (.slice lE gI eI)/\Value.slice lE gI eI=Value.slice AJ cw n7)/\∃ (n49:Int),(π W cM dj λSI=>∃ n52,SI.cell? (Ξ jX (fu+n23.toNat*3+2))=some (I n52)/\I n52=I n49)/\ε W cl iT F.l6 #[I n37] λwv q=>∃ AY,wv=.returned (.string AY)/\q λgT hO=>κ W gT hO cM dj/\(xo.size+AY.size).le 9223372036854775807/\ε W gT hO F.Vs #[.slice AJ cw n7] λVf q=>∃ w6,Vf=.returned (.string w6)/\q λjj kE=>κ W jj kE cM dj/\ε W jj kE F.wz #[.string w6] λaTr q=>∃ DY,aTr=.returned (.string DY)/\q λOL aLc=>κ W OL aLc cM dj/\((xo++AY).size+DY.size).le 9223372036854775807/\ε W OL aLc F.l6 #[I n49] λaUF q=>∃ ZI,aUF=.returned (.string ZI)/\q λtF aLg=>κ W tF aLg cM dj/\((xo++AY++DY).size+ZI.size).le 9223372036854775807/\V (n23+1)/\∃ IF a1v q8,O a1v/\κ W tF aLg IF a1v/\j3 (xo++AY++DY++ZI) (n23+1) IF a1v q8 /\ q8<eH) (η W cl iT J (.string xo)):=aI {hV [0,2,3,4,5,14] with dZ:=[(6,[.held [(0,true),(1,true),(2,true),(8,true),(9,true),(16,true),(17,true),(3,true),(10,true),(18,true),(4,true),(11,true),(19,true),(5,true),(12,true),(20,true),(6,false),(7,true),(13,false),(14,false),(15,true),(21,false)],.aE [22,23] none])],loops:=[(4,[(4,.one (.str)),(5,.one (.int .i64))],[])] }
theorem aMe(cx:Option Addr)(bL dh:Nat):aH F.Vv #[.slice cx bL dh] λW R Φ J=>
 bI λ(aY:Int->List Own->Y->Nat->Prop)=>(bT W R Φ (aY 0))/\∀ ο aJ aM bZ,O aM->aY ο aJ aM bZ->U (decide (ο<(↑bL:Int))) (∃ pW rK,O rK/\κ W aJ aM pW rK/\aa ο bL cx λiE bX=>∃ (n16:Int),(π W pW rK λje=>∃ n19,je.cell? (Ξ iE (bX+ο.toNat*3+2))=some (I n19)/\I n19=I n16)/\U (decide (n16=0)) (η W aJ aM J (.bool false)) (U (decide (0<ο)) (V (ο - 1)/\aa ο bL cx λcK dU=>∃ (n24:Int) (mE:Option Addr) (eH jy:Nat) (n28:Int),(π W pW rK λAh=>∃ n31 M4 iX lq n35,aQ Ah cK (dU+ο.toNat*3) [I n31,.slice M4 iX lq,I n35]/\Value.agg #[I n31,.slice M4 iX lq,I n35]=Value.agg #[I n24,.slice mE eH jy,I n28])/\(0<=max (ο - 1) 0/\max (ο - 1) 0<(↑bL:Int))/\gA none cx λfu jY=>∃ (n38:Int) (AH:Option Addr) (zy cv:Nat) (n42:Int),(π W pW rK λkg=>∃ n45 lE gI eI n49,aQ kg fu (jY+(max (ο - 1) 0).toNat*3) [I n45,.slice lE gI eI,I n49]/\Value.agg #[I n45,.slice lE gI eI,I n49]=Value.agg #[I n38,.slice AH zy cv,I n42])/\ε W aJ aM F.FE #[Value.agg #[I n38,.slice AH zy cv,I n42],Value.agg #[I n24,.slice mE eH jy,I n28]] λJT q=>∃ aDH,JT=.returned (I aDH)/\q λgv Nf=>U (decide (0<=aDH)) (η W gv Nf J (.bool false)) (V (ο+1)/\af W gv Nf bZ (aY (ο+1)))) (V (ο+1)/\af W aJ aM bZ (aY (ο+1))))) (η W aJ aM J (.bool true)):=aI {hV [0,2,3,7,33] with dZ:=[(4,[.held [(0,true),(1,true),(2,true),(3,true),(4,true),(5,true),(6,true),(7,true),(8,true),(9,true),(10,true),(11,true),(16,true),(17,true),(12,true),(18,true),(13,true),(19,true),(14,true),(15,true)],.aE [] (some 20),.aE [21,22,23] none])],loops:=[(2,[(3,.one (.int .i64))],[])] }
theorem aMd(cx:Option Addr)(bL dh:Nat):aH F.Jc #[.slice cx bL dh] λW R Φ J=>
 ε W R Φ F.Jd #[.slice cx bL dh] λe2 q=>∃ aC bY bl,e2=.returned (.slice aC bY bl)/\q λaJ ig=>bI λ(bf:Option Addr->Nat->Nat->Int->List Own->Y->Nat->Prop)=>(bT W aJ ig (bf none 0 0 0))/\∀ dX bO dO n18 pe sj dI,O sj->bf dX bO dO n18 pe sj dI->U (decide (n18<(↑bY:Int))) (bI λ(yU:Int->Int->List Own->Y->Nat->Prop)=>(bT W pe sj (yU 0 n18))/\∀ n28 n29 fV nV gb,O nV->yU n28 n29 fV nV gb->∃ wP wI,O wI/\κ W fV nV wP wI/\U (decide (n29<(↑bY:Int))) (aa n18 bY aC λjY iF=>∃ (n39:Int) (eo:Option Addr) (cv cw:Nat) (n43:Int),(π W wP wI λuZ=>∃ n46 uS eI gJ gN,aQ uZ jY (iF+n18.toNat*3) [I n46,.slice uS eI gJ,I gN]/\Value.agg #[I n46,.slice uS eI gJ,I gN]=Value.agg #[I n39,.slice eo cv cw,I n43])/\V ((↑bY:Int) - 1)/\(0<=min n29 ((↑bY:Int) - 1)/\min n29 ((↑bY:Int) - 1)<(↑bY:Int))/\gA none aC λgy nw=>∃ (LU:Int) (MB:Option Addr) (k3 jF:Nat) (eP:Int),(π W wP wI λaag=>∃ n60 sJ q6 sC n64,aQ aag gy (nw+(min n29 ((↑bY:Int) - 1)).toNat*3) [I n60,.slice sJ q6 sC,I n64]/\Value.agg #[I n60,.slice sJ q6 sC,I n64]=Value.agg #[I LU,.slice MB k3 jF,I eP])/\ε W fV nV F.FE #[Value.agg #[I n39,.slice eo cv cw,I n43],Value.agg #[I LU,.slice MB k3 jF,I eP]] λaTd q=>∃ n69,aTd=.returned (I n69)/\q λiU jP=>U (decide (n69=0)) (aa n29 bY aC λou ov=>π W iU jP λAl=>∃ qx,Al.cell? (Ξ ou (ov+n29.toNat*3+2))=some (I qx)/\V (n29+1)/\af W iU jP gb (yU (IntKind.i64.wrap (n28+qx)) (n29+1))) (U (decide (n28≠0)) (aa n18 bY aC λkV vc=>π W iU jP λSW=>∃ A4 MG q7 LD aEF,aQ SW kV (vc+n18.toNat*3) [I A4,.slice MG q7 LD,I aEF]/\ε W iU jP F.PM #[Value.agg #[I A4,.slice MG q7 LD,I aEF],I n28] λJZ q=>∃ aEH aGv aC5 LH n99,JZ=.returned (Value.agg #[I aEH,.slice aGv aC5 LH,I n99])/\q λER a0p=>∀ (zi:Nat) Mt ES,Ctx W Mt (Own.blk zi [I aEH,.slice aGv aC5 LH,I n99] 113 :: ER++ES) a0p->∃ Lk CA nr Mv,Sem.run prog (builtin Builtin.append #[25,25] 25 #[false,false] #[.slice dX bO dO,.slice (dB zi 0) 1 1]) Mt=.ok (.value (.slice Lk CA nr)) Mv/\∃ mW oE,O oE/\Ctx W Mv (mW++ES) oE/\af W mW oE dI (bf Lk CA nr n29)) (af W iU jP dI (bf dX bO dO n29)))) (U (decide (n28≠0)) ((0 <= n18/\n18<(↑bY:Int))/\gA none aC λaWk QM=>π W fV nV λaZt=>∃ n125 Ln uC Ka n129,aQ aZt aWk (QM+n18.toNat*3) [I n125,.slice Ln uC Ka,I n129]/\ε W fV nV F.PM #[Value.agg #[I n125,.slice Ln uC Ka,I n129],I n28] λaRU q=>∃ n134 Lo sA ot n138,aRU=.returned (Value.agg #[I n134,.slice Lo sA ot,I n138])/\q λqT Aq=>∀ (zo:Nat) N0 EX,Ctx W N0 (Own.blk zo [I n134,.slice Lo sA ot,I n138] 113 :: qT++EX) Aq->∃ aEo jD Fe Dj,Sem.run prog (builtin Builtin.append #[25,25] 25 #[false,false] #[.slice dX bO dO,.slice (dB zo 0) 1 1]) N0=.ok (.value (.slice aEo jD Fe)) Dj/\∃ yj Dw,O Dw/\Ctx W Dj (yj++EX) Dw/\af W yj Dw dI (bf aEo jD Fe n29)) (af W fV nV dI (bf dX bO dO n29)))) (η W pe sj J (.slice dX bO dO)):=aI {hV [0,2,3,4,5,6,7,13,34,45] with wrap:=[41],dZ:=[(7,[.held [(0,true),(1,true),(2,true),(3,true),(4,true),(5,true),(6,true),(9,true),(10,true),(11,true),(7,true),(12,true),(8,true),(13,true),(14,true),(15,true),(16,true)],.aE [] (some 17),.aE [18,19] none])],loops:=[(7,[(6,.one (.int .i64)),(7,.one (.int .i64))],[]),(4,[(4,.one (.slice)),(5,.one (.int .i64))],[])] }
theorem aMc(a0:Int)(IP:Option Addr)(IM IL:Nat)(a2:Int)(b0:Int)(Ic:Option Addr)(Ib Ia:Nat)(b2:Int):aH F.FE #[.agg #[.int .i64 a0,.slice IP IM IL,.int .i64 a2],.agg #[.int .i64 b0,.slice Ic Ib Ia,.int .i64 b2]] λW R Φ J=>
 ∀ (b b:Nat),U (decide (a0<b0)) (η W R Φ J (I (-1))) (U (decide (b0<a0)) (η W R Φ J (I 1)) (ε W R Φ F.PI #[.slice IP IM IL,.slice Ic Ib Ia] λfP q=>∃ cD,fP=.returned (I cD)/\q λaT aZ=>η W aT aZ J (I cD))):=aI {hV [2,3,4,9,14] with cT:=[2,3] }
theorem aLo(s:ByteArray):aH F.Uo #[.string s] λW R Φ J=>
 ∀ (b:Nat) w0 ν,Ctx W w0 (R++ν) Φ->ω F.Gy #[.string s] w0 λe2 w3=>∃ aC,e2=.returned (.pointer aC)/\∃ ai aX,O aX/\Ctx W w3 (ai++ν) aX/\ε W ai aX F.iO #[.pointer aC] λlY q=>∃ fA,lY=.returned (I fA)/\q λdR eR=>ε W dR eR F.iO #[.pointer aC] λBb q=>∃ n18,Bb=.returned (I n18)/\q λpe sS=>ε W pe sS F.iO #[.pointer aC] λBd q=>∃ n25,Bd=.returned (I n25)/\q λfU gm=>ε W fU gm F.iO #[.pointer aC] λaSC q=>∃ n32,aSC=.returned (I n32)/\q λwP wI=>ε W wP wI F.iO #[.pointer aC] λBf q=>∃ n39,Bf=.returned (I n39)/\q λOG Sw=>∀ (b:Nat) aK5 tE,Ctx W aK5 (OG++tE) Sw->ω F.sR #[.pointer aC] aK5 λJS pQ=>∃ MV,JS=.returned (.string MV)/\∃ lR rN,O rN/\Ctx W pQ (lR++tE) rN/\ε W lR rN F.JA #[.string MV] λwu q=>∃ YV gd k3 a5e,wu=.returned (Value.tuple #[.slice YV gd k3,.bool a5e])/\q λmZ mR=>U (!a5e) (η W mZ mR J (Value.tuple #[Value.agg #[I 0,I 0,I 0, I 0,I 0,.slice none 0 0],Value.bool false])) (ε W mZ mR F.NO #[.pointer aC] λaTU q=>∃ a5l,aTU=.returned (.bool a5l)/\q λkL nP=>U (!a5l) (η W kL nP J (Value.tuple #[Value.agg #[I 0,I 0,I 0,I 0,I 0,.slice none 0 0],Value.bool false])) (ε W kL nP F.Up #[Value.agg #[I fA,I n18,I n25,I n32,I n39,.slice YV gd k3]] λJY q=>∃ a5p,JY=.returned (.bool a5p)/\q λoN sU=>U (!a5p) (η W oN sU J (Value.tuple #[Value.agg #[I 0,I 0,I 0,I 0,I 0,.slice none 0 0],Value.bool false])) (η W oN sU J (Value.tuple #[Value.agg #[I fA,I n18,I n25,I n32,I n39,.slice YV gd k3],Value.bool true])))):=aI {hV [0,2,3,4,5,6,7,40] with cT:=[2,5],split:=[5] }
theorem aME(cx:Option Addr)(bL dh:Nat):aH F.J9 #[.slice cx bL dh] λW R Φ J=>
 bI λ(aY:Int->List Own->Y->Nat->Prop)=>(bT W R Φ (aY 0))/\∀ ο aJ aM bZ,O aM->aY ο aJ aM bZ->U (decide (ο<(↑bL:Int))) (aa ο bL cx λbN dA=>π W aJ aM λcP=>∃ dV dX bO dO n18,aQ cP bN (dA+ο.toNat*3) [I dV,.slice dX bO dO,I n18]/\∀ (b:Nat),∃ pe sS,O sS/\κ W aJ aM pe sS/\U (decide (n18=0)) (η W aJ aM J (.bool false)) (U (decide (0<ο)) (V (ο - 1)/\(0<=ο - 1/\ο - 1<(↑bL:Int))/\gA none cx λfq eH=>∃ (n27:Int) (lD:Option Addr) (ef fS:Nat) (n31:Int),(π W pe sS λqK=>∃ n34 xe fu jY n38,aQ qK fq (eH+(ο - 1).toNat*3) [I n34,.slice xe fu jY,I n38]/\Value.agg #[I n34,.slice xe fu jY,I n38]=Value.agg #[I n27,.slice lD ef fS,I n31])/\ε W aJ aM F.BV #[Value.agg #[I n27,.slice lD ef fS,I n31],Value.agg #[I dV,.slice dX bO dO,I n18]] λVW q=>∃ n43,VW=.returned (I n43)/\q λe6 e5=>U (decide (0<=n43)) (η W e6 e5 J (.bool false)) (V (ο+1)/\af W e6 e5 bZ (aY (ο+1)))) (V (ο+1)/\af W aJ aM bZ (aY (ο+1))))) (η W aJ aM J (.bool true)):=aI {hV [0,2,3,4,5,6,7,8,28] with cT:=[4],dZ:=[(4,[.held [(0,true),(1,true),(2,true),(3,true),(4,true),(5,true),(6,true),(7,true),(8,true),(12,true),(9,true),(10,true),(11,true)],.aE [] (some 13),.aE [14,15,16] none])],loops:=[(2,[(7,.one (.int .i64))],[])] }
theorem aMR(n:Int):aH F.Bh #[.int .i64 n] λW R Φ J=>
 ((10:Int)=0->False)/\V (48 - n.tmod 10)/\∀ (k0:Nat) w1 ck,Ctx W w1 (Own.blk k0 [.int IntKind.u8 (IntKind.u8.wrap (48 - n.tmod 10))] 5 :: R++ck) Φ->∃ (fN:ByteArray) (rG:World),Sem.run prog (convert 95 9 (Value.slice (dB k0 0) 1 1)) w1=Result.ok (Value.string fN) rG/\∃ ai aX,O aX/\Ctx W rG (ai++ck) aX/\U (decide (-10<n)) (η W ai aX J (.string fN)) (((10:Int)=0->False)/\V (n.tdiv 10)/\ε W ai aX F.Bh #[I (n.tdiv 10)] λBa q=>∃ k8,Ba=.returned (.string k8)/\q λiq iP=>(k8.size+fN.size).le 9223372036854775807/\η W iq iP J (.string (k8++fN))):=aI (hV [0,2,3,11])
theorem aMY(nE:Option Addr)(iy qD:Nat):aH F.Vs #[.slice nE iy qD] λW R Φ J=>
 ε W R Φ F.Bg #[I (↑iy:Int)] λe2 q=>∃ eC,e2=.returned (.string eC)/\q λai aX=>bI λ(sw:ByteArray->Int->List Own->Y->Nat->Prop)=>(bT W ai aX (sw eC 0))/\∀ k8 dV fm j3 dO,O j3->sw k8 dV fm j3 dO->U (decide (dV<(↑iy:Int))) (aa dV iy nE λfe gH=>π W fm j3 λiz=>∃ n22 n23 aHh,aQ iz fe (gH+dV.toNat*3) [I n22,I n23,.string aHh]/\ε W fm j3 F.Vp #[Value.agg #[I n22,I n23,.string aHh]] λVL q=>∃ GX,VL=.returned (.string GX)/\q λfV mO=>(k8.size+GX.size).le 9223372036854775807 /\ V (dV+1)/\af W fV mO dO (sw (k8++GX) (dV+1))) (η W fm j3 J (.string k8)):=aI {hV [0,2,3,4,11] with loops:=[(3,[(3,.one (.str)),(4,.one (.int .i64))],[])] }
theorem T6(cx:Option Addr)(bL dh:Nat):aH F.Jd #[.slice cx bL dh] λW R Φ J=>
 U (decide ((↑bL:Int)<2)) (η W R Φ J (.slice cx bL dh)) (((2:Int)=0->False)/\V ((↑bL:Int).tdiv 2)/\(0<=(↑bL:Int).tdiv 2/\(↑bL:Int).tdiv 2<=(↑dh:Int))/\ε W R Φ F.Jd #[.slice (aV cx 3 0 dh) ((↑bL:Int).tdiv 2).toNat dh] λbR q=>∃ vr aG Cr,bR=.returned (.slice vr aG Cr)/\q λaT aZ=>((2:Int)=0->False)/\V ((↑bL:Int).tdiv 2)/\(0<=(↑bL:Int).tdiv 2/\(↑bL:Int).tdiv 2<=(↑bL:Int)/\bL<=dh)/\ε W aT aZ F.Jd #[.slice (aV cx 3 ((↑bL:Int).tdiv 2).toNat dh) (bL - ((↑bL:Int).tdiv 2).toNat) (dh - ((↑bL:Int).tdiv 2).toNat)] λwk q=>∃ dX bO dO,wk=.returned (.slice dX bO dO)/\q λct cq=>bI λ(sj:Option Addr->Nat->Nat->Int->Int->List Own->Y->Nat->Prop)=>(bT W ct cq (sj none 0 0 0 0))/\∀ GD jy kS n29 n30 eU so iX,O so->sj GD jy kS n29 n30 eU so iX->π W eU so λuY=>U (decide (n29<(↑aG:Int))||decide (n30<(↑bO:Int))) (π W eU so λnI=>U (decide (n29<(↑aG:Int))&&decide (n30<(↑bO:Int))) (∃ kJ ji,O ji/\κ W eU so kJ ji/\aa n29 aG vr λcw n7=>aa n30 bO dX λjZ jz=>∃ (n46:Int) (uS:Option Addr) (eI gJ:Nat) (gN:Int),(π W kJ ji λrH=>∃ LU MB k3 jF eP,aQ rH cw (n7+n29.toNat*3) [I LU,.slice MB k3 jF,I eP]/\Value.agg #[I LU,.slice MB k3 jF,I eP]=Value.agg #[I n46,.slice uS eI gJ,I gN])/\∃ (LW:Int) (AK:Option Addr) (k4 sB:Nat) (n62:Int),(π W kJ ji λaam=>∃ lC sK sD jG n69,aQ aam jZ (jz+n30.toNat*3) [I lC,.slice sK sD jG,I n69]/\Value.agg #[I lC,.slice sK sD jG,I n69]=Value.agg #[I LW,.slice AK k4 sB,I n62])/\ε W eU so F.FE #[Value.agg #[I n46,.slice uS eI gJ,I gN],Value.agg #[I LW,.slice AK k4 sB,I n62]] λJY q=>∃ qw,JY=.returned (I qw)/\q λoN sU=>U (decide (qw<=0)) (aa n29 aG vr λjb k5=>π W oN sU λa0Y=>∃ Lb aGk vc uJ Ld,aQ a0Y jb (k5+n29.toNat*3) [I Lb,.slice aGk vc uJ,I Ld]/\∀ (Qc:Nat) Am mc,Ctx W Am (Own.blk Qc [I Lb,.slice aGk vc uJ,I Ld] 113 :: oN++mc) sU->∃ aGt LF q8 An,Sem.run prog (builtin Builtin.append #[25,25] 25 #[false,false] #[.slice GD jy kS,.slice (dB Qc 0) 1 1]) Am=.ok (.value (.slice aGt LF q8)) An/\∃ BD Nk,O Nk/\Ctx W An (BD++mc) Nk/\V (n29+1)/\af W BD Nk iX (sj aGt LF q8 (n29+1) n30)) (aa n30 bO dX λvQ qm=>π W oN sU λwA=>∃ n104 Lk CA nr n108,aQ wA vQ (qm+n30.toNat*3) [I n104,.slice Lk CA nr,I n108]/\∀ (Fc:Nat) (Ac:World) (Hl : List Own),Ctx W Ac (Own.blk Fc [I n104,.slice Lk CA nr,I n108] 113 :: oN++Hl) sU->∃ aEc KW a98 aJB,Sem.run prog (builtin Builtin.append #[25,25] 25 #[false,false] #[.slice GD jy kS,.slice (dB Fc 0) 1 1]) Ac=.ok (.value (.slice aEc KW a98)) aJB/\∃ a2U a0q,O a0q/\Ctx W aJB (a2U++Hl) a0q/\V (n30+1)/\af W a2U a0q iX (sj aEc KW a98 n29 (n30+1)))) (U (decide ((↑bO:Int)<=n30)) (aa n29 aG vr λQN KZ=>π W eU so λaZu=>∃ n127 aEf xJ uD n131,aQ aZu QN (KZ+n29.toNat*3) [I n127,.slice aEf xJ uD,I n131]/\∀ (Kb:Nat) Mz EW,Ctx W Mz (Own.blk Kb [I n127,.slice aEf xJ uD,I n131] 113 :: eU++EW) so->∃ Lo sA ot xx,Sem.run prog (builtin Builtin.append #[25,25] 25 #[false,false] #[.slice GD jy kS,.slice (dB Kb 0) 1 1]) Mz=.ok (.value (.slice Lo sA ot)) xx/\∃ qT Aq,O Aq/\Ctx W xx (qT++EW) Aq/\V (n29+1)/\af W qT Aq iX (sj Lo sA ot (n29+1) n30)) (aa n30 bO dX λFe n4=>π W eU so λS3=>∃ n150 aEs zq gx n154,aQ S3 Fe (n4+n30.toNat*3) [I n150,.slice aEs zq gx,I n154]/\∀ (zu:Nat) aJK a2e,Ctx W aJK (Own.blk zu [I n150,.slice aEs zq gx,I n154] 113 :: eU ++ a2e) so->∃ mC jE lg aJM,Sem.run prog (builtin Builtin.append #[25,25] 25 #[false,false] #[.slice GD jy kS,.slice (dB zu 0) 1 1]) aJK=.ok (.value (.slice mC jE lg)) aJM/\∃ B7 yF,O yF/\Ctx W aJM (B7++a2e) yF/\V (n30+1)/\af W B7 yF iX (sj mC jE lg n29 (n30+1))))) (η W eU so J (.slice GD jy kS))):=aI {hV [0,2,3,4,5,6,7,8,11,34,48,59] with dZ:=[(11,[.held [(0,true),(1,true),(4,true),(5,true),(2,true),(6,true),(3,true),(7,true)],.aE [] (some 8),.aE [9,10] none])],loops:=[(8,[(5,.one (.slice)),(6,.one (.int .i64)),(7,.one (.int .i64))],[])] }
theorem aMg(d0:Int)(J7:Option Addr)(J6 J5:Nat)(d2:Int)(n:Int):aH F.PM #[.agg #[.int .i64 d0,.slice J7 J6 J5,.int .i64 d2],.int .i64 n] λW R Φ J=>
 ∀ (b b:Nat),∃ R0 θ,O θ/\κ W R Φ R0 θ/\∀ (kT:Nat),κ W (Own.blk kT [] 115 :: R) Φ (R0) θ/\∀ gC bV,Ctx W gC (Own.blk kT [] 115 :: R++bV) Φ->∃ iK bN dA cP,Sem.run prog (builtin Builtin.append #[111,111] 111 #[false,false] #[.slice (dB kT 0) 0 0,.slice J7 J6 J5]) gC=.ok (.value (.slice iK bN dA)) cP/\∃ gr jg,O jg/\Ctx W cP (gr++bV) jg/\κ W gr jg R0 θ/\η W gr jg J (Value.agg #[I d0,.slice iK bN dA,I n]):=aI {hV [1,2,4] with cT:=[2,4],dZ:=[(1,[.held [(0,true),(3,true),(6,true),(1,true),(4,true),(2,false),(5,false)],.aE [7] (some 8)])] }
theorem aLq(m0:Int)(m1:Int)(m2:Int)(m3:Int)(m4:Int)(jI:Option Addr)(fy lB:Nat):aH F.Up #[.agg #[.int .i64 m0,.int .i64 m1,.int .i64 m2,.int .i64 m3,.int .i64 m4,.slice jI fy lB]] λW R Φ J=>
 ∀ (b:Nat),bI λ(aY:Int->List Own->Y->Nat->Prop)=>(bT W R Φ (aY 0))/\∀ ο aJ aM bZ,O aM->aY ο aJ aM bZ->U (decide (ο<4)) (∃ (kW:Int),(0<=ο/\ο<4/\Ey (0+ο.toNat) [I m1,I m2,I m3,I (max m4 0)]=some (I kW))/\π W aJ aM λnH=>U (decide (kW<0)||decide (1099511627776<kW)||decide (m4 < -1)) (η W aJ aM J (.bool false)) (V (ο+1)/\af W aJ aM bZ (aY (ο+1)))) (π W aJ aM λiz=>U (decide (m0<0)||decide (3<=m0)||decide (8<(↑fy:Int))||decide (m0≠0)&&decide (0<(↑fy:Int))) (η W aJ aM J (.bool false)) (ε W aJ aM F.J9 #[.slice jI fy lB] λaRx q=>∃ c28,aRx=.returned (.bool c28)/\q λpg wG=>U c28 (ε W pg wG F.ZP #[.slice jI fy lB,Value.func (Fn.func 135) #[] #[]] λwm q=>∃ a5N,wm=.returned (.bool a5N)/\q λkI kj=>η W kI kj J (.bool !a5N)) (η W pg wG J (.bool false)))):=aI {hV [1,2,4,14,15,16,28,54] with cT:=[1],split:=[9],loops:=[(2,[(15,.one (.int .i64))],[])] }
theorem aMT(v0:Int)(v1:Int)(v2:ByteArray):aH F.Vp #[.agg #[.int .i64 v0,.int .i64 v1,.string v2]] λW R Φ J=>
 ∀ (b:Nat),∃ R0 θ,O θ/\κ W R Φ R0 θ/\ε W R Φ F.l6 #[I v0] λfP q=>∃ fO,fP=.returned (.string fO)/\q λaT aZ=>κ W aT aZ R0 θ/\ε W aT aZ F.l6 #[I v1] λmo q=>∃ fM,mo=.returned (.string fM)/\q λct cq=>κ W ct cq R0 θ/\(fO.size+fM.size).le 9223372036854775807/\ε W ct cq F.wz #[.string v2] λjq q=>∃ gl,jq=.returned (.string gl)/\q λcM dj=>κ W cM dj R0 θ/\((fO++fM).size+gl.size).le 9223372036854775807/\η W cM dj J (.string (fO++fM++gl)):=aI {hV [1,2] with cT:=[1],dZ:=[(1,[.held [(0,true),(3,true),(7,true),(1,true),(4,true),(8,true),(2,false),(5,false),(6,true),(9,false)],.aE [10,11] none])] }
theorem aN2(au:Option Addr)(ψ Θ:Nat)(qf:FuncId)(td:Array Value):aH F.ZP #[.slice au ψ Θ,.func (.func qf) #[] td] λW R Φ J=>
 ε W R Φ F.ZT #[.slice au ψ Θ,Value.func (Fn.func qf) #[] td] λe2 q=>∃ cX,e2=.returned (I cX)/\q λai aX=>η W ai aX J (.bool (decide (0<=cX))):=aI (hV [0,1,4])
theorem aLp(d0:Int)(J7:Option Addr)(J6 J5:Nat)(d2:Int):aH F.Uq #[.agg #[.int .i64 d0,.slice J7 J6 J5,.int .i64 d2]] λW R Φ J=>
 ∀ (b:Nat) w0 ν,Ctx W w0 (R++ν) Φ->ω F.a00 #[.slice J7 J6 J5] w0 λe2 w3=>∃ c4,e2=.returned (.bool c4)/\∃ ai aX,O aX/\Ctx W w3 (ai++ν) aX/\η W ai aX J (.bool !c4):=aI {hV [1,2] with cT:=[1] }
theorem aN6(au:Option Addr)(ψ Θ:Nat)(qf:FuncId)(td:Array Value):aH F.ZT #[.slice au ψ Θ,.func (.func qf) #[] td] λW R Φ J=>
 bI λ(aY:Int->List Own->Y->Nat->Prop)=>(bT W R Φ (aY 0))/\∀ ο aJ aM bZ,O aM->aY ο aJ aM bZ->U (decide (ο<(↑ψ:Int))) (aa ο ψ au λbN dA=>π W aJ aM λcP=>∃ dV dX bO dO n18,aQ cP bN (dA+ο.toNat*3) [I dV,.slice dX bO dO,I n18]/\∀ rE oK,Ctx W rE (aJ++oK) aM->k6 prog qf=true/\Calls prog qf (Array.mk (Value.agg #[I dV,.slice dX bO dO,I n18] :: td.toList)) rE λP9 pP=>∃ a5G,P9=.returned (.bool a5G)/\∃ cl hM,O hM/\Ctx W pP (cl++oK) hM/\U a5G (η W cl hM J (I ο)) (V (ο+1)/\af W cl hM bZ (aY (ο+1)))) (η W aJ aM J (I (-1))):=aI {hV [0,1,4,5,7,8,9,16] with wrap:=[16],loops:=[(2,[(8,.one (.int .i64))],[])] }
end Go.Proofs.YtfijlibaeahlaaaGreatDoor
end

section
namespace Go.Vc
section
variable {P:Program}{W w:World}{S F:List Own}{Φ Ψ:Y}
structure Quiet(P:Program)(f:FuncId)(args:Array Value)(v:Value):Prop where
 go:∀ w,Calls P f args w λe w'=>e=.returned v/\w'=w
structure fE(P:Program)(f:FuncId)(args:Array Value)(v:Value):Prop where
 go:∀ (W w:World) (S:List Own) (Φ:Y),O Φ->Ctx W w S Φ->Calls P f args w λe w'=>e=.returned v/\Ctx W w' S Φ
theorem Quiet.W9{f:FuncId}{args:Array Value}{v:Value}(h:Quiet P f args v):fE P f args v :=
 ⟨λW w S Φ _ c=>(h.go w).mono λe w' ⟨h1,h2⟩=>by subst h2;exact ⟨h1,c⟩⟩
theorem fE.use{f:FuncId}{args:Array Value}{v:Value}(h:fE P f args v)[hs:O Φ](c:Ctx W w S Φ){K:c6}(hk:∀ w',Ctx W w' S Φ->K (.returned v) w'):Calls P f args w K :=
 (h.go W w S Φ hs c).mono λe w' ⟨he,c'⟩=>by subst he;exact hk w' c'
theorem l7{f:FuncId}{args:Array Value}{v:Value}{υ:World->List Own->Y->(Value->World->Prop)->Prop}
  (run:∀ ⦃W w:World⦄ ⦃R:List Own⦄ ⦃Φ:Y⦄ [O Φ] ⦃J:Value->World->Prop⦄,Ctx W w R Φ->υ W R Φ J->Calls P f args w λe w'=>∃ v,e=.returned v/\J v w')
  (h:∀ (W:World) (R:List Own) (Φ:Y),O Φ->υ W R Φ λu w'=>u=v/\Ctx W w' R Φ):fE P f args v :=
 ⟨λW w S Φ hs c=>On (run c (h W S Φ hs)) λu w' ⟨h1,h2⟩=>⟨by rw [h1],h2⟩⟩
structure ay(Φ:Y)(P:Program)(f:FuncId)(args:Array Value)(v:Value):Prop where
 go:∀ (W w:World) (S:List Own),Ctx W w S Φ->Calls P f args w λe w'=>e=.returned v/\Ctx W w' S Φ
theorem ay.use{f:FuncId}{args:Array Value}{v:Value}(h:ay Φ P f args v)(c:Ctx W w S Φ){K:c6}(hk:∀ w',Ctx W w' S Φ->K (.returned v) w'):Calls P f args w K :=
 (h.go W w S c).mono λe w' ⟨he,c'⟩=>by subst he;exact hk w' c'
theorem fE.in[hs:O Φ]{f:FuncId}{args:Array Value}{v:Value}(h:fE P f args v):ay Φ P f args v:=⟨λW w S c=>h.go W w S Φ hs c⟩
theorem dN[O Φ]{f:FuncId}{args:Array Value}{v:Value}{υ:World->List Own->Y->(Value->World->Prop)->Prop}
  (run:∀ ⦃W w:World⦄ ⦃R:List Own⦄ ⦃Φ:Y⦄ [O Φ] ⦃J:Value->World->Prop⦄,Ctx W w R Φ->υ W R Φ J->Calls P f args w λe w'=>∃ v,e=.returned v/\J v w')
  (h:∀ (W:World) (R:List Own),υ W R Φ λu w'=>u=v/\Ctx W w' R Φ):ay Φ P f args v :=
 ⟨λW w S c=>On (run c (h W S)) λu w' ⟨h1,h2⟩=>⟨by rw [h1],h2⟩⟩
theorem Ctx.left[O Φ](c:Ctx W w (S++F) Φ):Ctx W w S Φ:=c.sub (List.sublist_append_left _ _)
theorem Ctx.right[O Φ](c:Ctx W w (S++F) Φ):Ctx W w F Φ:=c.sub (List.sublist_append_right _ _)
theorem Ctx.fst[O Φ][O Ψ](c:Ctx W w S (λM w=>Φ M w/\Ψ M w)):Ctx W w S Φ:=c.weak λ_ _ h=>h.1
theorem aYc{cs vs:List Value}{o:Nat}(h:(cs.drop o).take vs.length=vs):∀ j,(hj:j<vs.length)->cs[o+j]? = some vs[j]:=by
 intro j hj;have h1:((cs.drop o).take vs.length)[j]? = vs[j]? := by rw [h]
 rw [List.getElem?_take_of_lt hj,List.getElem?_drop] at h1;rw [h1,List.getElem?_eq_getElem hj]
end
def aP{α:Type}[ι α](b o:Nat)(cs:List (List Value))(l:List α)(M:List Nat)(w:World):Prop :=
 ∀ j,(hj:j<l.length)->b ∉ M/\aQ w b (o+j*(ι.ty α).size) (cs.getD j [])/\ι.rep M w (cs.getD j []) l[j]
instance X8{α:Type}[ι α](b o:Nat)(cs:List (List Value))(l:List α):O (λM w=>aP b o cs l M w):=⟨λhs h j hj=>by
 obtain ⟨h2,h3,h4⟩:=h j hj;have hlt:=aHS h3 (by rw [ι.len h4];exact ι.pos);exact ⟨λhm=>by rcases hs.sub b hm with h|h;exact h2 h;omega,hs.nY.row h3 h2,ι.eK hs h4⟩⟩
theorem ζ.r6{α:Type}[ι α]{M:List Nat}{w:World}{p:Option Addr}{l:List α}(h:ζ M w p l):∃ b o cs,(0<l.length->p=some ⟨b,o,none⟩)/\aP b o cs l M w:=by
 by_cases h0:0<l.length
 .obtain ⟨b,o,_,hp,_⟩:=h 0 h0;have key:∀ j,j<l.length->∃ cs:List Value,∀ hj:j<l.length,b ∉ M/\aQ w b (o+j*(ι.ty α).size) cs/\ι.rep M w cs l[j]:=by
   intro j hj;obtain ⟨b',o',cs,h1,h2,h3,h4⟩:=h j hj;rw [hp] at h1;cases h1;exact ⟨cs,λ_=>⟨h2,h3,h4⟩⟩
  obtain ⟨cs,hl,hcs⟩:=Xz l.length key;refine ⟨b,o,cs,λ_=>hp,λj hj=>?_⟩;have:=hcs j (by omega) hj;rw [show cs.getD j []=cs[j] by simp [List.getD,show j<cs.length by omega]];exact this
 .exact ⟨0,0,[],λh=>absurd h h0,λj hj=>by omega⟩
theorem Ctx.r6{W w:World}{S:List Own}{Φ:Y}(c:Ctx W w S Φ){α:Type}[ι α]{p:Option Addr}{l:List α}(h:ζ (dom S) w p l):
  ∃ b o cs,(0<l.length->p=some ⟨b,o,none⟩)/\Ctx W w S (λM w=>Φ M w/\aP b o cs l M w):=by
 obtain ⟨b,o,cs,hp,aWD⟩:=h.r6;exact ⟨b,o,cs,hp,c.add aWD⟩
theorem ay.pinned{Φ:Y}[O Φ]{P:Program}{f:FuncId}{args:Array Value}{v:Value}{α:Type}[ι α]{p:Option Addr}{l:List α}(hΦ:∀ M w,Φ M w->ζ M w p l)
  (h:∀ b o cs,(0<l.length->p=some ⟨b,o,none⟩)->ay (λM w=>Φ M w/\aP b o cs l M w) P f args v):ay Φ P f args v :=
 ⟨λW w S c=>by
  obtain ⟨b,o,cs,hp,c'⟩:=c.r6 (hΦ _ _ c.Γ);exact ((h b o cs hp).go W w S c').mono λe w' ⟨h1,h2⟩=>⟨h1,h2.fst⟩⟩
section
variable {P:Program}{W w:World}{S F:List Own}{Φ Ψ:Y}
def EP(W:World)(o:Own)(M:List Nat)(w:World):Prop:=o.at w/\∀ b∈o.dom,b ∉ M/\W.heap.size<=b
instance aWe(D:List Nat)(Φ:Y)[O Φ]:O (λM w=>Φ (D++M) w):=⟨fun {M M' w w'} hs h =>
 O.step (Φ:=Φ) (M:=D++M) (M':=D++M') ⟨hs.nY.mono λx hx=>List.mem_append_right _ hx,λb hb=>by
  rcases List.mem_append.1 hb with h|h
  .exact .inl (List.mem_append_left _ h)
  .rcases hs.sub b h with h|h
   .exact .inl (List.mem_append_right _ h)
   .exact .inr h⟩ h⟩
theorem JD(o:Own)(S:List Own):dom (o :: S)=o.dom++dom S:=rfl
theorem Ctx.aY4{o:Own}(c:Ctx W w (o :: S) Φ):Ctx W w S (λM w=>Φ (o.dom++M) w/\EP W o M w) :=
 ⟨c.nY,λx hx=>c.own x (List.mem_cons_of_mem _ hx),λb hb=>c.yB b (by rw [JD];exact List.mem_append_right _ hb),
  (by have:=c.nodup;rw [JD,List.nodup_append] at this;exact this.2.1),c.Γ,c.own o List.mem_cons_self,λb hb =>
   ⟨λhm=>by have:=c.nodup;rw [JD,List.nodup_append] at this;exact this.2.2 b hb b hm rfl,c.yB b (by rw [JD];exact List.mem_append_left _ hb)⟩⟩
theorem EP.sl{α:Type}[ι α]{M D:List Nat}{p:Option Addr}{n cap:Nat}{cs:List Value}{t:TypeId}{l:List α}(h:EP W (.buf p n cap cs t (ι.ty α).size) M w)
  (he:Δ (D++M) w cs l):ζ M w p l:=by
 obtain ⟨⟨h1,h2⟩,h3⟩:=h;have hpos:0<(ι.ty α).size:=ι.pos;intro j hj;have hle:(j+1)*(ι.ty α).size<=cs.length:=by rw [he.1];exact Nat.mul_le_mul_right _ hj
 rw [Nat.add_mul,Nat.one_mul] at hle;rcases h2 with ⟨e,rfl⟩|⟨g,cap',cur,e,_,hg,hnc,hcm,hcs,om⟩
 .rw [Nat.zero_mul] at h1;omega
 .cases e;refine ⟨g,0,(cs.drop (j*(ι.ty α).size)).take (ι.ty α).size,rfl,(h3 g (by simp [Own.dom])).1,λi hi=>?_,?_⟩
  .rw [Nat.zero_add];simp only [List.length_take,List.length_drop] at hi;rw [List.getElem_take,List.getElem_drop];have hlt:j*(ι.ty α).size+i<cs.length:=by omega
   have h2:∀ k v,k<cs.length->cs[k]? = some v->cur[k]? = some v:=by
    intro k v hk hv;rw [<-om,List.getElem?_take_of_lt (by omega)] at hv;simpa using hv
   have h2:=h2 _ _ hlt (List.getElem?_eq_getElem hlt);simp [World.cell?,hg,h2]
  .exact ι.eK ⟨bD.refl _ _,λb hb=>.inl (List.mem_append_right _ hb)⟩ (he.2 j hj)
def ri(p:Option Addr)(n:Nat):Prop:=0<n->∃ b o,p=some ⟨b,o,none⟩
theorem ζ.there{α:Type}[ι α]{M:List Nat}{w:World}{p:Option Addr}{l:List α}(h:ζ M w p l):ri p l.length:=λh0=>by
 obtain ⟨b,o,_,h1,_⟩:=h 0 h0;exact ⟨b,o,h1⟩
theorem ζ.nil{α:Type}[ι α]{M:List Nat}{w:World}{p:Option Addr}:ζ M w p ([]:List α):=λj hj=>by simp at hj
theorem ay.there{f:FuncId}{args:Array Value}{v:Value}{p:Option Addr}{n:Nat}(hΦ:∀ M w,Φ M w->ri p n)(h:ri p n->ay Φ P f args v):ay Φ P f args v :=
 ⟨λW w S c=>(h (hΦ _ _ c.Γ)).go W w S c⟩
structure ij(Φ:Y)(P:Program)(f:FuncId)(args:Array Value){α:Type}[ι α](l:List α)(mk:Value->Value):Prop where
 go:∀ (W w:World) (S:List Own),Ctx W w S Φ->Calls P f args w λe w'=>∃ p cap,e=.returned (mk (.slice p l.length cap))/\l.length<=cap/\cap<=maxLen/\Ctx W w' S (λM w=>Φ M w/\ζ M w p l)
theorem ij.use{f:FuncId}{args:Array Value}{α:Type}[ι α]{l:List α}{mk:Value->Value}(h:ij Φ P f args l mk)(c:Ctx W w S Φ){K:c6}
  (hk:∀ p cap w',l.length<=cap->cap<=maxLen->Ctx W w' S (λM w=>Φ M w/\ζ M w p l)->K (.returned (mk (.slice p l.length cap))) w'):Calls P f args w K :=
 (h.go W w S c).mono λe w' ⟨p,cap,he,h1,h2,c'⟩=>by subst he;exact hk p cap w' h1 h2 c'
theorem x5[O Φ]{f:FuncId}{args:Array Value}{α:Type}[ι α]{l:List α}{mk:Value->Value}{υ:World->List Own->Y->(Value->World->Prop)->Prop}
  (run:∀ ⦃W w:World⦄ ⦃R:List Own⦄ ⦃Φ:Y⦄ [O Φ] ⦃J:Value->World->Prop⦄,Ctx W w R Φ->υ W R Φ J->Calls P f args w λe w'=>∃ v,e=.returned v/\J v w')
  (h:∀ (W:World) (R:List Own),υ W R Φ λu w'=>∃ p cap,u=mk (.slice p l.length cap)/\l.length<=cap/\cap<=maxLen/\Ctx W w' R (λM w=>Φ M w/\ζ M w p l)):ij Φ P f args l mk :=
 ⟨λW w S c=>On (run c (h W S)) λu w' ⟨p,cap,h1,h2⟩=>⟨p,cap,by rw [h1],h2⟩⟩
theorem ij.there{f:FuncId}{args:Array Value}{α:Type}[ι α]{l:List α}{mk:Value->Value}{p:Option Addr}{n:Nat}(hΦ:∀ M w,Φ M w->ri p n)(h:ri p n->ij Φ P f args l mk):ij Φ P f args l mk :=
 ⟨λW w S c=>(h (hΦ _ _ c.Γ)).go W w S c⟩
def tL(P:Program)(ts t:TypeId)(size bytes:Nat):Bool :=
 (match P.underlying ts with|some (.slice u)=>decide (u=t)|_=>false)&&(match P.info? t with
  | some i=>(match i.zero with|some z=>decide (z.cells.size=size)|none=>false)&&decide (i.size=size)&&decide (i.bytes=bytes)
  | none=>false)
theorem wS{ts t:TypeId}{size bytes:Nat}(h:tL P ts t size bytes=true):∃ i z,P.underlying ts=some (.slice t)/\P.info? t=some i/\i.zero=some z/\i.size=size/\z.cells.size=size/\i.bytes=bytes:=by
 unfold tL at h;rw [Bool.and_eq_true] at h;obtain ⟨h1,h2⟩:=h;split at h1
 .rename_i u hu;have:u=t:=by simpa using h1
  subst this;split at h2
  .rename_i i hi;simp only [Bool.and_eq_true] at h2;obtain ⟨⟨h2,h3⟩,h4⟩:=h2;split at h2
   .rename_i z hz;exact ⟨i,z,hu,hi,hz,by simpa using h3,by simpa using h2,by simpa using h4⟩
   .cases h2
  .cases h2
 .cases h1
theorem r7{ats:Array TypeId}{ty:TypeId}{cs:Array Bool}{args:Array Value}{v:Value}{w w':World}(h:(Builtin.append_ ats ty args).run P w=.ok v w'):Sem.run P (builtin Builtin.append ats ty cs args) w=.ok (.value v) w':=by
 unfold builtin;simp only [Sem.run_bind,h,Result.andThen,Sem.run_pure]
theorem Ctx.vB[O Φ]{b:Nat}{news:List Value}{t':TypeId}{p:Option Addr}{n cap:Nat}{cs:List Value}{t:TypeId}{size bytes:Nat}(c:Ctx W w (.blk b news t' :: .buf p n cap cs t size :: S) Φ)
  {ts ty:TypeId} {kb:Array Bool} (hb:tL P ts t size bytes=true) (h0:0<size) (hl:news.length=size) (h1:(news.all λu=>dJ u)=true) (hlen:n<100000000) (hbytes:bytes<=1000) :
  ∃ p' cap' w',Sem.run P (builtin Builtin.append #[ts,ts] ty kb #[.slice p n cap,.slice (some ⟨b,0,none⟩) 1 1]) w=.ok (.value (.slice p' (n+1) cap')) w'/\(∃ g,p'=some ⟨g,0,none⟩)/\Ctx W w' (.buf p' (n+1) cap' (cs++news) t size :: S) Φ:=by
 obtain ⟨i,z,e1,e2,eE,bR,fY,fP⟩:=wS hb;have hby:(n+1)*i.bytes<=100000000*1000:=Nat.mul_le_mul (by omega) (by omega);obtain ⟨p',cap',w',h2,c'⟩:=c.append 1 rfl (ty:=ty) e1 e2 eE bR fY (a:=⟨b,0,none⟩) (m:=1) (c2:=1) (news:=news) (by omega) (by rw [hl,Nat.one_mul]) (λj u hj=>by rw [addr_add,Nat.zero_add];exact c.get 0 rfl hj)
  (λu hu=>List.all_eq_true.1 h1 u hu) (by omega) (by omega)
 refine ⟨p',cap',w',r7 h2,?_,c'.eN⟩;obtain ⟨g,hg,_⟩:=c'.vD 1 rfl (by rw [List.length_append];omega);exact ⟨g,hg⟩
theorem Ctx.sI[O Φ](c:Ctx W w S Φ)(t:TypeId)(size:Nat):Ctx W w (.buf none 0 0 [] t size :: S) Φ:=c.zF t size
theorem EP.a55{α:Type}[ι α]{M:List Nat}{b:Nat}{cs:List Value}{t:TypeId}{l:List α}(h:EP W (.blk b cs t) M w)(he:Δ M w cs l):ζ M w (some ⟨b,0,none⟩) l:=by
 obtain ⟨h1,h2⟩:=h;have h1:cj w b cs t:=h1;intro j hj;have hle:(j+1)*(ι.ty α).size<=cs.length:=by rw [he.1];exact Nat.mul_le_mul_right _ hj
 rw [Nat.add_mul,Nat.one_mul] at hle;refine ⟨b,0,(cs.drop (j*(ι.ty α).size)).take (ι.ty α).size,rfl,(h2 b (by simp [Own.dom])).1,λi hi=>?_,he.2 j hj⟩;simp only [List.length_take,List.length_drop] at hi;rw [Nat.zero_add,List.getElem_take,List.getElem_drop];exact h1.Iv (List.getElem?_eq_getElem (by omega))
theorem Ctx.Pc[O Φ]{α:Type}[ι α]{b:Nat}{cs:List Value}{t:TypeId}{l:List α}(c:Ctx W w (.blk b cs t :: S) Φ)(he:Δ (dom (.blk b cs t :: S)) w cs l):Ctx W w S Φ/\ζ (dom S) w (some ⟨b,0,none⟩) l:=by
 have c':=c.aY4;refine ⟨c.eN,c'.Γ.2.a55 ⟨he.1,λj hj=>?_⟩⟩;exact ι.eK ⟨bD.refl _ _,λb hb=>.inl (by rw [JD];exact List.mem_append_right _ hb)⟩ (he.2 j hj)
theorem Δ.two{α:Type}[ι α]{M:List Nat}{cs ds:List Value}{x y:α}(h1:ι.rep M w cs x)(h2:ι.rep M w ds y):Δ M w (cs++ds) [x,y]:=Δ.snoc (l:=[x]) (Δ.snoc (l:=[]) (cs:=[]) Δ.nil h1) h2
theorem Δ.one{α:Type}[ι α]{M:List Nat}{cs:List Value}{x:α}(h1:ι.rep M w cs x):Δ M w cs [x]:=Δ.snoc (l:=[]) (cs:=[]) Δ.nil h1
end
section
variable {P:Program}{W w w':World}{S S' F:List Own}{Φ Ψ:Y}
theorem Ctx.swap[O Φ]{a b:Own}(c:Ctx W w (a :: b :: S) Φ):Ctx W w (b :: a :: S) Φ:=c.perm (List.Perm.swap _ _ _)
theorem Ctx.UY(c:Ctx W w S Φ)(k:Nat){p:Option Addr}{n cap:Nat}{cs:List Value}{t:TypeId}{size:Nat}(hk:S[k]? = some (.buf p n cap cs t size))(h0:0<cs.length):
  ∃ b cur,p=some ⟨b,0,none⟩/\cj w b cur t/\cur.take (n*size)=cs/\n<=cap/\cap<=maxLen/\cur.length=cap*size/\cs.length=n*size:=by
 obtain ⟨h1,h2⟩:=c.own _ (List.mem_of_getElem? hk);rcases h2 with ⟨e,rfl⟩|⟨g,cap',cur,e,_,hg,hnc,hcm,hcs,om⟩
 .rw [Nat.zero_mul] at h1;omega
 .cases e;exact ⟨g,cur.toList,rfl,by simpa [cj] using hg,om,hnc,hcm,by simpa using hcs,h1⟩
theorem Ctx.F2(c:Ctx W w S Φ)(k:Nat){p:Option Addr}{n cap:Nat}{cs:List Value}{t:TypeId}{size:Nat}(hk:S[k]? = some (.buf p n cap cs t size)){b o:Nat}(hp:p=some ⟨b,0,none⟩){vs:List Value}
  (hv:∀ j,(hj:j<vs.length)->cs[o+j]? = some vs[j]):aQ w b o vs:=by
 intro j hj;have hlt:o+j<cs.length:=(List.getElem?_eq_some_iff.1 (hv j hj)).1;obtain ⟨b',h1,_,h2⟩:=c.vD k hk (by omega);rw [hp] at h1;cases h1;exact (h2 _ _ (hv j hj)).1
theorem Ctx.Io(c:Ctx W w S Φ)(k:Nat){p:Option Addr}{n cap:Nat}{cs:List Value}{t:TypeId}{size:Nat}(hk:S[k]? = some (.buf p n cap cs t size)){b o m:Nat}(hp:p=some ⟨b,0,none⟩)(hm:o+m<=cs.length):bJ w b o m:=by
 intro j hj;obtain ⟨b',h1,_,h2⟩:=c.vD k hk (by omega);rw [hp] at h1;cases h1;have:=h2 (o+j) cs[o+j] (List.getElem?_eq_getElem (by omega));exact ⟨by rw [this.1];rfl,this.2⟩
theorem GZ:∀ (vs:List Value) (cs:List Value) (o:Nat),(dM cs o vs).length=cs.length
 | [],_,_=>rfl
 | v :: r,cs,o=>by unfold dM;rw [GZ r];simp
theorem aIJ:∀ (vs:List Value) (cs:List Value) (o m:Nat),o+vs.length<=m->(dM cs o vs).take m=dM (cs.take m) o vs
 | [],_,_,_,_=>rfl
 | v :: r,cs,o,m,h=>by
  unfold dM;simp only [List.length_cons] at h;rw [aIJ r _ _ _ (by omega),List.take_set]
theorem sO:∀ (vs:List Value) (cs:List Value) (o i:Nat),(i<o\/o+vs.length<=i)->(dM cs o vs)[i]? = cs[i]?
 | [],_,_,_,_=>rfl
 | v :: r,cs,o,i,h=>by
  unfold dM;simp only [List.length_cons] at h;rw [sO r _ _ _ (by omega),List.getElem?_set_ne (by omega)]
theorem Aa:∀ (vs:List Value) (cs:List Value) (o i:Nat),i<vs.length->o+vs.length<=cs.length->(dM cs o vs)[o+i]? = vs[i]?
 | [],_,_,_,h,_=>by simp at h
 | v :: r,cs,o,0,h,hl=>by
  unfold dM;simp only [List.length_cons] at hl;rw [sO r _ _ _ (by omega),Nat.add_zero,List.getElem?_set_self (by omega)];rfl
 | v :: r,cs,o,i+1,h,hl=>by
  unfold dM;simp only [List.length_cons] at hl h;rw [show o+(i+1)=o+1+i by omega,Aa r _ _ _ (by omega) (by simp;omega)];rfl
theorem Ctx.F1[O Φ](c:Ctx W w S Φ)(k:Nat){p:Option Addr}{n cap:Nat}{cs vs:List Value}{t:TypeId}{size:Nat}(hk:S[k]? = some (.buf p n cap cs t size)){b o:Nat}(hp:p=some ⟨b,0,none⟩)(h0:0<cs.length)(ho:o+vs.length<=cs.length)
  (e:w'=w.setCells b o vs):Ctx W w' (S.set k (.buf p n cap (dM cs o vs) t size)) Φ:=by
 obtain ⟨b',cur,h1,hb,om,hnc,hcm,bp,hl⟩:=c.UY k hk h0;rw [hp] at h1;cases h1;subst e;refine c.o8 hk ((bD.refl _ _).setCells (by subst hp;simp [Own.dom]) o vs) (λx hx=>.inl (by subst hp;exact hx)) (by subst hp;simp [Own.dom]) ?_;have hb':=cj.sets vs o hb;refine ⟨by rw [GZ,hl],.inr ⟨b,cap,(dM cur o vs).toArray,by rw [hp],Nat.zero_le _,hb',hnc,hcm,by simp [GZ,bp],?_⟩⟩;rw [<-om,aIJ _ _ _ _ (by omega)]
theorem Δ.setAt{α:Type}[ι α]{M:List Nat}{cs d:List Value}{l:List α}{x:α}(h:Δ M w cs l)(k:Nat)(hk:k<l.length)(hx:ι.rep M w d x):Δ M w (dM cs (k*(ι.ty α).size) d) (l.set k x):=by
 have hd:=ι.len hx;refine ⟨by rw [GZ,h.1];simp,λj hj=>?_⟩;have hj:j<l.length:=by simpa using hj
 have hle:(k+1)*(ι.ty α).size<=cs.length:=by rw [h.1];exact Nat.mul_le_mul_right _ hk
 have e3:(j+1)*(ι.ty α).size<=cs.length:=by rw [h.1];exact Nat.mul_le_mul_right _ hj
 rw [Nat.add_mul,Nat.one_mul] at hle e3;by_cases og:k=j
 .subst og;rw [List.getElem_set_self];have:((dM cs (k*(ι.ty α).size) d).drop (k*(ι.ty α).size)).take (ι.ty α).size=d:=by
   apply List.ext_getElem?;intro i;by_cases hi:i<(ι.ty α).size
   .rw [List.getElem?_take_of_lt hi,List.getElem?_drop,Aa _ _ _ _ (by omega) (by omega)]
   .rw [List.getElem?_eq_none (by simp;omega),List.getElem?_eq_none (by omega)]
  rw [this];exact hx
 .rw [List.getElem_set_ne og];have:((dM cs (k*(ι.ty α).size) d).drop (j*(ι.ty α).size)).take (ι.ty α).size=(cs.drop (j*(ι.ty α).size)).take (ι.ty α).size:=by
   apply List.ext_getElem?;intro i;by_cases hi:i<(ι.ty α).size
   .rw [List.getElem?_take_of_lt hi,List.getElem?_drop,List.getElem?_take_of_lt hi,List.getElem?_drop];refine sO _ _ _ _ ?_;rw [hd];rcases Nat.lt_or_gt_of_ne og with hlt|hlt
    .right
     have:=Nat.mul_le_mul_right (ι.ty α).size (show k+1<=j from hlt);rw [Nat.add_mul,Nat.one_mul] at this;omega
    .left
     have:=Nat.mul_le_mul_right (ι.ty α).size (show j+1<=k from hlt);rw [Nat.add_mul,Nat.one_mul] at this;omega
   .rw [List.getElem?_eq_none (by simp [GZ];omega),List.getElem?_eq_none (by simp;omega)]
  rw [this];exact h.2 j hj
theorem ζ.cells{α:Type}[ι α]{M:List Nat}{p:Option Addr}{l:List α}(h:ζ M w p l)(h1:∀ M w cs (x:α),ι.rep M w cs x->(cs.all λu=>dJ u)=true)(h0:0<l.length):
  ∃ b o news,p=some ⟨b,o,none⟩/\news.length=l.length*(ι.ty α).size/\(∀ j u,news[j]? = some u->w.cell? ⟨b,o+j,none⟩=some u)/\Δ M w news l/\(news.all λu=>dJ u)=true:=by
 obtain ⟨b,o,_,hp,_⟩:=h 0 h0;have key:∀ k,k<=l.length->∃ news:List Value,news.length=k*(ι.ty α).size/\(∀ j u,news[j]? = some u->w.cell? ⟨b,o+j,none⟩=some u)/\Δ M w news (l.take k)/\(news.all λu=>dJ u)=true:=by
  intro k
  induction k with
  | zero=>intro _;exact ⟨[],by simp,λj u hj=>by simp at hj,by rw [List.take_zero];exact Δ.nil,rfl⟩
  | succ k ih =>
   intro hk;obtain ⟨news,g1,g2,g3,g4⟩:=ih (by omega);obtain ⟨b',o',cs,e1,_,eE,bR⟩:=h k (by omega);rw [hp] at e1;cases e1;have hlen:=ι.len bR;refine ⟨news++cs,by rw [List.length_append,g1,hlen,Nat.add_mul,Nat.one_mul],λj u hj=>?_,?_,by rw [List.all_append,g4,h1 _ _ _ _ bR];rfl⟩
   .by_cases hlt:j<news.length
    .rw [List.getElem?_append_left hlt] at hj;exact g2 j u hj
    .rw [List.getElem?_append_right (by omega)] at hj;have oh:j - news.length<cs.length:=(List.getElem?_eq_some_iff.1 hj).1;have:=eE (j - news.length) oh;rw [show o+k*(ι.ty α).size+(j - news.length)=o+j by omega] at this;rw [this,<-hj,List.getElem?_eq_getElem oh]
   .rw [List.take_succ_eq_append_getElem (by omega)];exact g3.snoc bR
 obtain ⟨news,g1,g2,g3,g4⟩:=key l.length (Nat.le_refl _);rw [List.take_length] at g3;exact ⟨b,o,news,hp,g1,g2,g3,g4⟩
theorem Ctx.a4i[O Φ]{α:Type}[ι α]{q:Option Addr}{l:List α}{c2:Nat}{p:Option Addr}{n cap:Nat}{cs:List Value}{t:TypeId}{bytes:Nat}(c:Ctx W w (.buf p n cap cs t (ι.ty α).size :: S) Φ)
  {ts ty:TypeId} {kb:Array Bool} (hb:tL P ts t (ι.ty α).size bytes=true) (h1:∀ M w cs (x:α),ι.rep M w cs x->(cs.all λu=>dJ u)=true) (vP:∀ M w,Φ M w->ζ M w q l) (h0:0<l.length) (hlen:n+l.length<100000000) (hbytes:bytes<=1000) :
  ∃ p' cap' w' news,Sem.run P (builtin Builtin.append #[ts,ts] ty kb #[.slice p n cap,.slice q l.length c2]) w=.ok (.value (.slice p' (n+l.length) cap')) w'/\(∃ g,p'=some ⟨g,0,none⟩) /\
   Ctx W w' (.buf p' (n+l.length) cap' (cs++news) t (ι.ty α).size :: S) (λM w=>Φ M w/\Δ M w news l):=by
 obtain ⟨i,z,e1,e2,eE,bR,fY,fP⟩:=wS hb;have hby:(n+l.length)*i.bytes<=100000000*1000:=Nat.mul_le_mul (by omega) (by omega);obtain ⟨b,o,news,hp,g1,g2,g3,g4⟩:=(vP _ _ c.Γ).cells h1 h0;obtain ⟨p',cap',w',h2,c'⟩:=(c.add (Ψ:=λM w=>Δ M w news l) g3).append 0 rfl (ty:=ty) e1 e2 eE bR fY (a:=⟨b,o,none⟩) (m:=l.length) (c2:=c2) (news:=news) h0 g1 (λj u hj=>by rw [addr_add];exact g2 j u hj)
  (λu hu=>List.all_eq_true.1 g4 u hu) (by omega) (by omega)
 have hpos:0<(ι.ty α).size:=ι.pos;have oh:0<l.length*(ι.ty α).size:=Nat.mul_pos h0 hpos;refine ⟨p',cap',w',news,by rw [hp];exact r7 h2,?_,c'⟩;obtain ⟨g,hg,_⟩:=c'.vD 0 rfl (by rw [List.length_append];omega);exact ⟨g,hg⟩
end
section
variable {P:Program}{W w w':World}{S S' F:List Own}{Φ Ψ:Y}
structure nR(Φ:Y)(P:Program)(f:FuncId)(args:Array Value){α:Type}[ι α](l:List α)(t:TypeId):Prop where
 go:∀ (W w:World) (S:List Own),Ctx W w S Φ->Calls P f args w λe w'=>∃ p cap cs,e=.returned (.slice p l.length cap)/\Ctx W w' (.buf p l.length cap cs t (ι.ty α).size :: S) (λM w=>Φ M w/\Δ M w cs l)
theorem nR.use{f:FuncId}{args:Array Value}{α:Type}[ι α]{l:List α}{t:TypeId}(h:nR Φ P f args l t)(c:Ctx W w S Φ){K:c6}
  (hk:∀ p cap cs w',Ctx W w' (.buf p l.length cap cs t (ι.ty α).size :: S) (λM w=>Φ M w/\Δ M w cs l)->K (.returned (.slice p l.length cap)) w'):Calls P f args w K :=
 (h.go W w S c).mono λe w' ⟨p,cap,cs,he,c'⟩=>by subst he;exact hk p cap cs w' c'
theorem Jn[O Φ]{f:FuncId}{args:Array Value}{α:Type}[ι α]{l:List α}{t:TypeId}{υ:World->List Own->Y->(Value->World->Prop)->Prop}
  (run:∀ ⦃W w:World⦄ ⦃R:List Own⦄ ⦃Φ:Y⦄ [O Φ] ⦃J:Value->World->Prop⦄,Ctx W w R Φ->υ W R Φ J->Calls P f args w λe w'=>∃ v,e=.returned v/\J v w')
  (h:∀ (W:World) (R:List Own),υ W R Φ λu w'=>∃ p cap cs,u=.slice p l.length cap/\Ctx W w' (.buf p l.length cap cs t (ι.ty α).size :: R) (λM w=>Φ M w/\Δ M w cs l)):nR Φ P f args l t :=
 ⟨λW w S c=>On (run c (h W S)) λu w' ⟨p,cap,cs,h1,h2⟩=>⟨p,cap,cs,by rw [h1],h2⟩⟩
theorem nR.there{f:FuncId}{args:Array Value}{α:Type}[ι α]{l:List α}{t:TypeId}{p:Option Addr}{n:Nat}(hΦ:∀ M w,Φ M w->ri p n)(h:ri p n->nR Φ P f args l t):nR Φ P f args l t :=
 ⟨λW w S c=>(h (hΦ _ _ c.Γ)).go W w S c⟩
theorem Ctx.vE[O Φ]{α:Type}[ι α]{q:Option Addr}{l:List α}{c2:Nat}{k:Nat}{t:TypeId}{bytes:Nat}(c:Ctx W w (.blk k [] t :: S) Φ)
  {ts ty:TypeId} {kb:Array Bool} (hb:tL P ts t (ι.ty α).size bytes=true) (h1:∀ M w cs (x:α),ι.rep M w cs x->(cs.all λu=>dJ u)=true) (vP:∀ M w,Φ M w->ζ M w q l) (hlen:l.length<100000000) (hbytes:bytes<=1000) :
  ∃ p' cap' w' cs,Sem.run P (builtin Builtin.append #[ts,ts] ty kb #[.slice (some ⟨k,0,none⟩) 0 0,.slice q l.length c2]) w=.ok (.value (.slice p' l.length cap')) w' /\
   Ctx W w' (.buf p' l.length cap' cs t (ι.ty α).size :: S) (λM w=>Φ M w/\Δ M w cs l):=by
 have c':Ctx W w (.buf (some ⟨k,0,none⟩) 0 0 [] t (ι.ty α).size :: S) Φ:=c.aIn 0 0 (ι.ty α).size rfl (by simp) (by simp [maxLen]);rcases Nat.eq_zero_or_pos l.length with h0|h0
 .obtain ⟨i,z,e1,e2,eE,bR,fY,fP⟩:=wS hb;have hl:l=[]:=List.eq_nil_of_length_eq_zero h0;subst hl;exact ⟨_,_,w,[],r7 (c'.UN 0 rfl e1 e2 q c2),c'.add Δ.nil⟩
 .obtain ⟨p',cap',w',news,h2,_,c3⟩:=c'.a4i (ty:=ty) (kb:=kb) (c2:=c2) hb h1 vP h0 (by omega) hbytes;rw [Nat.zero_add] at h2 c3;exact ⟨p',cap',w',news,h2,c3⟩
def Te(W:World)(Q:List Own)(M:List Nat)(w:World):Prop:=(∀ o∈Q,o.at w)/\(dom Q).Nodup/\∀ b∈dom Q,b ∉ M/\W.heap.size<=b
instance adX(W:World)(Q:List Own):O (λM w=>Te W Q M w):=⟨λhs h=>by
 have hlt:∀ b∈dom Q,b<_:=λb hb=>by
  obtain ⟨o,ho,hb⟩:=List.mem_flatMap.1 hb;exact Own.a4p (h.1 o ho) b hb
 exact ⟨λo ho=>Own.IZ (h.1 o ho) λb hb=>hs.nY.block b (hlt b (qv ho hb)) (h.2.2 b (qv ho hb)).1,h.2.1,λb hb=>⟨λhm=>by
  rcases hs.sub b hm with h1|h1
  .exact (h.2.2 b hb).1 h1
  .have:=hlt b hb;omega,(h.2.2 b hb).2⟩⟩⟩
def sY(W:World)(Q:List Own)(Φ:Y):Y:=λM w=>Φ (dom Q++M) w/\Te W Q M w
instance adR(W:World)(Q:List Own)(Φ:Y)[O Φ]:O (sY W Q Φ) :=
 have h1:O (λM w=>Φ (dom Q++M) w):=aWe (dom Q) Φ
 oq (λM w=>Φ (dom Q++M) w) (λM w=>Te W Q M w)
theorem Ctx.aside{Q:List Own}(c:Ctx W w (Q++S) Φ):Ctx W w S (sY W Q Φ):=by
 have hd:=wh Q S;have hn:=c.nodup;rw [hd,List.nodup_append] at hn;refine ⟨c.nY,λx hx=>c.own x (List.mem_append_right _ hx),λb hb=>c.yB b (by rw [hd];exact List.mem_append_right _ hb),hn.2.1,?_,λo ho=>c.own o (List.mem_append_left _ ho),hn.1,λb hb=>⟨λhm=>hn.2.2 b hb b hm rfl,c.yB b (by rw [hd];exact List.mem_append_left _ hb)⟩⟩;have:=c.Γ;rw [hd] at this;exact this
theorem Ctx.aIs{Q:List Own}(c:Ctx W w S (sY W Q Φ)):Ctx W w (Q++S) Φ:=by
 obtain ⟨h1,h2,h3,h4⟩:=c.Γ;have hd:=wh Q S;refine ⟨c.nY,λx hx=>?_,λb hb=>?_,?_,by rw [hd];exact h1⟩
 .rcases List.mem_append.1 hx with hx|hx
  .exact h2 x hx
  .exact c.own x hx
 .rw [hd] at hb;rcases List.mem_append.1 hb with hb|hb
  .exact (h4 b hb).2
  .exact c.yB b hb
 .rw [hd,List.nodup_append];exact ⟨h3,c.nodup,λa ha b hb e=>by subst e;exact (h4 a ha).1 hb⟩
theorem sY.parked{Q:List Own}{M:List Nat}(h:sY W Q Φ M w){o:Own}(ho:o∈Q):EP W o M w:=⟨h.2.1 o ho,λb hb=>h.2.2.2 b (qv ho hb)⟩
theorem Ctx.re(c:Ctx W w S Φ)(e:S=S'):Ctx W w S' Φ:=e ▸ c
theorem Ctx.UZ(c:Ctx W w S Φ)(k:Nat){p:Option Addr}{n cap:Nat}{cs:List Value}{t:TypeId}{size:Nat}(hk:S[k]? = some (.buf p n cap cs t size)){b i:Nat}{v:Value}(hp:p=some ⟨b,0,none⟩)(hv:cs[i]? = some v):w.cell? ⟨b,i,none⟩=some v:=by
 obtain ⟨b',h1,_,h2⟩:=c.vD k hk (by have:=(List.getElem?_eq_some_iff.1 hv).1;omega);rw [hp] at h1;cases h1;exact (h2 _ _ hv).1
theorem IU{α:Type}[ι α]{M:List Nat}{p:Option Addr}{l:List α}{cap:Nat}(h:ζ M w p l)(k:Nat)(hc:l.length<=cap):ζ M w (aV p (ι.ty α).size k cap) (l.drop k):=by
 intro j hj;rw [List.length_drop] at hj;obtain ⟨b,o,cs,rfl,h2,h3,h4⟩:=h (k+j) (by omega);refine ⟨b,o+k*(ι.ty α).size,cs,?_,h2,?_,?_⟩
 .unfold aV;rw [if_neg (by omega)];simp [Addr.add]
 .rw [show o+k*(ι.ty α).size+j*(ι.ty α).size=o+(k+j)*(ι.ty α).size by rw [Nat.add_mul];omega];exact h3
 .rw [List.getElem_drop];exact h4
end
section
variable {hU:Type}{le:hU->hU->Prop}
structure Ord(le:hU->hU->Prop):Prop where
 total:∀ x y,le x y\/le y x
 trans:∀ x y z,le x y->le y z->le x z
theorem Ord.refl(h:Ord le)(x:hU):le x x:=(h.total x x).elim id id
abbrev cy(le:hU->hU->Prop)(l:List hU):Prop:=l.Pairwise le
theorem a4m{a b:List hU}(ha:cy le a)(hb:cy le b)(h:∀ x∈a,∀ y∈b,le x y):cy le (a++b):=List.pairwise_append.2 ⟨ha,hb,h⟩
theorem aPy{l:List hU}(h:cy le l){i j:Nat}(hij:i<j)(hj:j<l.length):le (l[i]'(by omega)) l[j]:=List.pairwise_iff_getElem.1 h i j (by omega) hj hij
theorem ru(ho:Ord le){l:List hU}(h:cy le l){i j:Nat}(hij:i<=j)(hj:j<l.length):le (l[i]'(by omega)) l[j]:=by
 rcases Nat.eq_or_lt_of_le hij with e|hlt
 .subst e;exact ho.refl _
 .exact aPy h hlt hj
theorem OZ{a b:List hU}{x:hU}(h:cy le (a++b))(h1:∀ y∈a,le y x)(h2:∀ y∈b,le x y):cy le (a++x :: b):=by
 obtain ⟨ha,hb,hab⟩:=List.pairwise_append.1 h;refine a4m ha (List.pairwise_cons.2 ⟨h2,hb⟩) λy hy z hz=>?_;rcases List.mem_cons.1 hz with rfl|hz
 .exact h1 y hy
 .exact hab y hy z hz
theorem aZH(ho:Ord le){x y:List hU}(hx:cy le x)(hy:cy le y)(s t:Nat)(hs:s<=x.length)(ht:t<=y.length)
  (h1:∀ (h0:0<s) (ht':t<y.length),le (x[s - 1]'(by omega)) y[t]) (h2:∀ (h0:0<t) (hs':s<x.length),le (y[t - 1]'(by omega)) x[s]) :
  ∀ a∈x.take s++y.take t,∀ b∈x.drop s++y.drop t,le a b:=by
 have abI:∀ a∈x.take s,∀ b∈x.drop s,le a b:=by
  have:=hx;rw [<-List.take_append_drop s x] at this;exact (List.pairwise_append.1 this).2.2
 have abO:∀ a∈y.take t,∀ b∈y.drop t,le a b:=by
  have:=hy;rw [<-List.take_append_drop t y] at this;exact (List.pairwise_append.1 this).2.2
 have abJ:∀ a∈x.take s,∀ b∈y.drop t,le a b:=λa ha b hb=>by
  obtain ⟨i,hi,rfl⟩:=List.getElem_of_mem ha;obtain ⟨j,hj,rfl⟩:=List.getElem_of_mem hb;rw [List.length_take] at hi;rw [List.length_drop] at hj;rw [List.getElem_take,List.getElem_drop];exact ho.trans _ _ _ (ru ho hx (i:=i) (j:=s - 1) (by omega) (by omega)) (ho.trans _ _ _ (h1 (by omega) (by omega)) (ru ho hy (i:=t) (j:=t+j) (by omega) (by omega)))
 have abN:∀ a∈y.take t,∀ b∈x.drop s,le a b:=λa ha b hb=>by
  obtain ⟨i,hi,rfl⟩:=List.getElem_of_mem ha;obtain ⟨j,hj,rfl⟩:=List.getElem_of_mem hb;rw [List.length_take] at hi;rw [List.length_drop] at hj;rw [List.getElem_take,List.getElem_drop];exact ho.trans _ _ _ (ru ho hy (i:=i) (j:=t - 1) (by omega) (by omega)) (ho.trans _ _ _ (h2 (by omega) (by omega)) (ru ho hx (i:=s) (j:=s+j) (by omega) (by omega)))
 intro a ha b hb;rcases List.mem_append.1 ha with ha|ha<;>rcases List.mem_append.1 hb with hb|hb
 .exact abI a ha b hb
 .exact abJ a ha b hb
 .exact abN a ha b hb
 .exact abO a ha b hb
theorem a4o{l:List hU}(h:cy le l)(k:Nat):cy le (l.take k):=h.sublist (List.take_sublist k l)
theorem a4n{l:List hU}(h:cy le l)(k:Nat):cy le (l.drop k):=h.sublist (List.drop_sublist k l)
def swp(l:List hU)(i j:Nat):List hU:=match l[i]?,l[j]? with
 | some x,some y=>(l.set i y).set j x
 | _,_=>l
theorem De{l:List hU}{i j:Nat}(hi:i<l.length)(hj:j<l.length):swp l i j=(l.set i l[j]).set j l[i]:=by
 unfold swp;rw [List.getElem?_eq_getElem hi,List.getElem?_eq_getElem hj]
theorem Zd(a:List hU)(x y:hU)(b:List hU):swp (a++x :: y :: b) a.length (a.length+1)=a++y :: x :: b:=by
 rw [De (by simp) (by simp)];simp [List.getElem_append_right,List.set_append]
theorem aZE(a:List hU)(x:hU)(b:List hU)(y:hU)(c:List hU):swp (a++x :: (b++y :: c)) a.length (a.length+1+b.length)=a++y :: (b++x :: c):=by
 have e:a++x :: (b++y :: c)=(a++x :: b)++y :: c:=by simp
 have h1:a.length<(a++x :: (b++y :: c)).length:=by simp
 have h2:a.length+1+b.length<(a++x :: (b++y :: c)).length:=by simp;omega
 rw [De h1 h2];have g1:(a++x :: (b++y :: c))[a.length]'h1=x:=by simp
 have g2:(a++x :: (b++y :: c))[a.length+1+b.length]'h2=y:=by
  have:(a++x :: (b++y :: c))[a.length+1+b.length]? = some y:=by
   rw [e,List.getElem?_append_right (by simp;omega)];simp;rw [show a.length+1+b.length - (a.length+(b.length+1))=0 by omega];rfl
  rw [List.getElem?_eq_getElem h2] at this;exact Option.some.inj this
 rw [g1,g2];apply List.ext_getElem?;intro k;by_cases hk:k=a.length+1+b.length
 .subst hk;rw [List.getElem?_set_self (by simp;omega)];have e2:a++y :: (b++x :: c)=(a++y :: b)++x :: c:=by simp
  rw [e2,List.getElem?_append_right (by simp;omega)];simp;rw [show a.length+1+b.length - (a.length+(b.length+1))=0 by omega];rfl
 .rw [List.getElem?_set_ne (by omega)];by_cases hk2:k=a.length
  .subst hk2;rw [List.getElem?_set_self h1];simp
  .rw [List.getElem?_set_ne (by omega)];by_cases a8I:k<a.length
   .rw [List.getElem?_append_left a8I,List.getElem?_append_left a8I]
   .rw [List.getElem?_append_right (by omega),List.getElem?_append_right (by omega)];obtain ⟨m,hm⟩:∃ m,k - a.length=m+1:=⟨k - a.length - 1,by omega⟩;rw [hm,List.getElem?_cons_succ,List.getElem?_cons_succ];by_cases hm2:m<b.length
    .rw [List.getElem?_append_left hm2,List.getElem?_append_left hm2]
    .rw [List.getElem?_append_right (by omega),List.getElem?_append_right (by omega)];obtain ⟨q,hq⟩:∃ q,m - b.length=q+1:=⟨m - b.length - 1,by omega⟩;rw [hq,List.getElem?_cons_succ,List.getElem?_cons_succ]
end
end Go.Vc
end

section
namespace Go.Proofs.YtfijlibaeahlaaaGreatDoor
open Go.Vc
structure bF where
 kind:Int
 num:Int
 text:ByteArray
instance:ι bF:=ι.via (β:=Int × Int × ByteArray) (λx=>(x.kind,x.num,x.text)) (λy=>⟨y.1,y.2.1,y.2.2⟩) (λ_=>rfl)
structure μ where
 time:Int
 row:List bF
 n:Int
instance:ι μ:=ι.via (β:=Int × List bF × Int) (λx=>(x.time,x.row,x.n)) (λy=>⟨y.1,y.2.1,y.2.2⟩) (λ_=>rfl)
abbrev bF.v(x:bF):Value:=.agg #[.int .i64 x.kind,.int .i64 x.num,.string x.text]
theorem aZb{x y:bF}:x=y ↔ (x.kind=y.kind/\(x.num=y.num/\x.text=y.text)):=by
 cases x;cases y;simp
instance:DecidableEq bF:=λ_ _=>decidable_of_iff _ aZb.symm
structure nQ{α:Type}(c:α->α->Int):Prop where
 eq:∀ x y,c x y=0 ↔ x=y
 anti:∀ x y,0<c x y ↔ c y x<0
 trans:∀ x y z,c x y<0->c y z<0->c x z<0
 bd:∀ x y,-1<=c x y/\c x y<=1
theorem nQ.refl{α:Type}{c:α->α->Int}(h:nQ c)(x:α):c x x=0:=(h.eq x x).2 rfl
theorem nQ.Rr{α:Type}{c:α->α->Int}(h:nQ c)(x y:α):c x y<0\/x=y\/c y x<0:=by
 rcases Int.lt_trichotomy (c x y) 0 with h1|h1|h1
 .exact .inl h1
 .exact .inr (.inl ((h.eq x y).1 h1))
 .exact .inr (.inr ((h.anti x y).1 h1))
def cR(x y:Int):Int:=if x<y then -1 else if y<x then 1 else 0
theorem F4:nQ cR:=by
 refine ⟨λx y=>?_,λx y=>?_,λx y z=>?_,λx y=>?_⟩
 .unfold cR;split
  .constructor<;>intro h<;>omega
  .split
   .constructor<;>intro h<;>omega
   .constructor<;>intro h<;>omega
 .unfold cR;split<;>split<;>try split
  all_goals first|omega|(split<;>omega)
 .unfold cR;split
  .intro _;split
   .intro _;rw [if_pos (by omega)];omega
   .split<;>(intro h;omega)
  .split<;>(intro h;omega)
 .unfold cR;split;omega;split<;>omega
theorem F3:nQ Lib.compareBytes:=by
 have heq:∀ a b:List UInt8,Lib.compareBytes a b=0 ↔ a=b:=by
  intro a
  induction a with
  | nil=>intro b;cases b<;>simp [Lib.compareBytes]
  | cons x a ih =>
   intro b;cases b with
   | nil=>simp [Lib.compareBytes]
   | cons y b =>
    unfold Lib.compareBytes;split
    .rename_i h;constructor
     .intro h';omega
     .intro h';simp only [List.cons.injEq] at h';rw [h'.1] at h;exact absurd h (by exact UInt8.lt_irrefl y)
    .split
     .rename_i h;constructor
      .intro h';omega
      .intro h';simp only [List.cons.injEq] at h';rw [h'.1] at h;exact absurd h (by exact UInt8.lt_irrefl y)
     .rename_i h1 h2;have:x=y:=UInt8.le_antisymm (UInt8.not_lt.1 h2) (UInt8.not_lt.1 h1);subst this;rw [ih b];simp
 have aVW:∀ a b:List UInt8,0<Lib.compareBytes a b ↔ Lib.compareBytes b a<0:=by
  intro a
  induction a with
  | nil=>intro b;cases b<;>simp [Lib.compareBytes]
  | cons x a ih =>
   intro b;cases b with
   | nil=>simp [Lib.compareBytes]
   | cons y b =>
    unfold Lib.compareBytes;by_cases h1:x<y
    .rw [if_pos h1,if_neg (UInt8.lt_asymm h1),if_pos h1];omega
    .rw [if_neg h1];by_cases h2:y<x
     .rw [if_pos h2,if_pos h2];omega
     .rw [if_neg h2,if_neg h2,if_neg h1];exact ih b
 have aWR:∀ a b c:List UInt8,Lib.compareBytes a b<0->Lib.compareBytes b c<0->Lib.compareBytes a c<0:=by
  intro a
  induction a with
  | nil =>
   intro b c h1 h2;cases c with
   | nil=>cases b<;>simp [Lib.compareBytes] at h2
   | cons=>simp [Lib.compareBytes]
  | cons x a ih =>
   intro b c h1 h2;cases b with
   | nil=>simp [Lib.compareBytes] at h1
   | cons y b =>
    cases c with
    | nil=>simp [Lib.compareBytes] at h2
    | cons z c =>
     unfold Lib.compareBytes at h1 h2 ⊢;by_cases hxy:x<y
     .by_cases hyz:y<z
      .rw [if_pos (UInt8.lt_trans hxy hyz)];omega
      .rw [if_neg hyz] at h2;by_cases KO:z<y
       .rw [if_pos KO] at h2;omega
       .have:y=z:=UInt8.le_antisymm (UInt8.not_lt.1 KO) (UInt8.not_lt.1 hyz);subst this;rw [if_pos hxy];omega
     .rw [if_neg hxy] at h1;by_cases hyx:y<x
      .rw [if_pos hyx] at h1;omega
      .have:x=y:=UInt8.le_antisymm (UInt8.not_lt.1 hyx) (UInt8.not_lt.1 hxy);subst this;rw [if_neg hyx] at h1;by_cases hyz:x<z
       .rw [if_pos hyz];omega
       .rw [if_neg hyz] at h2 ⊢;by_cases KO:z<x
        .rw [if_pos KO] at h2;omega
        .rw [if_neg KO] at h2 ⊢;exact ih b c h1 h2
 have hbd:∀ a b:List UInt8,-1<=Lib.compareBytes a b/\Lib.compareBytes a b<=1:=by
  intro a
  induction a with
  | nil=>intro b;cases b<;>simp [Lib.compareBytes]
  | cons x a ih =>
   intro b;cases b with
   | nil=>simp [Lib.compareBytes]
   | cons y b =>
    unfold Lib.compareBytes;split
    .omega
    .split
     .omega
     .exact ih b
 exact ⟨heq,aVW,aWR,hbd⟩
def lW(a b:ByteArray):Int:=Lib.compareBytes a.data.toList b.data.toList
theorem a6P:nQ lW :=
 ⟨λx y=>(F3.eq _ _).trans ⟨λh=>ByteArray.ext (Array.toList_inj.1 h),λh=>by rw [h]⟩,λx y=>F3.anti _ _,λx y z=>F3.trans _ _ _,λx y=>F3.bd _ _⟩
def nC:List Int->Int
 | []=>0
 | x :: r=>if x≠0 then x else nC r
theorem aES(a b:Int):nC [a,b]=if a≠0 then a else b:=by
 unfold nC nC nC;split
 .rfl
 .split
  .rfl
  .omega
def lex{α β:Type}(c:α->α->Int)(d:β->β->Int)(x y:α × β):Int:=if c x.1 y.1≠0 then c x.1 y.1 else d x.2 y.2
theorem Xx{α β:Type}{c:α->α->Int}{d:β->β->Int}(hc:nQ c)(hd:nQ d):nQ (lex c d):=by
 refine ⟨λx y=>?_,λx y=>?_,λx y z h1 h2=>?_,λx y=>?_⟩
 .unfold lex;by_cases h:c x.1 y.1=0
  .rw [if_neg (by simp [h]),hd.eq];have:=(hc.eq _ _).1 h;constructor
   .intro h';exact Prod.ext this h'
   .intro h';rw [h']
  .rw [if_pos h];constructor
   .intro h';exact absurd h' h
   .intro h';rw [h'] at h;exact absurd (hc.refl _) h
 .unfold lex;by_cases h:c x.1 y.1=0
  .have:=(hc.eq _ _).1 h;rw [if_neg (by simp [h]),if_neg (by rw [this];simp [hc.refl])];exact hd.anti _ _
  .have h2:c y.1 x.1≠0:=λe=>h ((hc.eq _ _).2 ((hc.eq _ _).1 e).symm);rw [if_pos h,if_pos h2];exact hc.anti _ _
 .unfold lex at h1 h2 ⊢;by_cases e1:c x.1 y.1=0
  .rw [if_neg (by simp [e1])] at h1;have q:=(hc.eq _ _).1 e1;rw [q];by_cases e2:c y.1 z.1=0
   .rw [if_neg (by simp [e2])] at h2 ⊢;exact hd.trans _ _ _ h1 h2
   .rw [if_pos e2] at h2 ⊢;exact h2
  .rw [if_pos e1] at h1;by_cases e2:c y.1 z.1=0
   .have q:=(hc.eq _ _).1 e2;rw [<-q,if_pos e1];exact h1
   .rw [if_pos e2] at h2;have:=hc.trans _ _ _ h1 h2;rw [if_pos (by omega)];exact this
 .unfold lex;split
  .exact hc.bd _ _
  .exact hd.bd _ _
theorem nQ.on{α β:Type}{c:β->β->Int}(h:nQ c)(f:α->β)(hf:∀ x y,f x=f y->x=y):nQ (λx y=>c (f x) (f y)) :=
 ⟨λx y=>⟨λe=>hf _ _ ((h.eq _ _).1 e),λe=>by rw [e];exact h.refl _⟩,λx y=>h.anti _ _,λx y z=>h.trans _ _ _,λx y=>h.bd _ _⟩
abbrev cmpL(x y:bF):List Int:=[cR x.kind y.kind,cR x.num y.num,lW x.text y.text]
def j6(x y:bF):Int:=nC (cmpL x y)
theorem aQs(x y:bF):j6 x y=lex cR (lex cR lW) (x.kind,x.num,x.text) (y.kind,y.num,y.text):=by
 unfold j6 cmpL lex;rw [nC];split
 .rfl
 .rw [aES]
theorem tQ:nQ j6:=by
 have h:=(Xx F4 (Xx F4 a6P)).on (λx:bF=>(x.kind,x.num,x.text)) (λx y e=>by cases x;cases y;simpa using e);have e:j6=λx y=>lex cR (lex cR lW) (x.kind,x.num,x.text) (y.kind,y.num,y.text):=by funext x y;exact aQs x y
 rw [e];exact h
def fI:List bF->List bF->Int
 | [],[]=>0
 | [],_ :: _ => -1
 | _ :: _,[]=>1
 | a :: ar,b :: br=>if j6 a b≠0 then j6 a b else fI ar br
theorem a6M:nQ fI:=by
 refine ⟨?_,?_,?_,?_⟩
 .intro x
  induction x with
  | nil=>intro y;cases y<;>simp [fI]
  | cons a x ih =>
   intro y;cases y with
   | nil=>simp [fI]
   | cons b y =>
    unfold fI;by_cases h:j6 a b=0
    .rw [if_neg (by simp [h]),ih y,(tQ.eq _ _).1 h];simp
    .rw [if_pos h];constructor
     .intro h';exact absurd h' h
     .intro h';simp only [List.cons.injEq] at h';rw [h'.1] at h;exact absurd (tQ.refl _) h
 .intro x
  induction x with
  | nil=>intro y;cases y<;>simp [fI]
  | cons a x ih =>
   intro y;cases y with
   | nil=>simp [fI]
   | cons b y =>
    unfold fI;by_cases h:j6 a b=0
    .have:=(tQ.eq _ _).1 h;rw [if_neg (by simp [h]),if_neg (by rw [this];simp [tQ.refl])];exact ih y
    .have h2:j6 b a≠0:=λe=>h ((tQ.eq _ _).2 ((tQ.eq _ _).1 e).symm);rw [if_pos h,if_pos h2];exact tQ.anti _ _
 .intro x
  induction x with
  | nil =>
   intro y z h1 h2;cases z with
   | nil=>cases y<;>simp [fI] at h2
   | cons=>simp [fI]
  | cons a x ih =>
   intro y z h1 h2;cases y with
   | nil=>simp [fI] at h1
   | cons b y =>
    cases z with
    | nil=>simp [fI] at h2
    | cons c z =>
     unfold fI at h1 h2 ⊢;by_cases e1:j6 a b=0
     .rw [if_neg (by simp [e1])] at h1;have q:=(tQ.eq _ _).1 e1;rw [q];by_cases e2:j6 b c=0
      .rw [if_neg (by simp [e2])] at h2 ⊢;exact ih y z h1 h2
      .rw [if_pos e2] at h2 ⊢;exact h2
     .rw [if_pos e1] at h1;by_cases e2:j6 b c=0
      .have q:=(tQ.eq _ _).1 e2;rw [<-q,if_pos e1];exact h1
      .rw [if_pos e2] at h2;have:=tQ.trans _ _ _ h1 h2;rw [if_pos (by omega)];exact this
 .intro x
  induction x with
  | nil=>intro y;cases y<;>simp [fI]
  | cons a x ih =>
   intro y;cases y with
   | nil=>simp [fI]
   | cons b y =>
    unfold fI;split
    .exact tQ.bd _ _
    .exact ih y
theorem a6N{l r:List bF}{i:Nat}(hi:i<l.length)(hr:r.length<=i):fI (l.drop i) (r.drop i)=1:=by
 rw [List.drop_eq_getElem_cons hi,List.drop_of_length_le hr];rfl
theorem a6L{l r:List bF}{i:Nat}(hi:i<l.length)(hr:i<r.length):fI (l.drop i) (r.drop i)=if j6 l[i] r[i]≠0 then j6 l[i] r[i] else fI (l.drop (i+1)) (r.drop (i+1)):=by
 rw [List.drop_eq_getElem_cons hi,List.drop_eq_getElem_cons hr];rfl
abbrev Key:Type:=Int × List bF
abbrev μ.key(x:μ):Key:=(x.time,x.row)
def jT(x y:Key):Int:=lex cR fI x y
theorem fH:nQ jT:=Xx F4 a6M
abbrev Iz(x y:μ):List Int:=[cR x.time y.time,fI x.row y.row]
def ew(x y:μ):Int:=nC (Iz x y)
theorem iW(x y:μ):ew x y=jT x.key y.key:=by
 unfold ew Iz jT lex;rw [aES]
theorem a6b{x y:μ}(h1:x.key=y.key)(h2:x.n=y.n):x=y:=by
 cases x;cases y;simp only [μ.key,Prod.mk.injEq] at h1;simp only at h2;obtain ⟨rfl,rfl⟩:=h1;subst h2;rfl
abbrev e4(x:Int):Int:=IntKind.i64.wrap x
theorem NH(x:Int):e4 x=if 9223372036854775808<=x % 18446744073709551616 then x % 18446744073709551616 - 18446744073709551616 else x % 18446744073709551616:=by
 simp [e4,IntKind.wrap,IntKind.signed,IntKind.bits]
theorem Dp(x:Int):V (e4 x):=by rw [NH];unfold V;split<;>omega
theorem a0U{x:Int}(h:V x):e4 x=x:=by rw [NH];unfold V at h;split<;>omega
theorem NI(x:Int):(e4 x - x) % 18446744073709551616=0:=by rw [NH];split<;>omega
theorem NG{x y:Int}(h:(x - y) % 18446744073709551616=0):e4 x=e4 y:=by
 rw [NH,NH];have:x % 18446744073709551616=y % 18446744073709551616:=by omega
 rw [this]
theorem Gr(x y:Int):e4 (e4 x+y)=e4 (x+y):=NG (by have:=NI x;omega)
theorem Gs(x y:Int):e4 (x+e4 y)=e4 (x+y):=NG (by have:=NI y;omega)
theorem aap(x:Int):e4 (e4 x)=e4 x:=a0U (Dp x)
def cG:List μ->Key->Int
 | [],_=>0
 | x :: l,k=>(if x.key=k then x.n else 0)+cG l k
def bg(l:List μ)(k:Key):Int:=e4 (cG l k)
theorem Dd:∀ (a b:List μ) (k:Key),cG (a++b) k=cG a k+cG b k
 | [],b,k=>by simp [cG]
 | x :: a,b,k=>by simp only [List.cons_append,cG,Dd a b k];omega
theorem aZC{a b:List μ}(h:a.Perm b)(k:Key):cG a k=cG b k:=by
 induction h with
 | nil=>rfl
 | cons x _ ih=>simp only [cG,ih]
 | swap x y l=>simp only [cG];omega
 | trans _ _ h1 h2=>exact h1.trans h2
theorem a6w{a b:List μ}(h:a.Perm b)(k:Key):bg a k=bg b k:=by unfold bg;rw [aZC h]
theorem aV0(a b:List μ)(k:Key):bg (a++b) k=e4 (bg a k+bg b k):=by
 unfold bg;rw [Gr,Gs,Dd]
theorem Mn{l:List μ}{k:Key}(h:∀ x∈l,x.key≠k):cG l k=0:=by
 induction l with
 | nil=>rfl
 | cons x l ih =>
  simp only [cG];rw [if_neg (h x (by simp)),ih λy hy=>h y (by simp [hy])];rfl
structure Norm(c:List μ):Prop where
 rq:c.Pairwise λx y=>ew x y<0
 nz:∀ x∈c,x.n≠0
 i64:∀ x∈c,V x.n
theorem Norm.nil:Norm []:=⟨List.Pairwise.nil,by simp,by simp⟩
theorem Norm.tail{x:μ}{c:List μ}(h:Norm (x :: c)):Norm c:=⟨(List.pairwise_cons.1 h.rq).2,λy hy=>h.nz y (by simp [hy]),λy hy=>h.i64 y (by simp [hy])⟩
theorem Norm.head{x:μ}{c:List μ}(h:Norm (x :: c)):∀ y∈c,jT x.key y.key<0:=λy hy=>by
 rw [<-iW];exact (List.pairwise_cons.1 h.rq).1 y hy
theorem Norm.cons{x:μ}{c:List μ}(h:Norm c)(h1:∀ y∈c,jT x.key y.key<0)(h2:x.n≠0)(h3:V x.n):Norm (x :: c) :=
 ⟨List.pairwise_cons.2 ⟨λy hy=>by rw [iW];exact h1 y hy,h.rq⟩,λy hy=>by rcases List.mem_cons.1 hy with rfl|hy;exact h2;exact h.nz y hy,λy hy=>by rcases List.mem_cons.1 hy with rfl|hy;exact h3;exact h.i64 y hy⟩
theorem Norm.Wb{x:μ}{c:List μ}(h:Norm (x :: c)):∀ y∈c,y.key≠x.key:=λy hy e=>by
 have:=h.head y hy;rw [e,fH.refl] at this;omega
theorem Norm.W7{x:μ}{c:List μ}(h:Norm (x :: c)):bg (x :: c) x.key=x.n:=by
 unfold bg;rw [show cG (x :: c) x.key=(if x.key=x.key then x.n else 0)+cG c x.key from rfl,if_pos rfl,Mn h.Wb,Int.add_zero];exact a0U (h.i64 x (by simp))
theorem aXl:∀ {c d:List μ},Norm c->Norm d->(∀ k,bg c k=bg d k)->c=d:=by
 have none:∀ {c:List μ} {x:μ} {l:List μ},Norm (x :: l)->(∀ y∈c,y.key≠x.key)->bg (x :: l) x.key=bg c x.key->False:=fun {c x l} h hc e=>by
  rw [h.W7] at e;unfold bg at e;rw [Mn hc] at e;exact h.nz x (by simp) e
 intro c
 induction c with
 | nil =>
  intro d _ hd h;cases d with
  | nil=>rfl
  | cons y d=>exact (none (c:=[]) hd (by simp) (h _).symm).elim
 | cons x c ih =>
  intro d hc hd h;cases d with
  | nil=>exact (none (c:=[]) hc (by simp) (h _)).elim
  | cons y d =>
   rcases fH.Rr x.key y.key with hlt|he|hgt
   .refine (none (c:=y :: d) hc (λz hz e=>?_) (h _)).elim;rcases List.mem_cons.1 hz with rfl|hz
    .rw [e,fH.refl] at hlt;omega
    .have:=fH.trans _ _ _ hlt (hd.head z hz);rw [e,fH.refl] at this;omega
   .have hn:x.n=y.n:=by rw [<-hc.W7,<-hd.W7,<-he,h]
    have hxy:x=y:=a6b he hn;subst hxy
    congr 1
    refine ih hc.tail hd.tail λk=>?_;by_cases hk:x.key=k
    .subst hk;unfold bg;rw [Mn hc.Wb,Mn hd.Wb]
    .have:=h k;unfold bg at this ⊢;simp only [cG] at this
     rwa [if_neg hk,Int.zero_add,Int.zero_add] at this
   .refine (none (c:=x :: c) hd (λz hz e=>?_) (h _).symm).elim;rcases List.mem_cons.1 hz with rfl|hz
    .rw [e,fH.refl] at hgt;omega
    .have:=fH.trans _ _ _ hgt (hc.head z hz);rw [e,fH.refl] at this;omega
def lA(x:μ):List μ->List μ
 | []=>if e4 x.n=0 then [] else [⟨x.time,x.row,e4 x.n⟩]
 | y :: t=>if ew x y<0 then (if e4 x.n=0 then y :: t else ⟨x.time,x.row,e4 x.n⟩ :: y :: t)
   else if ew x y=0 then (if e4 (x.n+y.n)=0 then t else ⟨y.time,y.row,e4 (x.n+y.n)⟩ :: t)
   else y :: lA x t
theorem a8r(x:μ):∀ (c:List μ),∀ z∈lA x c,z.key=x.key\/∃ y∈c,y.key=z.key:=by
 intro c
 induction c with
 | nil =>
  intro z hz;unfold lA at hz;split at hz
  .cases hz
  .rcases List.mem_singleton.1 hz with rfl;exact .inl rfl
 | cons y t ih =>
  intro z hz;unfold lA at hz;split at hz
  .split at hz
   .exact .inr ⟨z,hz,rfl⟩
   .rcases List.mem_cons.1 hz with rfl|hz
    .exact .inl rfl
    .exact .inr ⟨z,hz,rfl⟩
  .split at hz
   .split at hz
    .exact .inr ⟨z,by simp [hz],rfl⟩
    .rcases List.mem_cons.1 hz with rfl|hz
     .exact .inr ⟨y,by simp,rfl⟩
     .exact .inr ⟨z,by simp [hz],rfl⟩
   .rcases List.mem_cons.1 hz with rfl|hz
    .exact .inr ⟨z,by simp,rfl⟩
    .rcases ih z hz with h|⟨y',hy,h⟩
     .exact .inl h
     .exact .inr ⟨y',by simp [hy],h⟩
theorem aWd(x:μ):∀ {c:List μ},Norm c->Norm (lA x c)/\∀ k,bg (lA x c) k=bg (x :: c) k:=by
 intro c
 induction c with
 | nil =>
  intro _;unfold lA;split
  .rename_i h;refine ⟨Norm.nil,λk=>?_⟩;unfold bg;simp only [cG];split
   .rw [Int.add_zero,h];rfl
   .rfl
  .rename_i h;refine ⟨Norm.nil.cons (by simp) h (Dp _),λk=>?_⟩;unfold bg;simp only [cG];by_cases hk:x.key=k
   .rw [if_pos hk,if_pos (show (⟨x.time,x.row,e4 x.n⟩:μ).key=k from hk),Int.add_zero,Int.add_zero,aap]
   .rw [if_neg hk,if_neg (show ¬ (⟨x.time,x.row,e4 x.n⟩:μ).key=k from hk)]
 | cons y t ih =>
  intro h;unfold lA;by_cases h1:ew x y<0
  .rw [if_pos h1];have hlt:∀ z∈y :: t,jT x.key z.key<0:=λz hz=>by
    rw [iW] at h1;rcases List.mem_cons.1 hz with rfl|hz
    .exact h1
    .exact fH.trans _ _ _ h1 (h.head z hz)
   split
   .rename_i hz;refine ⟨h,λk=>?_⟩;unfold bg;rw [show cG (x :: y :: t) k=(if x.key=k then x.n else 0)+cG (y :: t) k from rfl];split
    .rw [<-Gr,hz,Int.zero_add]
    .rw [Int.zero_add]
   .rename_i hz;refine ⟨h.cons hlt hz (Dp _),λk=>?_⟩;unfold bg;rw [show cG (x :: y :: t) k=(if x.key=k then x.n else 0)+cG (y :: t) k from rfl,
     show cG (⟨x.time,x.row,e4 x.n⟩ :: y :: t) k=(if x.key=k then e4 x.n else 0)+cG (y :: t) k from rfl]
    split
    .rw [Gr]
    .rfl
  .rw [if_neg h1];by_cases h2:ew x y=0
   .rw [if_pos h2];have hk:x.key=y.key:=by rw [iW] at h2;exact (fH.eq _ _).1 h2
    split
    .rename_i hz;refine ⟨h.tail,λk=>?_⟩;unfold bg;rw [show cG (x :: y :: t) k=(if x.key=k then x.n else 0)+((if y.key=k then y.n else 0)+cG t k) from rfl,hk];split
     .rw [<-Int.add_assoc,<-Gr,hz,Int.zero_add]
     .rw [Int.zero_add,Int.zero_add]
    .rename_i hz;refine ⟨h.tail.cons (λz aWX=>h.head z aWX) hz (Dp _),λk=>?_⟩;unfold bg;rw [show cG (x :: y :: t) k=(if x.key=k then x.n else 0)+((if y.key=k then y.n else 0)+cG t k) from rfl,hk,
      show cG (⟨y.time,y.row,e4 (x.n+y.n)⟩ :: t) k=(if y.key=k then e4 (x.n+y.n) else 0)+cG t k from rfl]
     split
     .rw [Gr,Int.add_assoc]
     .simp only [Int.zero_add]
   .rw [if_neg h2];obtain ⟨ih1,ih2⟩:=ih h.tail;have hgt:jT y.key x.key<0:=by
     rw [iW] at h1 h2;exact (fH.anti _ _).1 (by omega)
    refine ⟨ih1.cons (λz hz=>?_) (h.nz y (by simp)) (h.i64 y (by simp)),λk=>?_⟩
    .rcases a8r x t z hz with e|⟨y',hy',e⟩
     .rw [e];exact hgt
     .rw [<-e];exact h.head y' hy'
    .have:=ih2 k;unfold bg at this ⊢;rw [show cG (y :: lA x t) k=(if y.key=k then y.n else 0)+cG (lA x t) k from rfl,show cG (x :: y :: t) k=(if x.key=k then x.n else 0)+((if y.key=k then y.n else 0)+cG t k) from rfl,<-Gs,this,Gs];rw [show cG (x :: t) k=(if x.key=k then x.n else 0)+cG t k from rfl]
     congr 1
     omega
def bk(l:List μ):List μ:=l.foldr lA []
theorem BS(l:List μ):Norm (bk l)/\∀ k,bg (bk l) k=bg l k:=by
 induction l with
 | nil=>exact ⟨Norm.nil,λk=>rfl⟩
 | cons x l ih =>
  obtain ⟨h1,h2⟩:=aWd x ih.1;refine ⟨h1,λk=>?_⟩;show bg (lA x (bk l)) k=_;rw [h2];have:=ih.2 k;unfold bg at this ⊢;rw [show cG (x :: bk l) k=(if x.key=k then x.n else 0)+cG (bk l) k from rfl,show cG (x :: l) k=(if x.key=k then x.n else 0)+cG l k from rfl,<-Gs,this,Gs]
theorem Ox{l c:List μ}(h:Norm c)(hf:∀ k,bg c k=bg l k):bk l=c :=
 aXl (BS l).1 h λk=>by rw [(BS l).2,hf]
theorem V3{l:List μ}(h:Norm l):bk l=l:=Ox h λ_=>rfl
theorem a6U(l:List μ):bk (bk l)=bk l:=V3 (BS l).1
theorem a8s(x:μ):∀ c:List μ,(lA x c).length<=c.length+1
 | []=>by unfold lA;split<;>simp
 | y :: t=>by
  unfold lA;split
  .split<;>simp
  .split
   .split<;>simp<;>omega
   .have:=a8s x t;simp only [List.length_cons];omega
theorem wY:∀ l:List μ,(bk l).length<=l.length
 | []=>Nat.le_refl _
 | x :: l=>by
  have h1:=a8s x (bk l);have h2:=wY l;show (lA x (bk l)).length<=l.length+1;omega
abbrev μ.v(x:μ)(p:Option Addr)(c:Nat):Value:=.agg #[.int .i64 x.time,.slice p x.row.length c,.int .i64 x.n]
abbrev μ.cells(x:μ)(p:Option Addr)(c:Nat):List Value:=[.int .i64 x.time,.slice p x.row.length c,.int .i64 x.n]
theorem BU{M:List Nat}{w:World}{cs:List Value}{x:μ}(h:ι.rep M w cs x):∃ p c,cs=x.cells p c/\x.row.length<=c/\c<=maxLen/\V x.time/\V x.n/\ζ M w p x.row:=by
 obtain ⟨_,_,rfl,⟨rfl,ht⟩,_,_,rfl,⟨p,c,rfl,h1,h2,h3⟩,rfl,hn⟩:=h;exact ⟨p,c,rfl,h1,h2,ht,hn,h3⟩
theorem AR{M:List Nat}{w:World}{x:μ}{p:Option Addr}{c:Nat}(h1:x.row.length<=c)(h2:c<=maxLen)(h3:V x.time)(h4:V x.n)(h5:ζ M w p x.row):ι.rep M w (x.cells p c) x :=
 ⟨[.int .i64 x.time],[.slice p x.row.length c,.int .i64 x.n],rfl,⟨rfl,h3⟩,[.slice p x.row.length c],[.int .i64 x.n],rfl,⟨p,c,rfl,h1,h2,h5⟩,rfl,h4⟩
theorem BW{M:List Nat}{w:World}{x:μ}{p:Option Addr}{c:Nat}(h:ι.rep M w (x.cells p c) x):ζ M w p x.row:=by
 obtain ⟨p',c',e,_,_,_,_,h1⟩:=BU h;simp only [μ.cells,List.cons.injEq,Value.slice.injEq] at e;rw [e.2.1.1];exact h1
theorem P1(M:List Nat)(w:World)(cs:List Value)(x:μ)(h:ι.rep M w cs x):(cs.all λu=>dJ u)=true:=by
 obtain ⟨p,c,rfl,_⟩:=BU h;rfl
structure aS where
 d:μ
 p:Option Addr
 c:Nat
abbrev aS.cells(x:aS):List Value:=x.d.cells x.p x.c
abbrev aS.v(x:aS):Value:=x.d.v x.p x.c
def j5:List aS->List Value
 | []=>[]
 | x :: l=>.int .i64 x.d.time :: .slice x.p x.d.row.length x.c :: .int .i64 x.d.n :: j5 l
theorem BP:∀ l:List aS,(j5 l).length=l.length*3
 | []=>rfl
 | x :: l=>by simp only [j5,List.length_cons,BP l];omega
theorem a67:∀ a b:List aS,j5 (a++b)=j5 a++j5 b
 | [],b=>rfl
 | x :: a,b=>by simp only [List.cons_append,j5,a67 a b]
theorem a68:∀ (l:List aS) (k:Nat),(j5 l).drop (k*3)=j5 (l.drop k)
 | l,0=>by simp
 | [],k+1=>by simp [j5]
 | x :: l,k+1=>by
  rw [show (k+1)*3=k*3+1+1+1 by omega];simp only [j5,List.drop_succ_cons];exact a68 l k
theorem Un{l:List aS}{i:Nat}(h:i<l.length):((j5 l).drop (i*3)).take 3=l[i].cells:=by
 rw [a68,List.drop_eq_getElem_cons h];rfl
theorem aQc{l:List aS}{i:Nat}(h:i<l.length)(x:aS):dM (j5 l) (i*3) x.cells=j5 (l.set i x):=by
 induction l generalizing i with
 | nil=>simp at h
 | cons y l ih =>
  cases i with
  | zero=>rfl
  | succ i =>
   have:=ih (i:=i) (by simpa using h);rw [List.set_cons_succ];simp only [j5];rw [<-this];apply List.ext_getElem?;intro k;have hlen:(j5 l).length=l.length*3:=BP l;have hi:i<l.length:=by simpa using h
   by_cases hk:k<3
   .rw [sO _ _ _ _ (by omega)]
    match k,hk with
    | 0,_=>rfl
    | 1,_=>rfl
    | 2,_=>rfl
   .obtain ⟨m,rfl⟩:∃ m,k=m+3:=⟨k - 3,by omega⟩;simp only [List.getElem?_cons_succ];by_cases h1:m<i*3\/i*3+3<=m
    .rw [sO _ _ _ _ (by simp;omega),sO _ _ _ _ (by simp;omega)];simp only [List.getElem?_cons_succ]
    .obtain ⟨q,rfl⟩:∃ q,m=i*3+q:=⟨m - i*3,by omega⟩;rw [Aa _ _ _ _ (by simp;omega) (by simp;omega),show i*3+q+3=(i+1)*3+q by omega,Aa _ _ _ _ (by simp;omega) (by simp;omega)]
def fT(es:List aS):Y:=λM w=>∀ x∈es,ι.rep M w x.cells x.d
instance adT(es:List aS):O (fT es):=⟨λhs h x hx=>ι.eK hs (h x hx)⟩
theorem aUi{M:List Nat}{w:World}:∀ {l:List μ} {cs:List Value},Δ M w cs l->∃ es:List aS,cs=j5 es/\es.map aS.d=l:=by
 intro l
 induction l with
 | nil =>
  intro cs h;have:=h.1;simp at this;exact ⟨[],by rw [this];rfl,rfl⟩
 | cons x l ih =>
  intro cs h;have hl:=h.1;rw [show (ι.ty μ).size=3 from rfl] at hl;have h0:=h.2 0 (by simp);rw [show (ι.ty μ).size=3 from rfl,Nat.zero_mul,List.drop_zero] at h0;obtain ⟨p,c,e,_⟩:=BU h0;have hr:Δ M w (cs.drop 3) l:=by
   refine ⟨by rw [List.length_drop,hl,show (ι.ty μ).size=3 from rfl];simp;omega,λj hj=>?_⟩;have:=h.2 (j+1) (by simp;omega);rw [show (ι.ty μ).size=3 from rfl] at this ⊢;rw [List.drop_drop,show 3+j*3=(j+1)*3 by omega];exact this
  obtain ⟨es,h1,h2⟩:=ih hr;refine ⟨⟨x,p,c⟩ :: es,?_,by simp [h2]⟩;rw [<-List.take_append_drop 3 cs];have e':cs.take 3=x.cells p c:=e;rw [e',h1];rfl
theorem aUh{M:List Nat}{w:World}{es:List aS}(h:Δ M w (j5 es) (es.map aS.d)):fT es M w:=by
 intro x hx;obtain ⟨i,hi,rfl⟩:=List.getElem_of_mem hx;have:=h.2 i (by simpa using hi);rw [show (ι.ty μ).size=3 from rfl,Un hi] at this;simpa using this
theorem aUc{M:List Nat}{w:World}{es:List aS}(h:fT es M w):Δ M w (j5 es) (es.map aS.d):=by
 refine ⟨by rw [BP];simp [show (ι.ty μ).size=3 from rfl],λj hj=>?_⟩;have hj:j<es.length:=by simpa using hj
 rw [show (ι.ty μ).size=3 from rfl,Un hj];have:=h _ (List.getElem_mem hj);simpa using this
end Go.Proofs.YtfijlibaeahlaaaGreatDoor
end

