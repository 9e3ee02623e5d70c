/-
 The conditions of the walks of some functions,one formula each;'B<f>_run' says that they suffice. The formulas are printed by a program;the kernel compares them with the functions' code.
-/
import Derived.Test.YtnlkemjhgdbfkaaGreatDoorCh5
import Derived.Test.YtnlkemjhgdbfkaaGreatDoorCh4
import Derived.Test.YtnlkemjhgdbfkaaGreatDoorCh2
import Derived.Shelf.Strings.Builder1
import Derived.Shelf.Strconv.Itoa3
import Derived.Lib.AppendStr
import Derived.Lib.LaidTab
import Derived.LaidMore
import Derived.OpenShut
import Derived.Stop.Joined
open Go.Proofs.Tryz
set_option linter.unusedVariables false
set_option linter.unusedSimpArgs false
section
namespace Go.Proofs.YtnlkemjhgdbfkaaGreatDoor
set_option maxRecDepth 100000
open Go.Vc
def a9r:aR:=λW R Φ J=>
 Zc W R Φ F.a3H #[] λe2 q=>∃ p4,e2=.returned (.pointer p4)/\q λR5 fA=>∀ (k7:Nat),yQ λ(I8:Int->List Own->PW->Nat->Prop)=>(∃ R9 j3 FY,aB j3/\Wk W (Own.blk k7 [Value.pointer none,Value.pointer none,Value.pointer none,Value.pointer none,Value.pointer none,Value.pointer none,Value.pointer none,Value.pointer none,Value.pointer none,Value.pointer none,Value.pointer none,Value.pointer none,Value.pointer p4,Value.slice none 0 0] 135 :: R5) fA (R9) j3/\I8 0 R9 j3 FY)/\∀ S3 G3 I16 uI,aB I16->I8 S3 G3 I16 uI->Br (decide (S3<3)) (∃ SQ T3,aB T3/\Wk W G3 I16 SQ T3/\∀ w22 R23,Ctx W w22 (G3++R23) I16->aD F.Y8 #[] w22 λe24 LS=>∃ p26,e24=.returned (.pointer p26)/\∃ W5 a1p,aB a1p/\Ctx W LS (W5++R23) a1p /\ Wk W W5 a1p SQ T3/\(0<=S3/\S3<3)/\∀ w31 R32,Ctx W w31 (W5++R32) a1p->aG w31 k7 (0+S3.toNat*4) 1/\∀ (w33:World),w33=w31.setCell (aH k7 (0+S3.toNat*4)) (Value.pointer p26)->∃ S4 xP,aB xP/\Ctx W w33 (S4++R32) xP/\(0<=S3/\S3<3)/\Zc W S4 xP F.mQ #[.pointer (aJ k7 (0+S3.toNat*4)),aA S3] λe38 q=>∃ n40,e38=.returned (aA n40)/\q λR41 YO=>aX (S3+1)/\Zb W R41 YO uI (I8 (S3+1))) (Zr W G3 I16 J (.pointer (aJ k7 0)))
theorem Z0 :bE F.JR #[] a9r:=bF { keep:=some [0,1,2,6,7],eF:=[(5,[.held [(0,true),(1,true),(3,true),(4,true),(2,false)],.bD [5] none,.bD [6] (some 7)])],loops:=[(3,[(6,.one (.int .i64))],[])] } λ_ _ _ _=>by kernel_rfl
def DV (gB gO:Nat):aR:=λW R Φ J=>
 Zd W R Φ λw0=>∃ p2 k3 k4,w0.cell? (aH gB (gO+13))=some (.slice p2 k3 k4)/\Zc W R Φ F.iQ #[.slice p2 k3 k4] λe7 q=>∃ p9 wP FY,e7=.returned (.slice p9 wP FY)/\q λA5 qR=>Zr W A5 qR J (.slice p9 wP FY)
theorem xX (gB gO):bE F.gC #[.pointer (aJ gB gO)] (DV gB gO):=bF { keep:=some [0,2] } λ_ _ _ _=>by kernel_rfl
def PY (gB gO:Nat):aR:=λW R Φ J=>
 Zd W R Φ λw0=>∃ p2,w0.cell? (aH gB (gO+12))=some (.pointer p2)/\Zc W R Φ F.DG #[.pointer p2] λe5 q=>e5=.returned (Value.tuple #[])/\q λR7 D2=>Zr W R7 D2 J (Value.tuple #[])
theorem FK (gB gO):bE F.jY #[.pointer (aJ gB gO)] (PY gB gO):=bF { keep:=some [] } λ_ _ _ _=>by kernel_rfl
def PZ (gB gO:Nat) (id:Int) (n:Int):aR:=λW R Φ J=>
 ∀ (k0:Nat) w1 R2,Ctx W w1 (Own.blk k0 [aA n] 3 :: R++R2) Φ->aD F.fQ #[.pointer (aJ gB gO),aA id,Value.func (Fn.func 91) #[] #[.pointer (aJ k0 0)]] w1 λe3 w4=>∃ n5,e3=.returned (aA n5)/\∃ R6 G4,aB G4/\Ctx W w4 (R6++R2) G4/\Zr W R6 G4 J (aA n5)
theorem FL (gB gO id n):bE F.jZ #[.pointer (aJ gB gO),.int .i64 id,.int .i64 n] (PZ gB gO id n):=bF { keep:=some [0,1,5,6] } λ_ _ _ _=>by kernel_rfl
def TC (gB gO:Nat) (id:Int) (n:Int) (rG:Option Addr) (iL sI:Nat):aR:=λW R Φ J=>
 ∀ (k0 k1:Nat) w2 R3,Ctx W w2 (Own.blk k1 [.slice rG iL sI] 37 :: Own.blk k0 [aA n] 3 :: R++R3) Φ->aD F.fQ #[.pointer (aJ gB gO),aA id,Value.func (Fn.func 93) #[] #[.pointer (aJ k0 0),.pointer (aJ k1 0)]] w2 λe4 w5=>∃ n6,e4=.returned (aA n6)/\∃ R7 D2,aB D2/\Ctx W w5 (R7++R3) D2/\Zr W R7 D2 J (aA n6)
theorem HL (gB gO id n rG iL sI):bE F.lY #[.pointer (aJ gB gO),.int .i64 id,.int .i64 n,.slice rG iL sI] (TC gB gO id n rG iL sI):=bF { keep:=some [0,1,6,7,8] } λ_ _ _ _=>by kernel_rfl
def WD (gB gO:Nat) (id:Int):aR:=λW R Φ J=>
 Zc W R Φ F.iR #[.pointer (aJ gB gO),aA id] λe2 q=>∃ n4,e2=.returned (aA n4)/\q λR5 fA=>Zr W R5 fA J (.bool (decide (n4=0)))
theorem KO (gB gO id):bE F.r5 #[.pointer (aJ gB gO),.int .i64 id] (WD gB gO id):=bF { keep:=some [0,1,4] } λ_ _ _ _=>by kernel_rfl
def N4 (gB gO:Nat) (id:Int):aR:=λW R Φ J=>
 ∀ (k0:Nat) w1 R2,Ctx W w1 (Own.blk k0 [aA id] 3 :: R++R2) Φ->∃ n3,w1.cell? (aH k0 0)=some (aA n3)/\Zc W (Own.blk k0 [aA id] 3 :: R) Φ F.fQ #[.pointer (aJ gB gO),aA n3,Value.func (Fn.func 96) #[] #[.pointer (aJ k0 0)]] λe6 q=>∃ n8,e6=.returned (aA n8)/\q λR9 j3=>Zr W R9 j3 J (aA n8)
theorem DW (gB gO id):bE F.jC #[.pointer (aJ gB gO),.int .i64 id] (N4 gB gO id):=bF { keep:=some [0,3,4] } λ_ _ _ _=>by kernel_rfl
def KP (gB gO:Nat) (id:Int) (most:Int):aR:=λW R Φ J=>
 Zc W R Φ F.nT #[.pointer (aJ gB gO),aA id] λe2 q=>∃ n4,e2=.returned (aA n4)/\q λR5 fA=>yQ λ(I7:Int->List Own->PW->Nat->Prop)=>(Zs W R5 fA (I7 0))/\∀ MQ O7 I15 VY,aB I15->I7 MQ O7 I15 VY->Br (decide (MQ<most)) (Zc W O7 I15 F.jW #[.pointer (aJ gB gO)] λe19 q=>∃ n21,e19=.returned (aA n21)/\q λSO C7=>Br (decide (0<n21)) (∀ G0 wA,Ctx W G0 (SO++wA) C7->aD F.eP #[.pointer (aJ gB gO),aA 0] G0 λe26 w27=>∃ n28,e26=.returned (aA n28)/\∃ W6 uN,aB uN/\Ctx W w27 (W6 ++ wA) uN/\aX (MQ+1)/\Zb W W6 uN VY (I7 (MQ+1))) (Zr W SO C7 J (aA MQ))) (Zr W O7 I15 J (aA MQ))
theorem CE (gB gO id most):bE F.dP #[.pointer (aJ gB gO),.int .i64 id,.int .i64 most] (KP gB gO id most):=bF { keep:=some [0,1,2,6,7,18],split:=[3],loops:=[(3,[(7,.one (.int .i64))],[])] } λ_ _ _ _=>by kernel_rfl
def Q2 (gB gO:Nat) (id:Int):aR:=λW R Φ J=>
 Zc W R Φ F.r5 #[.pointer (aJ gB gO),aA id] λe2 q=>∃ c4,e2=.returned (.bool c4)/\q λR5 fA=>Br (!c4) (Zr W R5 fA J (aA (-1))) ((0<=id/\id<3)/\Zd W R5 fA λw9=>∃ S6,w9.cell? (aH gB (gO+id.toNat*4+3))=some (.pointer S6)/\Zc W R5 fA F.gL #[.pointer S6] λe14 q=>∃ n16,e14=.returned (aA n16)/\q λpM lQ=>Zr W pM lQ J (aA n16))
theorem FM (gB gO id):bE F.nS #[.pointer (aJ gB gO),.int .i64 id] (Q2 gB gO id):=bF { keep:=some [0,1,4,8] } λ_ _ _ _=>by kernel_rfl
def HM (gB gO:Nat) (id:Int) (data:ByteArray):aR:=λW R Φ J=>
 Zc W R Φ F.iR #[.pointer (aJ gB gO),aA id] λe2 q=>∃ n4,e2=.returned (aA n4)/\q λR5 fA=>Br (decide (n4≠0)) (Zr W R5 fA J (Value.tuple #[aA 0,aA n4])) ((0<=id/\id<3)/\Zd W R5 fA λw9=>∃ S6,w9.cell? (aH gB (gO+id.toNat*4+3))=some (.pointer S6)/\Zc W R5 fA F.kF #[.pointer S6,.string data] λe14 q=>∃ n16 n17 c18 n19 n20 n21 p22 k23 k24 p25 k26 k27,e14=.returned (Value.tuple #[aA n16,aA n17,Value.agg #[.bool c18,aA n19,aA n20,aA n21,.slice p22 k23 k24,.slice p25 k26 k27]])/\q λR28 YE=>∀ (b:Nat),Br (decide (n17=0)) (Zc W R28 YE F.nC #[.pointer (aJ gB gO),aA id,Value.agg #[.bool c18,aA n19,aA n20,aA n21,.slice p22 k23 k24,.slice p25 k26 k27]] λe32 q=>∃ n34,e32=.returned (aA n34)/\q λR35 a6t=>Br (decide (n34≠0)) (Zr W R35 a6t J (Value.tuple #[aA 0,aA n34])) (Zr W R35 a6t J (Value.tuple #[aA n16,aA 0]))) (Br (decide (n17≠0)) (Zr W R28 YE J (Value.tuple #[aA 0,aA n17])) (Zr W R28 YE J (Value.tuple #[aA n16,aA 0]))))
theorem B5 (gB gO id data):bE F.eM #[.pointer (aJ gB gO),.int .i64 id,.string data] (HM gB gO id data):=bF { keep:=some [0,1,2,6,7,8,9,10,11,16,32,38],gA:=[11] } λ_ _ _ _=>by kernel_rfl
def N5 (gB gO:Nat) (mask:Int):aR:=λW R Φ J=>
 Zd W R Φ λw0=>∃ p2,w0.cell? (aH gB (gO+12))=some (.pointer p2)/\Zc W R Φ F.AQ #[.pointer p2,aA mask] λe5 q=>e5=.returned (Value.tuple #[])/\q λR7 D2=>Zr W R7 D2 J (Value.tuple #[])
theorem DX (gB gO mask):bE F.jD #[.pointer (aJ gB gO),.int .i64 mask] (N5 gB gO mask):=bF { keep:=some [] } λ_ _ _ _=>by kernel_rfl
def KQ (gB gO:Nat) (id:Int):aR:=λW R Φ J=>
 Zc W R Φ F.iR #[.pointer (aJ gB gO),aA id] λe2 q=>∃ n4,e2=.returned (aA n4)/\q λR5 fA=>Br (decide (n4=1)) (Zr W R5 fA J (.slice none 0 0)) ((0<=id/\id<3)/\Zd W R5 fA λw9=>∃ S6,w9.cell? (aH gB (gO+id.toNat*4))=some (.pointer S6)/\Zc W R5 fA F.xL #[.pointer S6] λe14 q=>∃ p16,e14=.returned (.pointer p16)/\q λpM lQ=>Zc W pM lQ F.r7 #[.pointer p16,aA 0] λe21 q=>e21=.returned (Value.tuple #[])/\q λR23 PB=>Zc W R23 PB F.u0 #[.pointer p16,aA 0,.slice none 0 0] λe27 q=>e27=.returned (Value.tuple #[])/\q λW6 uN=>Zc W W6 uN F.j7 #[.pointer p16,.slice none 0 0] λe33 q=>e33=.returned (Value.tuple #[])/\q λR35 a6t=>Zc W R35 a6t F.pL #[.pointer p16] λe39 q=>e39=.returned (Value.tuple #[])/\q λR41 YO=>Zc W R41 YO F.wM #[.pointer p16,aA 0] λe45 q=>∃ p47 n48,e45=.returned (Value.tuple #[.pointer p47,aA n48])/\q λV3 vK=>Br (decide (n48≠0)) (Zr W V3 vK J (.slice none 0 0)) (Zc W V3 vK F.u6 #[.pointer p47] λe55 q=>∃ p57 k58 k59,e55=.returned (.slice p57 k58 k59)/\q λR60 PV=>Zr W R60 PV J (.slice p57 k58 k59)))
theorem CF (gB gO id):bE F.pT #[.pointer (aJ gB gO),.int .i64 id] (KQ gB gO id):=bF { keep:=some [0,1,4,5,6,7,11,34] } λ_ _ _ _=>by kernel_rfl
def Q3 (gB gO:Nat) (id:Int):aR:=λW R Φ J=>
 Zc W R Φ F.r5 #[.pointer (aJ gB gO),aA id] λe2 q=>∃ c4,e2=.returned (.bool c4)/\q λR5 fA=>Br (!c4) (Zr W R5 fA J (aA 0)) ((0<=id/\id<3)/\Zd W R5 fA λw9=>∃ S6,w9.cell? (aH gB (gO+id.toNat*4+3))=some (.pointer S6)/\Zc W R5 fA F.nE #[.pointer S6] λe14 q=>∃ n16 n17,e14=.returned (Value.agg #[aA n16,aA n17])/\q λSQ T3=>Zr W SQ T3 J (aA n16))
theorem FN (gB gO id):bE F.kD #[.pointer (aJ gB gO),.int .i64 id] (Q3 gB gO id):=bF { keep:=some [0,1,4,8] } λ_ _ _ _=>by kernel_rfl
def HN (gB gO:Nat):aR:=λW R Φ J=>
 Zd W R Φ λw0=>∃ p2,w0.cell? (aH gB (gO+12))=some (.pointer p2)/\Zc W R Φ F.AR #[.pointer p2] λe5 q=>∃ n7,e5=.returned (aA n7)/\q λR8 W7=>Zr W R8 W7 J (aA n7)
theorem B6 (gB gO):bE F.jW #[.pointer (aJ gB gO)] (HN gB gO):=bF { keep:=some [0,2] } λ_ _ _ _=>by kernel_rfl
def N6 (gB gO:Nat) (id:Int) (rG:Option Addr) (iL sI:Nat):aR:=λW R Φ J=>
 ∀ (k0:Nat) w1 R2,Ctx W w1 (Own.blk k0 [.slice rG iL sI] 37 :: R++R2) Φ->aD F.fQ #[.pointer (aJ gB gO),aA id,Value.func (Fn.func 181) #[] #[.pointer (aJ k0 0)]] w1 λe3 w4=>∃ n5,e3=.returned (aA n5)/\∃ R6 G4,aB G4/\Ctx W w4 (R6++R2) G4/\Zr W R6 G4 J (aA n5)
theorem DY (gB gO id rG iL sI):bE F.jE #[.pointer (aJ gB gO),.int .i64 id,.slice rG iL sI] (N6 gB gO id rG iL sI):=bF { keep:=some [0,1,5,6] } λ_ _ _ _=>by kernel_rfl
def aGO:aR:=λW R Φ J=>
 ∀ (k0:Nat) (w1:World) (R2:List Own),Ctx W w1 (Own.blk k0 [.slice none 0 0,aA 0] 251 :: R++R2) Φ->J (.pointer (aJ k0 0)) w1
theorem a35 :bE F.a3H #[] aGO:=bF { keep:=some [0] } λ_ _ _ _=>by kernel_rfl
def N7 (mB mO:Nat) (id:Int):aR:=λW R Φ J=>
 ∀ (k0 k1 k2 k3:Nat) w4 R5,Ctx W w4 (Own.blk k3 [Value.func (Fn.func 190) #[] #[.pointer (aJ k0 0)],Value.func (Fn.func 192) #[] #[.pointer (aJ k0 0),.pointer (aJ k1 0)],Value.func (Fn.func 193) #[] #[.pointer (aJ k0 0),.pointer (aJ k2 0)]] 258 :: Own.blk k2 [Value.pointer none] 129 :: Own.blk k1 [Value.pointer none] 128 :: Own.blk k0 [Value.pointer (aJ mB mO)] 139 :: R++R5) Φ->aD F.zZ #[.slice (aJ k3 0) 3 3] w4 λe6 w7=>∃ n8,e6=.returned (aA n8)/\∃ R9 j3,aB j3/\Ctx W w7 (R9++R5) j3/\Br (decide (n8=0)) (∃ S5 KR,aB KR/\Wk W R9 j3 S5 KR/\∃ (p15:Option Addr),(Zd W S5 KR λDM=>∃ p18,DM.cell? (aH k0 0)=some (.pointer p18)/\Value.pointer p18 = Value.pointer p15)/\∃ (p19:Option Addr),(Zd W S5 KR λw20=>∃ p22,w20.cell? (aH k0 0)=some (.pointer p22)/\Value.pointer p22=Value.pointer p19)/\∃ (p23:Option Addr),(Zd W S5 KR λG0=>∃ p26,G0.cell? (aH k0 0)=some (.pointer p26)/\Value.pointer p26=Value.pointer p23)/\∃ (p27:Option Addr),(Zd W S5 KR λw28=>∃ p30,w28.cell? (aH k1 0)=some (.pointer p30)/\Value.pointer p30=Value.pointer p27)/\∃ (p31:Option Addr),(Zd W S5 KR λw32=>∃ p34,w32.cell? (aH k2 0)=some (.pointer p34)/\Value.pointer p34=Value.pointer p31)/\∃ (p35:Option Addr),(Zd W S5 KR λw36=>∃ p38,w36.cell? (aH k2 0)=some (.pointer p38)/\Value.pointer p38=Value.pointer p35)/\∃ (p39:Option Addr),(Zd W S5 KR λw40=>∃ p42,w40.cell? (aH k1 0)=some (.pointer p42)/\Value.pointer p42=Value.pointer p39)/\Zc W R9 j3 F.MP #[.pointer p35] λe45 q=>∃ n47 n48,e45=.returned (Value.agg #[aA n47,aA n48])/\q λV3 vK=>Wk W V3 vK S5 KR/\Zc W V3 vK F.u6 #[.pointer p39] λe55 q=>∃ p57 k58 k59,e55=.returned (.slice p57 k58 k59)/\q λR60 PV=>Wk W R60 PV S5 KR/\Zc W R60 PV F.GM #[aA id,Value.agg #[aA n47,aA n48],Value.slice p57 k58 k59] λe66 q=>∃ p68,e66=.returned (.pointer p68)/\q λR69 KB=>Wk W R69 KB S5 KR /\ vC none p15 λk73 k74=>∀ w75 R76,Ctx W w75 (R69++R76) KB->aG w75 k73 (k74+1) 1/\∀ w77,w77=w75.setCell (aH k73 (k74+1)) (Value.pointer p27)->∃ R78 YG,aB YG/\Ctx W w77 (R78++R76) YG/\Wk W R78 YG S5 KR/\vC none p19 λk82 k83=>∀ w84 R85,Ctx W w84 (R78++R85) YG->aG w84 k82 (k83+2) 1/\∀ w86,w86=w84.setCell (aH k82 (k83+2)) (Value.pointer p31)->∃ R87 a6p,aB a6p/\Ctx W w86 (R87++R85) a6p/\Wk W R87 a6p S5 KR/\vC none p23 λk91 k92=>∀ w93 R94,Ctx W w93 (R87++R94) a6p->aG w93 k91 (k92+3) 1/\∀ w95,w95=w93.setCell (aH k91 (k92+3)) (Value.pointer p68)->∃ R96 aGf,aB aGf/\Ctx W w95 (R96++R94) aGf/\Zr W R96 aGf J (aA n8)) (Zr W R9 j3 J (aA n8))
theorem DZ (mB mO id):bE F.mQ #[.pointer (aJ mB mO),.int .i64 id] (N7 mB mO id):=bF { keep:=some [1,2,4,5,6,7,14],eF:=[(5,[.held [(0,true),(1,true),(2,true),(3,true),(4,true),(5,true),(6,true),(8,true),(7,false),(9,false),(10,false),(11,true),(12,true),(13,false),(14,true),(15,true),(16,false)],.bD [17] none,.bD [18] (some 19)])] } λ_ _ _ _=>by kernel_rfl
def Q4 (gB gO:Nat) (id:Int):aR:=λW R Φ J=>
 Zc W R Φ F.nU #[.pointer (aJ gB gO),aA id,Value.func (Fn.func 198) #[] #[]] λe2 q=>∃ n4,e2=.returned (aA n4)/\q λR5 fA=>Zr W R5 fA J (aA n4)
theorem FO (gB gO id):bE F.nT #[.pointer (aJ gB gO),.int .i64 id] (Q4 gB gO id):=bF { keep:=some [0,1,4] } λ_ _ _ _=>by kernel_rfl
def HO (gB gO:Nat) (i:Int):aR:=λW R Φ J=>
 Zd W R Φ λw0=>∃ p2,w0.cell? (aH gB (gO+12))=some (.pointer p2)/\Zc W R Φ F.vF #[.pointer p2,aA i] λe5 q=>∃ n7 n8 s9 n10,e5=.returned (Value.tuple #[Value.agg #[aA n7,aA n8,.string s9],aA n10])/\q λS5 KR=>∀ (GY:Nat) KC G3,Ctx W KC (Own.blk GY [aA 0,aA 0,Value.string (ByteArray.mk #[])] 267 :: S5++G3) KR->aG KC GY 0 3/\∀ DM,DM=KC.setCells GY 0 [aA n7,aA n8,.string s9]->∃ pM lQ,aB lQ/\Ctx W DM (pM++G3) lQ/\Br (decide (n10≠0)) (Zr W pM lQ J (aA n10)) (Zd W pM lQ λO8=>∃ n23,O8.cell? (aH GY 1)=some (aA n23)/\Zc W pM lQ F.nU #[.pointer (aJ gB gO),aA n23,Value.func (Fn.func 200) #[] #[.pointer (aJ GY 0)]] λe26 q=>∃ n28,e26=.returned (aA n28)/\q λW6 uN=>Zr W W6 uN J (aA n28))
theorem B7 (gB gO i):bE F.eP #[.pointer (aJ gB gO),.int .i64 i] (HO gB gO i):=bF { keep:=some [0,1,4,5,6,17] } λ_ _ _ _=>by kernel_rfl
def Q5 (gB gO:Nat) (i:Int):aR:=λW R Φ J=>
 Zd W R Φ λw0=>∃ p2,w0.cell? (aH gB (gO+12))=some (.pointer p2)/\Zc W R Φ F.DI #[.pointer p2,aA i] λe5 q=>∃ n7,e5=.returned (aA n7)/\q λR8 W7=>Zr W R8 W7 J (aA n7)
theorem FP (gB gO i):bE F.kE #[.pointer (aJ gB gO),.int .i64 i] (Q5 gB gO i):=bF { keep:=some [0,1,4] } λ_ _ _ _=>by kernel_rfl
def KS (gB gO:Nat) (i:Int):aR:=λW R Φ J=>
 Zd W R Φ λw0=>∃ p2,w0.cell? (aH gB (gO+12))=some (.pointer p2)/\Zc W R Φ F.xM #[.pointer p2,aA i] λe5 q=>∃ n7,e5=.returned (aA n7)/\q λR8 W7=>Zr W R8 W7 J (aA n7)
theorem CG (gB gO i):bE F.iP #[.pointer (aJ gB gO),.int .i64 i] (KS gB gO i):=bF { keep:=some [0,1,4] } λ_ _ _ _=>by kernel_rfl
def wT (sP:Option Addr) (sN sC:Nat):aR:=λW R Φ J=>
 Br sP.isNone (Zr W R Φ J (.slice none 0 0)) (∀ (k2:Nat) w3 R4,Ctx W w3 (Own.blk k2 [] 9 :: R++R4) Φ->∃ p5 k6 k7 w8,Sem.run prog (builtin Builtin.append #[40,40] 40 #[false,false] #[.slice (aJ k2 0) 0 0,.slice sP sN sC]) w3=.ok (.value (.slice p5 k6 k7)) w8/\∃ R9 j3,aB j3/\Ctx W w8 (R9++R4) j3/\Zr W R9 j3 J (.slice p5 k6 k7))
theorem rX (sP sN sC):bE F.iQ #[.slice sP sN sC] (wT sP sN sC):=bF { keep:=some [0,2,4] } λ_ _ _ _=>by kernel_rfl
def a1z (nB nO:Nat):aR:=λW R Φ J=>
 ∀ w0 R1,Ctx W w0 (R++R1) Φ->aG w0 nB (nO+1) 1/\∀ w2,w2=w0.setCell (aH nB (nO+1)) (aA 0)->∃ R3 PN,aB PN/\Ctx W w2 (R3++R1) PN/\Zr W R3 PN J (Value.tuple #[])
theorem Q6 (nB nO):bE F.DG #[.pointer (aJ nB nO)] (a1z nB nO):=bF { keep:=some [] } λ_ _ _ _=>by kernel_rfl
def HP (gB gO:Nat) (id:Int) (fF:FuncId) (fC:Array Value):aR:=λW R Φ J=>
 Zc W R Φ F.iR #[.pointer (aJ gB gO),aA id] λe2 q=>∃ n4,e2=.returned (aA n4)/\q λR5 fA=>Br (decide (n4=1)) (Zr W R5 fA J (aA 1)) ((0<=id/\id<3)/\∀ w9 R10,Ctx W w9 (R5++R10) fA->qA prog fF=true/\Calls prog fF (Array.mk (Value.pointer (aJ gB (gO+id.toNat*4)) :: fC.toList)) w9 λe11 G5=>∃ MQ,e11=.returned (aA MQ)/\∃ O7 tE,aB tE/\Ctx W G5 (O7++R10) tE/\Zc W O7 tE F.kN #[.pointer (aJ gB gO)] λe18 q=>e18=.returned (Value.tuple #[])/\q λOA AZ=>Zr W OA AZ J (aA MQ))
theorem B8 (gB gO id fF fC):bE F.fQ #[.pointer (aJ gB gO),.int .i64 id,.func (.func fF) #[] fC] (HP gB gO id fF fC):=bF { keep:=some [0,1,2,6,7,11],wrap:=[18] } λ_ _ _ _=>by kernel_rfl
def KT (mB mO kB kO:Nat):aR:=λW R Φ J=>
 ∃ R0 cG,aB cG/\Wk W R Φ R0 cG/\∃ (n4:Int),(Zd W R0 cG λw5=>∃ n7,w5.cell? (aH kB kO)=some (aA n7)/\aA n7=aA n4)/\∃ (p8:Option Addr),(Zd W R0 cG λw9=>∃ S6,w9.cell? (aH mB mO)=some (.pointer S6)/\Value.pointer S6=Value.pointer p8)/\Zc W R Φ F.r7 #[.pointer p8,aA n4] λe14 q=>e14=.returned (Value.tuple #[])/\q λR16 aZK=>Zr W R16 aZK J (aA 0)
theorem CH (mB mO kB kO):bE F.pU #[.pointer (aJ mB mO),.pointer (aJ kB kO)] (KT mB mO kB kO):=bF { keep:=some [0,1,3],eF:=[(1,[.held [(0,true),(4,true),(1,true),(2,true),(3,true)],.bD [] (some 5)])] } λ_ _ _ _=>by kernel_rfl
def N8 (mB mO kB kO lB lO:Nat):aR:=λW R Φ J=>
 ∃ R0 cG,aB cG/\Wk W R Φ R0 cG/\∃ (n4:Int),(Zd W R0 cG λw5=>∃ n7,w5.cell? (aH kB kO)=some (aA n7)/\aA n7=aA n4)/\∃ (p8:Option Addr) (k9 wP:Nat),(Zd W R0 cG λMT=>∃ MX vN DP,MT.cell? (aH lB lO)=some (.slice MX vN DP)/\Value.slice MX vN DP=Value.slice p8 k9 wP)/\∃ (p16:Option Addr),(Zd W R0 cG λWU=>∃ p19,WU.cell? (aH mB mO)=some (.pointer p19)/\Value.pointer p19=Value.pointer p16)/\Zc W R Φ F.u0 #[.pointer p16,aA n4,.slice p8 k9 wP] λe22 q=>e22=.returned (Value.tuple #[])/\q λLR rD=>Zr W LR rD J (aA 0)
theorem E0 (mB mO kB kO lB lO):bE F.r8 #[.pointer (aJ mB mO),.pointer (aJ kB kO),.pointer (aJ lB lO)] (N8 mB mO kB kO lB lO):=bF { keep:=some [0,1,2,4],eF:=[(1,[.held [(0,true),(4,true),(5,true),(1,true),(2,true),(3,true)],.bD [] (some 6)])] } λ_ _ _ _=>by kernel_rfl
def WE (gB gO:Nat) (id:Int):aR:=λW R Φ J=>
 Zd W R Φ λw0=>Br (decide (id<0)||decide (3<=id)) (Zr W R Φ J (aA 1)) ((0<=id/\id<3)/\Zd W R Φ λw4=>∃ p6,w4.cell? (aH gB (gO+id.toNat*4+3))=some (.pointer p6)/\Br p6.isNone (Zr W R Φ J (aA 9)) (Zr W R Φ J (aA 0)))
theorem KU (gB gO id):bE F.iR #[.pointer (aJ gB gO),.int .i64 id] (WE gB gO id):=bF { keep:=some [0,1,4,5,12] } λ_ _ _ _=>by kernel_rfl
def HQ (mB mO kB kO:Nat):aR:=λW R Φ J=>
 Zd W R Φ λw0=>∃ p2,w0.cell? (aH mB (mO+3))=some (.pointer p2)/\Br (!p2.isNone) (Zr W R Φ J (aA 7)) (Zd W R Φ λw5=>∃ p7,w5.cell? (aH mB mO)=some (.pointer p7)/\Zc W R Φ F.pL #[.pointer p7] λe10 q=>e10=.returned (Value.tuple #[])/\q λA5 qR=>Zd W A5 qR λKC=>∃ n16,KC.cell? (aH kB kO)=some (aA n16)/\Zc W A5 qR F.mQ #[.pointer (aJ mB mO),aA n16] λe19 q=>∃ n21,e19=.returned (aA n21)/\q λSO C7=>Zr W SO C7 J (aA n21))
theorem B9 (mB mO kB kO):bE F.oG #[.pointer (aJ mB mO),.pointer (aJ kB kO)] (HQ mB mO kB kO):=bF { keep:=some [0,1,3,8] } λ_ _ _ _=>by kernel_rfl
def WG (gB gO:Nat) (id:Int) (o0:Bool) (o1:Int) (o2:Int) (o3:Int) (o4P:Option Addr) (o4N o4C:Nat) (o5P:Option Addr) (o5N o5C:Nat):aR:=λW R Φ J=>
 ∀ (b:Nat),∃ R0 cG,aB cG/\Wk W R Φ R0 cG/\(0<=id/\id<3)/\Zc W R Φ F.lJ #[.pointer (aJ gB (gO+id.toNat*4)),Value.agg #[.bool o0,aA o1,aA o2,aA o3,.slice o4P o4N o4C,.slice o5P o5N o5C]] λe6 q=>∃ n8,e6=.returned (aA n8)/\q λR9 j3=>Br (decide (n8=0)) (yQ λ(I11:Int->List Own->PW->Nat->Prop)=>(Zs W R9 j3 (I11 0))/\∀ n17 SQ I19 k20,aB I19->I11 n17 SQ I19 k20->Br (decide (n17<(↑o5N:Int))) (Zi n17 o5N o5P λk21 k22=>Zd W SQ I19 λw23=>∃ n25 n26 n27 n28 n29 n30 n31 c32 p33 k34 k35,bL w23 k21 (k22+n17.toNat*9) [aA n25,aA n26,aA n27,aA n28,aA n29, aA n30,aA n31,.bool c32,.slice p33 k34 k35]/\∀ (b:Nat),∃ GR tH,aB tH/\Wk W SQ I19 GR tH/\∃ (p40:Option Addr),(Zd W GR tH λw41=>∃ p43,w41.cell? (aH gB (gO+12))=some (.pointer p43)/\Value.pointer p43=Value.pointer p40)/\Zc W SQ I19 F.oX #[Value.agg #[aA n25,aA n26,aA n27,aA n28,aA n29,aA n30,aA n31,.bool c32,.slice p33 k34 k35]] λe46 q=>∃ s48,e46=.returned (.string s48)/\q λV3 vK=>Wk W V3 vK GR tH/\Zc W V3 vK F.DJ #[.pointer p40,aA id,aA n27,.string s48] λe55 q=>∃ Y9,e55=.returned (aA Y9)/\q λR58 a9m=>aX (n17+1)/\Zb W R58 a9m k20 (I11 (n17+1))) (Zc W SQ I19 F.kN #[.pointer (aJ gB gO)] λe67 q=>e67=.returned (Value.tuple #[])/\q λR69 KB=>Zr W R69 KB J (aA n8))) (Zc W R9 j3 F.kN #[.pointer (aJ gB gO)] λe75 q=>e75=.returned (Value.tuple #[])/\q λR77 a9e=>Zr W R77 a9e J (aA n8))
theorem KV (gB gO id o0 o1 o2 o3 o4P o4N o4C o5P o5N o5C):bE F.nC #[.pointer (aJ gB gO),.int .i64 id,.agg #[.bool o0,.int .i64 o1,.int .i64 o2,.int .i64 o3,.slice o4P o4N o4C,.slice o5P o5N o5C]] (WG gB gO id o0 o1 o2 o3 o4P o4N o4C o5P o5N o5C):=bF { keep:=some [0,1,5,6,7,9,18,20,21,22,23],gA:=[5,9],eF:=[(1,[.held [(0,true),(1,true),(5,true),(2,true),(3,true),(4,true)],.bD [] (some 6),.bD [7] none]),(6,[.held [(0,true),(4,true),(5,true),(7,true),(1,true),(6,true),(2,true),(3,true),(8,false)],.bD [] (some 9)])],loops:=[(4,[(22,.one (.int .i64))],[])] } λ_ _ _ _=>by kernel_rfl
def Z1 (nB nO:Nat) (mask:Int):aR:=λW R Φ J=>
 ∃ (n0:Int),(∀ (w1:World),Sem.run prog (binOp BinOp.and 3 (aA mask) (aA 65535)) w1=Result.ok (aA n0) w1)/\∀ w2 R3,Ctx W w2 (R++R3) Φ->aG w2 nB (nO+1) 1/\∀ w4,w4=w2.setCell (aH nB (nO+1)) (aA n0)->∃ R5 fA,aB fA/\Ctx W w4 (R5++R3) fA/\Zr W R5 fA J (Value.tuple #[])
theorem N9 (nB nO mask):bE F.AQ #[.pointer (aJ nB nO),.int .i64 mask] (Z1 nB nO mask):=bF { keep:=some [] } λ_ _ _ _=>by kernel_rfl
def Z2 (jB jO:Nat):aR:=λW R Φ J=>
 Zc W R Φ F.oJ #[.pointer (aJ jB jO)] λe2 q=>∃ p4 k5 k6,e2=.returned (.slice p4 k5 k6)/\q λR7 D2=>yQ λ(I9:Option Addr->Nat->Nat->Int->List Own->PW->Nat->Prop)=>(Zs W R7 D2 (I9 none 0 0 0))/\∀ p15 VY uI n18 vZ I20 k21,aB I20->I9 p15 VY uI n18 vZ I20 k21->Br (decide (n18<(↑k5:Int))) (Zi n18 k5 p4 λk22 k23=>Zd W vZ I20 λG0=>∃ s26,G0.cell? (aH k22 (k23+n18.toNat))=some (.string s26)/\∀ w27 R28,Ctx W w27 (vZ++R28) I20->aD F.vH #[.string s26] w27 λe29 w30=>∃ n31 s32 c33,e29=.returned (Value.tuple #[Value.agg #[aA n31,.string s32],Value.bool c33])/\∃ S4 xP,aB xP /\ Ctx W w30 (S4++R28) xP/\∀ (b k36:Nat) w37 V2,Ctx W w37 (Own.blk k36 [aA n31,.string s32] 216 :: S4++V2) xP->∃ p39 k40 k41 w42,Sem.run prog (builtin Builtin.append #[99,99] 99 #[false,false] #[.slice p15 VY uI,.slice (aJ k36 0) 1 1]) w37=.ok (.value (.slice p39 k40 k41)) w42/\∃ R43 a1x,aB a1x/\Ctx W w42 (R43++V2) a1x/\aX (n18+1)/\Zb W R43 a1x k21 (I9 p39 k40 k41 (n18+1))) (Zr W vZ I20 J (.slice p15 VY uI))
theorem NA (jB jO):bE F.u6 #[.pointer (aJ jB jO)] (Z2 jB jO):=bF { keep:=some [0,2,3,5,6,9,10,11,12],gA:=[6],loops:=[(3,[(3,.one (.slice)),(11,.one (.int .i64))],[])] } λ_ _ _ _=>by kernel_rfl
def Z3 (nB nO:Nat):aR:=λW R Φ J=>
 Zd W R Φ λw0=>∃ p2 k3 k4,w0.cell? (aH nB nO)=some (.slice p2 k3 k4)/\Zr W R Φ J (aA (↑k3:Int))
theorem NB (nB nO):bE F.AR #[.pointer (aJ nB nO)] (Z3 nB nO):=bF { keep:=some [0,2] } λ_ _ _ _=>by kernel_rfl
def HR (mB mO kB kO:Nat):aR:=λW R Φ J=>
 ∃ R0 cG,aB cG/\Wk W R Φ R0 cG/\∃ (p4:Option Addr) (k5 k6:Nat),(Zd W R0 cG λw7=>∃ p9 wP FY,w7.cell? (aH kB kO)=some (.slice p9 wP FY)/\Value.slice p9 wP FY=Value.slice p4 k5 k6)/\∃ (p12:Option Addr),(Zd W R0 cG λw13=>∃ p15,w13.cell? (aH mB mO)=some (.pointer p15)/\Value.pointer p15=Value.pointer p12)/\Zc W R Φ F.j7 #[.pointer p12,.slice p4 k5 k6] λe18 q=>e18=.returned (Value.tuple #[])/\q λOA AZ=>Zc W OA AZ F.jF #[.pointer (aJ mB mO)] λe24 q=>e24=.returned (Value.tuple #[])/\q λLU AV=>Zr W LU AV J (aA 0)
theorem BA (mB mO kB kO):bE F.oI #[.pointer (aJ mB mO),.pointer (aJ kB kO)] (HR mB mO kB kO):=bF { keep:=some [0,1,3],eF:=[(1,[.held [(0,true),(4,true),(1,true),(2,true),(3,true)],.bD [] (some 5)])] } λ_ _ _ _=>by kernel_rfl
def NC (mB mO:Nat):aR:=λW R Φ J=>
 ∀ w0 R1,Ctx W w0 (R++R1) Φ->aG w0 mB (mO+1) 1/\∀ w2,w2=w0.setCell (aH mB (mO+1)) (Value.pointer none)->∃ R3 PN,aB PN/\Ctx W w2 (R3++R1) PN/\∀ w5 R6,Ctx W w5 (R3++R6) PN->aG w5 mB (mO+2) 1/\∀ w7,w7=w5.setCell (aH mB (mO+2)) (Value.pointer none)->∃ R8 W7,aB W7/\Ctx W w7 (R8++R6) W7/\∀ w10 S5,Ctx W w10 (R8++S5) W7->aG w10 mB (mO+3) 1/\∀ G5,G5=w10.setCell (aH mB (mO+3)) (Value.pointer none)->∃ R13 xS,aB xS/\Ctx W G5 (R13++S5) xS/\Zr W R13 xS J (Value.tuple #[])
theorem E1 (mB mO):bE F.jF #[.pointer (aJ mB mO)] (NC mB mO):=bF { keep:=some [] } λ_ _ _ _=>by kernel_rfl
def a36 (a38:Option Addr) (Z4 a9s:Nat):aR:=λW R Φ J=>
 yQ λ(I0:Int->List Own->PW->Nat->Prop)=>(Zs W R Φ (I0 0))/\∀ n6 R7 I8 k9,aB I8->I0 n6 R7 I8 k9->Br (decide (n6<(↑Z4:Int))) (Zi n6 Z4 a38 λwP FY=>Zd W R7 I8 λG5=>∃ (u14:FuncId) (u15 u16:Array Value),G5.cell? (aH wP (FY+n6.toNat))=some (Value.func (Fn.func u14) u15 u16)/\∀ WU SQ,Ctx W WU (R7++SQ) I8->qA prog u14=true/\Calls prog u14 (Array.mk ((u15.toList.append []).append u16.toList)) WU λe19 w20=>∃ n21,e19=.returned (aA n21)/\∃ SO C7,aB C7/\Ctx W w20 (SO++SQ) C7/\Br (decide (n21≠0)) (Zr W SO C7 J (aA n21)) (aX (n6+1)/\Zb W SO C7 k9 (I0 (n6+1)))) (Zr W R7 I8 J (aA 0))
theorem TD (a38 Z4 a9s):bE F.zZ #[.slice a38 Z4 a9s] (a36 a38 Z4 a9s):=bF { keep:=some [0,2,4,5,6,7,8,9,15],wrap:=[13],loops:=[(2,[(8,.one (.int .i64))],[])] } λ_ _ _ _=>by kernel_rfl
def HT (kB kO:Nat):aR:=λW R Φ J=>
 Zd W R Φ λw0=>∃ p2,w0.cell? (aH kB kO)=some (.pointer p2)/\vC none p2 λk3 k4=>Zd W R Φ λw5=>∃ p7,w5.cell? (aH k3 k4)=some (.pointer p7)/\Zc W R Φ F.gM #[.pointer p7,aA 2] λe10 q=>∃ n12,e10=.returned (aA n12)/\q λR13 xS=>Zr W R13 xS J (aA n12)
theorem BB (kB kO):bE F.hY #[.pointer (aJ kB kO)] (HT kB kO):=bF { keep:=some [0,1] } λ_ _ _ _=>by kernel_rfl
def HU (kB kO lB lO:Nat):aR:=λW R Φ J=>
 Zd W R Φ λw0=>∃ p2,w0.cell? (aH kB kO)=some (.pointer p2)/\vC none p2 λk3 k4=>Zd W R Φ λw5=>∃ p7,w5.cell? (aH k3 k4)=some (.pointer p7)/\Zc W R Φ F.wM #[.pointer p7,aA 0] λe10 q=>∃ p12 MQ,e10=.returned (Value.tuple #[.pointer p12,aA MQ])/\q λO7 tE=>∀ DM pM,Ctx W DM (O7++pM) tE->aG DM lB lO 1/\∀ JU,JU=DM.setCell (aH lB lO) (Value.pointer p12)->∃ vZ lM,aB lM/\Ctx W JU (vZ++pM) lM/\Zr W vZ lM J (aA MQ)
theorem BC (kB kO lB lO):bE F.iA #[.pointer (aJ kB kO),.pointer (aJ lB lO)] (HU kB kO lB lO):=bF { keep:=some [0,1,2] } λ_ _ _ _=>by kernel_rfl
def HV (kB kO lB lO:Nat):aR:=λW R Φ J=>
 Zd W R Φ λw0=>∃ p2,w0.cell? (aH kB kO)=some (.pointer p2)/\vC none p2 λk3 k4=>Zd W R Φ λw5=>∃ p7,w5.cell? (aH k3 k4)=some (.pointer p7)/\Zc W R Φ F.JT #[.pointer p7,aA 2] λe10 q=>∃ p12 MQ,e10=.returned (Value.tuple #[.pointer p12,aA MQ])/\q λO7 tE=>∀ DM pM,Ctx W DM (O7++pM) tE->aG DM lB lO 1/\∀ JU,JU=DM.setCell (aH lB lO) (Value.pointer p12)->∃ vZ lM,aB lM/\Ctx W JU (vZ++pM) lM/\Zr W vZ lM J (aA MQ)
theorem BD (kB kO lB lO):bE F.iB #[.pointer (aJ kB kO),.pointer (aJ lB lO)] (HV kB kO lB lO):=bF { keep:=some [0,1,2] } λ_ _ _ _=>by kernel_rfl
def a6u (cB cO:Nat):aR:=λW R Φ J=>
 ∀ (b:Nat) w0 R1,Ctx W w0 (R++R1) Φ->aD F.uA #[.pointer (aJ cB cO)] w0 λe2 w3=>∃ s4 c5,e2=.returned (Value.tuple #[.string s4,.bool c5])/\∃ R6 G4,aB G4/\Ctx W w3 (R6++R1) G4/\Br (!c5) (Zr W R6 G4 J (Value.agg #[aA 0,aA (-1)])) (Zc W R6 G4 F.tC #[.string s4] λe12 q=>∃ p14,e12=.returned (.pointer p14)/\q λG3 xR=>Zc W G3 xR F.cC #[.pointer p14] λe19 q=>∃ n21,e19=.returned (aA n21)/\q λSO C7=>∀ G0 wA,Ctx W G0 (SO++wA) C7->aD F.cC #[.pointer p14] G0 λe26 w27=>∃ n28,e26=.returned (aA n28) /\ ∃ W6 uN,aB uN/\Ctx W w27 (W6++wA) uN/\Zr W W6 uN J (Value.agg #[aA n21,aA n28]))
theorem WH (cB cO):bE F.MP #[.pointer (aJ cB cO)] (a6u cB cO):=bF { keep:=some [0,2,3,4,5,12],gA:=[2] } λ_ _ _ _=>by kernel_rfl
def Q7 (gB gO:Nat) (id:Int) (fF:FuncId) (fC:Array Value):aR:=λW R Φ J=>
 Zc W R Φ F.iR #[.pointer (aJ gB gO),aA id] λe2 q=>∃ n4,e2=.returned (aA n4)/\q λR5 fA=>Br (decide (n4≠0)) (Zr W R5 fA J (aA n4)) ((0<=id/\id<3)/\Zd W R5 fA λw9=>∃ S6,w9.cell? (aH gB (gO+id.toNat*4+3))=some (.pointer S6)/\∀ G5 R13,Ctx W G5 (R5++R13) fA->qA prog fF=true/\Calls prog fF (Array.mk (Value.pointer S6 :: fC.toList)) G5 λe14 w15=>∃ c16 n17 n18 n19 p20 k21 k22 p23 k24 k25,e14=.returned (Value.agg #[.bool c16,aA n17,aA n18,aA n19,.slice p20 k21 k22,.slice p23 k24 k25])/\∃ LU AV,aB AV/\Ctx W w15 (LU++R13) AV/\Zc W LU AV F.nC #[.pointer (aJ gB gO),aA id,Value.agg #[.bool c16,aA n17,aA n18,aA n19,.slice p20 k21 k22,.slice p23 k24 k25]] λe30 q=>∃ n32,e30=.returned (aA n32)/\q λGQ mA=>Zr W GQ mA J (aA n32))
theorem FQ (gB gO id fF fC):bE F.nU #[.pointer (aJ gB gO),.int .i64 id,.func (.func fF) #[] fC] (Q7 gB gO id fF fC):=bF { keep:=some [0,1,2,6,7,12],wrap:=[24] } λ_ _ _ _=>by kernel_rfl
def TE (nB nO:Nat) (i:Int):aR:=λW R Φ J=>
 ∀ (b:Nat) w0 R1,Ctx W w0 (R++R1) Φ->aD F.wN #[.pointer (aJ nB nO),aA i] w0 λe2 w3=>∃ n4 n5 s6 c7,e2=.returned (Value.tuple #[Value.agg #[aA n4,aA n5,.string s6],Value.bool c7])/\∃ R8 W7,aB W7/\Ctx W w3 (R8++R1) W7/\∀ (b:Nat),Br (!c7) (Zr W R8 W7 J (Value.tuple #[Value.agg #[aA 0,aA 0,Value.string (ByteArray.mk #[])],aA 4])) (Zc W R8 W7 F.wO #[.pointer (aJ nB nO),aA n4,aA n5] λe14 q=>∃ c16,e14=.returned (.bool c16)/\q λpM lQ=>Br (!c16) (Zr W pM lQ J (Value.tuple #[Value.agg #[aA 0,aA 0,Value.string (ByteArray.mk #[])],aA 10])) (Zr W pM lQ J (Value.tuple #[Value.agg #[aA n4,aA n5,.string s6],aA 0])))
theorem HW (nB nO i):bE F.vF #[.pointer (aJ nB nO),.int .i64 i] (TE nB nO i):=bF { keep:=some [0,1,4,5,6,7,14,18],gA:=[4,6] } λ_ _ _ _=>by kernel_rfl
def E2 (rB rO kB kO:Nat):aR:=λW R Φ J=>
 ∀ (b:Nat) w0 R1,Ctx W w0 (R++R1) Φ->∃ s2,w0.cell? (aH kB (kO+2))=some (.string s2)/\Zc W R Φ F.DH #[.string s2] λe5 q=>∃ n7 n8 n9 n10 FZ n12 MQ c14 p15 VY uI c18,e5=.returned (Value.tuple #[Value.agg #[aA n7,aA n8,aA n9,aA n10,aA FZ,aA n12,aA MQ,.bool c14,.slice p15 VY uI],Value.bool c18])/\q λvZ lM=>∀ (b:Nat) O8 SO,Ctx W O8 (vZ++SO) lM->aD F.nG #[.pointer (aJ rB rO),Value.agg #[aA n7,aA n8,aA n9,aA n10,aA FZ,aA n12,aA MQ,.bool c14,.slice p15 VY uI]] O8 λe23 G0=>∃ c25 n26 n27 n28 p29 k30 k31 p32 k33 k34,e23=.returned (Value.agg #[.bool c25,aA n26,aA n27,aA n28,.slice p29 k30 k31,.slice p32 k33 k34])/\∃ R35 a6t,aB a6t/\Ctx W G0 (R35++SO) a6t/\Zr W R35 a6t J (Value.agg #[.bool c25,aA n26,aA n27,aA n28,.slice p29 k30 k31,.slice p32 k33 k34])
theorem xY (rB rO kB kO):bE F.mK #[.pointer (aJ rB rO),.pointer (aJ kB kO)] (E2 rB rO kB kO):=bF { keep:=some [0,1,3,4],gA:=[3,4] } λ_ _ _ _=>by kernel_rfl
def a1A (nB nO:Nat) (i:Int):aR:=λW R Φ J=>
 Zc W R Φ F.wN #[.pointer (aJ nB nO),aA i] λe2 q=>∃ n4 n5 s6 c7,e2=.returned (Value.tuple #[Value.agg #[aA n4,aA n5,.string s6],Value.bool c7])/\q λR8 W7=>∀ (b:Nat),Br (!c7) (Zr W R8 W7 J (aA 4)) (Zr W R8 W7 J (aA 0))
theorem Q8 (nB nO i):bE F.DI #[.pointer (aJ nB nO),.int .i64 i] (a1A nB nO i):=bF { keep:=some [0,1,4,6,14],gA:=[5] } λ_ _ _ _=>by kernel_rfl
def WI (nB nO:Nat) (i:Int):aR:=λW R Φ J=>
 Zd W R Φ λw0=>∃ (p2:Option Addr) (k3 k4:Nat),((!decide (i<0))=true->w0.cell? (aH nB nO)=some (.slice p2 k3 k4))/\Br (decide (i<0)||decide ((↑k3:Int)<=i)) (Zr W R Φ J (aA 4)) (Zd W R Φ λw7=>∃ p9 wP FY,w7.cell? (aH nB nO)=some (.slice p9 wP FY)/\Br (decide (500<=(↑wP:Int))) (Zr W R Φ J (aA 6)) (∃ O7 tE,aB tE/\Wk W R Φ O7 tE/\∃ (p18:Option Addr) (VZ k20:Nat),(Zd W O7 tE λO8=>∃ p23 k24 k25,O8.cell? (aH nB nO)=some (.slice p23 k24 k25)/\Value.slice p23 k24 k25=Value.slice p18 VZ k20)/\∃ (p26:Option Addr) (k27 k28:Nat),(Zd W O7 tE λw29=>∃ p31 k32 k33,w29.cell? (aH nB nO)=some (.slice p31 k32 k33)/\Value.slice p31 k32 k33=Value.slice p26 k27 k28)/\Zi i k27 p26 λk34 k35=>∃ (n36 n37:Int) (s38:ByteArray),(Zd W O7 tE λw39=>∃ n41 n42 s43,bL w39 k34 (k35+i.toNat*3) [aA n41,aA n42,.string s43]/\Value.agg #[aA n41,aA n42,.string s43]=Value.agg #[aA n36,aA n37,.string s38])/\∀ (k44:Nat),Wk W (Own.blk k44 [aA n36,aA n37,.string s38] 267 :: R) Φ (O7) tE/\∀ w47 R48,Ctx W w47 (Own.blk k44 [aA n36,aA n37,.string s38] 267 :: R++R48) Φ->∃ p49 k50 YK w52,Sem.run prog (builtin Builtin.append #[109,109] 109 #[false,false] #[.slice p18 VZ k20,.slice (aJ k44 0) 1 1]) w47=.ok (.value (.slice p49 k50 YK)) w52/\∃ YL rE,aB rE/\Ctx W w52 (YL++R48) rE/\Wk W YL rE O7 tE/\∀ w57 R58,Ctx W w57 (YL ++ R58) rE->aG w57 nB nO 1/\∀ w59,w59=w57.setCell (aH nB nO) (Value.slice p49 k50 YK)->∃ R60 PV,aB PV/\Ctx W w59 (R60++R58) PV/\Zr W R60 PV J (aA 0)))
theorem KW (nB nO i):bE F.xM #[.pointer (aJ nB nO),.int .i64 i] (WI nB nO i):=bF { keep:=some [0,1,4,5,17],eF:=[(5,[.held [(0,true),(1,true),(5,true),(9,true),(2,true),(6,true),(3,true),(7,true),(4,true),(8,true),(10,true),(11,true),(12,false),(13,false)],.bD [14] none,.bD [15] (some 16)])] } λ_ _ _ _=>by kernel_rfl
def Q9 (gB gO:Nat):aR:=λW R Φ J=>
 Zd W R Φ λw0=>∃ p2 p3 p4 p5 p6 p7 p8 p9 p10 S6 p12 MX,bL w0 gB gO [Value.pointer p2,Value.pointer p3,Value.pointer p4,Value.pointer p5,Value.pointer p6,Value.pointer p7,Value.pointer p8,Value.pointer p9,Value.pointer p10,Value.pointer S6,Value.pointer p12,Value.pointer MX]/\yQ λ(I14:Int->List Own->PW->Nat->Prop)=>(Zs W R Φ (I14 0))/\∀ n20 O9 I22 k23,aB I22->I14 n20 O9 I22 k23->Br (decide (n20<3)) ((0<=n20/\n20<3)/\∀ (k24:Nat) LS LU,Ctx W LS (Own.blk k24 [Value.pointer none,Value.pointer none,Value.pointer none,Value.pointer none] 132 :: O9++LU) I22->match (List.take 4 (List.drop (0+n20.toNat*4) [Value.pointer p2,Value.pointer p3,Value.pointer p4,Value.pointer p5,Value.pointer p6,Value.pointer p7,Value.pointer p8,Value.pointer p9,Value.pointer p10,Value.pointer S6,Value.pointer p12,Value.pointer MX])).length.beq 4&&(List.take 4 (List.drop (0+n20.toNat*4) [Value.pointer p2,Value.pointer p3,Value.pointer p4,Value.pointer p5,Value.pointer p6,Value.pointer p7,Value.pointer p8,Value.pointer p9,Value.pointer p10,Value.pointer S6,Value.pointer p12,Value.pointer MX])).all mU with|true=>aG LS k24 0 4/\∀ w29,w29=LS.setCells k24 0 (List.take 4 (List.drop (0+n20.toNat*4) [Value.pointer p2,Value.pointer p3,Value.pointer p4,Value.pointer p5,Value.pointer p6,Value.pointer p7,Value.pointer p8,Value.pointer p9,Value.pointer p10,Value.pointer S6,Value.pointer p12,Value.pointer MX]))->∃ YJ MW,aB MW/\Ctx W w29 (YJ++LU) MW/\Zd W YJ MW λw32=>∃ p34,w32.cell? (aH k24 3)=some (.pointer p34)/\∃ (p35:Option Addr),((!p34.isNone)=true->w32.cell? (aH k24 3)=some (.pointer p35))/\∃ (n36:Int),((!p34.isNone)=true->∀ (w37:World),(∃ (k38:Nat),w37=w32.drewN k38)->aD F.dQ #[.pointer p35] w37 λe39 w40=>e39=.returned (aA n36)/\∃ (k41:Nat),w40=w32.drewN k41)/\∃ (p42:Option Addr) (k43 k44:Nat),((!p34.isNone)=true->w32.cell? (aH gB (gO+13))=some (.slice p42 k43 k44))/\Br (p34.isNone||decide (n36<=(↑k43:Int))) (aX (n20+1)/\Zb W YJ MW k23 (I14 (n20+1))) (∀ w50 V7,Ctx W w50 (YJ++V7) MW->aG w50 gB (gO+13) 1/\∀ w52,w52=w50.setCell (aH gB (gO+13)) (Value.slice none 0 0)->∃ YL rE,aB rE/\Ctx W w52 (YL++V7) rE/\∃ R55 SY,aB SY/\Wk W YL rE R55 SY/\∃ (p59:Option Addr), (Zd W R55 SY λw60=>∃ p62,w60.cell? (aH k24 3)=some (.pointer p62)/\Value.pointer p62=Value.pointer p59)/\∃ (p63:Option Addr),(Zd W R55 SY λw64=>∃ p66,w64.cell? (aH k24 3)=some (.pointer p66)/\Value.pointer p66=Value.pointer p63)/\Zc W YL rE F.oH #[.pointer p59] λe69 q=>∃ p71 k72 k73,e69=.returned (.slice p71 k72 k73)/\q λR74 KH=>Wk W R74 KH R55 SY/\Zc W R74 KH F.dQ #[.pointer p63] λe80 q=>∃ n82,e80=.returned (aA n82)/\q λR83 a9n=>Wk W R83 a9n R55 SY/\(0<=n82/\n82<=(↑k73:Int))/\yQ λ(I87:Int->List Own->PW->Nat->Prop)=>(∃ R88 aGc k90,aB aGc /\ Wk W R83 a9n R88 aGc/\I87 0 R88 aGc k90)/\∀ n93 R94 I95 k96,aB I95->I87 n93 R94 I95 k96->Br (decide (n93<(↑n82.toNat:Int))) ((0<=n93/\n93<(↑n82.toNat:Int))/\vC none (cJ p71 2 0 k73) λk97 k98=>Zd W R94 I95 λw99=>∃ n101 aPl,bL w99 k97 (k98+n93.toNat*2) [aA n101,.string aPl]/\∀ (b:Nat),∃ aDm Z5,aB Z5/\Wk W R94 I95 aDm Z5/\∃ (aUN:Option Addr) (aUO P9:Nat),(Zd W aDm Z5 λa5S=>∃ a6b a1b FA,a5S.cell? (aH gB (gO+13))=some (.slice a6b a1b FA)/\Value.slice a6b a1b FA=Value.slice aUN aUO P9)/\∀ (SP:Nat),Wk W (Own.blk SP [.string aPl] 9 :: R94) I95 (aDm) Z5/\∀ a8T a88,Ctx W a8T (Own.blk SP [.string aPl] 9 :: R94++a88) I95->∃ aUP aJ3 aUQ a6s,Sem.run prog (builtin Builtin.append #[40,40] 40 #[false,false] #[.slice aUN aUO P9,.slice (aJ SP 0) 1 1]) a8T=.ok (.value (.slice aUP aJ3 aUQ)) a6s/\∃ TB uO,aB uO/\Ctx W a6s (TB++a88) uO/\Wk W TB uO aDm Z5/\∀ a5W a5M,Ctx W a5W (TB++a5M) uO->aG a5W gB (gO+13) 1/\∀ a8Q,a8Q=a5W.setCell (aH gB (gO+13)) (Value.slice aUP aJ3 aUQ)->∃ aDk V9,aB V9/\Ctx W a8Q (aDk++a5M) V9/\aX (n93+1)/\Zb W aDk V9 k96 (I87 (n93+1))) (aX (n20+1)/\Zb W R94 I95 k23 (I14 (n20+1))))|false=>False) (Zr W O9 I22 J (Value.tuple #[]))
theorem FR (gB gO):bE F.kN #[.pointer (aJ gB gO)] (Q9 gB gO):=bF { keep:=some [0,3,5,9,10,11,26,36,37,38,39],gA:=[5],eF:=[(5,[.held [(0,true),(3,true),(8,true),(1,true),(4,true),(2,false),(5,false),(6,true),(7,true)]]),(8,[.held [(0,true),(1,true),(5,true),(2,true),(6,true),(3,true),(4,true),(7,false),(8,false)],.bD [9] none,.bD [10] (some 11)])],loops:=[(6,[(38,.one (.int .i64))],[]),(1,[(10,.one (.int .i64))],[])] } λ_ _ _ _=>by kernel_rfl
def KX (mB mO:Nat) (o0:Bool) (o1:Int) (o2:Int) (o3:Int) (o4P:Option Addr) (o4N o4C:Nat) (o5P:Option Addr) (o5N o5C:Nat):aR:=λW R Φ J=>
 ∀ (k0 k1:Nat),yQ λ(I2:Int->List Own->PW->Prop)=>(Zd W (Own.blk k1 [Value.bool o0,aA o1,aA o2,aA o3,Value.slice o4P o4N o4C,Value.slice o5P o5N o5C] 146 :: Own.blk k0 [Value.pointer (aJ mB mO)] 139 :: R) Φ λw3=>∃ c5,w3.cell? (aH k1 0)=some (.bool c5)/\Br c5 (∃ R6 G4,aB G4/\Wk W (Own.blk k1 [Value.bool o0,aA o1,aA o2,aA o3,Value.slice o4P o4N o4C,Value.slice o5P o5N o5C] 146 :: Own.blk k0 [Value.pointer (aJ mB mO)] 139 :: R) Φ (R6) G4/\∃ (p10:Option Addr),(Zd W R6 G4 λMT=>∃ MX,MT.cell? (aH k0 0)=some (.pointer MX)/\Value.pointer MX=Value.pointer p10)/\vC none p10 λvN DP=>∃ (n16:Int),(Zd W R6 G4 λWU=>∃ n19,WU.cell? (aH k1 1)=some (aA n19)/\aA n19=aA n16)/\∃ (n20:Int),(Zd W R6 G4 λO8=>∃ n23,O8.cell? (aH k1 2)=some (aA n23)/\aA n23=aA n20)/\∃ (p24:Option Addr),(Zd W R6 G4 λLS=>∃ p27,LS.cell? (aH vN (DP+2))=some (.pointer p27)/\Value.pointer p27=Value.pointer p24)/\Zc W (Own.blk k1 [Value.bool o0,aA o1,aA o2,aA o3,Value.slice o4P o4N o4C,Value.slice o5P o5N o5C] 146 :: Own.blk k0 [Value.pointer (aJ mB mO)] 139 :: R) Φ F.oW #[aA n16] λe30 q=>∃ s32,e30=.returned (.string s32)/\q λGQ mA=>Wk W GQ mA R6 G4 /\ Zc W GQ mA F.oW #[aA n20] λe39 q=>∃ s41,e39=.returned (.string s41)/\q λR42 a54=>Wk W R42 a54 R6 G4/\(s32.size+s41.size).le 9223372036854775807/\Zc W R42 a54 F.uB #[.pointer p24,.string (s32++s41)] λe48 q=>∃ n50,e48=.returned (aA n50)/\q λV7 DN=>∃ YL rE,aB rE/\Wk W V7 DN YL rE/\I2 n50 YL rE) (∃ R57 YU,aB YU/\Wk W (Own.blk k1 [Value.bool o0,aA o1,aA o2,aA o3,Value.slice o4P o4N o4C,Value.slice o5P o5N o5C] 146 :: Own.blk k0 [Value.pointer (aJ mB mO)] 139 :: R) Φ (R57) YU/\I2 0 R57 YU))/\∀ (n61:Int) (R62:List Own) (I63:List Nat->World -> Prop),aB I63->I2 n61 R62 I63->Zd W R62 I63 λw64=>∃ (n66:Int),(decide (n61=0)=true->w64.cell? (aH k1 3)=some (aA n66))/\Br (decide (n61=0)&&decide (0<n66)) (∀ (k67:Nat) w68 R69,Ctx W w68 (Own.blk k67 [.slice none 0 0] 40 :: R62++R69) I63->∃ p70 k71 k72,w68.cell? (aH k1 4)=some (.slice p70 k71 k72)/\yQ λ(I73:Int->List Own->PW->Nat->Prop)=>(∃ R74 KH k76,aB KH/\Wk W (Own.blk k67 [.slice none 0 0] 40 :: R62) I63 (R74) KH/\I73 0 R74 KH k76)/\∀ n79 R80 I81 k82,aB I81->I73 n79 R80 I81 k82->Br (decide (n79<(↑k71:Int))) (Zi n79 k71 p70 λk83 k84=>Zd W R80 I81 λw85=>∃ n87 s88,bL w85 k83 (k84+n79.toNat*2) [aA n87,.string s88]/\∀ (b:Nat),∃ R89 aGQ,aB aGQ/\Wk W R80 I81 R89 aGQ/\∃ (p93:Option Addr) (k94 k95:Nat),(Zd W R89 aGQ λw96=>∃ p98 k99 YM,w96.cell? (aH k67 0)=some (.slice p98 k99 YM)/\Value.slice p98 k99 YM=Value.slice p93 k94 k95)/\Zc W R80 I81 F.kP #[Value.agg #[aA n87,.string s88]] λa9c q=>∃ a3Z,a9c=.returned (.string a3Z)/\q λSX A6=>Wk W SX A6 R89 aGQ/\∀ (a3L:Nat),Wk W (Own.blk a3L [.string a3Z] 9 :: SX) A6 (R89) aGQ/\∀ a6j aUS,Ctx W a6j (Own.blk a3L [.string a3Z] 9 :: SX++aUS) A6->∃ aGM aGN YB a8T,Sem.run prog (builtin Builtin.append #[40,40] 40 #[false,false] #[.slice p93 k94 k95,.slice (aJ a3L 0) 1 1]) a6j=.ok (.value (.slice aGM aGN YB)) a8T/\∃ a88 a58, aB a58/\Ctx W a8T (a88++aUS) a58/\∀ aGw a1i,Ctx W aGw (a88++a1i) a58->aG aGw k67 0 1/\∀ a6s,a6s=aGw.setCell (aH k67 0) (Value.slice aGM aGN YB)->∃ TB uO,aB uO/\Ctx W a6s (TB++a1i) uO/\aX (n79+1)/\Zb W TB uO k82 (I73 (n79+1))) (∀ (aGj:Nat) aUT aGR,Ctx W aUT (Own.blk aGj [Value.func (Fn.func 307) #[] #[.pointer (aJ k0 0),.pointer (aJ k1 0)],Value.func (Fn.func 310) #[] #[.pointer (aJ k0 0),.pointer (aJ k67 0)]] 258 :: R80++aGR) I81->aD F.zZ #[.slice (aJ aGj 0) 2 2] aUT λaZS aJU=>∃ n136,aZS=.returned (aA n136)/\∃ YZ A7,aB A7/\Ctx W aJU (YZ++aGR) A7 /\ Br (decide (n136≠0)) (Zd W YZ A7 λa6m=>∃ aUU,a6m.cell? (aH k0 0)=some (.pointer aUU)/\Zc W YZ A7 F.jF #[.pointer aUU] λaZT q=>aZT=.returned (Value.tuple #[])/\q λPG a6n=>Zr W PG a6n J (aA n136)) (Zr W YZ A7 J (aA n136)))) (Br (decide (n61≠0)) (Zd W R62 I63 λaZU=>∃ aUV,aZU.cell? (aH k0 0)=some (.pointer aUV)/\Zc W R62 I63 F.jF #[.pointer aUV] λaO2 q=>aO2=.returned (Value.tuple #[])/\q λaZV aUW=>Zr W aZV aUW J (aA n61)) (Zr W R62 I63 J (aA n61)))
theorem CI (mB mO o0 o1 o2 o3 o4P o4N o4C o5P o5N o5C):bE F.lJ #[.pointer (aJ mB mO),.agg #[.bool o0,.int .i64 o1,.int .i64 o2,.int .i64 o3,.slice o4P o4N o4C,.slice o5P o5N o5C]] (KX mB mO o0 o1 o2 o3 o4P o4N o4C o5P o5N o5C):=bF { keep:=some [2,3,4,5,6,8,10,31,33,34,35,36,50],gA:=[8],eF:=[(3,[.held [(0,true),(4,true),(8,true),(1,true),(5,true),(9,true),(2,true),(6,true),(10,true),(3,true),(7,false),(11,false),(12,true)],.bD [] (some 13),.bD [14] none]),(9,[.held [(0,true),(1,true),(2,false),(3,false)],.bD [] (some 4),.bD [] (some 5)])],loops:=[(7,[(35,.one (.int .i64))],[])],a5o:=[(4,[(5,.one (.int .i64))],[])] } λ_ _ _ _=>by kernel_rfl
def a1B (nB nO:Nat) (Z6:Int) (to:Int) (body:ByteArray):aR:=λW R Φ J=>
 Zd W R Φ λw0=>∃ (c2:Bool),(∀ w3,w3=w0->aD F.DL #[aA Z6] w3 λe4 w5=>e4=.returned (.bool c2)/\w5=w0)/\∃ (c6:Bool),((!!c2)=true->∀ w7,w7=w0->aD F.DL #[aA to] w7 λe8 w9=>e8=.returned (.bool c6)/\w9=w0)/\Br (!c2 || !c6||decide (Z6=to)) (Zr W R Φ J (aA 1)) (Zc W R Φ F.wO #[.pointer (aJ nB nO),aA Z6,aA to] λe14 q=>∃ c16,e14=.returned (.bool c16)/\q λpM lQ=>Br (!c16) (Zr W pM lQ J (aA 10)) (Zd W pM lQ λO8=>∃ p23 k24 k25,O8.cell? (aH nB nO)=some (.slice p23 k24 k25)/\Br (decide (500<=(↑k24:Int))) (Zr W pM lQ J (aA 6)) (Zd W pM lQ λw28=>∃ p30 k31 k32,w28.cell? (aH nB nO)=some (.slice p30 k31 k32)/\∀ (k33:Nat) w34 R35,Ctx W w34 (Own.blk k33 [aA Z6,aA to,.string body] 267 :: pM++R35) lQ->∃ p36 k37 k38 w39,Sem.run prog (builtin Builtin.append #[109,109] 109 #[false,false] #[.slice p30 k31 k32,.slice (aJ k33 0) 1 1]) w34=.ok (.value (.slice p36 k37 k38)) w39/\∃ R40 vL,aB vL/\Ctx W w39 (R40++R35) vL/\∀ w42 R43,Ctx W w42 (R40++R43) vL->aG w42 nB nO 1/\∀ w44,w44=w42.setCell (aH nB nO) (Value.slice p36 k37 k38)->∃ R45 MU,aB MU/\Ctx W w44 (R45++R43) MU/\Zr W R45 MU J (aA 0))))
theorem QA (nB nO Z6 to body):bE F.DJ #[.pointer (aJ nB nO),.int .i64 Z6,.int .i64 to,.string body] (a1B nB nO Z6 to body):=bF { keep:=some [0,1,2,3,8,9,23,29] } λ_ _ _ _=>by kernel_rfl
def a1C (nB nO:Nat) (i:Int):aR:=λW R Φ J=>
 ∀ (b:Nat) w0 R1,Ctx W w0 (R++R1) Φ->∃ (p2:Option Addr) (k3 k4:Nat),((!decide (i<0))=true->w0.cell? (aH nB nO)=some (.slice p2 k3 k4))/\Br (decide (i<0)||decide ((↑k3:Int)<=i)) (Zr W R Φ J (Value.tuple #[Value.agg #[aA 0,aA 0,Value.string (ByteArray.mk #[])],Value.bool false])) (Zd W R Φ λw7=>∃ p9 wP FY,w7.cell? (aH nB nO)=some (.slice p9 wP FY)/\Zi i wP p9 λk12 GY=>Zd W R Φ λKC=>∃ n16 n17 T0,bL KC k12 (GY+i.toNat*3) [aA n16,aA n17,.string T0]/\∀ (b:Nat) YD OA,Ctx W YD (R++OA) Φ->∃ p21 k22 k23,YD.cell? (aH nB nO)=some (.slice p21 k22 k23)/\aX (i+1)/\Zc W R Φ F.eV #[.slice p21 k22 k23,aA i,aA (i+1)] λe26 q=>∃ p28 k29 k30,e26=.returned (.slice p28 k29 k30)/\q λR31 PS=>∀ w33 S4,Ctx W w33 (R31++S4) PS->aG w33 nB nO 1/\∀ YF,YF=w33.setCell (aH nB nO) (Value.slice p28 k29 k30)->∃ GR tH,aB tH/\Ctx W YF (GR++S4) tH/\Zr W GR tH J (Value.tuple #[Value.agg #[aA n16,aA n17,.string T0],Value.bool true]))
theorem QB (nB nO i):bE F.wN #[.pointer (aJ nB nO),.int .i64 i] (a1C nB nO i):=bF { keep:=some [0,1,4,5,6,17],gA:=[4,6] } λ_ _ _ _=>by kernel_rfl
def a1D (nB nO:Nat) (a:Int) (b:Int):aR:=λW R Φ J=>
 Zd W R Φ λw0=>∃ (c2:Bool),(∀ (w3:World),(∃ (k4:Nat),w3=w0.drewN k4)->aD F.DL #[aA a] w3 λe5 w6=>e5=.returned (.bool c2)/\∃ (k7:Nat),w6=w0.drewN k7)/\∃ (c8:Bool),(c2=true->∀ (w9:World),(∃ (wP:Nat),w9=w0.drewN wP)->aD F.DL #[aA b] w9 λe11 G5=>e11=.returned (.bool c8)/\∃ (GY:Nat),G5=w0.drewN GY)/\∃ (S3:Int),((c2&&c8)=true->w0.cell? (aH nB (nO+1))=some (aA S3))/\∃ (n15:Int),((c2&&c8)=true->∀ (DM:World),Sem.run prog (binOp BinOp.shr 3 (aA S3) (aA a)) DM=Result.ok (aA n15) DM)/\∃ (n17:Int),((c2&&c8)=true->∀ (JU:World),Sem.run prog (binOp BinOp.and 3 (aA n15) (aA 1)) JU=Result.ok (aA n17) JU)/\∃ (n19:Int),((c2&&c8)=true->w0.cell? (aH nB (nO+1))=some (aA n19))/\∃ (n20:Int),((c2&&c8)=true->∀ (O8:World),Sem.run prog (binOp BinOp.shr 3 (aA n19) (aA b)) O8=Result.ok (aA n20) O8)/\∃ (n22:Int),((c2&&c8)=true->∀ (w23:World),Sem.run prog (binOp BinOp.and 3 (aA n20) (aA 1)) w23=Result.ok (aA n22) w23)/\Zr W R Φ J (.bool (c2&&c8&&decide (n17=n22)))
theorem QC (nB nO a b):bE F.wO #[.pointer (aJ nB nO),.int .i64 a,.int .i64 b] (a1D nB nO a b):=bF { keep:=some [0,1,2,6] } λ_ _ _ _=>by kernel_rfl
def FT (kB kO lB lO:Nat):aR:=λW R Φ J=>
 ∃ R0 cG,aB cG/\Wk W R Φ R0 cG/\∃ (p4:Option Addr),(Zd W R0 cG λw5=>∃ p7,w5.cell? (aH kB kO)=some (.pointer p7)/\Value.pointer p7=Value.pointer p4)/\∃ (p8:Option Addr),(Zd W R0 cG λw9=>∃ S6,w9.cell? (aH kB kO)=some (.pointer S6)/\Value.pointer S6=Value.pointer p8)/\vC none p4 λk12 GY=>∃ (S3:Int),(Zd W R0 cG λw15=>∃ n17,w15.cell? (aH lB (lO+3))=some (aA n17)/\aA n17=aA S3)/\vC none p8 λk18 VZ=>aX (S3 - 1)/\∃ (p20:Option Addr),(Zd W R0 cG λO8=>∃ p23,O8.cell? (aH k12 (GY+1))=some (.pointer p23)/\Value.pointer p23=Value.pointer p20)/\∃ (p24:Option Addr),(Zd W R0 cG λLS=>∃ p27,LS.cell? (aH k18 (VZ+1))=some (.pointer p27)/\Value.pointer p27=Value.pointer p24)/\Zc W R Φ F.oL #[.pointer p24] λe30 q=>∃ n32,e30=.returned (aA n32)/\q λGQ mA=>Wk W GQ mA R0 cG/\Zc W GQ mA F.oK #[.pointer p20,aA (min (S3 - 1) n32)] λe39 q=>∃ n41,e39=.returned (aA n41)/\q λR42 a54=>Zr W R42 a54 J (aA n41)
theorem z8 (kB kO lB lO):bE F.fE #[.pointer (aJ kB kO),.pointer (aJ lB lO)] (FT kB kO lB lO):=bF { keep:=some [0,1,2],eF:=[(1,[.held [(0,true),(4,true),(7,true),(1,true),(5,true),(8,true),(2,true),(6,true),(9,true),(3,true),(10,true),(11,false),(12,true)],.bD [] (some 13),.bD [14] none])] } λ_ _ _ _=>by kernel_rfl
def FU (kB kO lB lO:Nat):aR:=λW R Φ J=>
 ∃ R0 cG,aB cG/\Wk W R Φ R0 cG/\∃ (p4:Option Addr),(Zd W R0 cG λw5=>∃ p7,w5.cell? (aH kB kO)=some (.pointer p7)/\Value.pointer p7=Value.pointer p4)/\∃ (p8:Option Addr) (k9 wP:Nat),(Zd W R0 cG λMT=>∃ MX vN DP,MT.cell? (aH lB lO)=some (.slice MX vN DP)/\Value.slice MX vN DP=Value.slice p8 k9 wP)/\vC none p4 λVY uI=>∃ (p18:Option Addr),(Zd W R0 cG λYD=>∃ p21,YD.cell? (aH VY (uI+1))=some (.pointer p21)/\Value.pointer p21=Value.pointer p18)/\Zc W R Φ F.lK #[.pointer p18,.slice p8 k9 wP] λe24 q=>∃ n26,e24=.returned (aA n26)/\q λW5 a1p=>Zr W W5 a1p J (aA n26)
theorem zB (kB kO lB lO):bE F.fG #[.pointer (aJ kB kO),.pointer (aJ lB lO)] (FU kB kO lB lO):=bF { keep:=some [0,1,2],eF:=[(1,[.held [(0,true),(4,true),(1,true),(2,true),(3,true)],.bD [] (some 5),.bD [6] none])] } λ_ _ _ _=>by kernel_rfl
def oM (sP:Option Addr) (sN sC:Nat) (i:Int) (j:Int):aR:=λW R Φ J=>
 (0<=i/\i<=j/\j<=(↑sN:Int)/\(↑sN:Int)<=(↑sC:Int))/\Br (decide (i=j)) (Zr W R Φ J (.slice sP sN sC)) (∃ R2 O6,aB O6/\Wk W R Φ R2 O6/\(0<=i/\i<=(↑sC:Int))/\(0<=j/\j<=(↑sN:Int)/\sN<=sC)/\∀ w6 R7,Ctx W w6 (R++R7) Φ->∃ p8 k9 wP MT,Sem.run prog (builtin Builtin.append #[109,109] 109 #[false,false] #[.slice (cJ sP 3 0 sC) i.toNat sC,.slice (cJ sP 3 j.toNat sC) (sN - j.toNat) (sC - j.toNat)]) w6=.ok (.value (.slice p8 k9 wP)) MT/\∃ A5 qR,aB qR/\Ctx W MT (A5++R7) qR/\(0<=(↑k9:Int)/\(↑k9:Int)<=(↑sN:Int)/\(↑sN:Int)<=(↑wP:Int))/\∀ KC G3,Ctx W KC (A5++G3) qR->∃ (DM:World),Sem.run prog (builtin Builtin.clear #[109] 0 #[false] #[.slice (cJ p8 3 (↑k9:Int).toNat wP) ((↑sN:Int).toNat - (↑k9:Int).toNat) (wP - (↑k9 : Int).toNat)]) KC=.ok (.value (Value.tuple #[])) DM/\∃ pM lQ,aB lQ/\Ctx W DM (pM++G3) lQ/\Zr W pM lQ J (.slice p8 k9 wP))
theorem mM (sP sN sC i j):bE F.eV #[.slice sP sN sC,.int .i64 i,.int .i64 j] (oM sP sN sC i j):=bF { keep:=some [0,1,2,6,7,16],eF:=[(5,[.held [(0,true),(1,true),(3,true),(4,true),(2,true),(5,true)],.bD [] (some 6),.bD [7] none])] } λ_ _ _ _=>by kernel_rfl
end Go.Proofs.YtnlkemjhgdbfkaaGreatDoor
end

section
namespace Go.Proofs.YtnlkemjhgdbfkaaGreatDoor
open Go.Vc
def a6v (a:Int) (w:World) (J:Value->World->Prop):Prop :=
 J (.bool (decide (0<=a)&&decide (a<16))) w
theorem a39 (a:Int) (w:World) (J:Value->World->Prop) (h:a6v a w J):aD F.DL #[.int .i64 a] w λe w'=>∃ v,e=.returned v/\J v w' :=
 BR (H:={ keep:=some [0,2] }) (by rw [show vcF prog { keep:=some [0,2] } F.DL #[.int .i64 a] w J=a6v a w J by kernel_rfl];exact h)
end Go.Proofs.YtnlkemjhgdbfkaaGreatDoor
end

section
namespace Go.Vc
section
variable {P:Program} {W w:World} {S F:List Own} {Φ Ψ:PW}
structure Quiet (P:Program) (f:FuncId) (args:Array Value) (v:Value):Prop where
 go:∀ w,Calls P f args w λe w'=>e=.returned v/\w'=w
structure Z7 (P:Program) (f:FuncId) (args:Array Value) (v:Value):Prop where
 go:∀ (W w:World) (S:List Own) (Φ:PW),aB Φ->Ctx W w S Φ->Calls P f args w λe w'=>e=.returned v/\Ctx W w' S Φ
theorem Quiet.at {f args v} (h:Quiet P f args v) {w w0} (e:w=w0):Calls P f args w λe w'=>e=.returned v/\w'=w0:=by subst e;exact h.go w
theorem Quiet.atN {f args v} (h:Quiet P f args v) {w w0:World} (e:∃ n,w=w0.drewN n):Calls P f args w λe w'=>e=.returned v/\∃ n,w'=w0.drewN n:=by
 obtain ⟨n,rfl⟩:=e
 exact (h.go _).mono λe w' ⟨h1,h2⟩=>⟨h1,n,h2⟩
theorem Quiet.a2m {f args v} (h:Quiet P f args v):Z7 P f args v :=
 ⟨λW w S Φ _ c=>(h.go w).mono λe w' ⟨h1,h2⟩=>by subst h2;exact ⟨h1,c⟩⟩
theorem Z7.use {f args v} (h:Z7 P f args v) [hs:aB Φ] (c:Ctx W w S Φ) {K} (hk:∀ w',Ctx W w' S Φ->K (.returned v) w'):Calls P f args w K :=
 (h.go W w S Φ hs c).mono λe w' ⟨he,c'⟩=>by subst he;exact hk w' c'
structure bY (Φ:PW) (P:Program) (f:FuncId) (args:Array Value) (v:Value):Prop where
 go:∀ (W w:World) (S:List Own),Ctx W w S Φ->Calls P f args w λe w'=>e=.returned v/\Ctx W w' S Φ
theorem bY.use {f args v} (h:bY Φ P f args v) (c:Ctx W w S Φ) {K} (hk:∀ w',Ctx W w' S Φ->K (.returned v) w'):Calls P f args w K :=
 (h.go W w S c).mono λe w' ⟨he,c'⟩=>by subst he;exact hk w' c'
theorem Z7.in [hs:aB Φ] {f args v} (h:Z7 P f args v):bY Φ P f args v:=⟨λW w S c=>h.go W w S Φ hs c⟩
theorem iD [aB Φ] {f args v} {B:World->List Own->PW->(Value->World->Prop)->Prop} (run:∀ {W w:World} {R:List Own} {Φ:PW} [aB Φ] {J:Value->World->Prop},Ctx W w R Φ->B W R Φ J->Calls P f args w λe w'=>∃ v,e=.returned v/\J v w') (h:∀ (W:World) (R:List Own),B W R Φ λu w'=>u=v/\Ctx W w' R Φ):bY Φ P f args v :=
 ⟨λW w S c=>a5r (run c (h W S)) λu w' ⟨h1,h2⟩=>⟨by rw [h1],h2⟩⟩
theorem Ctx.left [aB Φ] (c:Ctx W w (S++F) Φ):Ctx W w S Φ:=c.sub (List.sublist_append_left _ _)
theorem Ctx.right [aB Φ] (c:Ctx W w (S++F) Φ):Ctx W w F Φ:=c.sub (List.sublist_append_right _ _)
theorem Ctx.fst [aB Φ] [aB Ψ] (c:Ctx W w S (λM w=>Φ M w/\Ψ M w)):Ctx W w S Φ:=c.weak λ_ _ h=>h.1
theorem A8 {cs vs:List Value} {o} (h:(cs.drop o).take vs.length=vs):∀ j,(hj:j<vs.length)->cs[o+j]? = some vs[j]:=by
 intro j hj
 have h1:((cs.drop o).take vs.length)[j]? = vs[j]? := by rw [h]
 rw [List.getElem?_take_of_lt hj,List.getElem?_drop] at h1
 rw [h1,List.getElem?_eq_getElem hj]
theorem quiet_of {f args v} {B:World->(Value->World->Prop)->Prop} (run:∀ (w:World) (J:Value->World->Prop),B w J->Calls P f args w λe w'=>∃ v,e=.returned v/\J v w') (h:∀ w,B w λu w'=>u=v/\w'=w):Quiet P f args v :=
 ⟨λw=>a5r (run w _ (h w)) λu w' ⟨h1,h2⟩=>⟨by rw [h1],h2⟩⟩
end
def Pin {α:Type} [Gv α] (b o:Nat) (cs:List (List Value)) (l:List α) (M:List Nat) (w:World):Prop :=
 ∀ j,(hj:j<l.length)->b ∉ M/\bL w b (o+j*(Gv.ty α).size) (cs.getD j [])/\Gv.rep M w (cs.getD j []) l[j]
instance aJp {α:Type} [Gv α] (b o:Nat) (cs:List (List Value)) (l:List α):aB (λM w=>Pin b o cs l M w):=⟨λhs h j hj=>by
 obtain ⟨h2,h3,h4⟩:=h j hj
 have hlt:=aFt h3 (by rw [Gv.len h4];exact Gv.pos)
 exact ⟨λhm=>by rcases hs.sub b hm with h|h;exact h2 h;omega,hs.chg.row h3 h2,Gv.mJ hs h4⟩⟩
theorem Sl.pin {α} [Gv α] {M w p} {l:List α} (h:Sl M w p l):∃ b o cs,(0<l.length->p=some ⟨b,o,none⟩)/\Pin b o cs l M w:=by
 by_cases h0:0<l.length
 .obtain ⟨b,o,_,hp,_⟩:=h 0 h0
  have key:∀ j,j<l.length->∃ cs:List Value,∀ hj:j<l.length,b ∉ M/\bL w b (o+j*(Gv.ty α).size) cs/\Gv.rep M w cs l[j]:=by
   intro j hj
   obtain ⟨b',o',cs,h1,h2,h3,h4⟩:=h j hj
   rw [hp] at h1
   cases h1
   exact ⟨cs,λ_=>⟨h2,h3,h4⟩⟩
  obtain ⟨cs,hl,hcs⟩:=ME l.length key
  refine ⟨b,o,cs,λ_=>hp,λj hj=>?_⟩
  have:=hcs j (by omega) hj
  rw [show cs.getD j []=cs[j] by simp [List.getD,show j<cs.length by omega]]
  exact this
 .exact ⟨0,0,[],λh=>absurd h h0,λj hj=>by omega⟩
theorem Ctx.pin {W w S} {Φ:PW} (c:Ctx W w S Φ) {α} [Gv α] {p} {l:List α} (h:Sl (dom S) w p l):
  ∃ b o cs,(0<l.length->p=some ⟨b,o,none⟩)/\Ctx W w S (λM w=>Φ M w/\Pin b o cs l M w):=by
 obtain ⟨b,o,cs,hp,aDn⟩:=h.pin
 exact ⟨b,o,cs,hp,c.add aDn⟩
theorem bY.pinned {Φ:PW} [aB Φ] {P f args v α} [Gv α] {p} {l:List α} (o9:∀ M w,Φ M w->Sl M w p l) (h:∀ b o cs,(0<l.length->p=some ⟨b,o,none⟩)->bY (λM w=>Φ M w/\Pin b o cs l M w) P f args v):bY Φ P f args v :=
 ⟨λW w S c=>by
  obtain ⟨b,o,cs,hp,c'⟩:=c.pin (o9 _ _ c.tX)
  exact ((h b o cs hp).go W w S c').mono λe w' ⟨h1,h2⟩=>⟨h1,h2.fst⟩⟩
section
variable {P:Program} {W w:World} {S F:List Own} {Φ Ψ:PW}
def vR (W:World) (o:Own) (M:List Nat) (w:World):Prop:=o.at w/\∀ b∈o.dom,b ∉ M/\W.heap.size<=b
instance Z8 (D:List Nat) (Φ:PW) [aB Φ]:aB (λM w=>Φ (D++M) w):=⟨fun {M M' w w'} hs h =>
 aB.step (Φ:=Φ) (M:=D++M) (M':=D++M') ⟨hs.chg.mono λx hx=>List.mem_append_right _ hx,λb hb=>by
  rcases List.mem_append.1 hb with h|h
  .exact .inl (List.mem_append_left _ h)
  .rcases hs.sub b h with h|h
   .exact .inl (List.mem_append_right _ h)
   .exact .inr h⟩ h⟩
theorem Own.nodup (o:Own):o.dom.Nodup:=by
 cases o with
 | blk=>simp [Own.dom]
 | obj=>simp [Own.dom]
 | buf p=>cases p<;>simp [Own.dom]
theorem HX (o S):dom (o :: S)=o.dom++dom S:=rfl
theorem Ctx.aZW {o} (c:Ctx W w (o :: S) Φ):Ctx W w S (λM w=>Φ (o.dom++M) w/\vR W o M w) :=
 ⟨c.chg,λx hx=>c.own x (List.mem_cons_of_mem _ hx),λb hb=>c.OV b (by rw [HX];exact List.mem_append_right _ hb),
  (by have:=c.nodup;rw [HX,List.nodup_append] at this;exact this.2.1),c.tX,c.own o List.mem_cons_self,λb hb =>
   ⟨λhm=>by have:=c.nodup;rw [HX,List.nodup_append] at this;exact this.2.2 b hb b hm rfl,c.OV b (by rw [HX];exact List.mem_append_left _ hb)⟩⟩
theorem vR.sl {α} [Gv α] {M D p n cap cs t} {l:List α} (h:vR W (.buf p n cap cs t (Gv.ty α).size) M w) (he:dI (D++M) w cs l):Sl M w p l:=by
 obtain ⟨⟨h1,h2⟩,h3⟩:=h
 have hpos:0<(Gv.ty α).size:=Gv.pos
 intro j hj
 have hle:(j+1)*(Gv.ty α).size<=cs.length:=by rw [he.1];exact Nat.mul_le_mul_right _ hj
 rw [Nat.add_mul,Nat.one_mul] at hle
 rcases h2 with ⟨e,rfl⟩|⟨g,cap',cur,e,_,hg,hnc,hcm,hcs,r3⟩
 .rw [Nat.zero_mul] at h1;omega
 .cases e
  refine ⟨g,0,(cs.drop (j*(Gv.ty α).size)).take (Gv.ty α).size,rfl,(h3 g (by simp [Own.dom])).1,λi hi=>?_,?_⟩
  .rw [Nat.zero_add]
   simp only [List.length_take,List.length_drop] at hi
   rw [List.getElem_take,List.getElem_drop]
   have hlt:j*(Gv.ty α).size+i<cs.length:=by omega
   have h2:∀ k v,k<cs.length->cs[k]? = some v->cur[k]? = some v:=by
    intro k v hk hv
    rw [<-r3,List.getElem?_take_of_lt (by omega)] at hv
    simpa using hv
   have h2:=h2 _ _ hlt (List.getElem?_eq_getElem hlt)
   simp [World.cell?,hg,h2]
  .exact Gv.mJ ⟨lA.refl _ _,λb hb=>.inl (List.mem_append_right _ hb)⟩ (he.2 j hj)
def a2n (p:Option Addr) (n:Nat):Prop:=0<n->∃ b o,p=some ⟨b,o,none⟩
theorem Sl.there {α} [Gv α] {M w p} {l:List α} (h:Sl M w p l):a2n p l.length:=λh0=>by
 obtain ⟨b,o,_,h1,_⟩:=h 0 h0
 exact ⟨b,o,h1⟩
theorem Sl.nil {α} [Gv α] {M w p}:Sl M w p ([]:List α):=λj hj=>by simp at hj
theorem bY.there {f args v p n} (o9:∀ M w,Φ M w->a2n p n) (h:a2n p n->bY Φ P f args v):bY Φ P f args v :=
 ⟨λW w S c=>(h (o9 _ _ c.tX)).go W w S c⟩
def aDo (P:Program) (ts t:TypeId) (size bytes:Nat):Bool :=
 (match P.underlying ts with|some (.slice u)=>decide (u=t)|_=>false)&&(match P.info? t with
  | some i=>(match i.zero with|some z=>decide (z.cells.size=size)|none=>false)&&decide (i.size=size)&&decide (i.bytes=bytes)
  | none=>false)
theorem uP {ts t size bytes} (h:aDo P ts t size bytes=true):∃ i z,P.underlying ts=some (.slice t)/\P.info? t=some i/\i.zero=some z/\i.size=size/\z.cells.size=size/\i.bytes=bytes:=by
 unfold aDo at h
 rw [Bool.and_eq_true] at h
 obtain ⟨h1,h2⟩:=h
 split at h1
 .rename_i u hu
  have:u=t:=by simpa using h1
  subst this
  split at h2
  .rename_i i hi
   simp only [Bool.and_eq_true] at h2
   obtain ⟨⟨h2,h3⟩,h4⟩:=h2
   split at h2
   .rename_i z hz
    exact ⟨i,z,hu,hi,hz,by simpa using h3,by simpa using h2,by simpa using h4⟩
   .cases h2
  .cases h2
 .cases h1
theorem uC {ats ty cs args v w w'} (h:(Builtin.append_ ats ty args).run P w=.ok v w'):Sem.run P (builtin Builtin.append ats ty cs args) w=.ok (.value v) w':=by
 unfold builtin
 simp only [Sem.run_bind,h,Result.andThen,Sem.run_pure]
theorem Ctx.Z9 [aB Φ] {b news t' p n cap cs t size bytes} (c:Ctx W w (.blk b news t' :: .buf p n cap cs t size :: S) Φ) {ts ty kb} (hb:aDo P ts t size bytes=true) (h0:0<size) (hl:news.length=size) (h1:(news.all λu=>mU u)=true) (hlen:n<100000000) (hbytes:bytes<=1000):
  ∃ p' cap' w',Sem.run P (builtin Builtin.append #[ts,ts] ty kb #[.slice p n cap,.slice (some ⟨b,0,none⟩) 1 1]) w=.ok (.value (.slice p' (n+1) cap')) w'/\(∃ g,p'=some ⟨g,0,none⟩)/\Ctx W w' (.buf p' (n+1) cap' (cs++news) t size :: S) Φ:=by
 obtain ⟨i,z,e1,e2,e3,e4,e5,e6⟩:=uP hb
 have hby:(n+1)*i.bytes<=100000000*1000:=Nat.mul_le_mul (by omega) (by omega)
 obtain ⟨p',cap',w',h2,c'⟩:=c.append 1 rfl (ty:=ty) e1 e2 e3 e4 e5 (a:=⟨b,0,none⟩) (m:=1) (c2:=1) (news:=news) (by omega) (by rw [hl,Nat.one_mul]) (λj u hj=>by rw [addr_add,Nat.zero_add];exact c.get 0 rfl hj)
  (λu hu=>List.all_eq_true.1 h1 u hu) (by omega) (by omega)
 refine ⟨p',cap',w',uC h2,?_,c'.drop1⟩
 obtain ⟨g,hg,_⟩:=c'.nR 1 rfl (by rw [List.length_append];omega)
 exact ⟨g,hg⟩
theorem Ctx.EW [aB Φ] (c:Ctx W w S Φ) (t size):Ctx W w (.buf none 0 0 [] t size :: S) Φ:=c.aCA t size
theorem vR.aUX {α} [Gv α] {M b cs t} {l:List α} (h:vR W (.blk b cs t) M w) (he:dI M w cs l):Sl M w (some ⟨b,0,none⟩) l:=by
 obtain ⟨h1,h2⟩:=h
 have h1:vY w b cs t:=h1
 intro j hj
 have hle:(j+1)*(Gv.ty α).size<=cs.length:=by rw [he.1];exact Nat.mul_le_mul_right _ hj
 rw [Nat.add_mul,Nat.one_mul] at hle
 refine ⟨b,0,(cs.drop (j*(Gv.ty α).size)).take (Gv.ty α).size,rfl,(h2 b (by simp [Own.dom])).1,λi hi=>?_,he.2 j hj⟩
 simp only [List.length_take,List.length_drop] at hi
 rw [Nat.zero_add,List.getElem_take,List.getElem_drop]
 exact h1.DA (List.getElem?_eq_getElem (by omega))
theorem Ctx.CJ [aB Φ] {α} [Gv α] {b cs t} {l:List α} (c:Ctx W w (.blk b cs t :: S) Φ) (he:dI (dom (.blk b cs t :: S)) w cs l):Ctx W w S Φ/\Sl (dom S) w (some ⟨b,0,none⟩) l:=by
 have c':=c.aZW
 refine ⟨c.drop1,c'.tX.2.aUX ⟨he.1,λj hj=>?_⟩⟩
 exact Gv.mJ ⟨lA.refl _ _,λb hb=>.inl (by rw [HX];exact List.mem_append_right _ hb)⟩ (he.2 j hj)
theorem dI.one {α} [Gv α] {M cs} {x:α} (h1:Gv.rep M w cs x):dI M w cs [x]:=dI.snoc (l:=[]) (cs:=[]) dI.nil h1
end
section
variable {P:Program} {W w w':World} {S S' F:List Own} {Φ Ψ:PW}
theorem Ctx.swap [aB Φ] {a b} (c:Ctx W w (a :: b :: S) Φ):Ctx W w (b :: a :: S) Φ:=c.perm (List.Perm.swap _ _ _)
theorem Ctx.aGS (c:Ctx W w S Φ) (k:Nat) {p n cap cs t size} (hk:S[k]? = some (.buf p n cap cs t size)) (h0:0<cs.length):
  ∃ b cur,p=some ⟨b,0,none⟩/\vY w b cur t/\cur.take (n*size)=cs/\n<=cap/\cap<=maxLen/\cur.length=cap*size/\cs.length=n*size:=by
 obtain ⟨h1,h2⟩:=c.own _ (List.mem_of_getElem? hk)
 rcases h2 with ⟨e,rfl⟩|⟨g,cap',cur,e,_,hg,hnc,hcm,hcs,r3⟩
 .rw [Nat.zero_mul] at h1;omega
 .cases e
  exact ⟨g,cur.toList,rfl,by simpa [vY] using hg,r3,hnc,hcm,by simpa using hcs,h1⟩
theorem Ctx.a9u (c:Ctx W w S Φ) (k:Nat) {p n cap cs t size} (hk:S[k]? = some (.buf p n cap cs t size)) {b o} (hp:p=some ⟨b,0,none⟩) {vs} (hv:∀ j,(hj:j<vs.length)->cs[o+j]? = some vs[j]):bL w b o vs:=by
 intro j hj
 have hlt:o+j<cs.length:=(List.getElem?_eq_some_iff.1 (hv j hj)).1
 obtain ⟨b',h1,_,h2⟩:=c.nR k hk (by omega)
 rw [hp] at h1
 cases h1
 exact (h2 _ _ (hv j hj)).1
theorem Ctx.a9v (c:Ctx W w S Φ) (k:Nat) {p n cap cs t size} (hk:S[k]? = some (.buf p n cap cs t size)) {b o m} (hp:p=some ⟨b,0,none⟩) (hm:o+m<=cs.length):aG w b o m:=by
 intro j hj
 obtain ⟨b',h1,_,h2⟩:=c.nR k hk (by omega)
 rw [hp] at h1
 cases h1
 have:=h2 (o+j) cs[o+j] (List.getElem?_eq_getElem (by omega))
 exact ⟨by rw [this.1];rfl,this.2⟩
theorem HY:∀ (vs:List Value) (cs:List Value) (o:Nat),(mV cs o vs).length=cs.length
 | [],_,_=>rfl
 | v :: r,cs,o=>by unfold mV;rw [HY r];simp
theorem a2o:∀ (vs:List Value) (cs:List Value) (o m:Nat),o+vs.length<=m->(mV cs o vs).take m=mV (cs.take m) o vs
 | [],_,_,_,_=>rfl
 | v :: r,cs,o,m,h=>by
  unfold mV
  simp only [List.length_cons] at h
  rw [a2o r _ _ _ (by omega),List.take_set]
theorem rH:∀ (vs:List Value) (cs:List Value) (o i:Nat),(i<o\/o+vs.length<=i)->(mV cs o vs)[i]? = cs[i]?
 | [],_,_,_,_=>rfl
 | v :: r,cs,o,i,h=>by
  unfold mV
  simp only [List.length_cons] at h
  rw [rH r _ _ _ (by omega),List.getElem?_set_ne (by omega)]
theorem QD:∀ (vs:List Value) (cs:List Value) (o i:Nat),i<vs.length->o+vs.length<=cs.length->(mV cs o vs)[o+i]? = vs[i]?
 | [],_,_,_,h,_=>by simp at h
 | v :: r,cs,o,0,h,hl=>by
  unfold mV
  simp only [List.length_cons] at hl
  rw [rH r _ _ _ (by omega),Nat.add_zero,List.getElem?_set_self (by omega)]
  rfl
 | v :: r,cs,o,i+1,h,hl=>by
  unfold mV
  simp only [List.length_cons] at hl h
  rw [show o+(i+1)=o+1+i by omega,QD r _ _ _ (by omega) (by simp;omega)]
  rfl
theorem Ctx.WV [aB Φ] (c:Ctx W w S Φ) (k) {p n cap cs vs t size} (hk:S[k]? = some (.buf p n cap cs t size)) {b o} (hp:p=some ⟨b,0,none⟩) (h0:0<cs.length) (ho:o+vs.length<=cs.length) (e:w'=w.setCells b o vs):Ctx W w' (S.set k (.buf p n cap (mV cs o vs) t size)) Φ:=by
 obtain ⟨b',cur,h1,hb,r3,hnc,hcm,rW,hl⟩:=c.aGS k hk h0
 rw [hp] at h1
 cases h1
 subst e
 refine c.upd hk ((lA.refl _ _).setCells (by subst hp;simp [Own.dom]) o vs) (λx hx=>.inl (by subst hp;exact hx)) (by subst hp;simp [Own.dom]) ?_
 have hb':=vY.sets vs o hb
 refine ⟨by rw [HY,hl],.inr ⟨b,cap,(mV cur o vs).toArray,by rw [hp],Nat.zero_le _,hb',hnc,hcm,by simp [HY,rW],?_⟩⟩
 rw [<-r3,a2o _ _ _ _ (by omega)]
theorem Sl.cells {α} [Gv α] {M p} {l:List α} (h:Sl M w p l) (h1:∀ M w cs (x:α),Gv.rep M w cs x->(cs.all λu=>mU u)=true) (h0:0<l.length):
  ∃ b o news,p=some ⟨b,o,none⟩/\news.length=l.length*(Gv.ty α).size/\(∀ j u,news[j]? = some u->w.cell? ⟨b,o+j,none⟩=some u)/\dI M w news l/\(news.all λu=>mU u)=true:=by
 obtain ⟨b,o,_,hp,_⟩:=h 0 h0
 have key:∀ k,k<=l.length->∃ news:List Value,news.length=k*(Gv.ty α).size/\(∀ j u,news[j]? = some u->w.cell? ⟨b,o+j,none⟩=some u)/\dI M w news (l.take k)/\(news.all λu=>mU u)=true:=by
  intro k
  induction k with
  | zero=>intro _;exact ⟨[],by simp,λj u hj=>by simp at hj,by rw [List.take_zero];exact dI.nil,rfl⟩
  | succ k ih =>
   intro hk
   obtain ⟨news,g1,g2,g3,g4⟩:=ih (by omega)
   obtain ⟨b',o',cs,e1,_,e3,e4⟩:=h k (by omega)
   rw [hp] at e1
   cases e1
   have hlen:=Gv.len e4
   refine ⟨news++cs,by rw [List.length_append,g1,hlen,Nat.add_mul,Nat.one_mul],λj u hj=>?_,?_,by rw [List.all_append,g4,h1 _ _ _ _ e4];rfl⟩
   .by_cases hlt:j<news.length
    .rw [List.getElem?_append_left hlt] at hj
     exact g2 j u hj
    .rw [List.getElem?_append_right (by omega)] at hj
     have hl2:j - news.length<cs.length:=(List.getElem?_eq_some_iff.1 hj).1
     have:=e3 (j - news.length) hl2
     rw [show o+k*(Gv.ty α).size+(j - news.length)=o+j by omega] at this
     rw [this,<-hj,List.getElem?_eq_getElem hl2]
   .rw [List.take_succ_eq_append_getElem (by omega)]
    exact g3.snoc e4
 obtain ⟨news,g1,g2,g3,g4⟩:=key l.length (Nat.le_refl _)
 rw [List.take_length] at g3
 exact ⟨b,o,news,hp,g1,g2,g3,g4⟩
theorem Ctx.aGT [aB Φ] {α} [Gv α] {q} {l:List α} {c2 p n cap cs t bytes} (c:Ctx W w (.buf p n cap cs t (Gv.ty α).size :: S) Φ) {ts ty kb} (hb:aDo P ts t (Gv.ty α).size bytes=true) (h1:∀ M w cs (x:α),Gv.rep M w cs x->(cs.all λu=>mU u)=true) (kZ:∀ M w,Φ M w->Sl M w q l) (h0:0<l.length) (hlen:n+l.length<100000000) (hbytes:bytes<=1000):
  ∃ p' cap' w' news,Sem.run P (builtin Builtin.append #[ts,ts] ty kb #[.slice p n cap,.slice q l.length c2]) w=.ok (.value (.slice p' (n+l.length) cap')) w'/\(∃ g,p'=some ⟨g,0,none⟩) /\
   Ctx W w' (.buf p' (n+l.length) cap' (cs++news) t (Gv.ty α).size :: S) (λM w=>Φ M w/\dI M w news l):=by
 obtain ⟨i,z,e1,e2,e3,e4,e5,e6⟩:=uP hb
 have hby:(n+l.length)*i.bytes<=100000000*1000:=Nat.mul_le_mul (by omega) (by omega)
 obtain ⟨b,o,news,hp,g1,g2,g3,g4⟩:=(kZ _ _ c.tX).cells h1 h0
 obtain ⟨p',cap',w',h2,c'⟩:=(c.add (Ψ:=λM w=>dI M w news l) g3).append 0 rfl (ty:=ty) e1 e2 e3 e4 e5 (a:=⟨b,o,none⟩) (m:=l.length) (c2:=c2) (news:=news) h0 g1 (λj u hj=>by rw [addr_add];exact g2 j u hj)
  (λu hu=>List.all_eq_true.1 g4 u hu) (by omega) (by omega)
 have hpos:0<(Gv.ty α).size:=Gv.pos
 have hl2:0<l.length*(Gv.ty α).size:=Nat.mul_pos h0 hpos
 refine ⟨p',cap',w',news,by rw [hp];exact uC h2,?_,c'⟩
 obtain ⟨g,hg,_⟩:=c'.nR 0 rfl (by rw [List.length_append];omega)
 exact ⟨g,hg⟩
end
section
variable {P:Program} {W w w':World} {S S' F:List Own} {Φ Ψ:PW}
theorem aB.less {Φ:PW} [aB Φ] {D M w} (h:Φ (D++M) w):Φ M w :=
 aB.step (Φ:=Φ) ⟨lA.refl _ _,λb hb=>.inl (List.mem_append_right _ hb)⟩ h
theorem Ctx.a4a [aB Φ] {α} [Gv α] {q} {l:List α} {c2 k t bytes} (c:Ctx W w (.blk k [] t :: S) Φ) {ts ty kb} (hb:aDo P ts t (Gv.ty α).size bytes=true) (h1:∀ M w cs (x:α),Gv.rep M w cs x->(cs.all λu=>mU u)=true) (kZ:∀ M w,Φ M w->Sl M w q l) (hlen:l.length<100000000) (hbytes:bytes<=1000):
  ∃ p' cap' w' cs,Sem.run P (builtin Builtin.append #[ts,ts] ty kb #[.slice (some ⟨k,0,none⟩) 0 0,.slice q l.length c2]) w=.ok (.value (.slice p' l.length cap')) w' /\
   Ctx W w' (.buf p' l.length cap' cs t (Gv.ty α).size :: S) (λM w=>Φ M w/\dI M w cs l):=by
 have c':Ctx W w (.buf (some ⟨k,0,none⟩) 0 0 [] t (Gv.ty α).size :: S) Φ:=c.aMq 0 0 (Gv.ty α).size rfl (by simp) (by simp [maxLen])
 rcases Nat.eq_zero_or_pos l.length with h0|h0
 .obtain ⟨i,z,e1,e2,e3,e4,e5,e6⟩:=uP hb
  have hl:l=[]:=List.eq_nil_of_length_eq_zero h0
  subst hl
  exact ⟨_,_,w,[],uC (c'.aJE 0 rfl e1 e2 q c2),c'.add dI.nil⟩
 .obtain ⟨p',cap',w',news,h2,_,c3⟩:=c'.aGT (ty:=ty) (kb:=kb) (c2:=c2) hb h1 kZ h0 (by omega) hbytes
  rw [Nat.zero_add] at h2 c3
  exact ⟨p',cap',w',news,h2,c3⟩
def aUY (b o:Nat) (vs:List Value) (M:List Nat) (w:World):Prop:=b ∉ M/\bL w b o vs/\b<w.heap.size
theorem vR.aUZ {M b o cs vs t} (h:vR W (.blk b cs t) M w) (hv:∀ j,(hj:j<vs.length)->cs[o+j]? = some vs[j]):aUY b o vs M w :=
 ⟨(h.2 b (by simp [Own.dom])).1,vY.row (show vY w b cs t from h.1) hv,Own.aFu h.1 b (by simp [Own.dom])⟩
def a4b (W:World) (Q:List Own) (M:List Nat) (w:World):Prop:=(∀ o∈Q,o.at w)/\(dom Q).Nodup/\∀ b∈dom Q,b ∉ M/\W.heap.size<=b
instance aBI (W:World) (Q:List Own):aB (λM w=>a4b W Q M w):=⟨λhs h=>by
 have hlt:∀ b∈dom Q,b<_:=λb hb=>by
  obtain ⟨o,ho,hb⟩:=List.mem_flatMap.1 hb
  exact Own.aFu (h.1 o ho) b hb
 exact ⟨λo ho=>Own.OU (h.1 o ho) λb hb=>hs.chg.block b (hlt b (nQ ho hb)) (h.2.2 b (nQ ho hb)).1,h.2.1,λb hb=>⟨λhm=>by
  rcases hs.sub b hm with h1|h1
  .exact (h.2.2 b hb).1 h1
  .have:=hlt b hb;omega,(h.2.2 b hb).2⟩⟩⟩
def iS (W:World) (Q:List Own) (Φ:PW):PW:=λM w=>Φ (dom Q++M) w/\a4b W Q M w
instance aE4 (W:World) (Q:List Own) (Φ:PW) [aB Φ]:aB (iS W Q Φ) :=
 have h1:aB (λM w=>Φ (dom Q++M) w):=Z8 (dom Q) Φ
 dM (λM w=>Φ (dom Q++M) w) (λM w=>a4b W Q M w)
theorem Ctx.aside {Q} (c:Ctx W w (Q++S) Φ):Ctx W w S (iS W Q Φ):=by
 have hd:=wK Q S
 have hn:=c.nodup
 rw [hd,List.nodup_append] at hn
 refine ⟨c.chg,λx hx=>c.own x (List.mem_append_right _ hx),λb hb=>c.OV b (by rw [hd];exact List.mem_append_right _ hb),hn.2.1,?_,λo ho=>c.own o (List.mem_append_left _ ho),hn.1,λb hb=>⟨λhm=>hn.2.2 b hb b hm rfl,c.OV b (by rw [hd];exact List.mem_append_left _ hb)⟩⟩
 have:=c.tX
 rw [hd] at this
 exact this
theorem Ctx.A9 {Q} (c:Ctx W w S (iS W Q Φ)):Ctx W w (Q++S) Φ:=by
 obtain ⟨h1,h2,h3,h4⟩:=c.tX
 have hd:=wK Q S
 refine ⟨c.chg,λx hx=>?_,λb hb=>?_,?_,by rw [hd];exact h1⟩
 .rcases List.mem_append.1 hx with hx|hx
  .exact h2 x hx
  .exact c.own x hx
 .rw [hd] at hb
  rcases List.mem_append.1 hb with hb|hb
  .exact (h4 b hb).2
  .exact c.OV b hb
 .rw [hd,List.nodup_append]
  exact ⟨h3,c.nodup,λa ha b hb e=>by subst e;exact (h4 a ha).1 hb⟩
theorem iS.parked {Q M} (h:iS W Q Φ M w) {o} (ho:o∈Q):vR W o M w:=⟨h.2.1 o ho,λb hb=>h.2.2.2 b (nQ ho hb)⟩
theorem iS.less [aB Φ] {Q M} (h:iS W Q Φ M w):Φ M w:=aB.less h.1
theorem Ctx.re (c:Ctx W w S Φ) (e:S=S'):Ctx W w S' Φ:=e ▸ c
theorem Ctx.aPm {Q T G} (c:Ctx W w (Q++T++G) Φ):Ctx W w (T++G) (iS W Q Φ):=Ctx.aside (c.re (b9 _ _ _))
theorem Ctx.aGU {Q T G} (c:Ctx W w (T++G) (iS W Q Φ)):Ctx W w (Q++T++G) Φ:=c.A9.re (b9 _ _ _).symm
theorem Ctx.a9w (c:Ctx W w S Φ) (k:Nat) {p n cap cs t size} (hk:S[k]? = some (.buf p n cap cs t size)) {b i v} (hp:p=some ⟨b,0,none⟩) (hv:cs[i]? = some v):w.cell? ⟨b,i,none⟩=some v:=by
 obtain ⟨b',h1,_,h2⟩:=c.nR k hk (by have:=(List.getElem?_eq_some_iff.1 hv).1;omega)
 rw [hp] at h1
 cases h1
 exact (h2 _ _ hv).1
theorem ZA {α} [Gv α] {M p} {l:List α} {cap} (h:Sl M w p l) (k) (hc:l.length<=cap):Sl M w (cJ p (Gv.ty α).size k cap) (l.drop k):=by
 intro j hj
 rw [List.length_drop] at hj
 obtain ⟨b,o,cs,rfl,h2,h3,h4⟩:=h (k+j) (by omega)
 refine ⟨b,o+k*(Gv.ty α).size,cs,?_,h2,?_,?_⟩
 .unfold cJ
  rw [if_neg (by omega)]
  simp [Addr.add]
 .rw [show o+k*(Gv.ty α).size+j*(Gv.ty α).size=o+(k+j)*(Gv.ty α).size by rw [Nat.add_mul];omega]
  exact h3
 .rw [List.getElem_drop]
  exact h4
end
end Go.Vc
end

section
namespace Go.Proofs.YtnlkemjhgdbfkaaGreatDoor
open Go.Vc
structure bQ where
 term:Int
 data:ByteArray
instance:Gv bQ:=Gv.via (β:=Int × ByteArray) (λx=>(x.term,x.data)) (λy=>⟨y.1,y.2⟩) (λ_=>rfl)
theorem aKR {x y:bQ}:x=y ↔ (x.term=y.term/\x.data=y.data):=by cases x;cases y;simp
instance:DecidableEq bQ:=λ_ _=>decidable_of_iff _ aKR.symm
structure bR where
 kind:Int
 src:Int
 to:Int
 term:Int
 index:Int
 prev:Int
 aE:Int
 yes:Bool
 aF:List bQ
instance:Gv bR:=Gv.via (β:=Int × Int × Int × Int × Int × Int × Int × Bool × List bQ) (λx=>(x.kind,x.src,x.to,x.term,x.index,x.prev,x.aE,x.yes,x.aF))
 (λy=>⟨y.1,y.2.1,y.2.2.1,y.2.2.2.1,y.2.2.2.2.1,y.2.2.2.2.2.1,y.2.2.2.2.2.2.1,y.2.2.2.2.2.2.2.1,y.2.2.2.2.2.2.2.2⟩) (λ_=>rfl)
structure lT where
 save:Bool
 term:Int
 aQ:Int
 src:Int
 aF:List bQ
 send:List bR
abbrev kR:lT:=⟨false,0,0,0,[],[]⟩
abbrev mW (l:List bR):lT:=⟨false,0,0,0,[],l⟩
structure dX where
 id:Nat
 term:Int
 aQ:Int
 log:List bQ
 role:Int
 aE:Nat
 cN:Nat->Bool
 next:Nat->Nat
 fZ:Nat->Nat
def pV:List bQ->Int->Int->Bool
 | [],_,_=>true
 | x :: l,least,most=>if (decide (x.term<least)||decide (most<x.term)||decide (2000<(x.data.size:Int)))=true then false else pV l x.term most
def bG (l:List bQ):Nat->Int
 | 0=>0
 | k+1=>match l[k]? with
  | some x=>x.term
  | none=>0
def aT (id:Nat):List Nat:=if id=0 then [1,2] else if id=1 then [0,2] else [0,1]
def put {α:Type} (f:Nat->α) (i:Nat) (x:α):Nat->α:=λj=>if j=i then x else f j
def rI (r:dX) (kind to:Int):bR:=⟨kind,r.id,to,r.term,0,0,0,false,[]⟩
def entriesOf (r:dX) (to:Nat):bR :=
 ⟨2,r.id,to,r.term,((r.next to - 1:Nat):Int),bG r.log (r.next to - 1),r.aE,false,(r.log.drop (r.next to - 1)).take 8⟩
def cW (r:dX):List bR:=(aT r.id).map λi=>entriesOf r i
def dR (id:Nat) (term aQ:Int) (log:List bQ):dX:=⟨id,term,aQ,log,0,0,λ_=>false,λ_=>0,λ_=>0⟩
def uQ (r:dX) (to:Nat):bR:=⟨0,r.id,to,r.term,r.log.length,bG r.log r.log.length,0,false,[]⟩
def eG (r:dX):dX × lT :=
 if r.role=2 then (r,mW (cW r))
 else if r.term=1099511627776 then (r,kR)
 else
  let r1:dX:={ r with term:=r.term+1,aQ:=r.id,role:=1,cN:=λi=>decide (i=r.id) }
  (r1,⟨true,r1.term,r1.aQ,0,[],(aT r.id).map λi=>uQ r1 i⟩)
def iT (id:Nat) (m:bR):Bool :=
 decide (0<=m.kind)&&decide (m.kind<=3)&&decide (m.to=id)&&decide (m.src≠id)&&decide (0<=m.src)&&decide (m.src<=2)&&decide (1<=m.term)&&decide (m.term<=1099511627776)&&decide (0<=m.index)&&decide (m.index<=4000) &&
  decide (0<=m.prev)&&decide (m.prev<=m.term) && !(decide (m.index=0)&&decide (m.prev≠0))&&decide (0<=m.aE)&&decide (m.aE<=4000)&&decide ((m.aF.length:Int)<=8)&&decide (m.index+(m.aF.length:Int)<=4000)&&pV m.aF (max 1 m.prev) m.term
def TF (r:dX) (m:bR):Bool:=decide (bG r.log r.log.length<m.prev)||decide (m.prev=bG r.log r.log.length)&&decide ((r.log.length:Int)<=m.index)
def dG (r:dX) (m:bR):dX × lT :=
 if (decide (m.term=r.term)&&(decide (r.aQ = -1)||decide (r.aQ=m.src))&&TF r m)=true then ({ r with aQ:=m.src },mW [⟨1,r.id,m.src,r.term,0,0,0,true,[]⟩])
 else (r,mW [rI r 1 m.src])
def b2n (b:Bool):Nat:=if b then 1 else 0
def pW (v:Nat->Bool):Nat:=b2n (v 0)+b2n (v 1)+b2n (v 2)
def cU (r:dX) (m:bR):dX × lT :=
 if (decide (r.role≠1)||decide (m.term≠r.term) || !m.yes)=true then (r,kR)
 else
  let r1:dX:={ r with cN:=put r.cN m.src.toNat true }
  if pW r1.cN<2 then (r1,kR)
  else
   let r2:dX:={ r1 with role:=2,next:=λ_=>r.log.length+1,fZ:=λ_=>0 }
   (r2,mW (cW r2))
def agree:List bQ->List bQ->Nat
 | a :: l,b :: r=>if a.term=b.term then agree l r+1 else 0
 | _,_=>0
def qE (r:dX) (m:bR):bR:=⟨3,r.id,m.src,r.term,m.index+m.aF.length,0,0,true,[]⟩
def b8 (r:dX) (m:bR):dX × lT :=
 if m.term<r.term then (r,mW [rI r 3 m.src])
 else if r.role=2 then (r,kR)
 else
  let r1:dX:={ r with role:=0 }
  if (decide ((r.log.length:Int)<m.index)||decide (bG r.log m.index.toNat≠m.prev))=true then (r1,mW [⟨3,r.id,m.src,r.term,min (r.log.length:Int) (m.index - 1),0,0,false,[]⟩])
  else
   let ix:=m.index.toNat
   let k:=agree (r.log.drop ix) m.aF
   let c:=max r.aE (min m.aE.toNat (ix+m.aF.length))
   if k<m.aF.length then
    if ix+k+1<=r.aE then (r1,kR)
    else ({ r1 with log:=r.log.take (ix+k)++m.aF.drop k,aE:=c },⟨false,0,0,((ix+k+1:Nat):Int),m.aF.drop k,[qE r m]⟩)
   else ({ r1 with aE:=c },mW [qE r m])
def BE (r:dX):Nat:=(aT r.id).foldl (λa i=>max a (r.fZ i)) 0
def bA (r:dX):dX:=if (decide (r.aE<BE r)&&decide (bG r.log (BE r)=r.term))=true then { r with aE:=BE r } else r
def aW (r:dX) (m:bR):dX × lT :=
 if (decide (r.role≠2)||decide (m.term≠r.term)||m.yes&&decide ((r.log.length:Int)<m.index))=true then (r,kR)
 else
  let f:=m.src.toNat
  if m.yes=false then
   let r1:dX:={ r with next:=put r.next f (max (r.fZ f+1) (min (r.next f - 1) (m.index.toNat+1))) }
   (r1,mW [entriesOf r1 f])
  else
   let mt:=max (r.fZ f) m.index.toNat
   let r1:dX:=bA { r with fZ:=put r.fZ f mt,next:=put r.next f (mt+1) }
   if mt+1<=r.log.length then (r1,mW [entriesOf r1 f]) else (r1,kR)
def cX (r:dX) (m:bR):dX × lT :=
 if iT r.id m=false then (r,kR)
 else
  let r1:dX:=if r.term<m.term then { r with term:=m.term,aQ := -1,role:=0 } else r
  let x:dX × lT:=if m.kind=0 then dG r1 m else if m.kind=1 then cU r1 m else if m.kind=2 then b8 r1 m else aW r1 m
  if (decide (x.1.term=r.term)&&decide (x.1.aQ=r.aQ))=true then x
  else (x.1,{ x.2 with save:=true,term:=x.1.term,aQ:=x.1.aQ })
def aK (r:dX) (data:ByteArray):dX × Int × Int × lT :=
 if r.role≠2 then (r,0,24,kR)
 else if 2000<(data.size:Int) then (r,0,1,kR)
 else if r.log.length=4000 then (r,0,6,kR)
 else
  let x:bQ:=⟨r.term,data⟩
  let r1:dX:={ r with log:=r.log++[x] }
  (r1,((r.log.length+1:Nat):Int),0,⟨false,0,0,((r.log.length+1:Nat):Int),[x],cW r1⟩)
structure kS (l:List bQ) (most:Int):Prop where
 lo:∀ x∈l,1<=x.term
 hi:∀ x∈l,x.term<=most
 data:∀ x∈l,x.data.size<=2000
 VA:∀ i j,i<=j->(hj:j<l.length)->(hi:i<l.length)->l[i].term<=l[j].term
structure dX.Ok (r:dX):Prop where
 id:r.id<=2
 mE:0<=r.term
 iW:r.term<=1099511627776
 xZ : -1<=r.aQ
 y3:r.aQ<=2
 log:kS r.log r.term
 len:r.log.length<=4000
 role:r.role=0\/r.role=1\/r.role=2
 aE:r.aE<=r.log.length
 next:r.role=2->∀ i,1<=r.next i/\r.next i<=r.log.length+1/\r.fZ i<=r.log.length
 bound:∀ i,r.next i<=4001/\r.fZ i<=4000
end Go.Proofs.YtnlkemjhgdbfkaaGreatDoor
end

section
namespace Go.Vc
open Go.ChangeShapes Go.WideShapes Go.RowKit
section
variable {H:Type} {enc:TypeId × Value->H} {P:Program} {W:World}
theorem aKS {α} [Gv α] (d) {t v x ps} (hty:Ty.is P d (Gv.ty α) t=true) (h:DataW.Trod enc P W 0 (λ_=>true) true t v x ps):∃ y:α,Gv.rep [] W v.cells.toList y:=by
 obtain ⟨fuel,h⟩:=h
 exact Gv.opens.ap hty h
theorem aKT {α} [Gv α] (d) {t e v r base x ps} (ht:P.underlying t=some (.slice e)) (hv:Value.okWide P W r base t v) (hty:Ty.is P d (Gv.ty (List α)) t=true) (h:DataW.Trod enc P W 0 (λ_=>true) true t v x ps):∃ (p:Option Addr) (cap:Nat) (l:List α),v=.slice p l.length cap/\l.length<=cap/\cap<=maxLen/\Sl [] W p l:=by
 obtain ⟨a,len,cap,rfl⟩:=okWide_slice ht hv
 obtain ⟨l,hl⟩:=aKS (α:=List α) d hty h
 obtain ⟨p,c,e,h1,h2,h3⟩:=a5u.1 hl
 simp only [Value.cells,List.cons.injEq,Value.slice.injEq,and_true] at e
 obtain ⟨rfl,rfl,rfl⟩:=e
 exact ⟨a,cap,l,rfl,h1,h2,h3⟩
theorem bY.law {Φ f args} (h:bY Φ P f args (.bool true)) (h0:Φ [] W):Calls P f args W λe W'=>∃ u,e=.returned u/\(u=.bool true/\lA [] W W') :=
 (h.go W W [] (Ctx.start W h0)).mono λe w' ⟨h1,h2⟩=>⟨_,h1,rfl,h2.chg⟩
end
end Go.Vc
end

section
namespace Go.Vc
open Go.RowKit Go.Shelf
section
variable {P:Program} {W w w':World} {S R F:List Own} {Φ Ψ:PW}
theorem Ctx.lose [aB Φ] (c:Ctx W w (R++S) Φ) (h:lA (dom R) w w'):Ctx W w' S Φ:=by
 have hn:=c.nodup
 rw [wK,List.nodup_append] at hn
 refine c.go ⟨h.mono λx hx=>by rw [wK];exact List.mem_append_left _ hx,λb hb=>.inl (by rw [wK];exact List.mem_append_right _ hb)⟩ (λo ho=>?_) hn.2.1
 exact Own.OU (c.own o (List.mem_append_right _ ho)) λb hb=>h.block b (c.lt (nQ (List.mem_append_right _ ho) hb)) λhm=>hn.2.2 b hm b (nQ ho hb) rfl
theorem Ctx.aPn [aB Φ] {p n cap cs e} (c:Ctx W w (.buf p n cap cs e 1 :: S) Φ) {t u ty kb i} (ht:P.underlying t=some (.slice e)) (hu:P.underlying u=some .string) (hi:P.info? e=some i) (hz:i.zero=some (.int .u8 0)) (hsize:i.size=1) (hby:i.bytes=1) (s) (hb:n+s.size<=140737488355328) (h63:n+s.size<=maxLen):
  ∃ p' cap' w',Sem.run P (builtin Builtin.append #[t,u] ty kb #[.slice p n cap,.string s]) w=.ok (.value (.slice p' (n+s.size) cap')) w'/\Ctx W w' (.buf p' (n+s.size) cap' (cs++Lib.strCells s) e 1 :: S) Φ:=by
 have hown:=c.own _ (List.mem_cons_self)
 obtain ⟨rW,hown⟩:=hown
 have hxl:cs.length=n:=by simpa using rW
 have hlen:(cs++Lib.strCells s).length=(n+s.size)*1:=by rw [List.length_append,hxl,Lib.strCells_length,Nat.mul_one]
 have grown:∀ (old:Nat),old<n+s.size ->
   Ctx W (w.drew.alloc (.cells (cs.toArray++(Lib.strCells s).toArray++Builtin.zeroCells (Value.int .u8 0).cells (grownCap w (n+s.size) old e - (n+s.size))) e))
    (.buf (some ⟨w.heap.size,0,none⟩) (n+s.size) (grownCap w (n+s.size) old e) (cs++Lib.strCells s) e 1 :: S) Φ:=by
  intro old ho
  have hge:=grownCap_ge w (n+s.size) old e
  have hcm:grownCap w (n+s.size) old e<=maxLen:=grownCap_le_maxLen w (n+s.size) old e h63
  have h:=c.upd (k:=0) (o':=.buf (some ⟨w.heap.size,0,none⟩) (n+s.size) (grownCap w (n+s.size) old e) (cs++Lib.strCells s) e 1) rfl (((lA.refl _ _).drewN 1).alloc (.cells (cs.toArray++(Lib.strCells s).toArray++Builtin.zeroCells (Value.int .u8 0).cells (grownCap w (n+s.size) old e - (n+s.size))) e)) (by simp [Own.dom]) (by simp [Own.dom])
   ⟨hlen,.inr ⟨w.heap.size,_,_,rfl,Nat.zero_le _,qZ w.drew _,hge,hcm,?_,?_⟩⟩
  .exact h
  .have hz1:(Value.int IntKind.u8 0).cells.size=1:=rfl
   simp only [Array.size_append,List.size_toArray,size_zeroCells,hz1,hxl,Lib.strCells_length]
   omega
  .simp only [Array.toList_append,b9]
   rw [<-b9,<-hlen]
   exact List.take_left
 rcases hown with ⟨e1,rfl⟩|⟨g,cap',cur,e1,_,hg,hnc,hcm,hcs,r3⟩
 .cases e1
  have hx:cs=[]:=List.eq_nil_of_length_eq_zero hxl
  subst hx
  by_cases hm:s.size=0
  .have hn:Lib.strCells s=[]:=List.eq_nil_of_length_eq_zero (by rw [Lib.strCells_length];exact hm)
   refine ⟨none,0,w,uC ?_,by rw [hm,hn];exact c⟩
   have hf:=Lib.run_firstCells_string (P:=P) w 1 s
   rw [hm] at hf
   simp [Builtin.append_,run_underlying ht,run_underlying hu,sizeOf,typeInfo,hi,hsize,Builtin.lenOf,hm,hf]
  .have hr:=run_append_nil_string (P:=P) w t u ty e i (.int .u8 0) ht hu hi hz s (by omega) (by omega) (by rw [hby];omega)
   have hgr:=grown 0 (by omega)
   simp only [Nat.zero_add,List.nil_append,Array.empty_append] at hgr ⊢
   have e1:(s.data.map λb=>Value.int .u8 b.toNat)=(Lib.strCells s).toArray:=by
    apply Array.ext'
    simp [Lib.strCells]
   rw [e1] at hr
   exact ⟨_,_,_,uC hr,hgr⟩
 .cases e1
  have b4X:cur.size=cap:=by simpa using hcs
  have ht':cur.toList.take n=cs:=by simpa using r3
  by_cases hroom:n+s.size<=cap
  .have hr:=Lib.run_append_room_string (P:=P) w t u ty e i ht hu hi hsize g n cap cur hg s hroom (by omega)
   refine ⟨_,_,_,uC hr,?_⟩
   have h:=c.upd (k:=0) (w':=w.setRow g (cur.toList.take n++Lib.strCells s++cur.toList.drop (n+s.size)).toArray) (o':=.buf (some ⟨g,0,none⟩) (n+s.size) cap (cs++Lib.strCells s) e 1) rfl ⟨rfl,rfl,rfl,by simp,λb _ hb=>setRow_other w g b _ (by simpa [Own.dom] using hb)⟩ (by simp [Own.dom]) (by simp [Own.dom])
    ⟨hlen,.inr ⟨g,cap,_,rfl,Nat.zero_le _,setRow_heap w g cur _ e _ hg,hroom,hcm,?_,?_⟩⟩
   .exact h
   .simp only [List.size_toArray,List.length_append,List.length_take,List.length_drop,Array.length_toList,Lib.strCells_length]
    omega
   .rw [ht',<-hlen]
    exact List.take_left
  .have holds:∀ j u,cs[j]? = some u->w.cell? ((⟨g,0,none⟩:Addr).add j)=some u:=by
    intro j u hj
    have hlt:j<cs.length:=(List.getElem?_eq_some_iff.1 hj).1
    have h2:cur[j]? = some u:=by
     rw [<-ht',List.getElem?_take_of_lt (by omega)] at hj
     simpa using hj
    rw [addr_add,Nat.zero_add]
    simp [World.cell?,hg,h2]
   have hr:=Lib.run_append_grow_string (P:=P) w t u ty e i (.int .u8 0) ht hu hi hz ⟨g,0,none⟩ n cap cs (by rw [hsize];simpa using hxl) holds s (by omega) (by omega) (by rw [hby];exact growslice_fits (by omega) (by omega))
   exact ⟨_,_,_,uC hr,grown cap (by omega)⟩
def Bd (T e:TypeId) (b:Nat) (l:List UInt8) (R:List Own):Prop :=
 ∃ (pa:Value) (p:Option Addr) (cap:Nat),(pa=.pointer none\/pa=.pointer (some ⟨b,0,none⟩))/\R=[.blk b [pa,.slice p l.length cap] T,.buf p l.length cap (Lib.byteCells l) e 1]
theorem Bd.fresh [aB Φ] {T e b} (c:Ctx W w (.blk b [.pointer none,.slice none 0 0] T :: S) Φ):Ctx W w ([.blk b [.pointer none,.slice none 0 0] T,.buf none 0 0 [] e 1]++S) Φ :=
 ((c.aCA e 1).perm (List.Perm.swap _ _ _))
theorem Bd.nil {T e b}:Bd T e b [] [.blk b [.pointer none,.slice none 0 0] T,.buf none 0 0 [] e 1]:=⟨.pointer none,none,0,.inl rfl,rfl⟩
end
section
open Go.Proofs
variable {P:Program} {ρ:Ren}
theorem a9x {a w D} (h:lA D a w) {p} (hp:p.block∈D) (n):lA D a (w.freeze p n):=by
 refine h.trans (T:=D) ?_ (λx hx=>.inl hx)
 unfold World.freeze
 split
 .exact lA.refl _ _
 .refine ⟨rfl,rfl,rfl,by simp,λk hk hn=>?_⟩
  simp only [Array.getElem?_modify]
  rw [if_neg (λe=>hn (by rw [<-e];exact hp))]
set_option maxHeartbeats 1000000 in
set_option maxRecDepth 100000 in
theorem KY (L:Lays.n169 P ρ) (X:Builder.Extra P ρ) (b g cap pa l w) (h0:l≠[]) (hbk:w.heap[b]? = some (.cells #[pa,.slice (some ⟨g,0,none⟩) l.length cap] (ρ.t 72) (0,0))) (hown:w.ownsRow 0 (ρ.t 5) 1 (.slice (some ⟨g,0,none⟩) l.length cap) l.length (Lib.byteCells l)):
  Calls P (ρ.f 169) #[.pointer (some ⟨b,0,none⟩)] w λe w'=>e=.returned (.string ⟨l.toArray⟩)/\lA [g] w w':=by
 have hl0:l.length≠0:=by simpa using h0
 obtain ⟨cur,hg,hnc,hcm,hcs,r3⟩:∃ cur,w.heap[g]? = some (.cells cur (ρ.t 5) (0,0))/\l.length<=cap/\cap<=maxLen/\cur.size=cap*1/\cur.toList.take (l.length*1)=Lib.byteCells l:=by
  rcases hown.2 with ⟨hv,_⟩|⟨g',cap',cur,hv,_,r⟩
  .cases hv
  .cases hv;exact ⟨cur,r⟩
 have c1:w.drew.cell? ⟨b,1,none⟩=some (.slice (some ⟨g,0,none⟩) l.length cap):=by
  have:w.drew.heap[b]? = some (.cells #[pa,.slice (some ⟨g,0,none⟩) l.length cap] (ρ.t 72) (0,0)):=hbk
  rw [Lib.cell_of_heap this];rfl
 have hSD:(Builtin.unsafeSliceData_ #[(ρ.t 37)] (ρ.t 127) #[.slice (some ⟨g,0,none⟩) l.length cap]).run P w.drew=.ok (.pointer (some ⟨g,0,none⟩)) w.drew :=
  Lib.run_unsafeSliceData_row _ _ _ _ _ _ (by omega)
 have hUS:(Builtin.unsafeString_ #[(ρ.t 127),(ρ.t 3)] (ρ.t 9) #[.pointer (some ⟨g,0,none⟩),.int .i64 l.length]).run P w.drew=.ok (.string ⟨l.toArray⟩) (w.drew.freeze ⟨g,0,none⟩ l.length):=by
  refine Lib.run_unsafeString_row w.drew (ρ.t 127) (ρ.t 3) (ρ.t 9) (ρ.t 5) L.t127 X.cellsByte g cur.size (by have hg':w.drew.heap[g]? = some (.cells cur (ρ.t 5) (0,0)):=hg;simp [World.shape?,hg']) l h0 (by omega) (by unfold maxLen at hcm;omega) ?_
  intro j x hx
  have:=hown.cells (g:=g) rfl j (.int .u8 x.toNat) (by simp [Lib.byteCells,hx])
  exact this
 have mixed:=L.mixed
 have t72:=L.t72;have a72:=L.a72;have z72:=L.z72;have v72:=L.v72;have u72:=run_underlying L.t72
 have t70:=L.t70;have a70:=L.a70;have z70:=L.z70;have v70:=L.v70;have u70:=run_underlying L.t70
 have t37:=L.t37;have a37:=L.a37;have z37:=L.z37;have v37:=L.v37;have u37:=run_underlying L.t37
 have t127:=L.t127;have a127:=L.a127;have z127:=L.z127;have v127:=L.v127;have aPo:=run_underlying L.t127
 have t3:=L.t3;have a3:=L.a3;have z3:=L.z3;have v3:=L.v3;have u3:=run_underlying L.t3
 have t9:=L.t9;have a9:=L.a9;have z9:=L.z9;have v9:=L.v9;have u9:=run_underlying L.t9
 have t5:=X.t5;have a5:=X.a5;have z5:=X.z5;have v5:=X.v5;have u5:=run_underlying X.t5
 go_enter L.f169,Body.n169_ntmps ρ
 go_wp2
 go_region_o
 all_goals (go_wp2;go_ret;exact ⟨rfl,a9x ((lA.refl _ _).drewN 1) (p:=⟨g,0,none⟩) (by simp) _⟩)
set_option maxHeartbeats 2000000 in
set_option maxRecDepth 100000 in
theorem ND (L:Lays.n169 P ρ) (X:Builder.Extra P ρ) (b p w) (hbk:w.heap[b]? = some (.cells #[p,.slice none 0 0] (ρ.t 72) (0,0))):
  Calls P (ρ.f 169) #[.pointer (some ⟨b,0,none⟩)] w λe w'=>e=.returned (.string ⟨#[]⟩)/\lA [] w w':=by
 have hUS:=Any.unsafeString_none L X
 have c1:w.drew.cell? ⟨b,1,none⟩=some (.slice none 0 0):=by
  have:w.drew.heap[b]? = some (.cells #[p,.slice none 0 0] (ρ.t 72) (0,0)):=hbk
  rw [Lib.cell_of_heap this];rfl
 have hSD:(Builtin.unsafeSliceData_ #[(ρ.t 37)] (ρ.t 127) #[.slice none 0 0]).run P w.drew=.ok (.pointer none) w.drew:=rfl
 have mixed:=L.mixed
 have t72:=L.t72;have a72:=L.a72;have z72:=L.z72;have v72:=L.v72;have u72:=run_underlying L.t72
 have t70:=L.t70;have a70:=L.a70;have z70:=L.z70;have v70:=L.v70;have u70:=run_underlying L.t70
 have t37:=L.t37;have a37:=L.a37;have z37:=L.z37;have v37:=L.v37;have u37:=run_underlying L.t37
 have t127:=L.t127;have a127:=L.a127;have z127:=L.z127;have v127:=L.v127;have aPo:=run_underlying L.t127
 have t3:=L.t3;have a3:=L.a3;have z3:=L.z3;have v3:=L.v3;have u3:=run_underlying L.t3
 have t9:=L.t9;have a9:=L.a9;have z9:=L.z9;have v9:=L.v9;have u9:=run_underlying L.t9
 have t5:=X.t5;have a5:=X.a5;have z5:=X.z5;have v5:=X.v5;have u5:=run_underlying X.t5
 go_enter L.f169,Body.n169_ntmps ρ
 go_wp2
 go_region_o
 all_goals (go_wp2;go_ret;exact ⟨rfl,(lA.refl _ _).drewN 1⟩)
set_option maxHeartbeats 2000000 in
set_option maxRecDepth 100000 in
theorem FV (L:Lays.n169 P ρ) (X:Builder.Extra P ρ) (b g p cur w) (hbk:w.heap[b]? = some (.cells #[p,.slice (some ⟨g,0,none⟩) 0 0] (ρ.t 72) (0,0))) (hg:w.heap[g]? = some (.cells cur (ρ.t 5) (0,0))):
  Calls P (ρ.f 169) #[.pointer (some ⟨b,0,none⟩)] w λe w'=>e=.returned (.string ⟨#[]⟩)/\lA [] w w':=by
 have hUS:=Any.unsafeString_none L X
 have hlt:b<w.heap.size:=by
  rcases Nat.lt_or_ge b w.heap.size with h'|h'
  .exact h'
  .simp [Array.getElem?_eq_none h'] at hbk
 have c1:w.drew.cell? ⟨b,1,none⟩=some (.slice (some ⟨g,0,none⟩) 0 0):=by
  have:w.drew.heap[b]? = some (.cells #[p,.slice (some ⟨g,0,none⟩) 0 0] (ρ.t 72) (0,0)):=hbk
  rw [Lib.cell_of_heap this];rfl
 have hSD:(Builtin.unsafeSliceData_ #[(ρ.t 37)] (ρ.t 127) #[.slice (some ⟨g,0,none⟩) 0 0]).run P w.drew=.ok (.pointer (some ⟨w.drew.heap.size,0,none⟩)) (w.drew.alloc (.view ⟨g,0,none⟩ (ρ.t 5))) :=
  Lib.run_unsafeSliceData_zero w.drew _ _ (ρ.t 5) L.t127 ⟨g,0,none⟩ 0 ((ρ.t 5),cur.size) (by have hg':w.drew.heap[g]? = some (.cells cur (ρ.t 5) (0,0)):=hg;simp [World.shape?,hg'])
 have c2:(w.drew.alloc (.view ⟨g,0,none⟩ (ρ.t 5))).cell? ⟨b,1,none⟩=some (.slice (some ⟨g,0,none⟩) 0 0):=by
  have:(w.drew.alloc (.view ⟨g,0,none⟩ (ρ.t 5))).heap[b]? = _:=(Lib.alloc_old w.drew _ b hlt).trans hbk
  rw [Lib.cell_of_heap this];rfl
 have c3:(w.alloc (.view ⟨g,0,none⟩ (ρ.t 5))).drew.cell? ⟨b,1,none⟩=some (.slice (some ⟨g,0,none⟩) 0 0):=c2
 have c0:w.cell? ⟨b,1,none⟩=some (.slice (some ⟨g,0,none⟩) 0 0):=c1
 have mixed:=L.mixed
 have t72:=L.t72;have a72:=L.a72;have z72:=L.z72;have v72:=L.v72;have u72:=run_underlying L.t72
 have t70:=L.t70;have a70:=L.a70;have z70:=L.z70;have v70:=L.v70;have u70:=run_underlying L.t70
 have t37:=L.t37;have a37:=L.a37;have z37:=L.z37;have v37:=L.v37;have u37:=run_underlying L.t37
 have t127:=L.t127;have a127:=L.a127;have z127:=L.z127;have v127:=L.v127;have aPo:=run_underlying L.t127
 have t3:=L.t3;have a3:=L.a3;have z3:=L.z3;have v3:=L.v3;have u3:=run_underlying L.t3
 have t9:=L.t9;have a9:=L.a9;have z9:=L.z9;have v9:=L.v9;have u9:=run_underlying L.t9
 have t5:=X.t5;have a5:=X.a5;have z5:=X.z5;have v5:=X.v5;have u5:=run_underlying X.t5
 go_enter L.f169,Body.n169_ntmps ρ
 go_wp2
 go_region_o
 all_goals (go_wp2;go_ret;exact ⟨rfl,((lA.refl _ _).drewN 1).alloc _⟩)
set_option maxHeartbeats 2000000 in
set_option maxRecDepth 100000 in
theorem KZ (L:Lays.n169 P ρ) (X:Builder.Extra P ρ) (b g cap p w) (hc0:cap≠0) (hbk:w.heap[b]? = some (.cells #[p,.slice (some ⟨g,0,none⟩) 0 cap] (ρ.t 72) (0,0))):
  Calls P (ρ.f 169) #[.pointer (some ⟨b,0,none⟩)] w λe w'=>e=.returned (.string ⟨#[]⟩)/\lA [] w w':=by
 have hUS:=Any.unsafeString_none L X
 have c1:w.drew.cell? ⟨b,1,none⟩=some (.slice (some ⟨g,0,none⟩) 0 cap):=by
  have:w.drew.heap[b]? = some (.cells #[p,.slice (some ⟨g,0,none⟩) 0 cap] (ρ.t 72) (0,0)):=hbk
  rw [Lib.cell_of_heap this];rfl
 have hSD:(Builtin.unsafeSliceData_ #[(ρ.t 37)] (ρ.t 127) #[.slice (some ⟨g,0,none⟩) 0 cap]).run P w.drew=.ok (.pointer (some ⟨g,0,none⟩)) w.drew :=
  Lib.run_unsafeSliceData_row _ _ _ _ _ _ hc0
 clear hc0
 have mixed:=L.mixed
 have t72:=L.t72;have a72:=L.a72;have z72:=L.z72;have v72:=L.v72;have u72:=run_underlying L.t72
 have t70:=L.t70;have a70:=L.a70;have z70:=L.z70;have v70:=L.v70;have u70:=run_underlying L.t70
 have t37:=L.t37;have a37:=L.a37;have z37:=L.z37;have v37:=L.v37;have u37:=run_underlying L.t37
 have t127:=L.t127;have a127:=L.a127;have z127:=L.z127;have v127:=L.v127;have aPo:=run_underlying L.t127
 have t3:=L.t3;have a3:=L.a3;have z3:=L.z3;have v3:=L.v3;have u3:=run_underlying L.t3
 have t9:=L.t9;have a9:=L.a9;have z9:=L.z9;have v9:=L.v9;have u9:=run_underlying L.t9
 have t5:=X.t5;have a5:=X.a5;have z5:=X.z5;have v5:=X.v5;have u5:=run_underlying X.t5
 go_enter L.f169,Body.n169_ntmps ρ
 go_wp2
 go_region_o
 all_goals (go_wp2;go_ret;exact ⟨rfl,(lA.refl _ _).drewN 1⟩)
theorem Bd.string {W w S R} {Φ:PW} [aB Φ] {b l} (L:Lays.n169 P ρ) (X:Builder.Extra P ρ) (h:Bd (ρ.t 72) (ρ.t 5) b l R) (c:Ctx W w (R++S) Φ) {K} (hk:∀ w',Ctx W w' S Φ->K (.returned (.string ⟨l.toArray⟩)) w'):Calls P (ρ.f 169) #[.pointer (some ⟨b,0,none⟩)] w K:=by
 obtain ⟨pa,p,cap,hpa,rfl⟩:=h
 have hbk:w.heap[b]? = some (.cells #[pa,.slice p l.length cap] (ρ.t 72) (0,0)):=c.blk 0 rfl
 have hown:w.ownsRow 0 (ρ.t 5) 1 (.slice p l.length cap) l.length (Lib.byteCells l):=c.own _ (List.mem_cons_of_mem _ List.mem_cons_self)
 by_cases h0:l=[]
 .subst h0
  rcases hown.2 with ⟨e,_⟩|⟨g,cap',cur,e,_,hg,_⟩
  .cases e
   exact (ND L X b pa w hbk).mono λe w' ⟨he,hc⟩=>by subst he;exact hk w' (c.lose (hc.mono (by simp)))
  .cases e
   by_cases hc0:cap=0
   .subst hc0
    exact (FV L X b g pa cur w hbk hg).mono λe w' ⟨he,hc⟩=>by subst he;exact hk w' (c.lose (hc.mono (by simp)))
   .exact (KZ L X b g cap pa w hc0 hbk).mono λe w' ⟨he,hc⟩=>by subst he;exact hk w' (c.lose (hc.mono (by simp)))
 .have hl0:l.length≠0:=by simpa using h0
  obtain ⟨g,rfl⟩:∃ g,p=some ⟨g,0,none⟩:=by
   rcases hown.2 with ⟨_,hz⟩|⟨g,cap',cur,hv,_⟩
   .exact absurd hz hl0
   .cases hv;exact ⟨g,rfl⟩
  exact (KY L X b g cap pa l w h0 hbk hown).mono λe w' ⟨he,hc⟩=>by subst he;exact hk w' (c.lose (hc.mono (by simp [dom,Own.dom])))
end
def Tab (P:Program) (name:String) (k:IntKind) (zs:List Int):PW:=λM w=>Lib.TabIs P w name k zs/\∀ g,P.globalNamed name=some g->g ∉ M
instance aJr (P:Program) (name:String) (k:IntKind) (zs:List Int):aB (Tab P name k zs):=⟨fun {M M' w w'} hs h=>by
 obtain ⟨h1,h2⟩:=h
 unfold Lib.TabIs World.var? at h1
 cases hg:P.globalNamed name with
 | none=>simp [hg] at h1
 | some g =>
  simp only [hg,Option.bind_some] at h1
  have hlt:g<w.heap.size:=by
   rcases Nat.lt_or_ge g w.heap.size with h'|h'
   .exact h'
   .rw [Array.getElem?_eq_none h'] at h1;simp at h1
  refine ⟨?_,λg' hg' hm=>?_⟩
  .unfold Lib.TabIs World.var?
   simp only [hg,Option.bind_some]
   rw [hs.chg.block g hlt (h2 g hg)]
   exact h1
  .rw [hg] at hg'
   cases hg'
   rcases hs.sub g hm with h|h
   .exact h2 g hg h
   .omega⟩
theorem Tab.start {P name k zs w} (h:Lib.TabIs P w name k zs):Tab P name k zs [] w:=⟨h,λ_ _=>by simp⟩
theorem aGV {w k os}:lA [] w (Sort.grow (w.drewN k) os) :=
 ⟨rfl,rfl,rfl,by show w.heap.size<=(w.heap++os).size;rw [Array.size_append];omega,λj hj _=>by
  show (w.heap++os)[j]? = w.heap[j]?
  rw [Array.getElem?_append_left hj]⟩
theorem aKU {P f} {Φ : PW} [aB Φ] {name} (hI : ∀ (n : Int), -9223372036854775808 <= n -> n <= 9223372036854775807 -> ∀ w, Lib.TabIs P w name .u64 Lib.pow10Tab ->
   Calls P f #[.int .i64 n] w λe w'=>e=.returned (.string ⟨(Lib.itoa n).toArray⟩)/\∃ k os,w'=Sort.grow (w.drewN k) os) (o9:∀ M w,Φ M w->Tab P name .u64 Lib.pow10Tab M w) (n) (h:aX n):bY Φ P f #[.int .i64 n] (.string ⟨(Lib.itoa n).toArray⟩) :=
 ⟨λW w S c=>(hI n (by unfold aX at h;omega) (by unfold aX at h;omega) w (o9 _ _ c.tX).1).mono λe w' ⟨he,k,os,hw⟩=>⟨he,by rw [hw];exact c.call aGV⟩⟩
open Go.ChangeShapes Go.WideShapes Go.ChangeAt
theorem a6w {H enc C os f fn s conds apart fresh handsOn tb ld} (own:ownKnob C.prog.godebug=none) (started:os.Started) (noInit:C.prog.inits.idxOf? f=none) (hfn:C.prog.funcs[f]? = some fn) (laid:laidOutB C.prog=true) (hvars:s.vars=[]) (hspec:∀ ds:List (DataW H),ds.length=fn.params.toList.length->(s.fn H (ds++[])).results=[.lit (.bool true)]/\(s.fn H (ds++[])).args=ds/\(s.fn H (ds++[])).vars=[]) (hres:fn.resultTypes=#[tb]) (htb:C.prog.underlying tb=some .bool) (types:(fn.params.toList.all λt=>C.prog.readableRec t&&decide (t<C.prog.types.size))=true) (witness:∃ (w:World) (tape:Tape) (i:Input),w.os=os/\(w.forCall tape i).Shaped C.prog/\i.vars=[]/\Input.okWide C.prog (w.forCall tape i) .any w.heap.size f i /\
   ((s.pre enc C.prog fn conds apart (w.forCall tape i).memory i.args/\laidMetH C.prog ld (w.forCall tape i).memory)/\sizedMet enc C.prog fn (OpenSpec.ofChange s) apart (w.forCall tape i).memory i.args)/\Assume.holds {} C.prog (lone (Frame.enter C.prog f i.args .normal) [] (w.forCall tape i))) (contract:∀ (W:World) (base:Nat) (args:Array Value) (ds:List (DataW H)) (p:List MemPlace),
   (∀ (j:Nat) t v,fn.params[j]? = some t->args[j]? = some v->Value.okWide C.prog W .any base t v) ->
   DataW.TrodAll enc C.prog W 0 (λ_=>true) true fn.params.toList args.toList ds p ->
   conds.all (PathCond.test C.prog ⟨fn.params.toList,ds,s.plain.varTypes C.prog,[]⟩)=true->laidMetH C.prog ld W ->
   Calls C.prog f args W λe W'=>∃ u,e=.returned u/\(u=.bool true/\lA [] W W')):
  ReturnsInHanded {} C os f .any (λw args=>(s.pre enc C.prog fn conds apart w args/\laidMetH C.prog ld w)/\sizedMet enc C.prog fn (OpenSpec.ofChange s) apart w args) (s.post enc C.prog fn apart fresh handsOn false):=by
 refine returnsInHanded_of_change_and (X:=λw _=>laidMetH C.prog ld w) (λ_ _ _ hh h=>h.of_heap hh) own started noInit hfn witness ?_
 intro W base args ds gs before hval hW aZ2 _ hL _
 have hW':=hW
 obtain ⟨p,q,hA,hV,rfl,_,_⟩:=hW
 rw [hvars] at hV
 obtain ⟨rfl,rfl⟩:=trodVars_none hV
 simp only [List.append_nil] at hW'
 refine (contract W base args ds p hval hA aZ2 hL).mono λe W' ⟨u,he,hu,hc⟩=>?_
 subst he;subst hu
 have hb:Below W.heap.size W W':=hc.below (Nat.le_refl _) (by simp)
 obtain ⟨e1,e2,e3⟩:=hspec ds (GG hA).2
 refine ⟨_,rfl,ds,[],p,[],p,[],hW',?_,?_,?_,hb.frame _,λh=>by cases h⟩
 .rw [e1,hres]
  exact trodAll_mk1 (t:=tb) (v:=.bool true) ⟨1,by simp [DataW.trod,Value.cells,htb]⟩
 .rw [e2]
  exact LN laid hb types hA (λx hx=>by simpa using hW'.lt x hx)
 .rw [e3,hvars]
  rfl
end Go.Vc
end

