/-
 The conditions of the walks of some functions,one formula each;'B<f>_run' says that they suffice. The formulas are printed by a program;the kernel compares them with the functions' code.
-/
import Derived.Test.YtnlkemjhgdbfkaaGreatDoorCs5
import Derived.Test.YtnlkemjhgdbfkaaGreatDoorCs4
import Derived.Test.YtnlkemjhgdbfkaaGreatDoorCs2
import Derived.Shelf.Strings.Builder1
import Derived.Shelf.Strconv.Itoa3
import Derived.Lib.AppendStr
import Derived.Lib.LaidTab
import Derived.LaidMore
import Derived.OpenShut
import Derived.Stop.Joined
open Go.Proofs.Tryz
set_option linter.unusedVariables false
set_option linter.unusedSimpArgs false
section
namespace Go.Proofs.YtnlkemjhgdbfkaaGreatDoor
set_option maxRecDepth 100000
open Go.Vc
def aAp:aR:=λW R Φ J=>
 Zc W R Φ F.a4C #[] λe2 q=>∃ p4,e2=.returned (.pointer p4)/\q λR5 fJ=>∀ (k7:Nat),zG λ(I8:Int->List Own->PW->Nat->Prop)=>(∃ R9 jH GO,aB jH/\Wk W (Own.blk k7 [Value.pointer none,Value.pointer none,Value.pointer none,Value.pointer none,Value.pointer none,Value.pointer none,Value.pointer none,Value.pointer none,Value.pointer none,Value.pointer none,Value.pointer none,Value.pointer none,Value.pointer p4,Value.slice none 0 0] 135 :: R5) fJ (R9) jH/\I8 0 R9 jH GO)/\∀ T9 GU I16 vD,aB I16->I8 T9 GU I16 vD->Br (decide (T9<3)) (∃ TV U4,aB U4/\Wk W GU I16 TV U4/\∀ w22 R23,Ctx W w22 (GU++R23) I16->aD F.ZC #[] w22 λe24 Q8=>∃ p26,e24=.returned (.pointer p26)/\∃ X6 a11,aB a11/\Ctx W Q8 (X6++R23) a11 /\ Wk W X6 a11 TV U4/\(0<=T9/\T9<3)/\∀ w31 R32,Ctx W w31 (X6++R32) a11->aG w31 k7 (0+T9.toNat*4) 1/\∀ (w33:World),w33=w31.setCell (aJ k7 (0+T9.toNat*4)) (Value.pointer p26)->∃ LB yF,aB yF/\Ctx W w33 (LB++R32) yF/\(0<=T9/\T9<3)/\Zc W LB yF F.nH #[.pointer (aK k7 (0+T9.toNat*4)),aA T9] λe38 q=>∃ n40,e38=.returned (aA n40)/\q λR41 ZS=>aY (T9+1)/\Zb W R41 ZS vD (I8 (T9+1))) (Zr W GU I16 J (.pointer (aK k7 0)))
theorem a0d:bG F.KG #[] aAp:=bJ { keep:=some [0,1,2,6,7],eP:=[(5,[.held [(0,true),(1,true),(3,true),(4,true),(2,false)],.bF [5] none,.bF [6] (some 7)])],loops:=[(3,[(6,.one (.int .i64))],[])] } λ_ _ _ _=>by kernel_rfl
def EF(gB gO:Nat):aR:=λW R Φ J=>
 Zd W R Φ λw0=>∃ p2 k3 k4,w0.cell? (aJ gB (gO+13))=some (.slice p2 k3 k4)/\Zc W R Φ F.j5 #[.slice p2 k3 k4] λe7 q=>∃ p9 xG GO,e7=.returned (.slice p9 xG GO)/\q λzJ qN=>Zr W zJ qN J (.slice p9 xG GO)
theorem yO(gB gO):bG F.gN #[.pointer (aK gB gO)] (EF gB gO):=bJ { keep:=some [0,2] } λ_ _ _ _=>by kernel_rfl
def RA(gB gO:Nat):aR:=λW R Φ J=>
 Zd W R Φ λw0=>∃ p2,w0.cell? (aJ gB (gO+12))=some (.pointer p2)/\Zc W R Φ F.E0 #[.pointer p2] λe5 q=>e5=.returned (Value.tuple #[])/\q λR7 DM=>Zr W R7 DM J (Value.tuple #[])
theorem G4(gB gO):bG F.kY #[.pointer (aK gB gO)] (RA gB gO):=bJ { keep:=some [] } λ_ _ _ _=>by kernel_rfl
def RC(gB gO:Nat)(id:Int)(n:Int):aR:=λW R Φ J=>
 ∀ (k0:Nat) w1 R2,Ctx W w1 (Own.blk k0 [aA n] 3 :: R++R2) Φ->aD F.fZ #[.pointer (aK gB gO),aA id,Value.func (Fn.func 91) #[] #[.pointer (aK k0 0)]] w1 λe3 w4=>∃ n5,e3=.returned (aA n5)/\∃ R6 uC,aB uC/\Ctx W w4 (R6++R2) uC/\Zr W R6 uC J (aA n5)
theorem G6(gB gO id n):bG F.iY #[.pointer (aK gB gO),.int .i64 id,.int .i64 n] (RC gB gO id n):=bJ { keep:=some [0,1,5,6] } λ_ _ _ _=>by kernel_rfl
def UB(gB gO:Nat)(id:Int)(n:Int)(nJ:Option Addr)(gI o8:Nat):aR:=λW R Φ J=>
 ∀ (k0 k1:Nat) w2 R3,Ctx W w2 (Own.blk k1 [.slice nJ gI o8] 37 :: Own.blk k0 [aA n] 3 :: R++R3) Φ->aD F.fZ #[.pointer (aK gB gO),aA id,Value.func (Fn.func 93) #[] #[.pointer (aK k0 0),.pointer (aK k1 0)]] w2 λe4 w5=>∃ n6,e4=.returned (aA n6)/\∃ R7 DM,aB DM/\Ctx W w5 (R7++R3) DM/\Zr W R7 DM J (aA n6)
theorem IE(gB gO id n nJ gI o8):bG F.jM #[.pointer (aK gB gO),.int .i64 id,.int .i64 n,.slice nJ gI o8] (UB gB gO id n nJ gI o8):=bJ { keep:=some [0,1,6,7,8] } λ_ _ _ _=>by kernel_rfl
def XD(gB gO:Nat)(id:Int):aR:=λW R Φ J=>
 Zc W R Φ F.j6 #[.pointer (aK gB gO),aA id] λe2 q=>∃ n4,e2=.returned (aA n4)/\q λR5 fJ=>Zr W R5 fJ J (.bool (decide (n4=0)))
theorem LQ(gB gO id):bG F.kZ #[.pointer (aK gB gO),.int .i64 id] (XD gB gO id):=bJ { keep:=some [0,1,4] } λ_ _ _ _=>by kernel_rfl
def O1(gB gO:Nat)(id:Int):aR:=λW R Φ J=>
 ∀ (k0:Nat) w1 R2,Ctx W w1 (Own.blk k0 [aA id] 3 :: R++R2) Φ->∃ n3,w1.cell? (aJ k0 0)=some (aA n3)/\Zc W (Own.blk k0 [aA id] 3 :: R) Φ F.fZ #[.pointer (aK gB gO),aA n3,Value.func (Fn.func 96) #[] #[.pointer (aK k0 0)]] λe6 q=>∃ n8,e6=.returned (aA n8)/\q λR9 jH=>Zr W R9 jH J (aA n8)
theorem EG(gB gO id):bG F.iB #[.pointer (aK gB gO),.int .i64 id] (O1 gB gO id):=bJ { keep:=some [0,3,4] } λ_ _ _ _=>by kernel_rfl
def LR(gB gO:Nat)(id:Int)(most:Int):aR:=λW R Φ J=>
 Zc W R Φ F.oI #[.pointer (aK gB gO),aA id] λe2 q=>∃ n4,e2=.returned (aA n4)/\q λR5 fJ=>zG λ(I7:Int->List Own->PW->Nat->Prop)=>(Zs W R5 fJ (I7 0))/\∀ NK P5 I15 X2,aB I15->I7 NK P5 I15 X2->Br (decide (NK<most)) (Zc W P5 I15 F.kU #[.pointer (aK gB gO)] λe19 q=>∃ n21,e19=.returned (aA n21)/\q λTT CU=>Br (decide (0<n21)) (∀ GR vR,Ctx W GR (TT++vR) CU->aD F.eV #[.pointer (aK gB gO),aA 0] GR λe26 w27=>∃ n28,e26=.returned (aA n28)/\∃ TB vS,aB vS/\Ctx W w27 (TB ++ vR) vS/\aY (NK+1)/\Zb W TB vS X2 (I7 (NK+1))) (Zr W TT CU J (aA NK))) (Zr W P5 I15 J (aA NK))
theorem D0(gB gO id most):bG F.dV #[.pointer (aK gB gO),.int .i64 id,.int .i64 most] (LR gB gO id most):=bJ { keep:=some [0,1,2,6,7,18],split:=[3],loops:=[(3,[(7,.one (.int .i64))],[])] } λ_ _ _ _=>by kernel_rfl
def RD(gB gO:Nat)(id:Int):aR:=λW R Φ J=>
 Zc W R Φ F.kZ #[.pointer (aK gB gO),aA id] λe2 q=>∃ c4,e2=.returned (.bool c4)/\q λR5 fJ=>Br (!c4) (Zr W R5 fJ J (aA (-1))) ((0<=id/\id<3)/\Zd W R5 fJ λw9=>∃ NZ,w9.cell? (aJ gB (gO+id.toNat*4+3))=some (.pointer NZ)/\Zc W R5 fJ F.gZ #[.pointer NZ] λe14 q=>∃ n16,e14=.returned (aA n16)/\q λqH mI=>Zr W qH mI J (aA n16))
theorem G8(gB gO id):bG F.oH #[.pointer (aK gB gO),.int .i64 id] (RD gB gO id):=bJ { keep:=some [0,1,4,8] } λ_ _ _ _=>by kernel_rfl
def IF(gB gO:Nat)(id:Int)(data:ByteArray):aR:=λW R Φ J=>
 Zc W R Φ F.j6 #[.pointer (aK gB gO),aA id] λe2 q=>∃ n4,e2=.returned (aA n4)/\q λR5 fJ=>Br (decide (n4≠0)) (Zr W R5 fJ J (Value.tuple #[aA 0,aA n4])) ((0<=id/\id<3)/\Zd W R5 fJ λw9=>∃ NZ,w9.cell? (aJ gB (gO+id.toNat*4+3))=some (.pointer NZ)/\Zc W R5 fJ F.l9 #[.pointer NZ,.string data] λe14 q=>∃ n16 n17 c18 n19 n20 n21 XY k23 k24 p25 k26 k27,e14=.returned (Value.tuple #[aA n16,aA n17,Value.agg #[.bool c18,aA n19,aA n20,aA n21,.slice XY k23 k24,.slice p25 k26 k27]])/\q λR28 ZH=>∀ (b:Nat),Br (decide (n17=0)) (Zc W R28 ZH F.nU #[.pointer (aK gB gO),aA id,Value.agg #[.bool c18,aA n19,aA n20,aA n21,.slice XY k23 k24,.slice p25 k26 k27]] λe32 q=>∃ n34,e32=.returned (aA n34)/\q λR35 a7p=>Br (decide (n34≠0)) (Zr W R35 a7p J (Value.tuple #[aA 0,aA n34])) (Zr W R35 a7p J (Value.tuple #[aA n16,aA 0]))) (Br (decide (n17≠0)) (Zr W R28 ZH J (Value.tuple #[aA 0,aA n17])) (Zr W R28 ZH J (Value.tuple #[aA n16,aA 0]))))
theorem BR(gB gO id data):bG F.eU #[.pointer (aK gB gO),.int .i64 id,.string data] (IF gB gO id data):=bJ { keep:=some [0,1,2,6,7,8,9,10,11,16,32,38],gM:=[11] } λ_ _ _ _=>by kernel_rfl
def O2(gB gO:Nat)(mask:Int):aR:=λW R Φ J=>
 Zd W R Φ λw0=>∃ p2,w0.cell? (aJ gB (gO+12))=some (.pointer p2)/\Zc W R Φ F.BE #[.pointer p2,aA mask] λe5 q=>e5=.returned (Value.tuple #[])/\q λR7 DM=>Zr W R7 DM J (Value.tuple #[])
theorem EH(gB gO mask):bG F.jU #[.pointer (aK gB gO),.int .i64 mask] (O2 gB gO mask):=bJ { keep:=some [] } λ_ _ _ _=>by kernel_rfl
def UC(gB gO:Nat)(id:Int):aR:=λW R Φ J=>
 Zc W R Φ F.kZ #[.pointer (aK gB gO),aA id] λe2 q=>∃ c4,e2=.returned (.bool c4)/\q λR5 fJ=>Br (!c4) (Zr W R5 fJ J (.slice none 0 0)) ((0<=id/\id<3)/\Zd W R5 fJ λw9=>∃ NZ,w9.cell? (aJ gB (gO+id.toNat*4+3))=some (.pointer NZ)/\Zc W R5 fJ F.kV #[.pointer NZ] λe14 q=>∃ p16 vD XX,e14=.returned (.slice p16 vD XX)/\q λwF lH=>Zr W wF lH J (.slice p16 vD XX))
theorem IG(gB gO id):bG F.iG #[.pointer (aK gB gO),.int .i64 id] (UC gB gO id):=bJ { keep:=some [0,1,4,8] } λ_ _ _ _=>by kernel_rfl
def LS(gB gO:Nat)(id:Int):aR:=λW R Φ J=>
 Zc W R Φ F.j6 #[.pointer (aK gB gO),aA id] λe2 q=>∃ n4,e2=.returned (aA n4)/\q λR5 fJ=>Br (decide (n4=1)) (Zr W R5 fJ J (.slice none 0 0)) ((0<=id/\id<3)/\Zd W R5 fJ λw9=>∃ NZ,w9.cell? (aJ gB (gO+id.toNat*4))=some (.pointer NZ)/\Zc W R5 fJ F.yB #[.pointer NZ] λe14 q=>∃ p16,e14=.returned (.pointer p16)/\q λqH mI=>Zc W qH mI F.sE #[.pointer p16,aA 0] λe21 q=>e21=.returned (Value.tuple #[])/\q λR23 HJ=>Zc W R23 HJ F.v7 #[.pointer p16,aA 0,.slice none 0 0] λe27 q=>e27=.returned (Value.tuple #[])/\q λTB vS=>Zc W TB vS F.jP #[.pointer p16,.slice none 0 0] λe33 q=>e33=.returned (Value.tuple #[])/\q λR35 a7p=>Zc W R35 a7p F.qG #[.pointer p16] λe39 q=>e39=.returned (Value.tuple #[])/\q λR41 ZS=>Zc W R41 ZS F.xD #[.pointer p16,aA 0] λe45 q=>∃ p47 n48,e45=.returned (Value.tuple #[.pointer p47,aA n48])/\q λW0 wN=>Br (decide (n48≠0)) (Zr W W0 wN J (.slice none 0 0)) (Zc W W0 wN F.v8 #[.pointer p47] λe55 q=>∃ p57 k58 k59,e55=.returned (.slice p57 k58 k59)/\q λR60 QY=>Zr W R60 QY J (.slice p57 k58 k59)))
theorem D1(gB gO id):bG F.gR #[.pointer (aK gB gO),.int .i64 id] (LS gB gO id):=bJ { keep:=some [0,1,4,5,6,7,11,34] } λ_ _ _ _=>by kernel_rfl
def RE(gB gO:Nat)(id:Int):aR:=λW R Φ J=>
 Zc W R Φ F.kZ #[.pointer (aK gB gO),aA id] λe2 q=>∃ c4,e2=.returned (.bool c4)/\q λR5 fJ=>Br (!c4) (Zr W R5 fJ J (aA 0)) ((0<=id/\id<3)/\Zd W R5 fJ λw9=>∃ NZ,w9.cell? (aJ gB (gO+id.toNat*4+3))=some (.pointer NZ)/\Zc W R5 fJ F.nW #[.pointer NZ] λe14 q=>∃ n16 n17,e14=.returned (Value.agg #[aA n16,aA n17])/\q λTV U4=>Zr W TV U4 J (aA n16))
theorem G9(gB gO id):bG F.tZ #[.pointer (aK gB gO),.int .i64 id] (RE gB gO id):=bJ { keep:=some [0,1,4,8] } λ_ _ _ _=>by kernel_rfl
def II(gB gO:Nat):aR:=λW R Φ J=>
 Zd W R Φ λw0=>∃ p2,w0.cell? (aJ gB (gO+12))=some (.pointer p2)/\Zc W R Φ F.BF #[.pointer p2] λe5 q=>∃ n7,e5=.returned (aA n7)/\q λR8 X7=>Zr W R8 X7 J (aA n7)
theorem BS(gB gO):bG F.kU #[.pointer (aK gB gO)] (II gB gO):=bJ { keep:=some [0,2] } λ_ _ _ _=>by kernel_rfl
def O3(gB gO:Nat)(id:Int)(nJ:Option Addr)(gI o8:Nat):aR:=λW R Φ J=>
 ∀ (k0:Nat) w1 R2,Ctx W w1 (Own.blk k0 [.slice nJ gI o8] 37 :: R++R2) Φ->aD F.fZ #[.pointer (aK gB gO),aA id,Value.func (Fn.func 181) #[] #[.pointer (aK k0 0)]] w1 λe3 w4=>∃ n5,e3=.returned (aA n5)/\∃ R6 uC,aB uC/\Ctx W w4 (R6++R2) uC/\Zr W R6 uC J (aA n5)
theorem EI(gB gO id nJ gI o8):bG F.iC #[.pointer (aK gB gO),.int .i64 id,.slice nJ gI o8] (O3 gB gO id nJ gI o8):=bJ { keep:=some [0,1,5,6] } λ_ _ _ _=>by kernel_rfl
def aH3:aR:=λW R Φ J=>
 ∀ (k0:Nat) (w1:World) (R2:List Own),Ctx W w1 (Own.blk k0 [.slice none 0 0,aA 0] 251 :: R++R2) Φ->J (.pointer (aK k0 0)) w1
theorem a4Y:bG F.a4C #[] aH3:=bJ { keep:=some [0] } λ_ _ _ _=>by kernel_rfl
def O4(mB mO:Nat)(id:Int):aR:=λW R Φ J=>
 ∀ (k0 k1 k2 k3:Nat) w4 R5,Ctx W w4 (Own.blk k3 [Value.func (Fn.func 190) #[] #[.pointer (aK k0 0)],Value.func (Fn.func 192) #[] #[.pointer (aK k0 0),.pointer (aK k1 0)],Value.func (Fn.func 193) #[] #[.pointer (aK k0 0),.pointer (aK k2 0)]] 258 :: Own.blk k2 [Value.pointer none] 129 :: Own.blk k1 [Value.pointer none] 128 :: Own.blk k0 [Value.pointer (aK mB mO)] 139 :: R++R5) Φ->aD F.AR #[.slice (aK k3 0) 3 3] w4 λe6 w7=>∃ n8,e6=.returned (aA n8)/\∃ R9 jH,aB jH/\Ctx W w7 (R9++R5) jH/\Br (decide (n8=0)) (∃ TA LU,aB LU/\Wk W R9 jH TA LU/\∃ (p15:Option Addr),(Zd W TA LU λE6=>∃ p18,E6.cell? (aJ k0 0)=some (.pointer p18)/\Value.pointer p18 = Value.pointer p15)/\∃ (p19:Option Addr),(Zd W TA LU λw20=>∃ XY,w20.cell? (aJ k0 0)=some (.pointer XY)/\Value.pointer XY=Value.pointer p19)/\∃ (p23:Option Addr),(Zd W TA LU λGR=>∃ p26,GR.cell? (aJ k0 0)=some (.pointer p26)/\Value.pointer p26=Value.pointer p23)/\∃ (p27:Option Addr),(Zd W TA LU λw28=>∃ p30,w28.cell? (aJ k1 0)=some (.pointer p30)/\Value.pointer p30=Value.pointer p27)/\∃ (p31:Option Addr),(Zd W TA LU λw32=>∃ p34,w32.cell? (aJ k2 0)=some (.pointer p34)/\Value.pointer p34=Value.pointer p31)/\∃ (p35:Option Addr),(Zd W TA LU λw36=>∃ p38,w36.cell? (aJ k2 0)=some (.pointer p38)/\Value.pointer p38=Value.pointer p35)/\∃ (p39:Option Addr),(Zd W TA LU λw40=>∃ p42,w40.cell? (aJ k1 0)=some (.pointer p42)/\Value.pointer p42=Value.pointer p39)/\Zc W R9 jH F.NJ #[.pointer p35] λe45 q=>∃ n47 n48,e45=.returned (Value.agg #[aA n47,aA n48])/\q λW0 wN=>Wk W W0 wN TA LU/\Zc W W0 wN F.v8 #[.pointer p39] λe55 q=>∃ p57 k58 k59,e55=.returned (.slice p57 k58 k59)/\q λR60 QY=>Wk W R60 QY TA LU/\Zc W R60 QY F.HF #[aA id,Value.agg #[aA n47,aA n48],Value.slice p57 k58 k59] λe66 q=>∃ p68,e66=.returned (.pointer p68)/\q λR69 LA=>Wk W R69 LA TA LU /\ vJ none p15 λk73 k74=>∀ w75 R76,Ctx W w75 (R69++R76) LA->aG w75 k73 (k74+1) 1/\∀ w77,w77=w75.setCell (aJ k73 (k74+1)) (Value.pointer p27)->∃ R78 ZL,aB ZL/\Ctx W w77 (R78++R76) ZL/\Wk W R78 ZL TA LU/\vJ none p19 λk82 k83=>∀ w84 R85,Ctx W w84 (R78++R85) ZL->aG w84 k82 (k83+2) 1/\∀ w86,w86=w84.setCell (aJ k82 (k83+2)) (Value.pointer p31)->∃ R87 a7j,aB a7j/\Ctx W w86 (R87++R85) a7j/\Wk W R87 a7j TA LU/\vJ none p23 λk91 k92=>∀ w93 R94,Ctx W w93 (R87++R94) a7j->aG w93 k91 (k92+3) 1/\∀ w95,w95=w93.setCell (aJ k91 (k92+3)) (Value.pointer p68)->∃ R96 aHs,aB aHs/\Ctx W w95 (R96++R94) aHs/\Zr W R96 aHs J (aA n8)) (Zr W R9 jH J (aA n8))
theorem EJ(mB mO id):bG F.nH #[.pointer (aK mB mO),.int .i64 id] (O4 mB mO id):=bJ { keep:=some [1,2,4,5,6,7,14],eP:=[(5,[.held [(0,true),(1,true),(2,true),(3,true),(4,true),(5,true),(6,true),(8,true),(7,false),(9,false),(10,false),(11,true),(12,true),(13,false),(14,true),(15,true),(16,false)],.bF [17] none,.bF [18] (some 19)])] } λ_ _ _ _=>by kernel_rfl
def RF(gB gO:Nat)(id:Int):aR:=λW R Φ J=>
 Zc W R Φ F.oJ #[.pointer (aK gB gO),aA id,Value.func (Fn.func 198) #[] #[]] λe2 q=>∃ n4,e2=.returned (aA n4)/\q λR5 fJ=>Zr W R5 fJ J (aA n4)
theorem GC(gB gO id):bG F.oI #[.pointer (aK gB gO),.int .i64 id] (RF gB gO id):=bJ { keep:=some [0,1,4] } λ_ _ _ _=>by kernel_rfl
def IJ(gB gO:Nat)(i:Int):aR:=λW R Φ J=>
 Zd W R Φ λw0=>∃ p2,w0.cell? (aJ gB (gO+12))=some (.pointer p2)/\Zc W R Φ F.wI #[.pointer p2,aA i] λe5 q=>∃ n7 n8 s9 n10,e5=.returned (Value.tuple #[Value.agg #[aA n7,aA n8,.string s9],aA n10])/\q λTA LU=>∀ (HQ:Nat) LC GU,Ctx W LC (Own.blk HQ [aA 0,aA 0,Value.string (ByteArray.mk #[])] 267 :: TA++GU) LU->aG LC HQ 0 3/\∀ E6,E6=LC.setCells HQ 0 [aA n7,aA n8,.string s9]->∃ qH mI,aB mI/\Ctx W E6 (qH++GU) mI/\Br (decide (n10≠0)) (Zr W qH mI J (aA n10)) (Zd W qH mI λP6=>∃ n23,P6.cell? (aJ HQ 1)=some (aA n23)/\Zc W qH mI F.oJ #[.pointer (aK gB gO),aA n23,Value.func (Fn.func 200) #[] #[.pointer (aK HQ 0)]] λe26 q=>∃ n28,e26=.returned (aA n28)/\q λTB vS=>Zr W TB vS J (aA n28))
theorem BT(gB gO i):bG F.eV #[.pointer (aK gB gO),.int .i64 i] (IJ gB gO i):=bJ { keep:=some [0,1,4,5,6,17] } λ_ _ _ _=>by kernel_rfl
def RG(gB gO:Nat)(i:Int):aR:=λW R Φ J=>
 Zd W R Φ λw0=>∃ p2,w0.cell? (aJ gB (gO+12))=some (.pointer p2)/\Zc W R Φ F.E2 #[.pointer p2,aA i] λe5 q=>∃ n7,e5=.returned (aA n7)/\q λR8 X7=>Zr W R8 X7 J (aA n7)
theorem GD(gB gO i):bG F.l8 #[.pointer (aK gB gO),.int .i64 i] (RG gB gO i):=bJ { keep:=some [0,1,4] } λ_ _ _ _=>by kernel_rfl
def LV(gB gO:Nat)(i:Int):aR:=λW R Φ J=>
 Zd W R Φ λw0=>∃ p2,w0.cell? (aJ gB (gO+12))=some (.pointer p2)/\Zc W R Φ F.yC #[.pointer p2,aA i] λe5 q=>∃ n7,e5=.returned (aA n7)/\q λR8 X7=>Zr W R8 X7 J (aA n7)
theorem D2(gB gO i):bG F.j4 #[.pointer (aK gB gO),.int .i64 i] (LV gB gO i):=bJ { keep:=some [0,1,4] } λ_ _ _ _=>by kernel_rfl
def xK(sP:Option Addr)(sN sC:Nat):aR:=λW R Φ J=>
 Br sP.isNone (Zr W R Φ J (.slice none 0 0)) (∀ (k2:Nat) w3 R4,Ctx W w3 (Own.blk k2 [] 9 :: R++R4) Φ->∃ p5 k6 k7 w8,Sem.run prog (builtin Builtin.append #[40,40] 40 #[false,false] #[.slice (aK k2 0) 0 0,.slice sP sN sC]) w3=.ok (.value (.slice p5 k6 k7)) w8/\∃ R9 jH,aB jH/\Ctx W w8 (R9++R4) jH/\Zr W R9 jH J (.slice p5 k6 k7))
theorem tF(sP sN sC):bG F.j5 #[.slice sP sN sC] (xK sP sN sC):=bJ { keep:=some [0,2,4] } λ_ _ _ _=>by kernel_rfl
def a2d(nB nO:Nat):aR:=λW R Φ J=>
 ∀ w0 R1,Ctx W w0 (R++R1) Φ->aG w0 nB (nO+1) 1/\∀ w2,w2=w0.setCell (aJ nB (nO+1)) (aA 0)->∃ R3 FF,aB FF/\Ctx W w2 (R3++R1) FF/\Zr W R3 FF J (Value.tuple #[])
theorem RH(nB nO):bG F.E0 #[.pointer (aK nB nO)] (a2d nB nO):=bJ { keep:=some [] } λ_ _ _ _=>by kernel_rfl
def IK(gB gO:Nat)(id:Int)(fF:FuncId)(fC:Array Value):aR:=λW R Φ J=>
 Zc W R Φ F.j6 #[.pointer (aK gB gO),aA id] λe2 q=>∃ n4,e2=.returned (aA n4)/\q λR5 fJ=>Br (decide (n4=1)) (Zr W R5 fJ J (aA 1)) ((0<=id/\id<3)/\∀ w9 R10,Ctx W w9 (R5++R10) fJ->qZ prog fF=true/\Calls prog fF (Array.mk (Value.pointer (aK gB (gO+id.toNat*4)) :: fC.toList)) w9 λe11 GV=>∃ NK,e11=.returned (aA NK)/\∃ P5 u7,aB u7/\Ctx W GV (P5++R10) u7/\Zc W P5 u7 F.lE #[.pointer (aK gB gO)] λe18 q=>e18=.returned (Value.tuple #[])/\q λP7 BL=>Zr W P7 BL J (aA NK))
theorem BU(gB gO id fF fC):bG F.fZ #[.pointer (aK gB gO),.int .i64 id,.func (.func fF) #[] fC] (IK gB gO id fF fC):=bJ { keep:=some [0,1,2,6,7,11],wrap:=[18] } λ_ _ _ _=>by kernel_rfl
def LW(mB mO kB kO:Nat):aR:=λW R Φ J=>
 ∃ R0 cF,aB cF/\Wk W R Φ R0 cF/\∃ (n4:Int),(Zd W R0 cF λw5=>∃ n7,w5.cell? (aJ kB kO)=some (aA n7)/\aA n7=aA n4)/\∃ (p8:Option Addr),(Zd W R0 cF λw9=>∃ NZ,w9.cell? (aJ mB mO)=some (.pointer NZ)/\Value.pointer NZ=Value.pointer p8)/\Zc W R Φ F.sE #[.pointer p8,aA n4] λe14 q=>e14=.returned (Value.tuple #[])/\q λR16 b1s=>Zr W R16 b1s J (aA 0)
theorem D3(mB mO kB kO):bG F.qM #[.pointer (aK mB mO),.pointer (aK kB kO)] (LW mB mO kB kO):=bJ { keep:=some [0,1,3],eP:=[(1,[.held [(0,true),(4,true),(1,true),(2,true),(3,true)],.bF [] (some 5)])] } λ_ _ _ _=>by kernel_rfl
def O5(mB mO kB kO lB lO:Nat):aR:=λW R Φ J=>
 ∃ R0 cF,aB cF/\Wk W R Φ R0 cF/\∃ (n4:Int),(Zd W R0 cF λw5=>∃ n7,w5.cell? (aJ kB kO)=some (aA n7)/\aA n7=aA n4)/\∃ (p8:Option Addr) (k9 xG:Nat),(Zd W R0 cF λNN=>∃ NQ wQ E8,NN.cell? (aJ lB lO)=some (.slice NQ wQ E8)/\Value.slice NQ wQ E8=Value.slice p8 k9 xG)/\∃ (p16:Option Addr),(Zd W R0 cF λXW=>∃ p19,XW.cell? (aJ mB mO)=some (.pointer p19)/\Value.pointer p19=Value.pointer p16)/\Zc W R Φ F.v7 #[.pointer p16,aA n4,.slice p8 k9 xG] λe22 q=>e22=.returned (Value.tuple #[])/\q λML sK=>Zr W ML sK J (aA 0)
theorem EK(mB mO kB kO lB lO):bG F.sF #[.pointer (aK mB mO),.pointer (aK kB kO),.pointer (aK lB lO)] (O5 mB mO kB kO lB lO):=bJ { keep:=some [0,1,2,4],eP:=[(1,[.held [(0,true),(4,true),(5,true),(1,true),(2,true),(3,true)],.bF [] (some 6)])] } λ_ _ _ _=>by kernel_rfl
def XE(gB gO:Nat)(id:Int):aR:=λW R Φ J=>
 Zd W R Φ λw0=>Br (decide (id<0)||decide (3<=id)) (Zr W R Φ J (aA 1)) ((0<=id/\id<3)/\Zd W R Φ λw4=>∃ p6,w4.cell? (aJ gB (gO+id.toNat*4+3))=some (.pointer p6)/\Br p6.isNone (Zr W R Φ J (aA 9)) (Zr W R Φ J (aA 0)))
theorem LX(gB gO id):bG F.j6 #[.pointer (aK gB gO),.int .i64 id] (XE gB gO id):=bJ { keep:=some [0,1,4,5,12] } λ_ _ _ _=>by kernel_rfl
def IL(mB mO kB kO:Nat):aR:=λW R Φ J=>
 Zd W R Φ λw0=>∃ p2,w0.cell? (aJ mB (mO+3))=some (.pointer p2)/\Br (!p2.isNone) (Zr W R Φ J (aA 7)) (Zd W R Φ λw5=>∃ p7,w5.cell? (aJ mB mO)=some (.pointer p7)/\Zc W R Φ F.qG #[.pointer p7] λe10 q=>e10=.returned (Value.tuple #[])/\q λzJ qN=>Zd W zJ qN λLC=>∃ n16,LC.cell? (aJ kB kO)=some (aA n16)/\Zc W zJ qN F.nH #[.pointer (aK mB mO),aA n16] λe19 q=>∃ n21,e19=.returned (aA n21)/\q λTT CU=>Zr W TT CU J (aA n21))
theorem BV(mB mO kB kO):bG F.oV #[.pointer (aK mB mO),.pointer (aK kB kO)] (IL mB mO kB kO):=bJ { keep:=some [0,1,3,8] } λ_ _ _ _=>by kernel_rfl
def XF(gB gO:Nat)(id:Int)(o0:Bool)(o1:Int)(o2:Int)(o3:Int)(o4P:Option Addr)(o4N o4C:Nat)(o5P:Option Addr)(o5N o5C:Nat):aR:=λW R Φ J=>
 ∀ (b:Nat),∃ R0 cF,aB cF/\Wk W R Φ R0 cF/\(0<=id/\id<3)/\Zc W R Φ F.mG #[.pointer (aK gB (gO+id.toNat*4)),Value.agg #[.bool o0,aA o1,aA o2,aA o3,.slice o4P o4N o4C,.slice o5P o5N o5C]] λe6 q=>∃ n8,e6=.returned (aA n8)/\q λR9 jH=>Br (decide (n8=0)) (zG λ(I11:Int->List Own->PW->Nat->Prop)=>(Zs W R9 jH (I11 0))/\∀ n17 TV I19 k20,aB I19->I11 n17 TV I19 k20->Br (decide (n17<(↑o5N:Int))) (Zi n17 o5N o5P λk21 k22=>Zd W TV I19 λw23=>∃ n25 n26 n27 n28 n29 n30 n31 c32 p33 k34 k35,bM w23 k21 (k22+n17.toNat*9) [aA n25,aA n26,aA n27,aA n28,aA n29, aA n30,aA n31,.bool c32,.slice p33 k34 k35]/\∀ (b:Nat),∃ HM uE,aB uE/\Wk W TV I19 HM uE/\∃ (p40:Option Addr),(Zd W HM uE λw41=>∃ p43,w41.cell? (aJ gB (gO+12))=some (.pointer p43)/\Value.pointer p43=Value.pointer p40)/\Zc W TV I19 F.pR #[Value.agg #[aA n25,aA n26,aA n27,aA n28,aA n29,aA n30,aA n31,.bool c32,.slice p33 k34 k35]] λe46 q=>∃ s48,e46=.returned (.string s48)/\q λW0 wN=>Wk W W0 wN HM uE/\Zc W W0 wN F.E3 #[.pointer p40,aA id,aA n27,.string s48] λe55 q=>∃ n57,e55=.returned (aA n57)/\q λR58 aAj=>aY (n17+1)/\Zb W R58 aAj k20 (I11 (n17+1))) (Zc W TV I19 F.lE #[.pointer (aK gB gO)] λe67 q=>e67=.returned (Value.tuple #[])/\q λR69 LA=>Zr W R69 LA J (aA n8))) (Zc W R9 jH F.lE #[.pointer (aK gB gO)] λe75 q=>e75=.returned (Value.tuple #[])/\q λR77 a98=>Zr W R77 a98 J (aA n8))
theorem LY(gB gO id o0 o1 o2 o3 o4P o4N o4C o5P o5N o5C):bG F.nU #[.pointer (aK gB gO),.int .i64 id,.agg #[.bool o0,.int .i64 o1,.int .i64 o2,.int .i64 o3,.slice o4P o4N o4C,.slice o5P o5N o5C]] (XF gB gO id o0 o1 o2 o3 o4P o4N o4C o5P o5N o5C):=bJ { keep:=some [0,1,5,6,7,9,18,20,21,22,23],gM:=[5,9],eP:=[(1,[.held [(0,true),(1,true),(5,true),(2,true),(3,true),(4,true)],.bF [] (some 6),.bF [7] none]),(6,[.held [(0,true),(4,true),(5,true),(7,true),(1,true),(6,true),(2,true),(3,true),(8,false)],.bF [] (some 9)])],loops:=[(4,[(22,.one (.int .i64))],[])] } λ_ _ _ _=>by kernel_rfl
def a0e(nB nO:Nat)(mask:Int):aR:=λW R Φ J=>
 ∃ (n0:Int),(∀ (w1:World),Sem.run prog (binOp BinOp.and 3 (aA mask) (aA 65535)) w1=Result.ok (aA n0) w1)/\∀ w2 R3,Ctx W w2 (R++R3) Φ->aG w2 nB (nO+1) 1/\∀ w4,w4=w2.setCell (aJ nB (nO+1)) (aA n0)->∃ R5 fJ,aB fJ/\Ctx W w4 (R5++R3) fJ/\Zr W R5 fJ J (Value.tuple #[])
theorem O6(nB nO mask):bG F.BE #[.pointer (aK nB nO),.int .i64 mask] (a0e nB nO mask):=bJ { keep:=some [] } λ_ _ _ _=>by kernel_rfl
def a0f(jB jO:Nat):aR:=λW R Φ J=>
 Zc W R Φ F.oX #[.pointer (aK jB jO)] λe2 q=>∃ p4 k5 k6,e2=.returned (.slice p4 k5 k6)/\q λR7 DM=>zG λ(I9:Option Addr->Nat->Nat->Int->List Own->PW->Nat->Prop)=>(Zs W R7 DM (I9 none 0 0 0))/\∀ p15 X2 vD n18 wF I20 k21,aB I20->I9 p15 X2 vD n18 wF I20 k21->Br (decide (n18<(↑k5:Int))) (Zi n18 k5 p4 λk22 k23=>Zd W wF I20 λGR=>∃ s26,GR.cell? (aJ k22 (k23+n18.toNat))=some (.string s26)/\∀ w27 R28,Ctx W w27 (wF++R28) I20->aD F.wK #[.string s26] w27 λe29 w30=>∃ n31 s32 c33,e29=.returned (Value.tuple #[Value.agg #[aA n31,.string s32],Value.bool c33])/\∃ LB yF,aB yF /\ Ctx W w30 (LB++R28) yF/\∀ (b k36:Nat) w37 VZ,Ctx W w37 (Own.blk k36 [aA n31,.string s32] 216 :: LB++VZ) yF->∃ p39 k40 k41 w42,Sem.run prog (builtin Builtin.append #[99,99] 99 #[false,false] #[.slice p15 X2 vD,.slice (aK k36 0) 1 1]) w37=.ok (.value (.slice p39 k40 k41)) w42/\∃ R43 a19,aB a19/\Ctx W w42 (R43++VZ) a19/\aY (n18+1)/\Zb W R43 a19 k21 (I9 p39 k40 k41 (n18+1))) (Zr W wF I20 J (.slice p15 X2 vD))
theorem O7(jB jO):bG F.v8 #[.pointer (aK jB jO)] (a0f jB jO):=bJ { keep:=some [0,2,3,5,6,9,10,11,12],gM:=[6],loops:=[(3,[(3,.one (.slice)),(11,.one (.int .i64))],[])] } λ_ _ _ _=>by kernel_rfl
def a0g(nB nO:Nat):aR:=λW R Φ J=>
 Zd W R Φ λw0=>∃ p2 k3 k4,w0.cell? (aJ nB nO)=some (.slice p2 k3 k4)/\Zr W R Φ J (aA (↑k3:Int))
theorem O8(nB nO):bG F.BF #[.pointer (aK nB nO)] (a0g nB nO):=bJ { keep:=some [0,2] } λ_ _ _ _=>by kernel_rfl
def IM(mB mO kB kO:Nat):aR:=λW R Φ J=>
 ∃ R0 cF,aB cF/\Wk W R Φ R0 cF/\∃ (p4:Option Addr) (k5 k6:Nat),(Zd W R0 cF λw7=>∃ p9 xG GO,w7.cell? (aJ kB kO)=some (.slice p9 xG GO)/\Value.slice p9 xG GO=Value.slice p4 k5 k6)/\∃ (p12:Option Addr),(Zd W R0 cF λw13=>∃ p15,w13.cell? (aJ mB mO)=some (.pointer p15)/\Value.pointer p15=Value.pointer p12)/\Zc W R Φ F.jP #[.pointer p12,.slice p4 k5 k6] λe18 q=>e18=.returned (Value.tuple #[])/\q λP7 BL=>Zc W P7 BL F.jV #[.pointer (aK mB mO)] λe24 q=>e24=.returned (Value.tuple #[])/\q λQ9 BH=>Zr W Q9 BH J (aA 0)
theorem BW(mB mO kB kO):bG F.oW #[.pointer (aK mB mO),.pointer (aK kB kO)] (IM mB mO kB kO):=bJ { keep:=some [0,1,3],eP:=[(1,[.held [(0,true),(4,true),(1,true),(2,true),(3,true)],.bF [] (some 5)])] } λ_ _ _ _=>by kernel_rfl
def O9(mB mO:Nat):aR:=λW R Φ J=>
 ∀ w0 R1,Ctx W w0 (R++R1) Φ->aG w0 mB (mO+1) 1/\∀ w2,w2=w0.setCell (aJ mB (mO+1)) (Value.pointer none)->∃ R3 FF,aB FF/\Ctx W w2 (R3++R1) FF/\∀ w5 R6,Ctx W w5 (R3++R6) FF->aG w5 mB (mO+2) 1/\∀ w7,w7=w5.setCell (aJ mB (mO+2)) (Value.pointer none)->∃ R8 X7,aB X7/\Ctx W w7 (R8++R6) X7/\∀ w10 TA,Ctx W w10 (R8++TA) X7->aG w10 mB (mO+3) 1/\∀ GV,GV=w10.setCell (aJ mB (mO+3)) (Value.pointer none)->∃ R13 yJ,aB yJ/\Ctx W GV (R13++TA) yJ/\Zr W R13 yJ J (Value.tuple #[])
theorem EL(mB mO):bG F.jV #[.pointer (aK mB mO)] (O9 mB mO):=bJ { keep:=some [] } λ_ _ _ _=>by kernel_rfl
def a4Z(a41:Option Addr)(a0h aAq:Nat):aR:=λW R Φ J=>
 zG λ(I0:Int->List Own->PW->Nat->Prop)=>(Zs W R Φ (I0 0))/\∀ n6 R7 I8 k9,aB I8->I0 n6 R7 I8 k9->Br (decide (n6<(↑a0h:Int))) (Zi n6 a0h a41 λxG GO=>Zd W R7 I8 λGV=>∃ (u14:FuncId) (u15 u16:Array Value),GV.cell? (aJ xG (GO+n6.toNat))=some (Value.func (Fn.func u14) u15 u16)/\∀ XW TV,Ctx W XW (R7++TV) I8->qZ prog u14=true/\Calls prog u14 (Array.mk ((u15.toList.append []).append u16.toList)) XW λe19 w20=>∃ n21,e19=.returned (aA n21)/\∃ TT CU,aB CU/\Ctx W w20 (TT++TV) CU/\Br (decide (n21≠0)) (Zr W TT CU J (aA n21)) (aY (n6+1)/\Zb W TT CU k9 (I0 (n6+1)))) (Zr W R7 I8 J (aA 0))
theorem UD(a41 a0h aAq):bG F.AR #[.slice a41 a0h aAq] (a4Z a41 a0h aAq):=bJ { keep:=some [0,2,4,5,6,7,8,9,15],wrap:=[13],loops:=[(2,[(8,.one (.int .i64))],[])] } λ_ _ _ _=>by kernel_rfl
def IP(kB kO:Nat):aR:=λW R Φ J=>
 Zd W R Φ λw0=>∃ p2,w0.cell? (aJ kB kO)=some (.pointer p2)/\vJ none p2 λk3 k4=>Zd W R Φ λw5=>∃ p7,w5.cell? (aJ k3 k4)=some (.pointer p7)/\Zc W R Φ F.hY #[.pointer p7,aA 2] λe10 q=>∃ n12,e10=.returned (aA n12)/\q λR13 yJ=>Zr W R13 yJ J (aA n12)
theorem BX(kB kO):bG F.iN #[.pointer (aK kB kO)] (IP kB kO):=bJ { keep:=some [0,1] } λ_ _ _ _=>by kernel_rfl
def IQ(kB kO lB lO:Nat):aR:=λW R Φ J=>
 Zd W R Φ λw0=>∃ p2,w0.cell? (aJ kB kO)=some (.pointer p2)/\vJ none p2 λk3 k4=>Zd W R Φ λw5=>∃ p7,w5.cell? (aJ k3 k4)=some (.pointer p7)/\Zc W R Φ F.xD #[.pointer p7,aA 0] λe10 q=>∃ p12 NK,e10=.returned (Value.tuple #[.pointer p12,aA NK])/\q λP5 u7=>∀ E6 qH,Ctx W E6 (P5++qH) u7->aG E6 lB lO 1/\∀ KJ,KJ=E6.setCell (aJ lB lO) (Value.pointer p12)->∃ wF lH,aB lH/\Ctx W KJ (wF++qH) lH/\Zr W wF lH J (aA NK)
theorem BZ(kB kO lB lO):bG F.iO #[.pointer (aK kB kO),.pointer (aK lB lO)] (IQ kB kO lB lO):=bJ { keep:=some [0,1,2] } λ_ _ _ _=>by kernel_rfl
def IU(kB kO lB lO:Nat):aR:=λW R Φ J=>
 Zd W R Φ λw0=>∃ p2,w0.cell? (aJ kB kO)=some (.pointer p2)/\vJ none p2 λk3 k4=>Zd W R Φ λw5=>∃ p7,w5.cell? (aJ k3 k4)=some (.pointer p7)/\Zc W R Φ F.KI #[.pointer p7,aA 2] λe10 q=>∃ p12 NK,e10=.returned (Value.tuple #[.pointer p12,aA NK])/\q λP5 u7=>∀ E6 qH,Ctx W E6 (P5++qH) u7->aG E6 lB lO 1/\∀ KJ,KJ=E6.setCell (aJ lB lO) (Value.pointer p12)->∃ wF lH,aB lH/\Ctx W KJ (wF++qH) lH/\Zr W wF lH J (aA NK)
theorem C6(kB kO lB lO):bG F.iP #[.pointer (aK kB kO),.pointer (aK lB lO)] (IU kB kO lB lO):=bJ { keep:=some [0,1,2] } λ_ _ _ _=>by kernel_rfl
def a7q(cB cO:Nat):aR:=λW R Φ J=>
 ∀ (b:Nat) w0 R1,Ctx W w0 (R++R1) Φ->aD F.vB #[.pointer (aK cB cO)] w0 λe2 w3=>∃ s4 c5,e2=.returned (Value.tuple #[.string s4,.bool c5])/\∃ R6 uC,aB uC/\Ctx W w3 (R6++R1) uC/\Br (!c5) (Zr W R6 uC J (Value.agg #[aA 0,aA (-1)])) (Zc W R6 uC F.u0 #[.string s4] λe12 q=>∃ p14,e12=.returned (.pointer p14)/\q λGU yI=>Zc W GU yI F.cN #[.pointer p14] λe19 q=>∃ n21,e19=.returned (aA n21)/\q λTT CU=>∀ GR vR,Ctx W GR (TT++vR) CU->aD F.cN #[.pointer p14] GR λe26 w27=>∃ n28,e26=.returned (aA n28) /\ ∃ TB vS,aB vS/\Ctx W w27 (TB++vR) vS/\Zr W TB vS J (Value.agg #[aA n21,aA n28]))
theorem XG(cB cO):bG F.NJ #[.pointer (aK cB cO)] (a7q cB cO):=bJ { keep:=some [0,2,3,4,5,12],gM:=[2] } λ_ _ _ _=>by kernel_rfl
def RI(gB gO:Nat)(id:Int)(fF:FuncId)(fC:Array Value):aR:=λW R Φ J=>
 Zc W R Φ F.j6 #[.pointer (aK gB gO),aA id] λe2 q=>∃ n4,e2=.returned (aA n4)/\q λR5 fJ=>Br (decide (n4≠0)) (Zr W R5 fJ J (aA n4)) ((0<=id/\id<3)/\Zd W R5 fJ λw9=>∃ NZ,w9.cell? (aJ gB (gO+id.toNat*4+3))=some (.pointer NZ)/\∀ GV R13,Ctx W GV (R5++R13) fJ->qZ prog fF=true/\Calls prog fF (Array.mk (Value.pointer NZ :: fC.toList)) GV λe14 w15=>∃ c16 n17 n18 n19 p20 k21 k22 p23 k24 k25,e14=.returned (Value.agg #[.bool c16,aA n17,aA n18,aA n19,.slice p20 k21 k22,.slice p23 k24 k25])/\∃ Q9 BH,aB BH/\Ctx W w15 (Q9++R13) BH/\Zc W Q9 BH F.nU #[.pointer (aK gB gO),aA id,Value.agg #[.bool c16,aA n17,aA n18,aA n19,.slice p20 k21 k22,.slice p23 k24 k25]] λe30 q=>∃ n32,e30=.returned (aA n32)/\q λHL mQ=>Zr W HL mQ J (aA n32))
theorem GF(gB gO id fF fC):bG F.oJ #[.pointer (aK gB gO),.int .i64 id,.func (.func fF) #[] fC] (RI gB gO id fF fC):=bJ { keep:=some [0,1,2,6,7,12],wrap:=[24] } λ_ _ _ _=>by kernel_rfl
def UE(nB nO:Nat)(i:Int):aR:=λW R Φ J=>
 ∀ (b:Nat) w0 R1,Ctx W w0 (R++R1) Φ->aD F.xE #[.pointer (aK nB nO),aA i] w0 λe2 w3=>∃ n4 n5 s6 c7,e2=.returned (Value.tuple #[Value.agg #[aA n4,aA n5,.string s6],Value.bool c7])/\∃ R8 X7,aB X7/\Ctx W w3 (R8++R1) X7/\∀ (b:Nat),Br (!c7) (Zr W R8 X7 J (Value.tuple #[Value.agg #[aA 0,aA 0,Value.string (ByteArray.mk #[])],aA 4])) (Zc W R8 X7 F.xF #[.pointer (aK nB nO),aA n4,aA n5] λe14 q=>∃ c16,e14=.returned (.bool c16)/\q λqH mI=>Br (!c16) (Zr W qH mI J (Value.tuple #[Value.agg #[aA 0,aA 0,Value.string (ByteArray.mk #[])],aA 10])) (Zr W qH mI J (Value.tuple #[Value.agg #[aA n4,aA n5,.string s6],aA 0])))
theorem IV(nB nO i):bG F.wI #[.pointer (aK nB nO),.int .i64 i] (UE nB nO i):=bJ { keep:=some [0,1,4,5,6,7,14,18],gM:=[4,6] } λ_ _ _ _=>by kernel_rfl
def EM(rB rO kB kO:Nat):aR:=λW R Φ J=>
 ∀ (b:Nat) w0 R1,Ctx W w0 (R++R1) Φ->∃ s2,w0.cell? (aJ kB (kO+2))=some (.string s2)/\Zc W R Φ F.E1 #[.string s2] λe5 q=>∃ n7 n8 n9 n10 GQ n12 NK c14 p15 X2 vD c18,e5=.returned (Value.tuple #[Value.agg #[aA n7,aA n8,aA n9,aA n10,aA GQ,aA n12,aA NK,.bool c14,.slice p15 X2 vD],Value.bool c18])/\q λwF lH=>∀ (b:Nat) P6 TT,Ctx W P6 (wF++TT) lH->aD F.nY #[.pointer (aK rB rO),Value.agg #[aA n7,aA n8,aA n9,aA n10,aA GQ,aA n12,aA NK,.bool c14,.slice p15 X2 vD]] P6 λe23 GR=>∃ c25 n26 n27 n28 p29 k30 k31 p32 k33 k34,e23=.returned (Value.agg #[.bool c25,aA n26,aA n27,aA n28,.slice p29 k30 k31,.slice p32 k33 k34])/\∃ R35 a7p,aB a7p/\Ctx W GR (R35++TT) a7p/\Zr W R35 a7p J (Value.agg #[.bool c25,aA n26,aA n27,aA n28,.slice p29 k30 k31,.slice p32 k33 k34])
theorem yP(rB rO kB kO):bG F.nA #[.pointer (aK rB rO),.pointer (aK kB kO)] (EM rB rO kB kO):=bJ { keep:=some [0,1,3,4],gM:=[3,4] } λ_ _ _ _=>by kernel_rfl
def a2e(nB nO:Nat)(i:Int):aR:=λW R Φ J=>
 Zc W R Φ F.xE #[.pointer (aK nB nO),aA i] λe2 q=>∃ n4 n5 s6 c7,e2=.returned (Value.tuple #[Value.agg #[aA n4,aA n5,.string s6],Value.bool c7])/\q λR8 X7=>∀ (b:Nat),Br (!c7) (Zr W R8 X7 J (aA 4)) (Zr W R8 X7 J (aA 0))
theorem RJ(nB nO i):bG F.E2 #[.pointer (aK nB nO),.int .i64 i] (a2e nB nO i):=bJ { keep:=some [0,1,4,6,14],gM:=[5] } λ_ _ _ _=>by kernel_rfl
def XH(nB nO:Nat)(i:Int):aR:=λW R Φ J=>
 Zd W R Φ λw0=>∃ (p2:Option Addr) (k3 k4:Nat),((!decide (i<0))=true->w0.cell? (aJ nB nO)=some (.slice p2 k3 k4))/\Br (decide (i<0)||decide ((↑k3:Int)<=i)) (Zr W R Φ J (aA 4)) (Zd W R Φ λw7=>∃ p9 xG GO,w7.cell? (aJ nB nO)=some (.slice p9 xG GO)/\Br (decide (500<=(↑xG:Int))) (Zr W R Φ J (aA 6)) (∃ P5 u7,aB u7/\Wk W R Φ P5 u7/\∃ (p18:Option Addr) (TQ k20:Nat),(Zd W P5 u7 λP6=>∃ p23 k24 k25,P6.cell? (aJ nB nO)=some (.slice p23 k24 k25)/\Value.slice p23 k24 k25=Value.slice p18 TQ k20)/\∃ (p26:Option Addr) (k27 k28:Nat),(Zd W P5 u7 λw29=>∃ p31 k32 k33,w29.cell? (aJ nB nO)=some (.slice p31 k32 k33)/\Value.slice p31 k32 k33=Value.slice p26 k27 k28)/\Zi i k27 p26 λk34 k35=>∃ (n36 n37:Int) (s38:ByteArray),(Zd W P5 u7 λw39=>∃ n41 n42 s43,bM w39 k34 (k35+i.toNat*3) [aA n41,aA n42,.string s43]/\Value.agg #[aA n41,aA n42,.string s43]=Value.agg #[aA n36,aA n37,.string s38])/\∀ (k44:Nat),Wk W (Own.blk k44 [aA n36,aA n37,.string s38] 267 :: R) Φ (P5) u7/\∀ w47 R48,Ctx W w47 (Own.blk k44 [aA n36,aA n37,.string s38] 267 :: R++R48) Φ->∃ p49 k50 ZQ w52,Sem.run prog (builtin Builtin.append #[109,109] 109 #[false,false] #[.slice p18 TQ k20,.slice (aK k44 0) 1 1]) w47=.ok (.value (.slice p49 k50 ZQ)) w52/\∃ W5 pE,aB pE/\Ctx W w52 (W5++R48) pE/\Wk W W5 pE P5 u7/\∀ w57 R58,Ctx W w57 (W5 ++ R58) pE->aG w57 nB nO 1/\∀ w59,w59=w57.setCell (aJ nB nO) (Value.slice p49 k50 ZQ)->∃ R60 QY,aB QY/\Ctx W w59 (R60++R58) QY/\Zr W R60 QY J (aA 0)))
theorem LZ(nB nO i):bG F.yC #[.pointer (aK nB nO),.int .i64 i] (XH nB nO i):=bJ { keep:=some [0,1,4,5,17],eP:=[(5,[.held [(0,true),(1,true),(5,true),(9,true),(2,true),(6,true),(3,true),(7,true),(4,true),(8,true),(10,true),(11,true),(12,false),(13,false)],.bF [14] none,.bF [15] (some 16)])] } λ_ _ _ _=>by kernel_rfl
def RL(gB gO:Nat):aR:=λW R Φ J=>
 Zd W R Φ λw0=>∃ p2 p3 p4 p5 p6 p7 p8 p9 p10 NZ p12 NQ,bM w0 gB gO [Value.pointer p2,Value.pointer p3,Value.pointer p4,Value.pointer p5,Value.pointer p6,Value.pointer p7,Value.pointer p8,Value.pointer p9,Value.pointer p10,Value.pointer NZ,Value.pointer p12,Value.pointer NQ]/\zG λ(I14:Int->List Own->PW->Nat->Prop)=>(Zs W R Φ (I14 0))/\∀ n20 TW I22 k23,aB I22->I14 n20 TW I22 k23->Br (decide (n20<3)) ((0<=n20/\n20<3)/\∀ (k24:Nat) Q8 Q9,Ctx W Q8 (Own.blk k24 [Value.pointer none,Value.pointer none,Value.pointer none,Value.pointer none] 132 :: TW++Q9) I22->match (List.take 4 (List.drop (0+n20.toNat*4) [Value.pointer p2,Value.pointer p3,Value.pointer p4,Value.pointer p5,Value.pointer p6,Value.pointer p7,Value.pointer p8,Value.pointer p9,Value.pointer p10,Value.pointer NZ,Value.pointer p12,Value.pointer NQ])).length.beq 4&&(List.take 4 (List.drop (0+n20.toNat*4) [Value.pointer p2,Value.pointer p3,Value.pointer p4,Value.pointer p5,Value.pointer p6,Value.pointer p7,Value.pointer p8,Value.pointer p9,Value.pointer p10,Value.pointer NZ,Value.pointer p12,Value.pointer NQ])).all nM with|true=>aG Q8 k24 0 4/\∀ w29,w29=Q8.setCells k24 0 (List.take 4 (List.drop (0+n20.toNat*4) [Value.pointer p2,Value.pointer p3,Value.pointer p4,Value.pointer p5,Value.pointer p6,Value.pointer p7,Value.pointer p8,Value.pointer p9,Value.pointer p10,Value.pointer NZ,Value.pointer p12,Value.pointer NQ]))->∃ ZP NP,aB NP/\Ctx W w29 (ZP++Q9) NP/\Zd W ZP NP λw32=>∃ p34,w32.cell? (aJ k24 3)=some (.pointer p34)/\∃ (p35:Option Addr),((!p34.isNone)=true->w32.cell? (aJ k24 3)=some (.pointer p35))/\∃ (n36:Int),((!p34.isNone)=true->∀ (w37:World),(∃ (k38:Nat),w37=w32.drewN k38)->aD F.dW #[.pointer p35] w37 λe39 w40=>e39=.returned (aA n36)/\∃ (k41:Nat),w40=w32.drewN k41)/\∃ (p42:Option Addr) (k43 k44:Nat),((!p34.isNone)=true->w32.cell? (aJ gB (gO+13))=some (.slice p42 k43 k44))/\Br (p34.isNone||decide (n36<=(↑k43:Int))) (aY (n20+1)/\Zb W ZP NP k23 (I14 (n20+1))) (∀ w50 QH,Ctx W w50 (ZP++QH) NP->aG w50 gB (gO+13) 1/\∀ w52,w52=w50.setCell (aJ gB (gO+13)) (Value.slice none 0 0)->∃ W5 pE,aB pE/\Ctx W w52 (W5++QH) pE/\∃ R55 U1,aB U1/\Wk W W5 pE R55 U1/\∃ (p59:Option Addr), (Zd W R55 U1 λw60=>∃ p62,w60.cell? (aJ k24 3)=some (.pointer p62)/\Value.pointer p62=Value.pointer p59)/\∃ (p63:Option Addr),(Zd W R55 U1 λw64=>∃ p66,w64.cell? (aJ k24 3)=some (.pointer p66)/\Value.pointer p66=Value.pointer p63)/\Zc W W5 pE F.kV #[.pointer p59] λe69 q=>∃ p71 k72 k73,e69=.returned (.slice p71 k72 k73)/\q λR74 LI=>Wk W R74 LI R55 U1/\Zc W R74 LI F.dW #[.pointer p63] λe80 q=>∃ n82,e80=.returned (aA n82)/\q λR83 aAk=>Wk W R83 aAk R55 U1/\(0<=n82/\n82<=(↑k73:Int))/\zG λ(I87:Int->List Own->PW->Nat->Prop)=>(∃ R88 aHp k90,aB aHp /\ Wk W R83 aAk R88 aHp/\I87 0 R88 aHp k90)/\∀ n93 R94 I95 k96,aB I95->I87 n93 R94 I95 k96->Br (decide (n93<(↑n82.toNat:Int))) ((0<=n93/\n93<(↑n82.toNat:Int))/\vJ none (dA p71 2 0 k73) λk97 k98=>Zd W R94 I95 λw99=>∃ n101 aQs,bM w99 k97 (k98+n93.toNat*2) [aA n101,.string aQs]/\∀ (b:Nat),∃ aEo a0i,aB a0i/\Wk W R94 I95 aEo a0i/\∃ (aV7:Option Addr) (aV8 QB:Nat),(Zd W aEo a0i λa6R=>∃ aHw a9J NL,a6R.cell? (aJ gB (gO+13))=some (.slice aHw a9J NL)/\Value.slice aHw a9J NL=Value.slice aV7 aV8 QB)/\∀ (TU:Nat),Wk W (Own.blk TU [.string aQs] 9 :: R94) I95 (aEo) a0i/\∀ a9S a92,Ctx W a9S (Own.blk TU [.string aQs] 9 :: R94++a92) I95->∃ aV9 aLh aWa a2b,Sem.run prog (builtin Builtin.append #[40,40] 40 #[false,false] #[.slice aV7 aV8 QB,.slice (aK TU 0) 1 1]) a9S=.ok (.value (.slice aV9 aLh aWa)) a2b/\∃ a2c CZ,aB CZ/\Ctx W a2b (a2c++a92) CZ/\Wk W a2c CZ aEo a0i/\∀ a6W ZE,Ctx W a6W (a2c++ZE) CZ->aG a6W gB (gO+13) 1/\∀ a9P,a9P=a6W.setCell (aJ gB (gO+13)) (Value.slice aV9 aLh aWa)->∃ aEm W7,aB W7/\Ctx W a9P (aEm++ZE) W7/\aY (n93+1)/\Zb W aEm W7 k96 (I87 (n93+1))) (aY (n20+1)/\Zb W R94 I95 k23 (I14 (n20+1))))|false=>False) (Zr W TW I22 J (Value.tuple #[]))
theorem GG(gB gO):bG F.lE #[.pointer (aK gB gO)] (RL gB gO):=bJ { keep:=some [0,3,5,9,10,11,26,36,37,38,39],gM:=[5],eP:=[(5,[.held [(0,true),(3,true),(8,true),(1,true),(4,true),(2,false),(5,false),(6,true),(7,true)]]),(8,[.held [(0,true),(1,true),(5,true),(2,true),(6,true),(3,true),(4,true),(7,false),(8,false)],.bF [9] none,.bF [10] (some 11)])],loops:=[(6,[(38,.one (.int .i64))],[]),(1,[(10,.one (.int .i64))],[])] } λ_ _ _ _=>by kernel_rfl
def M0(mB mO:Nat)(o0:Bool)(o1:Int)(o2:Int)(o3:Int)(o4P:Option Addr)(o4N o4C:Nat)(o5P:Option Addr)(o5N o5C:Nat):aR:=λW R Φ J=>
 ∀ (k0 k1:Nat),zG λ(I2:Int->List Own->PW->Prop)=>(Zd W (Own.blk k1 [Value.bool o0,aA o1,aA o2,aA o3,Value.slice o4P o4N o4C,Value.slice o5P o5N o5C] 146 :: Own.blk k0 [Value.pointer (aK mB mO)] 139 :: R) Φ λw3=>∃ c5,w3.cell? (aJ k1 0)=some (.bool c5)/\Br c5 (∃ R6 uC,aB uC/\Wk W (Own.blk k1 [Value.bool o0,aA o1,aA o2,aA o3,Value.slice o4P o4N o4C,Value.slice o5P o5N o5C] 146 :: Own.blk k0 [Value.pointer (aK mB mO)] 139 :: R) Φ (R6) uC/\∃ (p10:Option Addr),(Zd W R6 uC λNN=>∃ NQ,NN.cell? (aJ k0 0)=some (.pointer NQ)/\Value.pointer NQ=Value.pointer p10)/\vJ none p10 λwQ E8=>∃ (n16:Int),(Zd W R6 uC λXW=>∃ n19,XW.cell? (aJ k1 1)=some (aA n19)/\aA n19=aA n16)/\∃ (n20:Int),(Zd W R6 uC λP6=>∃ n23,P6.cell? (aJ k1 2)=some (aA n23)/\aA n23=aA n20)/\∃ (p24:Option Addr),(Zd W R6 uC λQ8=>∃ p27,Q8.cell? (aJ wQ (E8+2))=some (.pointer p27)/\Value.pointer p27=Value.pointer p24)/\Zc W (Own.blk k1 [Value.bool o0,aA o1,aA o2,aA o3,Value.slice o4P o4N o4C,Value.slice o5P o5N o5C] 146 :: Own.blk k0 [Value.pointer (aK mB mO)] 139 :: R) Φ F.pQ #[aA n16] λe30 q=>∃ s32,e30=.returned (.string s32)/\q λHL mQ=>Wk W HL mQ R6 uC /\ Zc W HL mQ F.pQ #[aA n20] λe39 q=>∃ s41,e39=.returned (.string s41)/\q λR42 a62=>Wk W R42 a62 R6 uC/\(s32.size+s41.size).le 9223372036854775807/\Zc W R42 a62 F.vC #[.pointer p24,.string (s32++s41)] λe48 q=>∃ n50,e48=.returned (aA n50)/\q λQH yG=>∃ W5 pE,aB pE/\Wk W QH yG W5 pE/\I2 n50 W5 pE) (∃ R57 ZY,aB ZY/\Wk W (Own.blk k1 [Value.bool o0,aA o1,aA o2,aA o3,Value.slice o4P o4N o4C,Value.slice o5P o5N o5C] 146 :: Own.blk k0 [Value.pointer (aK mB mO)] 139 :: R) Φ (R57) ZY/\I2 0 R57 ZY))/\∀ (n61:Int) (R62:List Own) (I63:List Nat->World -> Prop),aB I63->I2 n61 R62 I63->Zd W R62 I63 λw64=>∃ (n66:Int),(decide (n61=0)=true->w64.cell? (aJ k1 3)=some (aA n66))/\Br (decide (n61=0)&&decide (0<n66)) (∀ (k67:Nat) w68 R69,Ctx W w68 (Own.blk k67 [.slice none 0 0] 40 :: R62++R69) I63->∃ p70 k71 k72,w68.cell? (aJ k1 4)=some (.slice p70 k71 k72)/\zG λ(I73:Int->List Own->PW->Nat->Prop)=>(∃ R74 LI k76,aB LI/\Wk W (Own.blk k67 [.slice none 0 0] 40 :: R62) I63 (R74) LI/\I73 0 R74 LI k76)/\∀ n79 R80 I81 k82,aB I81->I73 n79 R80 I81 k82->Br (decide (n79<(↑k71:Int))) (Zi n79 k71 p70 λk83 k84=>Zd W R80 I81 λw85=>∃ n87 s88,bM w85 k83 (k84+n79.toNat*2) [aA n87,.string s88]/\∀ (b:Nat),∃ R89 aH5,aB aH5/\Wk W R80 I81 R89 aH5/\∃ (p93:Option Addr) (k94 k95:Nat),(Zd W R89 aH5 λw96=>∃ p98 k99 aHv,w96.cell? (aJ k67 0)=some (.slice p98 k99 aHv)/\Value.slice p98 k99 aHv=Value.slice p93 k94 k95)/\Zc W R80 I81 F.lF #[Value.agg #[aA n87,.string s88]] λa4O q=>∃ a4V,a4O=.returned (.string a4V)/\q λU0 AU=>Wk W U0 AU R89 aH5/\∀ (a4E:Nat),Wk W (Own.blk a4E [.string a4V] 9 :: U0) AU (R89) aH5/\∀ a7d aWc,Ctx W a7d (Own.blk a4E [.string a4V] 9 :: U0++aWc) AU->∃ a7n a7o QC a9S,Sem.run prog (builtin Builtin.append #[40,40] 40 #[false,false] #[.slice p93 k94 k95,.slice (aK a4E 0) 1 1]) a7d=.ok (.value (.slice a7n a7o QC)) a9S/\∃ a92 a67, aB a67/\Ctx W a9S (a92++aWc) a67/\∀ aHP a9T,Ctx W aHP (a92++a9T) a67->aG aHP k67 0 1/\∀ a2b,a2b=aHP.setCell (aJ k67 0) (Value.slice a7n a7o QC)->∃ a2c CZ,aB CZ/\Ctx W a2b (a2c++a9T) CZ/\aY (n79+1)/\Zb W a2c CZ k82 (I73 (n79+1))) (∀ (aHx:Nat) aWd aH6,Ctx W aWd (Own.blk aHx [Value.func (Fn.func 307) #[] #[.pointer (aK k0 0),.pointer (aK k1 0)],Value.func (Fn.func 310) #[] #[.pointer (aK k0 0),.pointer (aK k67 0)]] 258 :: R80++aH6) I81->aD F.AR #[.slice (aK aHx 0) 2 2] aWd λb1z aK8=>∃ n136,b1z=.returned (aA n136)/\∃ QX AV,aB AV/\Ctx W aK8 (QX++aH6) AV /\ Br (decide (n136≠0)) (Zd W QX AV λa7g=>∃ aWe,a7g.cell? (aJ k0 0)=some (.pointer aWe)/\Zc W QX AV F.jV #[.pointer aWe] λb1A q=>b1A=.returned (Value.tuple #[])/\q λQI a7i=>Zr W QI a7i J (aA n136)) (Zr W QX AV J (aA n136)))) (Br (decide (n61≠0)) (Zd W R62 I63 λb1B=>∃ aWf,b1B.cell? (aJ k0 0)=some (.pointer aWf)/\Zc W R62 I63 F.jV #[.pointer aWf] λaHK q=>aHK=.returned (Value.tuple #[])/\q λb1C aWg=>Zr W b1C aWg J (aA n61)) (Zr W R62 I63 J (aA n61)))
theorem D4(mB mO o0 o1 o2 o3 o4P o4N o4C o5P o5N o5C):bG F.mG #[.pointer (aK mB mO),.agg #[.bool o0,.int .i64 o1,.int .i64 o2,.int .i64 o3,.slice o4P o4N o4C,.slice o5P o5N o5C]] (M0 mB mO o0 o1 o2 o3 o4P o4N o4C o5P o5N o5C):=bJ { keep:=some [2,3,4,5,6,8,10,31,33,34,35,36,50],gM:=[8],eP:=[(3,[.held [(0,true),(4,true),(8,true),(1,true),(5,true),(9,true),(2,true),(6,true),(10,true),(3,true),(7,false),(11,false),(12,true)],.bF [] (some 13),.bF [14] none]),(9,[.held [(0,true),(1,true),(2,false),(3,false)],.bF [] (some 4),.bF [] (some 5)])],loops:=[(7,[(35,.one (.int .i64))],[])],a6o:=[(4,[(5,.one (.int .i64))],[])] } λ_ _ _ _=>by kernel_rfl
def a2f(nB nO:Nat)(a0j:Int)(to:Int)(body:ByteArray):aR:=λW R Φ J=>
 Zd W R Φ λw0=>∃ (c2:Bool),(∀ w3,w3=w0->aD F.E5 #[aA a0j] w3 λe4 w5=>e4=.returned (.bool c2)/\w5=w0)/\∃ (c6:Bool),((!!c2)=true->∀ w7,w7=w0->aD F.E5 #[aA to] w7 λe8 w9=>e8=.returned (.bool c6)/\w9=w0)/\Br (!c2 || !c6||decide (a0j=to)) (Zr W R Φ J (aA 1)) (Zc W R Φ F.xF #[.pointer (aK nB nO),aA a0j,aA to] λe14 q=>∃ c16,e14=.returned (.bool c16)/\q λqH mI=>Br (!c16) (Zr W qH mI J (aA 10)) (Zd W qH mI λP6=>∃ p23 k24 k25,P6.cell? (aJ nB nO)=some (.slice p23 k24 k25)/\Br (decide (500<=(↑k24:Int))) (Zr W qH mI J (aA 6)) (Zd W qH mI λw28=>∃ p30 k31 k32,w28.cell? (aJ nB nO)=some (.slice p30 k31 k32)/\∀ (k33:Nat) w34 R35,Ctx W w34 (Own.blk k33 [aA a0j,aA to,.string body] 267 :: qH++R35) mI->∃ p36 k37 k38 w39,Sem.run prog (builtin Builtin.append #[109,109] 109 #[false,false] #[.slice p30 k31 k32,.slice (aK k33 0) 1 1]) w34=.ok (.value (.slice p36 k37 k38)) w39/\∃ R40 wO,aB wO/\Ctx W w39 (R40++R35) wO/\∀ w42 R43,Ctx W w42 (R40++R43) wO->aG w42 nB nO 1/\∀ w44,w44=w42.setCell (aJ nB nO) (Value.slice p36 k37 k38)->∃ R45 NO,aB NO/\Ctx W w44 (R45++R43) NO/\Zr W R45 NO J (aA 0))))
theorem RM(nB nO a0j to body):bG F.E3 #[.pointer (aK nB nO),.int .i64 a0j,.int .i64 to,.string body] (a2f nB nO a0j to body):=bJ { keep:=some [0,1,2,3,8,9,23,29] } λ_ _ _ _=>by kernel_rfl
def a2g(nB nO:Nat)(i:Int):aR:=λW R Φ J=>
 ∀ (b:Nat) w0 R1,Ctx W w0 (R++R1) Φ->∃ (p2:Option Addr) (k3 k4:Nat),((!decide (i<0))=true->w0.cell? (aJ nB nO)=some (.slice p2 k3 k4))/\Br (decide (i<0)||decide ((↑k3:Int)<=i)) (Zr W R Φ J (Value.tuple #[Value.agg #[aA 0,aA 0,Value.string (ByteArray.mk #[])],Value.bool false])) (Zd W R Φ λw7=>∃ p9 xG GO,w7.cell? (aJ nB nO)=some (.slice p9 xG GO)/\Zi i xG p9 λk12 HQ=>Zd W R Φ λLC=>∃ n16 n17 U3,bM LC k12 (HQ+i.toNat*3) [aA n16,aA n17,.string U3]/\∀ (b:Nat) ZG P7,Ctx W ZG (R++P7) Φ->∃ p21 k22 k23,ZG.cell? (aJ nB nO)=some (.slice p21 k22 k23)/\aY (i+1)/\Zc W R Φ F.fB #[.slice p21 k22 k23,aA i,aA (i+1)] λe26 q=>∃ p28 k29 k30,e26=.returned (.slice p28 k29 k30)/\q λZI QU=>∀ w33 LB,Ctx W w33 (ZI++LB) QU->aG w33 nB nO 1/\∀ ZJ,ZJ=w33.setCell (aJ nB nO) (Value.slice p28 k29 k30)->∃ HM uE,aB uE/\Ctx W ZJ (HM++LB) uE/\Zr W HM uE J (Value.tuple #[Value.agg #[aA n16,aA n17,.string U3],Value.bool true]))
theorem RN(nB nO i):bG F.xE #[.pointer (aK nB nO),.int .i64 i] (a2g nB nO i):=bJ { keep:=some [0,1,4,5,6,17],gM:=[4,6] } λ_ _ _ _=>by kernel_rfl
def a2h(nB nO:Nat)(a:Int)(b:Int):aR:=λW R Φ J=>
 Zd W R Φ λw0=>∃ (c2:Bool),(∀ (w3:World),(∃ (k4:Nat),w3=w0.drewN k4)->aD F.E5 #[aA a] w3 λe5 w6=>e5=.returned (.bool c2)/\∃ (k7:Nat),w6=w0.drewN k7)/\∃ (c8:Bool),(c2=true->∀ (w9:World),(∃ (xG:Nat),w9=w0.drewN xG)->aD F.E5 #[aA b] w9 λe11 GV=>e11=.returned (.bool c8)/\∃ (HQ:Nat),GV=w0.drewN HQ)/\∃ (T9:Int),((c2&&c8)=true->w0.cell? (aJ nB (nO+1))=some (aA T9))/\∃ (n15:Int),((c2&&c8)=true->∀ (E6:World),Sem.run prog (binOp BinOp.shr 3 (aA T9) (aA a)) E6=Result.ok (aA n15) E6)/\∃ (n17:Int),((c2&&c8)=true->∀ (KJ:World),Sem.run prog (binOp BinOp.and 3 (aA n15) (aA 1)) KJ=Result.ok (aA n17) KJ)/\∃ (n19:Int),((c2&&c8)=true->w0.cell? (aJ nB (nO+1))=some (aA n19))/\∃ (n20:Int),((c2&&c8)=true->∀ (P6:World),Sem.run prog (binOp BinOp.shr 3 (aA n19) (aA b)) P6=Result.ok (aA n20) P6)/\∃ (n22:Int),((c2&&c8)=true->∀ (w23:World),Sem.run prog (binOp BinOp.and 3 (aA n20) (aA 1)) w23=Result.ok (aA n22) w23)/\Zr W R Φ J (.bool (c2&&c8&&decide (n17=n22)))
theorem RO(nB nO a b):bG F.xF #[.pointer (aK nB nO),.int .i64 a,.int .i64 b] (a2h nB nO a b):=bJ { keep:=some [0,1,2,6] } λ_ _ _ _=>by kernel_rfl
def GH(kB kO lB lO:Nat):aR:=λW R Φ J=>
 ∃ R0 cF,aB cF/\Wk W R Φ R0 cF/\∃ (p4:Option Addr),(Zd W R0 cF λw5=>∃ p7,w5.cell? (aJ kB kO)=some (.pointer p7)/\Value.pointer p7=Value.pointer p4)/\∃ (p8:Option Addr),(Zd W R0 cF λw9=>∃ NZ,w9.cell? (aJ kB kO)=some (.pointer NZ)/\Value.pointer NZ=Value.pointer p8)/\vJ none p4 λk12 HQ=>∃ (T9:Int),(Zd W R0 cF λw15=>∃ n17,w15.cell? (aJ lB (lO+3))=some (aA n17)/\aA n17=aA T9)/\vJ none p8 λXX TQ=>aY (T9 - 1)/\∃ (p20:Option Addr),(Zd W R0 cF λP6=>∃ p23,P6.cell? (aJ k12 (HQ+1))=some (.pointer p23)/\Value.pointer p23=Value.pointer p20)/\∃ (p24:Option Addr),(Zd W R0 cF λQ8=>∃ p27,Q8.cell? (aJ XX (TQ+1))=some (.pointer p27)/\Value.pointer p27=Value.pointer p24)/\Zc W R Φ F.oZ #[.pointer p24] λe30 q=>∃ n32,e30=.returned (aA n32)/\q λHL mQ=>Wk W HL mQ R0 cF/\Zc W HL mQ F.oY #[.pointer p20,aA (min (T9 - 1) n32)] λe39 q=>∃ n41,e39=.returned (aA n41)/\q λR42 a62=>Zr W R42 a62 J (aA n41)
theorem zY(kB kO lB lO):bG F.fL #[.pointer (aK kB kO),.pointer (aK lB lO)] (GH kB kO lB lO):=bJ { keep:=some [0,1,2],eP:=[(1,[.held [(0,true),(4,true),(7,true),(1,true),(5,true),(8,true),(2,true),(6,true),(9,true),(3,true),(10,true),(11,false),(12,true)],.bF [] (some 13),.bF [14] none])] } λ_ _ _ _=>by kernel_rfl
def GK(kB kO lB lO:Nat):aR:=λW R Φ J=>
 ∃ R0 cF,aB cF/\Wk W R Φ R0 cF/\∃ (p4:Option Addr),(Zd W R0 cF λw5=>∃ p7,w5.cell? (aJ kB kO)=some (.pointer p7)/\Value.pointer p7=Value.pointer p4)/\∃ (p8:Option Addr) (k9 xG:Nat),(Zd W R0 cF λNN=>∃ NQ wQ E8,NN.cell? (aJ lB lO)=some (.slice NQ wQ E8)/\Value.slice NQ wQ E8=Value.slice p8 k9 xG)/\vJ none p4 λX2 vD=>∃ (p18:Option Addr),(Zd W R0 cF λZG=>∃ p21,ZG.cell? (aJ X2 (vD+1))=some (.pointer p21)/\Value.pointer p21=Value.pointer p18)/\Zc W R Φ F.mH #[.pointer p18,.slice p8 k9 xG] λe24 q=>∃ n26,e24=.returned (aA n26)/\q λX6 a11=>Zr W X6 a11 J (aA n26)
theorem zZ(kB kO lB lO):bG F.fM #[.pointer (aK kB kO),.pointer (aK lB lO)] (GK kB kO lB lO):=bJ { keep:=some [0,1,2],eP:=[(1,[.held [(0,true),(4,true),(1,true),(2,true),(3,true)],.bF [] (some 5),.bF [6] none])] } λ_ _ _ _=>by kernel_rfl
def pF(sP:Option Addr)(sN sC:Nat)(i:Int)(j:Int):aR:=λW R Φ J=>
 (0<=i/\i<=j/\j<=(↑sN:Int)/\(↑sN:Int)<=(↑sC:Int))/\Br (decide (i=j)) (Zr W R Φ J (.slice sP sN sC)) (∃ R2 XU,aB XU/\Wk W R Φ R2 XU/\(0<=i/\i<=(↑sC:Int))/\(0<=j/\j<=(↑sN:Int)/\sN<=sC)/\∀ w6 R7,Ctx W w6 (R++R7) Φ->∃ p8 k9 xG NN,Sem.run prog (builtin Builtin.append #[109,109] 109 #[false,false] #[.slice (dA sP 3 0 sC) i.toNat sC,.slice (dA sP 3 j.toNat sC) (sN - j.toNat) (sC - j.toNat)]) w6=.ok (.value (.slice p8 k9 xG)) NN/\∃ zJ qN,aB qN/\Ctx W NN (zJ++R7) qN/\(0<=(↑k9:Int)/\(↑k9:Int)<=(↑sN:Int)/\(↑sN:Int)<=(↑xG:Int))/\∀ LC GU,Ctx W LC (zJ++GU) qN->∃ (E6:World),Sem.run prog (builtin Builtin.clear #[109] 0 #[false] #[.slice (dA p8 3 (↑k9:Int).toNat xG) ((↑sN:Int).toNat - (↑k9:Int).toNat) (xG - (↑k9 : Int).toNat)]) LC=.ok (.value (Value.tuple #[])) E6/\∃ qH mI,aB mI/\Ctx W E6 (qH++GU) mI/\Zr W qH mI J (.slice p8 k9 xG))
theorem nD(sP sN sC i j):bG F.fB #[.slice sP sN sC,.int .i64 i,.int .i64 j] (pF sP sN sC i j):=bJ { keep:=some [0,1,2,6,7,16],eP:=[(5,[.held [(0,true),(1,true),(3,true),(4,true),(2,true),(5,true)],.bF [] (some 6),.bF [7] none])] } λ_ _ _ _=>by kernel_rfl
end Go.Proofs.YtnlkemjhgdbfkaaGreatDoor
end

section
namespace Go.Proofs.YtnlkemjhgdbfkaaGreatDoor
open Go.Vc
def a7r(a:Int)(w:World)(J:Value->World->Prop):Prop :=
 J (.bool (decide (0<=a)&&decide (a<16))) w
theorem a42(a:Int)(w:World)(J:Value->World->Prop)(h:a7r a w J):aD F.E5 #[.int .i64 a] w λe w'=>∃ v,e=.returned v/\J v w' :=
 CK (H:={ keep:=some [0,2] }) (by rw [show vcF prog { keep:=some [0,2] } F.E5 #[.int .i64 a] w J=a7r a w J by kernel_rfl];exact h)
end Go.Proofs.YtnlkemjhgdbfkaaGreatDoor
end

section
namespace Go.Vc
section
variable {P:Program}{W w:World}{S F:List Own}{Φ Ψ:PW}
structure Quiet(P:Program)(f:FuncId)(args:Array Value)(v:Value):Prop where
 go:∀ w,Calls P f args w λe w'=>e=.returned v/\w'=w
structure a0k(P:Program)(f:FuncId)(args:Array Value)(v:Value):Prop where
 go:∀ (W w:World) (S:List Own) (Φ:PW),aB Φ->Ctx W w S Φ->Calls P f args w λe w'=>e=.returned v/\Ctx W w' S Φ
theorem Quiet.at{f args v}(h:Quiet P f args v){w w0}(e:w=w0):Calls P f args w λe w'=>e=.returned v/\w'=w0:=by subst e;exact h.go w
theorem Quiet.atN{f args v}(h:Quiet P f args v){w w0:World}(e:∃ n,w=w0.drewN n):Calls P f args w λe w'=>e=.returned v/\∃ n,w'=w0.drewN n:=by
 obtain ⟨n,rfl⟩:=e;exact (h.go _).mono λe w' ⟨h1,h2⟩=>⟨h1,n,h2⟩
theorem Quiet.a3g{f args v}(h:Quiet P f args v):a0k P f args v :=
 ⟨λW w S Φ _ c=>(h.go w).mono λe w' ⟨h1,h2⟩=>by subst h2;exact ⟨h1,c⟩⟩
theorem a0k.use{f args v}(h:a0k P f args v)[hs:aB Φ](c:Ctx W w S Φ){K}(hk:∀ w',Ctx W w' S Φ->K (.returned v) w'):Calls P f args w K :=
 (h.go W w S Φ hs c).mono λe w' ⟨he,c'⟩=>by subst he;exact hk w' c'
structure cS(Φ:PW)(P:Program)(f:FuncId)(args:Array Value)(v:Value):Prop where
 go:∀ (W w:World) (S:List Own),Ctx W w S Φ->Calls P f args w λe w'=>e=.returned v/\Ctx W w' S Φ
theorem cS.use{f args v}(h:cS Φ P f args v)(c:Ctx W w S Φ){K}(hk:∀ w',Ctx W w' S Φ->K (.returned v) w'):Calls P f args w K :=
 (h.go W w S c).mono λe w' ⟨he,c'⟩=>by subst he;exact hk w' c'
theorem a0k.in[hs:aB Φ]{f args v}(h:a0k P f args v):cS Φ P f args v:=⟨λW w S c=>h.go W w S Φ hs c⟩
theorem j7[aB Φ]{f args v}{B:World->List Own->PW->(Value->World->Prop)->Prop}(run:∀ {W w:World} {R:List Own} {Φ:PW} [aB Φ] {J:Value->World->Prop},Ctx W w R Φ->B W R Φ J->Calls P f args w λe w'=>∃ v,e=.returned v/\J v w')(h:∀ (W:World) (R:List Own),B W R Φ λu w'=>u=v/\Ctx W w' R Φ):cS Φ P f args v :=
 ⟨λW w S c=>a6r (run c (h W S)) λu w' ⟨h1,h2⟩=>⟨by rw [h1],h2⟩⟩
theorem Ctx.left[aB Φ](c:Ctx W w (S++F) Φ):Ctx W w S Φ:=c.sub (List.sublist_append_left _ _)
theorem Ctx.right[aB Φ](c:Ctx W w (S++F) Φ):Ctx W w F Φ:=c.sub (List.sublist_append_right _ _)
theorem Ctx.fst[aB Φ][aB Ψ](c:Ctx W w S (λM w=>Φ M w/\Ψ M w)):Ctx W w S Φ:=c.weak λ_ _ h=>h.1
theorem AW{cs vs:List Value}{o}(h:(cs.drop o).take vs.length=vs):∀ j,(hj:j<vs.length)->cs[o+j]? = some vs[j]:=by
 intro j hj;have h1:((cs.drop o).take vs.length)[j]? = vs[j]? := by rw [h]
 rw [List.getElem?_take_of_lt hj,List.getElem?_drop] at h1;rw [h1,List.getElem?_eq_getElem hj]
theorem quiet_of{f args v}{B:World->(Value->World->Prop)->Prop}(run:∀ (w:World) (J:Value->World->Prop),B w J->Calls P f args w λe w'=>∃ v,e=.returned v/\J v w')(h:∀ w,B w λu w'=>u=v/\w'=w):Quiet P f args v :=
 ⟨λw=>a6r (run w _ (h w)) λu w' ⟨h1,h2⟩=>⟨by rw [h1],h2⟩⟩
end
def Pin{α:Type}[Gv α](b o:Nat)(cs:List (List Value))(l:List α)(M:List Nat)(w:World):Prop :=
 ∀ j,(hj:j<l.length)->b ∉ M/\bM w b (o+j*(Gv.ty α).size) (cs.getD j [])/\Gv.rep M w (cs.getD j []) l[j]
instance aKC{α:Type}[Gv α](b o:Nat)(cs:List (List Value))(l:List α):aB (λM w=>Pin b o cs l M w):=⟨λhs h j hj=>by
 obtain ⟨h2,h3,h4⟩:=h j hj;have hlt:=aGE h3 (by rw [Gv.len h4];exact Gv.pos);exact ⟨λhm=>by rcases hs.sub b hm with h|h;exact h2 h;omega,hs.chg.row h3 h2,Gv.mZ hs h4⟩⟩
theorem Sl.pin{α}[Gv α]{M w p}{l:List α}(h:Sl M w p l):∃ b o cs,(0<l.length->p=some ⟨b,o,none⟩)/\Pin b o cs l M w:=by
 by_cases h0:0<l.length
 .obtain ⟨b,o,_,hp,_⟩:=h 0 h0;have key:∀ j,j<l.length->∃ cs:List Value,∀ hj:j<l.length,b ∉ M/\bM w b (o+j*(Gv.ty α).size) cs/\Gv.rep M w cs l[j]:=by
   intro j hj;obtain ⟨b',o',cs,h1,h2,h3,h4⟩:=h j hj;rw [hp] at h1;cases h1;exact ⟨cs,λ_=>⟨h2,h3,h4⟩⟩
  obtain ⟨cs,hl,hcs⟩:=N6 l.length key;refine ⟨b,o,cs,λ_=>hp,λj hj=>?_⟩;have:=hcs j (by omega) hj;rw [show cs.getD j []=cs[j] by simp [List.getD,show j<cs.length by omega]];exact this
 .exact ⟨0,0,[],λh=>absurd h h0,λj hj=>by omega⟩
theorem Ctx.pin{W w S}{Φ:PW}(c:Ctx W w S Φ){α}[Gv α]{p}{l:List α}(h:Sl (dom S) w p l):
  ∃ b o cs,(0<l.length->p=some ⟨b,o,none⟩)/\Ctx W w S (λM w=>Φ M w/\Pin b o cs l M w):=by
 obtain ⟨b,o,cs,hp,a7s⟩:=h.pin;exact ⟨b,o,cs,hp,c.add a7s⟩
theorem cS.pinned{Φ:PW}[aB Φ]{P f args v α}[Gv α]{p}{l:List α}(nS:∀ M w,Φ M w->Sl M w p l)(h:∀ b o cs,(0<l.length->p=some ⟨b,o,none⟩)->cS (λM w=>Φ M w/\Pin b o cs l M w) P f args v):cS Φ P f args v :=
 ⟨λW w S c=>by
  obtain ⟨b,o,cs,hp,c'⟩:=c.pin (nS _ _ c.uX);exact ((h b o cs hp).go W w S c').mono λe w' ⟨h1,h2⟩=>⟨h1,h2.fst⟩⟩
section
variable {P:Program}{W w:World}{S F:List Own}{Φ Ψ:PW}
def wU(W:World)(o:Own)(M:List Nat)(w:World):Prop:=o.at w/\∀ b∈o.dom,b ∉ M/\W.heap.size<=b
instance a0l(D:List Nat)(Φ:PW)[aB Φ]:aB (λM w=>Φ (D++M) w):=⟨fun {M M' w w'} hs h =>
 aB.step (Φ:=Φ) (M:=D++M) (M':=D++M') ⟨hs.chg.mono λx hx=>List.mem_append_right _ hx,λb hb=>by
  rcases List.mem_append.1 hb with h|h
  .exact .inl (List.mem_append_left _ h)
  .rcases hs.sub b h with h|h
   .exact .inl (List.mem_append_right _ h)
   .exact .inr h⟩ h⟩
theorem Own.nodup(o:Own):o.dom.Nodup:=by
 cases o with
 | blk=>simp [Own.dom]
 | obj=>simp [Own.dom]
 | buf p=>cases p<;>simp [Own.dom]
theorem IW(o S):dom (o :: S)=o.dom++dom S:=rfl
theorem Ctx.b1D{o}(c:Ctx W w (o :: S) Φ):Ctx W w S (λM w=>Φ (o.dom++M) w/\wU W o M w) :=
 ⟨c.chg,λx hx=>c.own x (List.mem_cons_of_mem _ hx),λb hb=>c.PS b (by rw [IW];exact List.mem_append_right _ hb),
  (by have:=c.nodup;rw [IW,List.nodup_append] at this;exact this.2.1),c.uX,c.own o List.mem_cons_self,λb hb =>
   ⟨λhm=>by have:=c.nodup;rw [IW,List.nodup_append] at this;exact this.2.2 b hb b hm rfl,c.PS b (by rw [IW];exact List.mem_append_left _ hb)⟩⟩
theorem wU.sl{α}[Gv α]{M D p n cap cs t}{l:List α}(h:wU W (.buf p n cap cs t (Gv.ty α).size) M w)(he:dP (D++M) w cs l):Sl M w p l:=by
 obtain ⟨⟨h1,h2⟩,h3⟩:=h;have hpos:0<(Gv.ty α).size:=Gv.pos;intro j hj;have hle:(j+1)*(Gv.ty α).size<=cs.length:=by rw [he.1];exact Nat.mul_le_mul_right _ hj
 rw [Nat.add_mul,Nat.one_mul] at hle;rcases h2 with ⟨e,rfl⟩|⟨g,cap',cur,e,_,hg,hnc,hcm,hcs,rX⟩
 .rw [Nat.zero_mul] at h1;omega
 .cases e;refine ⟨g,0,(cs.drop (j*(Gv.ty α).size)).take (Gv.ty α).size,rfl,(h3 g (by simp [Own.dom])).1,λi hi=>?_,?_⟩
  .rw [Nat.zero_add];simp only [List.length_take,List.length_drop] at hi;rw [List.getElem_take,List.getElem_drop];have hlt:j*(Gv.ty α).size+i<cs.length:=by omega
   have h2:∀ k v,k<cs.length->cs[k]? = some v->cur[k]? = some v:=by
    intro k v hk hv;rw [<-rX,List.getElem?_take_of_lt (by omega)] at hv;simpa using hv
   have h2:=h2 _ _ hlt (List.getElem?_eq_getElem hlt);simp [World.cell?,hg,h2]
  .exact Gv.mZ ⟨lW.refl _ _,λb hb=>.inl (List.mem_append_right _ hb)⟩ (he.2 j hj)
def a3h(p:Option Addr)(n:Nat):Prop:=0<n->∃ b o,p=some ⟨b,o,none⟩
theorem Sl.there{α}[Gv α]{M w p}{l:List α}(h:Sl M w p l):a3h p l.length:=λh0=>by
 obtain ⟨b,o,_,h1,_⟩:=h 0 h0;exact ⟨b,o,h1⟩
theorem Sl.nil{α}[Gv α]{M w p}:Sl M w p ([]:List α):=λj hj=>by simp at hj
theorem cS.there{f args v p n}(nS:∀ M w,Φ M w->a3h p n)(h:a3h p n->cS Φ P f args v):cS Φ P f args v :=
 ⟨λW w S c=>(h (nS _ _ c.uX)).go W w S c⟩
def aEp(P:Program)(ts t:TypeId)(size bytes:Nat):Bool :=
 (match P.underlying ts with|some (.slice u)=>decide (u=t)|_=>false)&&(match P.info? t with
  | some i=>(match i.zero with|some z=>decide (z.cells.size=size)|none=>false)&&decide (i.size=size)&&decide (i.bytes=bytes)
  | none=>false)
theorem vT{ts t size bytes}(h:aEp P ts t size bytes=true):∃ i z,P.underlying ts=some (.slice t)/\P.info? t=some i/\i.zero=some z/\i.size=size/\z.cells.size=size/\i.bytes=bytes:=by
 unfold aEp at h;rw [Bool.and_eq_true] at h;obtain ⟨h1,h2⟩:=h;split at h1
 .rename_i u hu;have:u=t:=by simpa using h1
  subst this;split at h2
  .rename_i i hi;simp only [Bool.and_eq_true] at h2;obtain ⟨⟨h2,h3⟩,h4⟩:=h2;split at h2
   .rename_i z hz;exact ⟨i,z,hu,hi,hz,by simpa using h3,by simpa using h2,by simpa using h4⟩
   .cases h2
  .cases h2
 .cases h1
theorem vE{ats ty cs args v w w'}(h:(Builtin.append_ ats ty args).run P w=.ok v w'):Sem.run P (builtin Builtin.append ats ty cs args) w=.ok (.value v) w':=by
 unfold builtin;simp only [Sem.run_bind,h,Result.andThen,Sem.run_pure]
theorem Ctx.a2i[aB Φ]{b news t' p n cap cs t size bytes}(c:Ctx W w (.blk b news t' :: .buf p n cap cs t size :: S) Φ){ts ty kb}(hb:aEp P ts t size bytes=true)(h0:0<size)(hl:news.length=size)(h1:(news.all λu=>nM u)=true)(hlen:n<100000000)(hbytes:bytes<=1000):
  ∃ p' cap' w',Sem.run P (builtin Builtin.append #[ts,ts] ty kb #[.slice p n cap,.slice (some ⟨b,0,none⟩) 1 1]) w=.ok (.value (.slice p' (n+1) cap')) w'/\(∃ g,p'=some ⟨g,0,none⟩)/\Ctx W w' (.buf p' (n+1) cap' (cs++news) t size :: S) Φ:=by
 obtain ⟨i,z,e1,e2,e3,e4,e5,e6⟩:=vT hb;have hby:(n+1)*i.bytes<=100000000*1000:=Nat.mul_le_mul (by omega) (by omega);obtain ⟨p',cap',w',h2,c'⟩:=c.append 1 rfl (ty:=ty) e1 e2 e3 e4 e5 (a:=⟨b,0,none⟩) (m:=1) (c2:=1) (news:=news) (by omega) (by rw [hl,Nat.one_mul]) (λj u hj=>by rw [addr_add,Nat.zero_add];exact c.get 0 rfl hj)
  (λu hu=>List.all_eq_true.1 h1 u hu) (by omega) (by omega)
 refine ⟨p',cap',w',vE h2,?_,c'.drop1⟩;obtain ⟨g,hg,_⟩:=c'.oG 1 rfl (by rw [List.length_append];omega);exact ⟨g,hg⟩
theorem Ctx.MN[aB Φ](c:Ctx W w S Φ)(t size):Ctx W w (.buf none 0 0 [] t size :: S) Φ:=c.aDE t size
theorem wU.aWh{α}[Gv α]{M b cs t}{l:List α}(h:wU W (.blk b cs t) M w)(he:dP M w cs l):Sl M w (some ⟨b,0,none⟩) l:=by
 obtain ⟨h1,h2⟩:=h;have h1:wY w b cs t:=h1;intro j hj;have hle:(j+1)*(Gv.ty α).size<=cs.length:=by rw [he.1];exact Nat.mul_le_mul_right _ hj
 rw [Nat.add_mul,Nat.one_mul] at hle;refine ⟨b,0,(cs.drop (j*(Gv.ty α).size)).take (Gv.ty α).size,rfl,(h2 b (by simp [Own.dom])).1,λi hi=>?_,he.2 j hj⟩;simp only [List.length_take,List.length_drop] at hi;rw [Nat.zero_add,List.getElem_take,List.getElem_drop];exact h1.DU (List.getElem?_eq_getElem (by omega))
theorem Ctx.D5[aB Φ]{α}[Gv α]{b cs t}{l:List α}(c:Ctx W w (.blk b cs t :: S) Φ)(he:dP (dom (.blk b cs t :: S)) w cs l):Ctx W w S Φ/\Sl (dom S) w (some ⟨b,0,none⟩) l:=by
 have c':=c.b1D;refine ⟨c.drop1,c'.uX.2.aWh ⟨he.1,λj hj=>?_⟩⟩;exact Gv.mZ ⟨lW.refl _ _,λb hb=>.inl (by rw [IW];exact List.mem_append_right _ hb)⟩ (he.2 j hj)
theorem dP.one{α}[Gv α]{M cs}{x:α}(h1:Gv.rep M w cs x):dP M w cs [x]:=dP.snoc (l:=[]) (cs:=[]) dP.nil h1
end
section
variable {P:Program}{W w w':World}{S S' F:List Own}{Φ Ψ:PW}
theorem Ctx.swap[aB Φ]{a b}(c:Ctx W w (a :: b :: S) Φ):Ctx W w (b :: a :: S) Φ:=c.perm (List.Perm.swap _ _ _)
theorem Ctx.aH7(c:Ctx W w S Φ)(k:Nat){p n cap cs t size}(hk:S[k]? = some (.buf p n cap cs t size))(h0:0<cs.length):
  ∃ b cur,p=some ⟨b,0,none⟩/\wY w b cur t/\cur.take (n*size)=cs/\n<=cap/\cap<=maxLen/\cur.length=cap*size/\cs.length=n*size:=by
 obtain ⟨h1,h2⟩:=c.own _ (List.mem_of_getElem? hk);rcases h2 with ⟨e,rfl⟩|⟨g,cap',cur,e,_,hg,hnc,hcm,hcs,rX⟩
 .rw [Nat.zero_mul] at h1;omega
 .cases e;exact ⟨g,cur.toList,rfl,by simpa [wY] using hg,rX,hnc,hcm,by simpa using hcs,h1⟩
theorem Ctx.aAs(c:Ctx W w S Φ)(k:Nat){p n cap cs t size}(hk:S[k]? = some (.buf p n cap cs t size)){b o}(hp:p=some ⟨b,0,none⟩){vs}(hv:∀ j,(hj:j<vs.length)->cs[o+j]? = some vs[j]):bM w b o vs:=by
 intro j hj;have hlt:o+j<cs.length:=(List.getElem?_eq_some_iff.1 (hv j hj)).1;obtain ⟨b',h1,_,h2⟩:=c.oG k hk (by omega);rw [hp] at h1;cases h1;exact (h2 _ _ (hv j hj)).1
theorem Ctx.aAt(c:Ctx W w S Φ)(k:Nat){p n cap cs t size}(hk:S[k]? = some (.buf p n cap cs t size)){b o m}(hp:p=some ⟨b,0,none⟩)(hm:o+m<=cs.length):aG w b o m:=by
 intro j hj;obtain ⟨b',h1,_,h2⟩:=c.oG k hk (by omega);rw [hp] at h1;cases h1;have:=h2 (o+j) cs[o+j] (List.getElem?_eq_getElem (by omega));exact ⟨by rw [this.1];rfl,this.2⟩
theorem IX:∀ (vs:List Value) (cs:List Value) (o:Nat),(nN cs o vs).length=cs.length
 | [],_,_=>rfl
 | v :: r,cs,o=>by unfold nN;rw [IX r];simp
theorem a3i:∀ (vs:List Value) (cs:List Value) (o m:Nat),o+vs.length<=m->(nN cs o vs).take m=nN (cs.take m) o vs
 | [],_,_,_,_=>rfl
 | v :: r,cs,o,m,h=>by
  unfold nN;simp only [List.length_cons] at h;rw [a3i r _ _ _ (by omega),List.take_set]
theorem sM:∀ (vs:List Value) (cs:List Value) (o i:Nat),(i<o\/o+vs.length<=i)->(nN cs o vs)[i]? = cs[i]?
 | [],_,_,_,_=>rfl
 | v :: r,cs,o,i,h=>by
  unfold nN;simp only [List.length_cons] at h;rw [sM r _ _ _ (by omega),List.getElem?_set_ne (by omega)]
theorem RP:∀ (vs:List Value) (cs:List Value) (o i:Nat),i<vs.length->o+vs.length<=cs.length->(nN cs o vs)[o+i]? = vs[i]?
 | [],_,_,_,h,_=>by simp at h
 | v :: r,cs,o,0,h,hl=>by
  unfold nN;simp only [List.length_cons] at hl;rw [sM r _ _ _ (by omega),Nat.add_zero,List.getElem?_set_self (by omega)];rfl
 | v :: r,cs,o,i+1,h,hl=>by
  unfold nN;simp only [List.length_cons] at hl h;rw [show o+(i+1)=o+1+i by omega,RP r _ _ _ (by omega) (by simp;omega)];rfl
theorem Ctx.XZ[aB Φ](c:Ctx W w S Φ)(k){p n cap cs vs t size}(hk:S[k]? = some (.buf p n cap cs t size)){b o}(hp:p=some ⟨b,0,none⟩)(h0:0<cs.length)(ho:o+vs.length<=cs.length)(e:w'=w.setCells b o vs):Ctx W w' (S.set k (.buf p n cap (nN cs o vs) t size)) Φ:=by
 obtain ⟨b',cur,h1,hb,rX,hnc,hcm,tC,hl⟩:=c.aH7 k hk h0;rw [hp] at h1;cases h1;subst e;refine c.upd hk ((lW.refl _ _).setCells (by subst hp;simp [Own.dom]) o vs) (λx hx=>.inl (by subst hp;exact hx)) (by subst hp;simp [Own.dom]) ?_;have hb':=wY.sets vs o hb;refine ⟨by rw [IX,hl],.inr ⟨b,cap,(nN cur o vs).toArray,by rw [hp],Nat.zero_le _,hb',hnc,hcm,by simp [IX,tC],?_⟩⟩;rw [<-rX,a3i _ _ _ _ (by omega)]
theorem Sl.cells{α}[Gv α]{M p}{l:List α}(h:Sl M w p l)(h1:∀ M w cs (x:α),Gv.rep M w cs x->(cs.all λu=>nM u)=true)(h0:0<l.length):
  ∃ b o news,p=some ⟨b,o,none⟩/\news.length=l.length*(Gv.ty α).size/\(∀ j u,news[j]? = some u->w.cell? ⟨b,o+j,none⟩=some u)/\dP M w news l/\(news.all λu=>nM u)=true:=by
 obtain ⟨b,o,_,hp,_⟩:=h 0 h0;have key:∀ k,k<=l.length->∃ news:List Value,news.length=k*(Gv.ty α).size/\(∀ j u,news[j]? = some u->w.cell? ⟨b,o+j,none⟩=some u)/\dP M w news (l.take k)/\(news.all λu=>nM u)=true:=by
  intro k
  induction k with
  | zero=>intro _;exact ⟨[],by simp,λj u hj=>by simp at hj,by rw [List.take_zero];exact dP.nil,rfl⟩
  | succ k ih =>
   intro hk;obtain ⟨news,g1,g2,g3,g4⟩:=ih (by omega);obtain ⟨b',o',cs,e1,_,e3,e4⟩:=h k (by omega);rw [hp] at e1;cases e1;have hlen:=Gv.len e4;refine ⟨news++cs,by rw [List.length_append,g1,hlen,Nat.add_mul,Nat.one_mul],λj u hj=>?_,?_,by rw [List.all_append,g4,h1 _ _ _ _ e4];rfl⟩
   .by_cases hlt:j<news.length
    .rw [List.getElem?_append_left hlt] at hj;exact g2 j u hj
    .rw [List.getElem?_append_right (by omega)] at hj;have hl2:j - news.length<cs.length:=(List.getElem?_eq_some_iff.1 hj).1;have:=e3 (j - news.length) hl2;rw [show o+k*(Gv.ty α).size+(j - news.length)=o+j by omega] at this;rw [this,<-hj,List.getElem?_eq_getElem hl2]
   .rw [List.take_succ_eq_append_getElem (by omega)];exact g3.snoc e4
 obtain ⟨news,g1,g2,g3,g4⟩:=key l.length (Nat.le_refl _);rw [List.take_length] at g3;exact ⟨b,o,news,hp,g1,g2,g3,g4⟩
theorem Ctx.aH8[aB Φ]{α}[Gv α]{q}{l:List α}{c2 p n cap cs t bytes}(c:Ctx W w (.buf p n cap cs t (Gv.ty α).size :: S) Φ){ts ty kb}(hb:aEp P ts t (Gv.ty α).size bytes=true)(h1:∀ M w cs (x:α),Gv.rep M w cs x->(cs.all λu=>nM u)=true)(mF:∀ M w,Φ M w->Sl M w q l)(h0:0<l.length)(hlen:n+l.length<100000000)(hbytes:bytes<=1000):
  ∃ p' cap' w' news,Sem.run P (builtin Builtin.append #[ts,ts] ty kb #[.slice p n cap,.slice q l.length c2]) w=.ok (.value (.slice p' (n+l.length) cap')) w'/\(∃ g,p'=some ⟨g,0,none⟩) /\
   Ctx W w' (.buf p' (n+l.length) cap' (cs++news) t (Gv.ty α).size :: S) (λM w=>Φ M w/\dP M w news l):=by
 obtain ⟨i,z,e1,e2,e3,e4,e5,e6⟩:=vT hb;have hby:(n+l.length)*i.bytes<=100000000*1000:=Nat.mul_le_mul (by omega) (by omega);obtain ⟨b,o,news,hp,g1,g2,g3,g4⟩:=(mF _ _ c.uX).cells h1 h0;obtain ⟨p',cap',w',h2,c'⟩:=(c.add (Ψ:=λM w=>dP M w news l) g3).append 0 rfl (ty:=ty) e1 e2 e3 e4 e5 (a:=⟨b,o,none⟩) (m:=l.length) (c2:=c2) (news:=news) h0 g1 (λj u hj=>by rw [addr_add];exact g2 j u hj)
  (λu hu=>List.all_eq_true.1 g4 u hu) (by omega) (by omega)
 have hpos:0<(Gv.ty α).size:=Gv.pos;have hl2:0<l.length*(Gv.ty α).size:=Nat.mul_pos h0 hpos;refine ⟨p',cap',w',news,by rw [hp];exact vE h2,?_,c'⟩;obtain ⟨g,hg,_⟩:=c'.oG 0 rfl (by rw [List.length_append];omega);exact ⟨g,hg⟩
end
section
variable {P:Program}{W w w':World}{S S' F:List Own}{Φ Ψ:PW}
theorem aB.less{Φ:PW}[aB Φ]{D M w}(h:Φ (D++M) w):Φ M w :=
 aB.step (Φ:=Φ) ⟨lW.refl _ _,λb hb=>.inl (List.mem_append_right _ hb)⟩ h
theorem Ctx.a43[aB Φ]{α}[Gv α]{q}{l:List α}{c2 k t bytes}(c:Ctx W w (.blk k [] t :: S) Φ){ts ty kb}(hb:aEp P ts t (Gv.ty α).size bytes=true)(h1:∀ M w cs (x:α),Gv.rep M w cs x->(cs.all λu=>nM u)=true)(mF:∀ M w,Φ M w->Sl M w q l)(hlen:l.length<100000000)(hbytes:bytes<=1000):
  ∃ p' cap' w' cs,Sem.run P (builtin Builtin.append #[ts,ts] ty kb #[.slice (some ⟨k,0,none⟩) 0 0,.slice q l.length c2]) w=.ok (.value (.slice p' l.length cap')) w' /\
   Ctx W w' (.buf p' l.length cap' cs t (Gv.ty α).size :: S) (λM w=>Φ M w/\dP M w cs l):=by
 have c':Ctx W w (.buf (some ⟨k,0,none⟩) 0 0 [] t (Gv.ty α).size :: S) Φ:=c.aNE 0 0 (Gv.ty α).size rfl (by simp) (by simp [maxLen]);rcases Nat.eq_zero_or_pos l.length with h0|h0
 .obtain ⟨i,z,e1,e2,e3,e4,e5,e6⟩:=vT hb;have hl:l=[]:=List.eq_nil_of_length_eq_zero h0;subst hl;exact ⟨_,_,w,[],vE (c'.aKR 0 rfl e1 e2 q c2),c'.add dP.nil⟩
 .obtain ⟨p',cap',w',news,h2,_,c3⟩:=c'.aH8 (ty:=ty) (kb:=kb) (c2:=c2) hb h1 mF h0 (by omega) hbytes;rw [Nat.zero_add] at h2 c3;exact ⟨p',cap',w',news,h2,c3⟩
def aWi(b o:Nat)(vs:List Value)(M:List Nat)(w:World):Prop:=b ∉ M/\bM w b o vs/\b<w.heap.size
theorem wU.aWj{M b o cs vs t}(h:wU W (.blk b cs t) M w)(hv:∀ j,(hj:j<vs.length)->cs[o+j]? = some vs[j]):aWi b o vs M w :=
 ⟨(h.2 b (by simp [Own.dom])).1,wY.row (show wY w b cs t from h.1) hv,Own.aGF h.1 b (by simp [Own.dom])⟩
def a44(W:World)(Q:List Own)(M:List Nat)(w:World):Prop:=(∀ o∈Q,o.at w)/\(dom Q).Nodup/\∀ b∈dom Q,b ∉ M/\W.heap.size<=b
instance aCD(W:World)(Q:List Own):aB (λM w=>a44 W Q M w):=⟨λhs h=>by
 have hlt:∀ b∈dom Q,b<_:=λb hb=>by
  obtain ⟨o,ho,hb⟩:=List.mem_flatMap.1 hb;exact Own.aGF (h.1 o ho) b hb
 exact ⟨λo ho=>Own.PR (h.1 o ho) λb hb=>hs.chg.block b (hlt b (oF ho hb)) (h.2.2 b (oF ho hb)).1,h.2.1,λb hb=>⟨λhm=>by
  rcases hs.sub b hm with h1|h1
  .exact (h.2.2 b hb).1 h1
  .have:=hlt b hb;omega,(h.2.2 b hb).2⟩⟩⟩
def j8(W:World)(Q:List Own)(Φ:PW):PW:=λM w=>Φ (dom Q++M) w/\a44 W Q M w
instance aGe(W:World)(Q:List Own)(Φ:PW)[aB Φ]:aB (j8 W Q Φ) :=
 have h1:aB (λM w=>Φ (dom Q++M) w):=a0l (dom Q) Φ
 cE (λM w=>Φ (dom Q++M) w) (λM w=>a44 W Q M w)
theorem Ctx.aside{Q}(c:Ctx W w (Q++S) Φ):Ctx W w S (j8 W Q Φ):=by
 have hd:=xC Q S;have hn:=c.nodup;rw [hd,List.nodup_append] at hn;refine ⟨c.chg,λx hx=>c.own x (List.mem_append_right _ hx),λb hb=>c.PS b (by rw [hd];exact List.mem_append_right _ hb),hn.2.1,?_,λo ho=>c.own o (List.mem_append_left _ ho),hn.1,λb hb=>⟨λhm=>hn.2.2 b hb b hm rfl,c.PS b (by rw [hd];exact List.mem_append_left _ hb)⟩⟩;have:=c.uX;rw [hd] at this;exact this
theorem Ctx.AX{Q}(c:Ctx W w S (j8 W Q Φ)):Ctx W w (Q++S) Φ:=by
 obtain ⟨h1,h2,h3,h4⟩:=c.uX;have hd:=xC Q S;refine ⟨c.chg,λx hx=>?_,λb hb=>?_,?_,by rw [hd];exact h1⟩
 .rcases List.mem_append.1 hx with hx|hx
  .exact h2 x hx
  .exact c.own x hx
 .rw [hd] at hb;rcases List.mem_append.1 hb with hb|hb
  .exact (h4 b hb).2
  .exact c.PS b hb
 .rw [hd,List.nodup_append];exact ⟨h3,c.nodup,λa ha b hb e=>by subst e;exact (h4 a ha).1 hb⟩
theorem j8.parked{Q M}(h:j8 W Q Φ M w){o}(ho:o∈Q):wU W o M w:=⟨h.2.1 o ho,λb hb=>h.2.2.2 b (oF ho hb)⟩
theorem j8.less[aB Φ]{Q M}(h:j8 W Q Φ M w):Φ M w:=aB.less h.1
theorem Ctx.re(c:Ctx W w S Φ)(e:S=S'):Ctx W w S' Φ:=e ▸ c
theorem Ctx.aQt{Q T G}(c:Ctx W w (Q++T++G) Φ):Ctx W w (T++G) (j8 W Q Φ):=Ctx.aside (c.re (aX _ _ _))
theorem Ctx.aH9{Q T G}(c:Ctx W w (T++G) (j8 W Q Φ)):Ctx W w (Q++T++G) Φ:=c.AX.re (aX _ _ _).symm
theorem Ctx.aIa(c:Ctx W w S Φ)(k:Nat){p n cap cs t size}(hk:S[k]? = some (.buf p n cap cs t size)){b i v}(hp:p=some ⟨b,0,none⟩)(hv:cs[i]? = some v):w.cell? ⟨b,i,none⟩=some v:=by
 obtain ⟨b',h1,_,h2⟩:=c.oG k hk (by have:=(List.getElem?_eq_some_iff.1 hv).1;omega);rw [hp] at h1;cases h1;exact (h2 _ _ hv).1
theorem a7t{α}[Gv α]{M p}{l:List α}{cap}(h:Sl M w p l)(k)(hc:l.length<=cap):Sl M w (dA p (Gv.ty α).size k cap) (l.drop k):=by
 intro j hj;rw [List.length_drop] at hj;obtain ⟨b,o,cs,rfl,h2,h3,h4⟩:=h (k+j) (by omega);refine ⟨b,o+k*(Gv.ty α).size,cs,?_,h2,?_,?_⟩
 .unfold dA;rw [if_neg (by omega)];simp [Addr.add]
 .rw [show o+k*(Gv.ty α).size+j*(Gv.ty α).size=o+(k+j)*(Gv.ty α).size by rw [Nat.add_mul];omega];exact h3
 .rw [List.getElem_drop];exact h4
end
end Go.Vc
end

section
namespace Go.Proofs.YtnlkemjhgdbfkaaGreatDoor
open Go.Vc
structure bT where
 term:Int
 data:ByteArray
instance:Gv bT:=Gv.via (β:=Int × ByteArray) (λx=>(x.term,x.data)) (λy=>⟨y.1,y.2⟩) (λ_=>rfl)
theorem aCE{x y:bT}:x=y ↔ (x.term=y.term/\x.data=y.data):=by cases x;cases y;simp
instance:DecidableEq bT:=λ_ _=>decidable_of_iff _ aCE.symm
structure bQ where
 kind:Int
 src:Int
 to:Int
 term:Int
 index:Int
 prev:Int
 aE:Int
 yes:Bool
 aF:List bT
instance:Gv bQ:=Gv.via (β:=Int × Int × Int × Int × Int × Int × Int × Bool × List bT) (λx=>(x.kind,x.src,x.to,x.term,x.index,x.prev,x.aE,x.yes,x.aF))
 (λy=>⟨y.1,y.2.1,y.2.2.1,y.2.2.2.1,y.2.2.2.2.1,y.2.2.2.2.2.1,y.2.2.2.2.2.2.1,y.2.2.2.2.2.2.2.1,y.2.2.2.2.2.2.2.2⟩) (λ_=>rfl)
structure mK where
 save:Bool
 term:Int
 aO:Int
 src:Int
 aF:List bT
 send:List bQ
abbrev kR:mK:=⟨false,0,0,0,[],[]⟩
abbrev nE(l:List bQ):mK:=⟨false,0,0,0,[],l⟩
structure dY where
 id:Nat
 term:Int
 aO:Int
 log:List bT
 role:Int
 aE:Nat
 cK:Nat->Bool
 next:Nat->Nat
 gJ:Nat->Nat
def qO:List bT->Int->Int->Bool
 | [],_,_=>true
 | x :: l,least,most=>if (decide (x.term<least)||decide (most<x.term)||decide (2000<(x.data.size:Int)))=true then false else qO l x.term most
def bE(l:List bT):Nat->Int
 | 0=>0
 | k+1=>match l[k]? with
  | some x=>x.term
  | none=>0
def aT(id:Nat):List Nat:=if id=0 then [1,2] else if id=1 then [0,2] else [0,1]
def put{α:Type}(f:Nat->α)(i:Nat)(x:α):Nat->α:=λj=>if j=i then x else f j
def r6(r:dY)(kind to:Int):bQ:=⟨kind,r.id,to,r.term,0,0,0,false,[]⟩
def entriesOf(r:dY)(to:Nat):bQ :=
 ⟨2,r.id,to,r.term,((r.next to - 1:Nat):Int),bE r.log (r.next to - 1),r.aE,false,(r.log.drop (r.next to - 1)).take 8⟩
def cU(r:dY):List bQ:=(aT r.id).map λi=>entriesOf r i
def dU(id:Nat)(term aO:Int)(log:List bT):dY:=⟨id,term,aO,log,0,0,λ_=>false,λ_=>0,λ_=>0⟩
def vU(r:dY)(to:Nat):bQ:=⟨0,r.id,to,r.term,r.log.length,bE r.log r.log.length,0,false,[]⟩
def eA(r:dY):dY × mK :=
 if r.role=2 then (r,nE (cU r))
 else if r.term=1099511627776 then (r,kR)
 else
  let r1:dY:={ r with term:=r.term+1,aO:=r.id,role:=1,cK:=λi=>decide (i=r.id) }
  (r1,⟨true,r1.term,r1.aO,0,[],(aT r.id).map λi=>vU r1 i⟩)
def iV(id:Nat)(m:bQ):Bool :=
 decide (0<=m.kind)&&decide (m.kind<=3)&&decide (m.to=id)&&decide (m.src≠id)&&decide (0<=m.src)&&decide (m.src<=2)&&decide (1<=m.term)&&decide (m.term<=1099511627776)&&decide (0<=m.index)&&decide (m.index<=4000) &&
  decide (0<=m.prev)&&decide (m.prev<=m.term) && !(decide (m.index=0)&&decide (m.prev≠0))&&decide (0<=m.aE)&&decide (m.aE<=4000)&&decide ((m.aF.length:Int)<=8)&&decide (m.index+(m.aF.length:Int)<=4000)&&qO m.aF (max 1 m.prev) m.term
def UF(r:dY)(m:bQ):Bool:=decide (bE r.log r.log.length<m.prev)||decide (m.prev=bE r.log r.log.length)&&decide ((r.log.length:Int)<=m.index)
def dI(r:dY)(m:bQ):dY × mK :=
 if (decide (m.term=r.term)&&(decide (r.aO = -1)||decide (r.aO=m.src))&&UF r m)=true then ({ r with aO:=m.src },nE [⟨1,r.id,m.src,r.term,0,0,0,true,[]⟩])
 else (r,nE [r6 r 1 m.src])
def b2n(b:Bool):Nat:=if b then 1 else 0
def pG(v:Nat->Bool):Nat:=b2n (v 0)+b2n (v 1)+b2n (v 2)
def dG(r:dY)(m:bQ):dY × mK :=
 if (decide (r.role≠1)||decide (m.term≠r.term) || !m.yes)=true then (r,kR)
 else
  let r1:dY:={ r with cK:=put r.cK m.src.toNat true }
  if pG r1.cK<2 then (r1,kR)
  else
   let r2:dY:={ r1 with role:=2,next:=λ_=>r.log.length+1,gJ:=λ_=>0 }
   (r2,nE (cU r2))
def agree:List bT->List bT->Nat
 | a :: l,b :: r=>if a.term=b.term then agree l r+1 else 0
 | _,_=>0
def pU(r:dY)(m:bQ):bQ:=⟨3,r.id,m.src,r.term,m.index+m.aF.length,0,0,true,[]⟩
def bA(r:dY)(m:bQ):dY × mK :=
 if m.term<r.term then (r,nE [r6 r 3 m.src])
 else if r.role=2 then (r,kR)
 else
  let r1:dY:={ r with role:=0 }
  if (decide ((r.log.length:Int)<m.index)||decide (bE r.log m.index.toNat≠m.prev))=true then (r1,nE [⟨3,r.id,m.src,r.term,min (r.log.length:Int) (m.index - 1),0,0,false,[]⟩])
  else
   let ix:=m.index.toNat
   let k:=agree (r.log.drop ix) m.aF
   let c:=max r.aE (min m.aE.toNat (ix+m.aF.length))
   if k<m.aF.length then
    if ix+k+1<=r.aE then (r1,kR)
    else ({ r1 with log:=r.log.take (ix+k)++m.aF.drop k,aE:=c },⟨false,0,0,((ix+k+1:Nat):Int),m.aF.drop k,[pU r m]⟩)
   else ({ r1 with aE:=c },nE [pU r m])
def C7(r:dY):Nat:=(aT r.id).foldl (λa i=>max a (r.gJ i)) 0
def b9(r:dY):dY:=if (decide (r.aE<C7 r)&&decide (bE r.log (C7 r)=r.term))=true then { r with aE:=C7 r } else r
def aV(r:dY)(m:bQ):dY × mK :=
 if (decide (r.role≠2)||decide (m.term≠r.term)||m.yes&&decide ((r.log.length:Int)<m.index))=true then (r,kR)
 else
  let f:=m.src.toNat
  if m.yes=false then
   let r1:dY:={ r with next:=put r.next f (max (r.gJ f+1) (min (r.next f - 1) (m.index.toNat+1))) }
   (r1,nE [entriesOf r1 f])
  else
   let mt:=max (r.gJ f) m.index.toNat
   let r1:dY:=b9 { r with gJ:=put r.gJ f mt,next:=put r.next f (mt+1) }
   if mt+1<=r.log.length then (r1,nE [entriesOf r1 f]) else (r1,kR)
def cX(r:dY)(m:bQ):dY × mK :=
 if iV r.id m=false then (r,kR)
 else
  let r1:dY:=if r.term<m.term then { r with term:=m.term,aO := -1,role:=0 } else r
  let x:dY × mK:=if m.kind=0 then dI r1 m else if m.kind=1 then dG r1 m else if m.kind=2 then bA r1 m else aV r1 m
  if (decide (x.1.term=r.term)&&decide (x.1.aO=r.aO))=true then x
  else (x.1,{ x.2 with save:=true,term:=x.1.term,aO:=x.1.aO })
def aL(r:dY)(data:ByteArray):dY × Int × Int × mK :=
 if r.role≠2 then (r,0,24,kR)
 else if 2000<(data.size:Int) then (r,0,1,kR)
 else if r.log.length=4000 then (r,0,6,kR)
 else
  let x:bT:=⟨r.term,data⟩
  let r1:dY:={ r with log:=r.log++[x] }
  (r1,((r.log.length+1:Nat):Int),0,⟨false,0,0,((r.log.length+1:Nat):Int),[x],cU r1⟩)
structure lI(l:List bT)(most:Int):Prop where
 lo:∀ x∈l,1<=x.term
 hi:∀ x∈l,x.term<=most
 data:∀ x∈l,x.data.size<=2000
 W8:∀ i j,i<=j->(hj:j<l.length)->(hi:i<l.length)->l[i].term<=l[j].term
structure dY.Ok(r:dY):Prop where
 id:r.id<=2
 mT:0<=r.term
 jD:r.term<=1099511627776
 yQ : -1<=r.aO
 yR:r.aO<=2
 log:lI r.log r.term
 len:r.log.length<=4000
 role:r.role=0\/r.role=1\/r.role=2
 aE:r.aE<=r.log.length
 next:r.role=2->∀ i,1<=r.next i/\r.next i<=r.log.length+1/\r.gJ i<=r.log.length
 bound:∀ i,r.next i<=4001/\r.gJ i<=4000
end Go.Proofs.YtnlkemjhgdbfkaaGreatDoor
end

section
namespace Go.Vc
open Go.ChangeShapes Go.WideShapes Go.RowKit
section
variable {H:Type}{enc:TypeId × Value->H}{P:Program}{W:World}
theorem aL4{α}[Gv α](d){t v x ps}(hty:Ty.is P d (Gv.ty α) t=true)(h:DataW.Trod enc P W 0 (λ_=>true) true t v x ps):∃ y:α,Gv.rep [] W v.cells.toList y:=by
 obtain ⟨fuel,h⟩:=h;exact Gv.opens.ap hty h
theorem aCF{α}[Gv α](d){t e v r base x ps}(ht:P.underlying t=some (.slice e))(hv:Value.okWide P W r base t v)(hty:Ty.is P d (Gv.ty (List α)) t=true)(h:DataW.Trod enc P W 0 (λ_=>true) true t v x ps):∃ (p:Option Addr) (cap:Nat) (l:List α),v=.slice p l.length cap/\l.length<=cap/\cap<=maxLen/\Sl [] W p l:=by
 obtain ⟨a,len,cap,rfl⟩:=okWide_slice ht hv;obtain ⟨l,hl⟩:=aL4 (α:=List α) d hty h;obtain ⟨p,c,e,h1,h2,h3⟩:=a6t.1 hl;simp only [Value.cells,List.cons.injEq,Value.slice.injEq,and_true] at e;obtain ⟨rfl,rfl,rfl⟩:=e;exact ⟨a,cap,l,rfl,h1,h2,h3⟩
theorem cS.law{Φ f args}(h:cS Φ P f args (.bool true))(h0:Φ [] W):Calls P f args W λe W'=>∃ u,e=.returned u/\(u=.bool true/\lW [] W W') :=
 (h.go W W [] (Ctx.start W h0)).mono λe w' ⟨h1,h2⟩=>⟨_,h1,rfl,h2.chg⟩
end
end Go.Vc
end

section
namespace Go.Vc
open Go.RowKit Go.Shelf
section
variable {P:Program}{W w w':World}{S R F:List Own}{Φ Ψ:PW}
theorem Ctx.lose[aB Φ](c:Ctx W w (R++S) Φ)(h:lW (dom R) w w'):Ctx W w' S Φ:=by
 have hn:=c.nodup;rw [xC,List.nodup_append] at hn;refine c.go ⟨h.mono λx hx=>by rw [xC];exact List.mem_append_left _ hx,λb hb=>.inl (by rw [xC];exact List.mem_append_right _ hb)⟩ (λo ho=>?_) hn.2.1;exact Own.PR (c.own o (List.mem_append_right _ ho)) λb hb=>h.block b (c.lt (oF (List.mem_append_right _ ho) hb)) λhm=>hn.2.2 b hm b (oF ho hb) rfl
theorem Ctx.aQu[aB Φ]{p n cap cs e}(c:Ctx W w (.buf p n cap cs e 1 :: S) Φ){t u ty kb i}(ht:P.underlying t=some (.slice e))(hu:P.underlying u=some .string)(hi:P.info? e=some i)(hz:i.zero=some (.int .u8 0))(hsize:i.size=1)(hby:i.bytes=1)(s)(hb:n+s.size<=140737488355328)(h63:n+s.size<=maxLen):
  ∃ p' cap' w',Sem.run P (builtin Builtin.append #[t,u] ty kb #[.slice p n cap,.string s]) w=.ok (.value (.slice p' (n+s.size) cap')) w'/\Ctx W w' (.buf p' (n+s.size) cap' (cs++Lib.strCells s) e 1 :: S) Φ:=by
 have hown:=c.own _ (List.mem_cons_self);obtain ⟨tC,hown⟩:=hown;have hxl:cs.length=n:=by simpa using tC
 have hlen:(cs++Lib.strCells s).length=(n+s.size)*1:=by rw [List.length_append,hxl,Lib.strCells_length,Nat.mul_one]
 have grown:∀ (old:Nat),old<n+s.size ->
   Ctx W (w.drew.alloc (.cells (cs.toArray++(Lib.strCells s).toArray++Builtin.zeroCells (Value.int .u8 0).cells (grownCap w (n+s.size) old e - (n+s.size))) e))
    (.buf (some ⟨w.heap.size,0,none⟩) (n+s.size) (grownCap w (n+s.size) old e) (cs++Lib.strCells s) e 1 :: S) Φ:=by
  intro old ho;have hge:=grownCap_ge w (n+s.size) old e;have hcm:grownCap w (n+s.size) old e<=maxLen:=grownCap_le_maxLen w (n+s.size) old e h63;have h:=c.upd (k:=0) (o':=.buf (some ⟨w.heap.size,0,none⟩) (n+s.size) (grownCap w (n+s.size) old e) (cs++Lib.strCells s) e 1) rfl (((lW.refl _ _).drewN 1).alloc (.cells (cs.toArray++(Lib.strCells s).toArray++Builtin.zeroCells (Value.int .u8 0).cells (grownCap w (n+s.size) old e - (n+s.size))) e)) (by simp [Own.dom]) (by simp [Own.dom])
   ⟨hlen,.inr ⟨w.heap.size,_,_,rfl,Nat.zero_le _,rV w.drew _,hge,hcm,?_,?_⟩⟩
  .exact h
  .have hz1:(Value.int IntKind.u8 0).cells.size=1:=rfl;simp only [Array.size_append,List.size_toArray,size_zeroCells,hz1,hxl,Lib.strCells_length];omega
  .simp only [Array.toList_append,aX];rw [<-aX,<-hlen];exact List.take_left
 rcases hown with ⟨e1,rfl⟩|⟨g,cap',cur,e1,_,hg,hnc,hcm,hcs,rX⟩
 .cases e1;have hx:cs=[]:=List.eq_nil_of_length_eq_zero hxl;subst hx;by_cases hm:s.size=0
  .have hn:Lib.strCells s=[]:=List.eq_nil_of_length_eq_zero (by rw [Lib.strCells_length];exact hm);refine ⟨none,0,w,vE ?_,by rw [hm,hn];exact c⟩;have hf:=Lib.run_firstCells_string (P:=P) w 1 s;rw [hm] at hf;simp [Builtin.append_,run_underlying ht,run_underlying hu,sizeOf,typeInfo,hi,hsize,Builtin.lenOf,hm,hf]
  .have hr:=run_append_nil_string (P:=P) w t u ty e i (.int .u8 0) ht hu hi hz s (by omega) (by omega) (by rw [hby];omega);have hgr:=grown 0 (by omega);simp only [Nat.zero_add,List.nil_append,Array.empty_append] at hgr ⊢;have e1:(s.data.map λb=>Value.int .u8 b.toNat)=(Lib.strCells s).toArray:=by
    apply Array.ext';simp [Lib.strCells]
   rw [e1] at hr;exact ⟨_,_,_,vE hr,hgr⟩
 .cases e1;have b63:cur.size=cap:=by simpa using hcs
  have ht':cur.toList.take n=cs:=by simpa using rX
  by_cases hroom:n+s.size<=cap
  .have hr:=Lib.run_append_room_string (P:=P) w t u ty e i ht hu hi hsize g n cap cur hg s hroom (by omega);refine ⟨_,_,_,vE hr,?_⟩;have h:=c.upd (k:=0) (w':=w.setRow g (cur.toList.take n++Lib.strCells s++cur.toList.drop (n+s.size)).toArray) (o':=.buf (some ⟨g,0,none⟩) (n+s.size) cap (cs++Lib.strCells s) e 1) rfl ⟨rfl,rfl,rfl,by simp,λb _ hb=>setRow_other w g b _ (by simpa [Own.dom] using hb)⟩ (by simp [Own.dom]) (by simp [Own.dom])
    ⟨hlen,.inr ⟨g,cap,_,rfl,Nat.zero_le _,setRow_heap w g cur _ e _ hg,hroom,hcm,?_,?_⟩⟩
   .exact h
   .simp only [List.size_toArray,List.length_append,List.length_take,List.length_drop,Array.length_toList,Lib.strCells_length];omega
   .rw [ht',<-hlen];exact List.take_left
  .have holds:∀ j u,cs[j]? = some u->w.cell? ((⟨g,0,none⟩:Addr).add j)=some u:=by
    intro j u hj;have hlt:j<cs.length:=(List.getElem?_eq_some_iff.1 hj).1;have h2:cur[j]? = some u:=by
     rw [<-ht',List.getElem?_take_of_lt (by omega)] at hj;simpa using hj
    rw [addr_add,Nat.zero_add];simp [World.cell?,hg,h2]
   have hr:=Lib.run_append_grow_string (P:=P) w t u ty e i (.int .u8 0) ht hu hi hz ⟨g,0,none⟩ n cap cs (by rw [hsize];simpa using hxl) holds s (by omega) (by omega) (by rw [hby];exact growslice_fits (by omega) (by omega));exact ⟨_,_,_,vE hr,grown cap (by omega)⟩
def Bd(T e:TypeId)(b:Nat)(l:List UInt8)(R:List Own):Prop :=
 ∃ (pa:Value) (p:Option Addr) (cap:Nat),(pa=.pointer none\/pa=.pointer (some ⟨b,0,none⟩))/\R=[.blk b [pa,.slice p l.length cap] T,.buf p l.length cap (Lib.byteCells l) e 1]
theorem Bd.fresh[aB Φ]{T e b}(c:Ctx W w (.blk b [.pointer none,.slice none 0 0] T :: S) Φ):Ctx W w ([.blk b [.pointer none,.slice none 0 0] T,.buf none 0 0 [] e 1]++S) Φ :=
 ((c.aDE e 1).perm (List.Perm.swap _ _ _))
theorem Bd.nil{T e b}:Bd T e b [] [.blk b [.pointer none,.slice none 0 0] T,.buf none 0 0 [] e 1]:=⟨.pointer none,none,0,.inl rfl,rfl⟩
end
section
open Go.Proofs
variable {P:Program}{ρ:Ren}
theorem aAu{a w D}(h:lW D a w){p}(hp:p.block∈D)(n):lW D a (w.freeze p n):=by
 refine h.trans (T:=D) ?_ (λx hx=>.inl hx);unfold World.freeze;split
 .exact lW.refl _ _
 .refine ⟨rfl,rfl,rfl,by simp,λk hk hn=>?_⟩;simp only [Array.getElem?_modify];rw [if_neg (λe=>hn (by rw [<-e];exact hp))]
set_option maxHeartbeats 1000000 in
set_option maxRecDepth 100000 in
theorem M1(L:Lays.n169 P ρ)(X:Builder.Extra P ρ)(b g cap pa l w)(h0:l≠[])(hbk:w.heap[b]? = some (.cells #[pa,.slice (some ⟨g,0,none⟩) l.length cap] (ρ.t 72) (0,0)))(hown:w.ownsRow 0 (ρ.t 5) 1 (.slice (some ⟨g,0,none⟩) l.length cap) l.length (Lib.byteCells l)):
  Calls P (ρ.f 169) #[.pointer (some ⟨b,0,none⟩)] w λe w'=>e=.returned (.string ⟨l.toArray⟩)/\lW [g] w w':=by
 have hl0:l.length≠0:=by simpa using h0
 obtain ⟨cur,hg,hnc,hcm,hcs,rX⟩:∃ cur,w.heap[g]? = some (.cells cur (ρ.t 5) (0,0))/\l.length<=cap/\cap<=maxLen/\cur.size=cap*1/\cur.toList.take (l.length*1)=Lib.byteCells l:=by
  rcases hown.2 with ⟨hv,_⟩|⟨g',cap',cur,hv,_,r⟩
  .cases hv
  .cases hv;exact ⟨cur,r⟩
 have c1:w.drew.cell? ⟨b,1,none⟩=some (.slice (some ⟨g,0,none⟩) l.length cap):=by
  have:w.drew.heap[b]? = some (.cells #[pa,.slice (some ⟨g,0,none⟩) l.length cap] (ρ.t 72) (0,0)):=hbk;rw [Lib.cell_of_heap this];rfl
 have hSD:(Builtin.unsafeSliceData_ #[(ρ.t 37)] (ρ.t 127) #[.slice (some ⟨g,0,none⟩) l.length cap]).run P w.drew=.ok (.pointer (some ⟨g,0,none⟩)) w.drew :=
  Lib.run_unsafeSliceData_row _ _ _ _ _ _ (by omega)
 have hUS:(Builtin.unsafeString_ #[(ρ.t 127),(ρ.t 3)] (ρ.t 9) #[.pointer (some ⟨g,0,none⟩),.int .i64 l.length]).run P w.drew=.ok (.string ⟨l.toArray⟩) (w.drew.freeze ⟨g,0,none⟩ l.length):=by
  refine Lib.run_unsafeString_row w.drew (ρ.t 127) (ρ.t 3) (ρ.t 9) (ρ.t 5) L.t127 X.cellsByte g cur.size (by have hg':w.drew.heap[g]? = some (.cells cur (ρ.t 5) (0,0)):=hg;simp [World.shape?,hg']) l h0 (by omega) (by unfold maxLen at hcm;omega) ?_;intro j x hx;have:=hown.cells (g:=g) rfl j (.int .u8 x.toNat) (by simp [Lib.byteCells,hx]);exact this
 have mixed:=L.mixed;have t72:=L.t72;have a72:=L.a72;have z72:=L.z72;have v72:=L.v72;have u72:=run_underlying L.t72;have t70:=L.t70;have a70:=L.a70;have z70:=L.z70;have v70:=L.v70;have u70:=run_underlying L.t70;have t37:=L.t37;have a37:=L.a37;have z37:=L.z37;have v37:=L.v37;have u37:=run_underlying L.t37;have t127:=L.t127;have a127:=L.a127;have z127:=L.z127;have v127:=L.v127;have aQv:=run_underlying L.t127
 have t3:=L.t3;have a3:=L.a3;have z3:=L.z3;have v3:=L.v3;have u3:=run_underlying L.t3;have t9:=L.t9;have a9:=L.a9;have z9:=L.z9;have v9:=L.v9;have u9:=run_underlying L.t9;have t5:=X.t5;have a5:=X.a5;have z5:=X.z5;have v5:=X.v5;have u5:=run_underlying X.t5
 go_enter L.f169,Body.n169_ntmps ρ
 go_wp2
 go_region_o
 all_goals (go_wp2;go_ret;exact ⟨rfl,aAu ((lW.refl _ _).drewN 1) (p:=⟨g,0,none⟩) (by simp) _⟩)
set_option maxHeartbeats 2000000 in
set_option maxRecDepth 100000 in
theorem OA(L:Lays.n169 P ρ)(X:Builder.Extra P ρ)(b p w)(hbk:w.heap[b]? = some (.cells #[p,.slice none 0 0] (ρ.t 72) (0,0))):
  Calls P (ρ.f 169) #[.pointer (some ⟨b,0,none⟩)] w λe w'=>e=.returned (.string ⟨#[]⟩)/\lW [] w w':=by
 have hUS:=Any.unsafeString_none L X;have c1:w.drew.cell? ⟨b,1,none⟩=some (.slice none 0 0):=by
  have:w.drew.heap[b]? = some (.cells #[p,.slice none 0 0] (ρ.t 72) (0,0)):=hbk;rw [Lib.cell_of_heap this];rfl
 have hSD:(Builtin.unsafeSliceData_ #[(ρ.t 37)] (ρ.t 127) #[.slice none 0 0]).run P w.drew=.ok (.pointer none) w.drew:=rfl;have mixed:=L.mixed;have t72:=L.t72;have a72:=L.a72;have z72:=L.z72;have v72:=L.v72;have u72:=run_underlying L.t72;have t70:=L.t70;have a70:=L.a70;have z70:=L.z70;have v70:=L.v70;have u70:=run_underlying L.t70;have t37:=L.t37;have a37:=L.a37;have z37:=L.z37;have v37:=L.v37;have u37:=run_underlying L.t37
 have t127:=L.t127;have a127:=L.a127;have z127:=L.z127;have v127:=L.v127;have aQv:=run_underlying L.t127;have t3:=L.t3;have a3:=L.a3;have z3:=L.z3;have v3:=L.v3;have u3:=run_underlying L.t3;have t9:=L.t9;have a9:=L.a9;have z9:=L.z9;have v9:=L.v9;have u9:=run_underlying L.t9;have t5:=X.t5;have a5:=X.a5;have z5:=X.z5;have v5:=X.v5;have u5:=run_underlying X.t5
 go_enter L.f169,Body.n169_ntmps ρ
 go_wp2
 go_region_o
 all_goals (go_wp2;go_ret;exact ⟨rfl,(lW.refl _ _).drewN 1⟩)
set_option maxHeartbeats 2000000 in
set_option maxRecDepth 100000 in
theorem GL(L:Lays.n169 P ρ)(X:Builder.Extra P ρ)(b g p cur w)(hbk:w.heap[b]? = some (.cells #[p,.slice (some ⟨g,0,none⟩) 0 0] (ρ.t 72) (0,0)))(hg:w.heap[g]? = some (.cells cur (ρ.t 5) (0,0))):
  Calls P (ρ.f 169) #[.pointer (some ⟨b,0,none⟩)] w λe w'=>e=.returned (.string ⟨#[]⟩)/\lW [] w w':=by
 have hUS:=Any.unsafeString_none L X;have hlt:b<w.heap.size:=by
  rcases Nat.lt_or_ge b w.heap.size with h'|h'
  .exact h'
  .simp [Array.getElem?_eq_none h'] at hbk
 have c1:w.drew.cell? ⟨b,1,none⟩=some (.slice (some ⟨g,0,none⟩) 0 0):=by
  have:w.drew.heap[b]? = some (.cells #[p,.slice (some ⟨g,0,none⟩) 0 0] (ρ.t 72) (0,0)):=hbk;rw [Lib.cell_of_heap this];rfl
 have hSD:(Builtin.unsafeSliceData_ #[(ρ.t 37)] (ρ.t 127) #[.slice (some ⟨g,0,none⟩) 0 0]).run P w.drew=.ok (.pointer (some ⟨w.drew.heap.size,0,none⟩)) (w.drew.alloc (.view ⟨g,0,none⟩ (ρ.t 5))) :=
  Lib.run_unsafeSliceData_zero w.drew _ _ (ρ.t 5) L.t127 ⟨g,0,none⟩ 0 ((ρ.t 5),cur.size) (by have hg':w.drew.heap[g]? = some (.cells cur (ρ.t 5) (0,0)):=hg;simp [World.shape?,hg'])
 have c2:(w.drew.alloc (.view ⟨g,0,none⟩ (ρ.t 5))).cell? ⟨b,1,none⟩=some (.slice (some ⟨g,0,none⟩) 0 0):=by
  have:(w.drew.alloc (.view ⟨g,0,none⟩ (ρ.t 5))).heap[b]? = _:=(Lib.alloc_old w.drew _ b hlt).trans hbk;rw [Lib.cell_of_heap this];rfl
 have c3:(w.alloc (.view ⟨g,0,none⟩ (ρ.t 5))).drew.cell? ⟨b,1,none⟩=some (.slice (some ⟨g,0,none⟩) 0 0):=c2;have c0:w.cell? ⟨b,1,none⟩=some (.slice (some ⟨g,0,none⟩) 0 0):=c1;have mixed:=L.mixed;have t72:=L.t72;have a72:=L.a72;have z72:=L.z72;have v72:=L.v72;have u72:=run_underlying L.t72;have t70:=L.t70;have a70:=L.a70;have z70:=L.z70;have v70:=L.v70;have u70:=run_underlying L.t70;have t37:=L.t37;have a37:=L.a37;have z37:=L.z37;have v37:=L.v37;have u37:=run_underlying L.t37
 have t127:=L.t127;have a127:=L.a127;have z127:=L.z127;have v127:=L.v127;have aQv:=run_underlying L.t127;have t3:=L.t3;have a3:=L.a3;have z3:=L.z3;have v3:=L.v3;have u3:=run_underlying L.t3;have t9:=L.t9;have a9:=L.a9;have z9:=L.z9;have v9:=L.v9;have u9:=run_underlying L.t9;have t5:=X.t5;have a5:=X.a5;have z5:=X.z5;have v5:=X.v5;have u5:=run_underlying X.t5
 go_enter L.f169,Body.n169_ntmps ρ
 go_wp2
 go_region_o
 all_goals (go_wp2;go_ret;exact ⟨rfl,((lW.refl _ _).drewN 1).alloc _⟩)
set_option maxHeartbeats 2000000 in
set_option maxRecDepth 100000 in
theorem M3(L:Lays.n169 P ρ)(X:Builder.Extra P ρ)(b g cap p w)(hc0:cap≠0)(hbk:w.heap[b]? = some (.cells #[p,.slice (some ⟨g,0,none⟩) 0 cap] (ρ.t 72) (0,0))):
  Calls P (ρ.f 169) #[.pointer (some ⟨b,0,none⟩)] w λe w'=>e=.returned (.string ⟨#[]⟩)/\lW [] w w':=by
 have hUS:=Any.unsafeString_none L X;have c1:w.drew.cell? ⟨b,1,none⟩=some (.slice (some ⟨g,0,none⟩) 0 cap):=by
  have:w.drew.heap[b]? = some (.cells #[p,.slice (some ⟨g,0,none⟩) 0 cap] (ρ.t 72) (0,0)):=hbk;rw [Lib.cell_of_heap this];rfl
 have hSD:(Builtin.unsafeSliceData_ #[(ρ.t 37)] (ρ.t 127) #[.slice (some ⟨g,0,none⟩) 0 cap]).run P w.drew=.ok (.pointer (some ⟨g,0,none⟩)) w.drew :=
  Lib.run_unsafeSliceData_row _ _ _ _ _ _ hc0
 clear hc0;have mixed:=L.mixed;have t72:=L.t72;have a72:=L.a72;have z72:=L.z72;have v72:=L.v72;have u72:=run_underlying L.t72;have t70:=L.t70;have a70:=L.a70;have z70:=L.z70;have v70:=L.v70;have u70:=run_underlying L.t70;have t37:=L.t37;have a37:=L.a37;have z37:=L.z37;have v37:=L.v37;have u37:=run_underlying L.t37;have t127:=L.t127;have a127:=L.a127;have z127:=L.z127;have v127:=L.v127;have aQv:=run_underlying L.t127
 have t3:=L.t3;have a3:=L.a3;have z3:=L.z3;have v3:=L.v3;have u3:=run_underlying L.t3;have t9:=L.t9;have a9:=L.a9;have z9:=L.z9;have v9:=L.v9;have u9:=run_underlying L.t9;have t5:=X.t5;have a5:=X.a5;have z5:=X.z5;have v5:=X.v5;have u5:=run_underlying X.t5
 go_enter L.f169,Body.n169_ntmps ρ
 go_wp2
 go_region_o
 all_goals (go_wp2;go_ret;exact ⟨rfl,(lW.refl _ _).drewN 1⟩)
theorem Bd.string{W w S R}{Φ:PW}[aB Φ]{b l}(L:Lays.n169 P ρ)(X:Builder.Extra P ρ)(h:Bd (ρ.t 72) (ρ.t 5) b l R)(c:Ctx W w (R++S) Φ){K}(hk:∀ w',Ctx W w' S Φ->K (.returned (.string ⟨l.toArray⟩)) w'):Calls P (ρ.f 169) #[.pointer (some ⟨b,0,none⟩)] w K:=by
 obtain ⟨pa,p,cap,hpa,rfl⟩:=h;have hbk:w.heap[b]? = some (.cells #[pa,.slice p l.length cap] (ρ.t 72) (0,0)):=c.blk 0 rfl;have hown:w.ownsRow 0 (ρ.t 5) 1 (.slice p l.length cap) l.length (Lib.byteCells l):=c.own _ (List.mem_cons_of_mem _ List.mem_cons_self);by_cases h0:l=[]
 .subst h0;rcases hown.2 with ⟨e,_⟩|⟨g,cap',cur,e,_,hg,_⟩
  .cases e;exact (OA L X b pa w hbk).mono λe w' ⟨he,hc⟩=>by subst he;exact hk w' (c.lose (hc.mono (by simp)))
  .cases e;by_cases hc0:cap=0
   .subst hc0;exact (GL L X b g pa cur w hbk hg).mono λe w' ⟨he,hc⟩=>by subst he;exact hk w' (c.lose (hc.mono (by simp)))
   .exact (M3 L X b g cap pa w hc0 hbk).mono λe w' ⟨he,hc⟩=>by subst he;exact hk w' (c.lose (hc.mono (by simp)))
 .have hl0:l.length≠0:=by simpa using h0
  obtain ⟨g,rfl⟩:∃ g,p=some ⟨g,0,none⟩:=by
   rcases hown.2 with ⟨_,hz⟩|⟨g,cap',cur,hv,_⟩
   .exact absurd hz hl0
   .cases hv;exact ⟨g,rfl⟩
  exact (M1 L X b g cap pa l w h0 hbk hown).mono λe w' ⟨he,hc⟩=>by subst he;exact hk w' (c.lose (hc.mono (by simp [dom,Own.dom])))
end
def Tab(P:Program)(name:String)(k:IntKind)(zs:List Int):PW:=λM w=>Lib.TabIs P w name k zs/\∀ g,P.globalNamed name=some g->g ∉ M
instance aKE(P:Program)(name:String)(k:IntKind)(zs:List Int):aB (Tab P name k zs):=⟨fun {M M' w w'} hs h=>by
 obtain ⟨h1,h2⟩:=h;unfold Lib.TabIs World.var? at h1;cases hg:P.globalNamed name with
 | none=>simp [hg] at h1
 | some g =>
  simp only [hg,Option.bind_some] at h1;have hlt:g<w.heap.size:=by
   rcases Nat.lt_or_ge g w.heap.size with h'|h'
   .exact h'
   .rw [Array.getElem?_eq_none h'] at h1;simp at h1
  refine ⟨?_,λg' hg' hm=>?_⟩
  .unfold Lib.TabIs World.var?;simp only [hg,Option.bind_some];rw [hs.chg.block g hlt (h2 g hg)];exact h1
  .rw [hg] at hg';cases hg';rcases hs.sub g hm with h|h
   .exact h2 g hg h
   .omega⟩
theorem Tab.start{P name k zs w}(h:Lib.TabIs P w name k zs):Tab P name k zs [] w:=⟨h,λ_ _=>by simp⟩
theorem aIb{w k os}:lW [] w (Sort.grow (w.drewN k) os) :=
 ⟨rfl,rfl,rfl,by show w.heap.size<=(w.heap++os).size;rw [Array.size_append];omega,λj hj _=>by
  show (w.heap++os)[j]? = w.heap[j]?;rw [Array.getElem?_append_left hj]⟩
theorem aL5{P f}{Φ : PW}[aB Φ]{name}(hI : ∀ (n : Int), -9223372036854775808 <= n -> n <= 9223372036854775807 -> ∀ w, Lib.TabIs P w name .u64 Lib.pow10Tab ->
   Calls P f #[.int .i64 n] w λe w'=>e=.returned (.string ⟨(Lib.itoa n).toArray⟩)/\∃ k os,w'=Sort.grow (w.drewN k) os)(nS:∀ M w,Φ M w->Tab P name .u64 Lib.pow10Tab M w)(n)(h:aY n):cS Φ P f #[.int .i64 n] (.string ⟨(Lib.itoa n).toArray⟩) :=
 ⟨λW w S c=>(hI n (by unfold aY at h;omega) (by unfold aY at h;omega) w (nS _ _ c.uX).1).mono λe w' ⟨he,k,os,hw⟩=>⟨he,by rw [hw];exact c.call aIb⟩⟩
open Go.ChangeShapes Go.WideShapes Go.ChangeAt
theorem a7u{H enc C os f fn s conds apart fresh handsOn tb ld}(own:ownKnob C.prog.godebug=none)(started:os.Started)(noInit:C.prog.inits.idxOf? f=none)(hfn:C.prog.funcs[f]? = some fn)(laid:laidOutB C.prog=true)(hvars:s.vars=[])(hspec:∀ ds:List (DataW H),ds.length=fn.params.toList.length->(s.fn H (ds++[])).results=[.lit (.bool true)]/\(s.fn H (ds++[])).args=ds/\(s.fn H (ds++[])).vars=[])(hres:fn.resultTypes=#[tb])(htb:C.prog.underlying tb=some .bool)(types:(fn.params.toList.all λt=>C.prog.readableRec t&&decide (t<C.prog.types.size))=true)(witness:∃ (w:World) (tape:Tape) (i:Input),w.os=os/\(w.forCall tape i).Shaped C.prog/\i.vars=[]/\Input.okWide C.prog (w.forCall tape i) .any w.heap.size f i /\
   ((s.pre enc C.prog fn conds apart (w.forCall tape i).memory i.args/\laidMetH C.prog ld (w.forCall tape i).memory)/\sizedMet enc C.prog fn (OpenSpec.ofChange s) apart (w.forCall tape i).memory i.args)/\Assume.holds {} C.prog (lone (Frame.enter C.prog f i.args .normal) [] (w.forCall tape i)))(contract:∀ (W:World) (base:Nat) (args:Array Value) (ds:List (DataW H)) (p:List MemPlace),
   (∀ (j:Nat) t v,fn.params[j]? = some t->args[j]? = some v->Value.okWide C.prog W .any base t v) ->
   DataW.TrodAll enc C.prog W 0 (λ_=>true) true fn.params.toList args.toList ds p ->
   conds.all (PathCond.test C.prog ⟨fn.params.toList,ds,s.plain.varTypes C.prog,[]⟩)=true->laidMetH C.prog ld W ->
   Calls C.prog f args W λe W'=>∃ u,e=.returned u/\(u=.bool true/\lW [] W W')):
  ReturnsInHanded {} C os f .any (λw args=>(s.pre enc C.prog fn conds apart w args/\laidMetH C.prog ld w)/\sizedMet enc C.prog fn (OpenSpec.ofChange s) apart w args) (s.post enc C.prog fn apart fresh handsOn false):=by
 refine returnsInHanded_of_change_and (X:=λw _=>laidMetH C.prog ld w) (λ_ _ _ hh h=>h.of_heap hh) own started noInit hfn witness ?_;intro W base args ds gs before hval hW b1J _ hL _;have hW':=hW;obtain ⟨p,q,hA,hV,rfl,_,_⟩:=hW;rw [hvars] at hV;obtain ⟨rfl,rfl⟩:=trodVars_none hV;simp only [List.append_nil] at hW';refine (contract W base args ds p hval hA b1J hL).mono λe W' ⟨u,he,hu,hc⟩=>?_;subst he;subst hu
 have hb:Below W.heap.size W W':=hc.below (Nat.le_refl _) (by simp);obtain ⟨e1,e2,e3⟩:=hspec ds (HB hA).2;refine ⟨_,rfl,ds,[],p,[],p,[],hW',?_,?_,?_,hb.frame _,λh=>by cases h⟩
 .rw [e1,hres];exact trodAll_mk1 (t:=tb) (v:=.bool true) ⟨1,by simp [DataW.trod,Value.cells,htb]⟩
 .rw [e2];exact MH laid hb types hA (λx hx=>by simpa using hW'.lt x hx)
 .rw [e3,hvars];rfl
end Go.Vc
end

