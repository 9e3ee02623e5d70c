/-
 The conditions of the walks of some functions,one formula each;'B<f>_run' says that they suffice. The formulas are printed by a program;the kernel compares them with the functions' code.
-/
import Derived.Test.YtnlkemjhgdbfkaaGreatDoorCu5
import Derived.Test.YtnlkemjhgdbfkaaGreatDoorCu4
import Derived.Test.YtnlkemjhgdbfkaaGreatDoorCu2
import Derived.Shelf.Strings.Builder1
import Derived.Shelf.Strconv.Itoa3
import Derived.Lib.AppendStr
import Derived.Lib.LaidTab
import Derived.LaidMore
import Derived.OpenShut
import Derived.Stop.Joined
import Derived.Shelf.Small.Strs
import Derived.Shelf.Small.Wraps
import Derived.Shelf.Strings.BuilderF
import Derived.Shelf.Strings.BuilderK
import Derived.Shelf.Strconv.Atoi
import Derived.Shelf.Strconv.Itoa0
import Derived.Shelf.Strconv.Itoa1
import Derived.Shelf.LaysM
import Derived.Shelf.Strconv.Itoa2
import Derived.Shelf.Strconv.AtoiErrFast
import Derived.Shelf.Strconv.ParseIntEmpty
import Derived.Shelf.Strconv.AtoiFail
import Derived.Shelf.Strconv.Clone
import Derived.Shelf.Strconv.SyntaxError
import Derived.Shelf.LaysC
import Derived.Shelf.Strconv.ToError
import Derived.Shelf.Strconv.Lower
import Derived.Shelf.Strconv.ParseUint10
import Derived.Shelf.Strconv.ParseUint10Empty
import Derived.Shelf.Strconv.ParseUint10Any
import Derived.Shelf.Strconv.ParseInt10
import Derived.Shelf.Strconv.AtoiLong
import Derived.Shelf.Strconv.AtoiInnerAll
import Derived.Shelf.Strconv.RangeError
import Derived.Shelf.Strconv.ToErrorRange
import Derived.Shelf.Strconv.AtoiAll
import Derived.Shelf.Strconv.ParseUintEmpty
import Derived.Shelf.Strconv.ParseUint10b64
import Derived.Shelf.Strconv.ParseUint10b32
import Derived.Shelf.Strconv.ParseUint10b16
import Derived.Shelf.Strconv.ParseUint10b8
import Derived.Shelf.Strconv.ParseUint10At
import Derived.Shelf.Strings.Search1
import Derived.Shelf.Strings.Prefix
import Derived.Shelf.Bits.Mul64
import Derived.Shelf.Slices.Turned
import Derived.Shelf.Slices.Clone
import Derived.Shelf.Slices.SearchI
import Derived.Shelf.SlicesE.Clone
import Derived.Test.YtnlkemjhgdbfkaaGreatDoorRows
open Go.Proofs.Tryz
set_option linter.unusedVariables false
set_option linter.unusedSimpArgs false
section
namespace Go.Proofs.YtnlkemjhgdbfkaaGreatDoor
set_option maxRecDepth 100000
open Go.Vc
def a9j:aY:=λW R Φ J=>
 Zc W R Φ F.a3x #[] λe2 q=>∃ p4,e2=.returned (.pointer p4)/\q λR5 fW=>∀ (k7:Nat),AJ λ(I8:Int->List Own->PW->Nat->Prop)=>(∃ R9 pK RO,aB pK/\Wk W (Own.blk k7 [Value.pointer none,Value.pointer none,Value.pointer none,Value.pointer none,Value.pointer none,Value.pointer none,Value.pointer none,Value.pointer none,Value.pointer none,Value.pointer none,Value.pointer none,Value.pointer none,Value.pointer p4,Value.slice none 0 0] 135 :: R5) fW (R9) pK/\I8 0 R9 pK RO)/\∀ RN NU I16 uG,aB I16->I8 RN NU I16 uG->Br (decide (RN<3)) (∃ VF YB,aB YB/\Wk W NU I16 VF YB/\∀ w22 R23,Ctx W w22 (NU++R23) I16->aG F.XP #[] w22 λe24 OR=>∃ p26,e24=.returned (.pointer p26)/\∃ VI a07,aB a07/\Ctx W OR (VI++R23) a07 /\ Wk W VI a07 VF YB/\(0<=RN/\RN<3)/\∀ w31 R32,Ctx W w31 (VI++R32) a07->aH w31 k7 (0+RN.toNat*4) 1/\∀ (w33:World),w33=w31.setCell (aJ k7 (0+RN.toNat*4)) (Value.pointer p26)->∃ LF xS,aB xS/\Ctx W w33 (LF++R32) xS/\(0<=RN/\RN<3)/\Zc W LF xS F.rF #[.pointer (aO k7 (0+RN.toNat*4)),aA RN] λe38 q=>∃ n40,e38=.returned (aA n40)/\q λR41 a3I=>bE (RN+1)/\Zb W R41 a3I uG (I8 (RN+1))) (Zr W NU I16 J (.pointer (aO k7 0)))
theorem YI:bZ F.JH #[] a9j:=cA { keep:=some [0,1,2,6,7],gC:=[(5,[.held [(0,true),(1,true),(3,true),(4,true),(2,false)],.bW [5] none,.bW [6] (some 7)])],loops:=[(3,[(6,.one (.int .i64))],[])] } λ_ _ _ _=>by kernel_rfl
def DS(gB gO:Nat):aY:=λW R Φ J=>
 Zd W R Φ λw0=>∃ p2 k3 k4,w0.cell? (aJ gB (gO+13))=some (.slice p2 k3 k4)/\Zc W R Φ F.iS #[.slice p2 k3 k4] λe7 q=>∃ p9 CY RO,e7=.returned (.slice p9 CY RO)/\q λFZ BN=>Zr W FZ BN J (.slice p9 CY RO)
theorem nF(gB gO):bZ F.dZ #[.pointer (aO gB gO)] (DS gB gO):=cA { keep:=some [0,2] } λ_ _ _ _=>by kernel_rfl
def PO(gB gO:Nat):aY:=λW R Φ J=>
 Zd W R Φ λw0=>∃ p2,w0.cell? (aJ gB (gO+12))=some (.pointer p2)/\Zc W R Φ F.DD #[.pointer p2] λe5 q=>e5=.returned (Value.tuple #[])/\q λR7 JL=>Zr W R7 JL J (Value.tuple #[])
theorem F6(gB gO):bZ F.tC #[.pointer (aO gB gO)] (PO gB gO):=cA { keep:=some [] } λ_ _ _ _=>by kernel_rfl
def VN(gB gO:Nat)(id:Int):aY:=λW R Φ J=>
 Zc W R Φ F.mY #[.pointer (aO gB gO),aA id] λe2 q=>∃ n4,e2=.returned (aA n4)/\q λR5 fW=>Zr W R5 fW J (.bool (decide (n4=0)))
theorem KG(gB gO id):bZ F.mW #[.pointer (aO gB gO),.int .i64 id] (VN gB gO id):=cA { keep:=some [0,1,4] } λ_ _ _ _=>by kernel_rfl
def KH(gB gO:Nat)(id:Int)(most:Int):aY:=λW R Φ J=>
 Zc W R Φ F.tF #[.pointer (aO gB gO),aA id] λe2 q=>∃ n4,e2=.returned (aA n4)/\q λR5 fW=>AJ λ(I7:Int->List Own->PW->Nat->Prop)=>(Zs W R5 fW (I7 0))/\∀ RM R14 I15 XQ,aB I15->I7 RM R14 I15 XQ->Br (decide (RM<most)) (Zc W R14 I15 F.oJ #[.pointer (aO gB gO)] λe19 q=>∃ n21,e19=.returned (aA n21)/\q λVE F0=>Br (decide (0<n21)) (∀ JN R25,Ctx W JN (VE++R25) F0->aG F.oK #[.pointer (aO gB gO),aA 0] JN λe26 w27=>∃ n28,e26=.returned (aA n28)/\∃ Y9 wM,aB wM/\Ctx W w27 (Y9 ++ R25) wM/\bE (RM+1)/\Zb W Y9 wM XQ (I7 (RM+1))) (Zr W VE F0 J (aA RM))) (Zr W R14 I15 J (aA RM))
theorem BW(gB gO id most):bZ F.cF #[.pointer (aO gB gO),.int .i64 id,.int .i64 most] (KH gB gO id most):=cA { keep:=some [0,1,2,6,7,18],split:=[3],loops:=[(3,[(7,.one (.int .i64))],[])] } λ_ _ _ _=>by kernel_rfl
def PR(gB gO:Nat)(id:Int):aY:=λW R Φ J=>
 Zc W R Φ F.mW #[.pointer (aO gB gO),aA id] λe2 q=>∃ c4,e2=.returned (.bool c4)/\q λR5 fW=>Br (!c4) (Zr W R5 fW J (aA (-1))) ((0<=id/\id<3)/\Zd W R5 fW λw9=>∃ VM,w9.cell? (aJ gB (gO+id.toNat*4+3))=some (.pointer VM)/\Zc W R5 fW F.gN #[.pointer VM] λe14 q=>∃ n16,e14=.returned (aA n16)/\q λtJ rX=>Zr W tJ rX J (aA n16))
theorem F7(gB gO id):bZ F.tD #[.pointer (aO gB gO),.int .i64 id] (PR gB gO id):=cA { keep:=some [0,1,4,8] } λ_ _ _ _=>by kernel_rfl
def H8(gB gO:Nat)(id:Int)(data:ByteArray):aY:=λW R Φ J=>
 Zc W R Φ F.mY #[.pointer (aO gB gO),aA id] λe2 q=>∃ n4,e2=.returned (aA n4)/\q λR5 fW=>Br (decide (n4≠0)) (Zr W R5 fW J (Value.tuple #[aA 0,aA n4])) ((0<=id/\id<3)/\Zd W R5 fW λw9=>∃ VM,w9.cell? (aJ gB (gO+id.toNat*4+3))=some (.pointer VM)/\Zc W R5 fW F.jW #[.pointer VM,.string data] λe14 q=>∃ n16 n17 c18 n19 n20 n21 p22 k23 k24 p25 k26 k27,e14=.returned (Value.tuple #[aA n16,aA n17,Value.agg #[.bool c18,aA n19,aA n20,aA n21,.slice p22 k23 k24,.slice p25 k26 k27]])/\q λR28 XX=>∀ (b:Nat),Br (decide (n17=0)) (Zc W R28 XX F.mZ #[.pointer (aO gB gO),aA id,Value.agg #[.bool c18,aA n19,aA n20,aA n21,.slice p22 k23 k24,.slice p25 k26 k27]] λe32 q=>∃ n34,e32=.returned (aA n34)/\q λR35 aC7=>Br (decide (n34≠0)) (Zr W R35 aC7 J (Value.tuple #[aA 0,aA n34])) (Zr W R35 aC7 J (Value.tuple #[aA n16,aA 0]))) (Br (decide (n17≠0)) (Zr W R28 XX J (Value.tuple #[aA 0,aA n17])) (Zr W R28 XX J (Value.tuple #[aA n16,aA 0]))))
theorem B0(gB gO id data):bZ F.dK #[.pointer (aO gB gO),.int .i64 id,.string data] (H8 gB gO id data):=cA { keep:=some [0,1,2,6,7,8,9,10,11,16,32,38],gM:=[11] } λ_ _ _ _=>by kernel_rfl
def MV(gB gO:Nat)(mask:Int):aY:=λW R Φ J=>
 Zd W R Φ λw0=>∃ p2,w0.cell? (aJ gB (gO+12))=some (.pointer p2)/\Zc W R Φ F.AM #[.pointer p2,aA mask] λe5 q=>e5=.returned (Value.tuple #[])/\q λR7 JL=>Zr W R7 JL J (Value.tuple #[])
theorem DT(gB gO mask):bZ F.rE #[.pointer (aO gB gO),.int .i64 mask] (MV gB gO mask):=cA { keep:=some [] } λ_ _ _ _=>by kernel_rfl
def SW(gB gO:Nat)(id:Int):aY:=λW R Φ J=>
 Zc W R Φ F.mW #[.pointer (aO gB gO),aA id] λe2 q=>∃ c4,e2=.returned (.bool c4)/\q λR5 fW=>Br (!c4) (Zr W R5 fW J (.slice none 0 0)) ((0<=id/\id<3)/\Zd W R5 fW λw9=>∃ VM,w9.cell? (aJ gB (gO+id.toNat*4+3))=some (.pointer VM)/\Zc W R5 fW F.jV #[.pointer VM] λe14 q=>∃ p16 uG k18,e14=.returned (.slice p16 uG k18)/\q λyP oP=>Zr W yP oP J (.slice p16 uG k18))
theorem H9(gB gO id):bZ F.lU #[.pointer (aO gB gO),.int .i64 id] (SW gB gO id):=cA { keep:=some [0,1,4,8] } λ_ _ _ _=>by kernel_rfl
def PS(gB gO:Nat)(id:Int):aY:=λW R Φ J=>
 Zc W R Φ F.mW #[.pointer (aO gB gO),aA id] λe2 q=>∃ c4,e2=.returned (.bool c4)/\q λR5 fW=>Br (!c4) (Zr W R5 fW J (aA 0)) ((0<=id/\id<3)/\Zd W R5 fW λw9=>∃ VM,w9.cell? (aJ gB (gO+id.toNat*4+3))=some (.pointer VM)/\Zc W R5 fW F.nA #[.pointer VM] λe14 q=>∃ n16 n17,e14=.returned (Value.agg #[aA n16,aA n17])/\q λVF YB=>Zr W VF YB J (aA n16))
theorem F8(gB gO id):bZ F.tE #[.pointer (aO gB gO),.int .i64 id] (PS gB gO id):=cA { keep:=some [0,1,4,8] } λ_ _ _ _=>by kernel_rfl
def HA(gB gO:Nat):aY:=λW R Φ J=>
 Zd W R Φ λw0=>∃ p2,w0.cell? (aJ gB (gO+12))=some (.pointer p2)/\Zc W R Φ F.AO #[.pointer p2] λe5 q=>∃ n7,e5=.returned (aA n7)/\q λR8 Φ9=>Zr W R8 Φ9 J (aA n7)
theorem B1(gB gO):bZ F.oJ #[.pointer (aO gB gO)] (HA gB gO):=cA { keep:=some [0,2] } λ_ _ _ _=>by kernel_rfl
def aGT:aY:=λW R Φ J=>
 ∀ (k0:Nat) (w1:World) (R2:List Own),Ctx W w1 (Own.blk k0 [.slice none 0 0,aA 0] 251 :: R++R2) Φ->J (.pointer (aO k0 0)) w1
theorem a3Q:bZ F.a3x #[] aGT:=cA { keep:=some [0] } λ_ _ _ _=>by kernel_rfl
def MW(mB mO:Nat)(id:Int):aY:=λW R Φ J=>
 ∀ (k0 k1 k2 k3:Nat) w4 R5,Ctx W w4 (Own.blk k3 [Value.func (Fn.func 190) #[] #[.pointer (aO k0 0)],Value.func (Fn.func 192) #[] #[.pointer (aO k0 0),.pointer (aO k1 0)],Value.func (Fn.func 193) #[] #[.pointer (aO k0 0),.pointer (aO k2 0)]] 258 :: Own.blk k2 [Value.pointer none] 129 :: Own.blk k1 [Value.pointer none] 128 :: Own.blk k0 [Value.pointer (aO mB mO)] 139 :: R++R5) Φ->aG F.zN #[.slice (aO k3 0) 3 3] w4 λe6 w7=>∃ n8,e6=.returned (aA n8)/\∃ R9 pK,aB pK/\Ctx W w7 (R9++R5) pK/\Br (decide (n8=0)) (∃ RR KI,aB KI/\Wk W R9 pK RR KI/\∃ (DK:Option Addr),(Zd W RR KI λK7=>∃ p18,K7.cell? (aJ k0 0)=some (.pointer p18)/\Value.pointer p18 = Value.pointer DK)/\∃ (p19:Option Addr),(Zd W RR KI λw20=>∃ p22,w20.cell? (aJ k0 0)=some (.pointer p22)/\Value.pointer p22=Value.pointer p19)/\∃ (p23:Option Addr),(Zd W RR KI λJN=>∃ p26,JN.cell? (aJ k0 0)=some (.pointer p26)/\Value.pointer p26=Value.pointer p23)/\∃ (p27:Option Addr),(Zd W RR KI λw28=>∃ p30,w28.cell? (aJ k1 0)=some (.pointer p30)/\Value.pointer p30=Value.pointer p27)/\∃ (p31:Option Addr),(Zd W RR KI λw32=>∃ p34,w32.cell? (aJ k2 0)=some (.pointer p34)/\Value.pointer p34=Value.pointer p31)/\∃ (p35:Option Addr),(Zd W RR KI λw36=>∃ p38,w36.cell? (aJ k2 0)=some (.pointer p38)/\Value.pointer p38=Value.pointer p35)/\∃ (p39:Option Addr),(Zd W RR KI λw40=>∃ p42,w40.cell? (aJ k1 0)=some (.pointer p42)/\Value.pointer p42=Value.pointer p39)/\Zc W R9 pK F.MK #[.pointer p35] λe45 q=>∃ n47 n48,e45=.returned (Value.agg #[aA n47,aA n48])/\q λXU yM=>Wk W XU yM RR KI/\Zc W XU yM F.AN #[.pointer p39] λe55 q=>∃ p57 k58 k59,e55=.returned (.slice p57 k58 k59)/\q λR60 aC5=>Wk W R60 aC5 RR KI/\Zc W R60 aC5 F.FW #[aA id,Value.agg #[aA n47,aA n48],Value.slice p57 k58 k59] λe66 q=>∃ p68,e66=.returned (.pointer p68)/\q λR69 a0T=>Wk W R69 a0T RR KI /\ vX none DK λk73 k74=>∀ w75 R76,Ctx W w75 (R69++R76) a0T->aH w75 k73 (k74+1) 1/\∀ w77,w77=w75.setCell (aJ k73 (k74+1)) (Value.pointer p27)->∃ R78 Y0,aB Y0/\Ctx W w77 (R78++R76) Y0/\Wk W R78 Y0 RR KI/\vX none p19 λk82 k83=>∀ w84 R85,Ctx W w84 (R78++R85) Y0->aH w84 k82 (k83+2) 1/\∀ w86,w86=w84.setCell (aJ k82 (k83+2)) (Value.pointer p31)->∃ R87 a6l,aB a6l/\Ctx W w86 (R87++R85) a6l/\Wk W R87 a6l RR KI/\vX none p23 λk91 k92=>∀ w93 R94,Ctx W w93 (R87++R94) a6l->aH w93 k91 (k92+3) 1/\∀ w95,w95=w93.setCell (aJ k91 (k92+3)) (Value.pointer p68)->∃ R96 a8Y,aB a8Y/\Ctx W w95 (R96++R94) a8Y/\Zr W R96 a8Y J (aA n8)) (Zr W R9 pK J (aA n8))
theorem DU(mB mO id):bZ F.rF #[.pointer (aO mB mO),.int .i64 id] (MW mB mO id):=cA { keep:=some [1,2,4,5,6,7,14],gC:=[(5,[.held [(0,true),(1,true),(2,true),(3,true),(4,true),(5,true),(6,true),(8,true),(7,false),(9,false),(10,false),(11,true),(12,true),(13,false),(14,true),(15,true),(16,false)],.bW [17] none,.bW [18] (some 19)])] } λ_ _ _ _=>by kernel_rfl
def PT(gB gO:Nat)(id:Int):aY:=λW R Φ J=>
 Zc W R Φ F.nV #[.pointer (aO gB gO),aA id,Value.func (Fn.func 198) #[] #[]] λe2 q=>∃ n4,e2=.returned (aA n4)/\q λR5 fW=>Zr W R5 fW J (aA n4)
theorem F9(gB gO id):bZ F.tF #[.pointer (aO gB gO),.int .i64 id] (PT gB gO id):=cA { keep:=some [0,1,4] } λ_ _ _ _=>by kernel_rfl
def HB(gB gO:Nat)(i:Int):aY:=λW R Φ J=>
 Zd W R Φ λw0=>∃ p2,w0.cell? (aJ gB (gO+12))=some (.pointer p2)/\Zc W R Φ F.vD #[.pointer p2,aA i] λe5 q=>∃ n7 n8 s9 n10,e5=.returned (Value.tuple #[Value.agg #[aA n7,aA n8,.string s9],aA n10])/\q λRR KI=>∀ (k13:Nat) XV NU,Ctx W XV (Own.blk k13 [aA 0,aA 0,Value.string (ByteArray.mk #[])] 267 :: RR++NU) KI->aH XV k13 0 3/\∀ K7,K7=XV.setCells k13 0 [aA n7,aA n8,.string s9]->∃ tJ rX,aB rX/\Ctx W K7 (tJ++NU) rX/\Br (decide (n10≠0)) (Zr W tJ rX J (aA n10)) (Zd W tJ rX λRP=>∃ n23,RP.cell? (aJ k13 1)=some (aA n23)/\Zc W tJ rX F.nV #[.pointer (aO gB gO),aA n23,Value.func (Fn.func 200) #[] #[.pointer (aO k13 0)]] λe26 q=>∃ n28,e26=.returned (aA n28)/\q λY9 wM=>Zr W Y9 wM J (aA n28))
theorem B2(gB gO i):bZ F.oK #[.pointer (aO gB gO),.int .i64 i] (HB gB gO i):=cA { keep:=some [0,1,4,5,6,17] } λ_ _ _ _=>by kernel_rfl
def wO(sP:Option Addr)(sN sC:Nat):aY:=λW R Φ J=>
 Br sP.isNone (Zr W R Φ J (.slice none 0 0)) (∀ (k2:Nat) w3 R4,Ctx W w3 (Own.blk k2 [] 9 :: R++R4) Φ->∃ p5 k6 k7 w8,Sem.run prog (builtin Builtin.append #[40,40] 40 #[false,false] #[.slice (aO k2 0) 0 0,.slice sP sN sC]) w3=.ok (.value (.slice p5 k6 k7)) w8/\∃ R9 pK,aB pK/\Ctx W w8 (R9++R4) pK/\Zr W R9 pK J (.slice p5 k6 k7))
theorem rY(sP sN sC):bZ F.iS #[.slice sP sN sC] (wO sP sN sC):=cA { keep:=some [0,2,4] } λ_ _ _ _=>by kernel_rfl
def a1h(nB nO:Nat):aY:=λW R Φ J=>
 ∀ w0 R1,Ctx W w0 (R++R1) Φ->aH w0 nB (nO+1) 1/\∀ w2,w2=w0.setCell (aJ nB (nO+1)) (aA 0)->∃ R3 W4,aB W4/\Ctx W w2 (R3++R1) W4/\Zr W R3 W4 J (Value.tuple #[])
theorem PU(nB nO):bZ F.DD #[.pointer (aO nB nO)] (a1h nB nO):=cA { keep:=some [] } λ_ _ _ _=>by kernel_rfl
def VO(gB gO:Nat)(id:Int):aY:=λW R Φ J=>
 Zd W R Φ λw0=>Br (decide (id<0)||decide (3<=id)) (Zr W R Φ J (aA 1)) ((0<=id/\id<3)/\Zd W R Φ λw4=>∃ p6,w4.cell? (aJ gB (gO+id.toNat*4+3))=some (.pointer p6)/\Br p6.isNone (Zr W R Φ J (aA 9)) (Zr W R Φ J (aA 0)))
theorem KJ(gB gO id):bZ F.mY #[.pointer (aO gB gO),.int .i64 id] (VO gB gO id):=cA { keep:=some [0,1,4,5,12] } λ_ _ _ _=>by kernel_rfl
def VP(gB gO:Nat)(id:Int)(o0:Bool)(o1:Int)(o2:Int)(o3:Int)(o4P:Option Addr)(o4N o4C:Nat)(o5P:Option Addr)(o5N o5C:Nat):aY:=λW R Φ J=>
 ∀ (b:Nat),∃ R0 cL,aB cL/\Wk W R Φ R0 cL/\(0<=id/\id<3)/\Zc W R Φ F.lF #[.pointer (aO gB (gO+id.toNat*4)),Value.agg #[.bool o0,aA o1,aA o2,aA o3,.slice o4P o4N o4C,.slice o5P o5N o5C]] λe6 q=>∃ n8,e6=.returned (aA n8)/\q λR9 pK=>Br (decide (n8=0)) (AJ λ(I11:Int->List Own->PW->Nat->Prop)=>(Zs W R9 pK (I11 0))/\∀ n17 VF I19 k20,aB I19->I11 n17 VF I19 k20->Br (decide (n17<(↑o5N:Int))) (Zi n17 o5N o5P λk21 k22=>Zd W VF I19 λw23=>∃ n25 n26 n27 n28 n29 n30 n31 c32 p33 k34 k35,bT w23 k21 (k22+n17.toNat*9) [aA n25,aA n26,aA n27,aA n28,aA n29, aA n30,aA n31,.bool c32,.slice p33 k34 k35]/\∀ (b:Nat),∃ G9 tN,aB tN/\Wk W VF I19 G9 tN/\∃ (p40:Option Addr),(Zd W G9 tN λw41=>∃ p43,w41.cell? (aJ gB (gO+12))=some (.pointer p43)/\Value.pointer p43=Value.pointer p40)/\Zc W VF I19 F.pH #[Value.agg #[aA n25,aA n26,aA n27,aA n28,aA n29,aA n30,aA n31,.bool c32,.slice p33 k34 k35]] λe46 q=>∃ s48,e46=.returned (.string s48)/\q λXU yM=>Wk W XU yM G9 tN/\Zc W XU yM F.DG #[.pointer p40,aA id,aA n27,.string s48] λe55 q=>∃ n57,e55=.returned (aA n57)/\q λR58 a9d=>bE (n17+1)/\Zb W R58 a9d k20 (I11 (n17+1))) (Zc W VF I19 F.nW #[.pointer (aO gB gO)] λe67 q=>e67=.returned (Value.tuple #[])/\q λR69 a0T=>Zr W R69 a0T J (aA n8))) (Zc W R9 pK F.nW #[.pointer (aO gB gO)] λe75 q=>e75=.returned (Value.tuple #[])/\q λR77 aGr=>Zr W R77 aGr J (aA n8))
theorem KK(gB gO id o0 o1 o2 o3 o4P o4N o4C o5P o5N o5C):bZ F.mZ #[.pointer (aO gB gO),.int .i64 id,.agg #[.bool o0,.int .i64 o1,.int .i64 o2,.int .i64 o3,.slice o4P o4N o4C,.slice o5P o5N o5C]] (VP gB gO id o0 o1 o2 o3 o4P o4N o4C o5P o5N o5C):=cA { keep:=some [0,1,5,6,7,9,18,20,21,22,23],gM:=[5,9],gC:=[(1,[.held [(0,true),(1,true),(5,true),(2,true),(3,true),(4,true)],.bW [] (some 6),.bW [7] none]),(6,[.held [(0,true),(4,true),(5,true),(7,true),(1,true),(6,true),(2,true),(3,true),(8,false)],.bW [] (some 9)])],loops:=[(4,[(22,.one (.int .i64))],[])] } λ_ _ _ _=>by kernel_rfl
def YJ(nB nO:Nat)(mask:Int):aY:=λW R Φ J=>
 ∃ (n0:Int),(∀ (w1:World),Sem.run prog (binOp BinOp.and 3 (aA mask) (aA 65535)) w1=Result.ok (aA n0) w1)/\∀ w2 R3,Ctx W w2 (R++R3) Φ->aH w2 nB (nO+1) 1/\∀ w4,w4=w2.setCell (aJ nB (nO+1)) (aA n0)->∃ R5 fW,aB fW/\Ctx W w4 (R5++R3) fW/\Zr W R5 fW J (Value.tuple #[])
theorem MX(nB nO mask):bZ F.AM #[.pointer (aO nB nO),.int .i64 mask] (YJ nB nO mask):=cA { keep:=some [] } λ_ _ _ _=>by kernel_rfl
def YK(jB jO:Nat):aY:=λW R Φ J=>
 Zc W R Φ F.oL #[.pointer (aO jB jO)] λe2 q=>∃ p4 k5 k6,e2=.returned (.slice p4 k5 k6)/\q λR7 JL=>AJ λ(I9:Option Addr->Nat->Nat->Int->List Own->PW->Nat->Prop)=>(Zs W R7 JL (I9 none 0 0 0))/\∀ DK XQ uG n18 yP I20 k21,aB I20->I9 DK XQ uG n18 yP I20 k21->Br (decide (n18<(↑k5:Int))) (Zi n18 k5 p4 λk22 k23=>Zd W yP I20 λJN=>∃ s26,JN.cell? (aJ k22 (k23+n18.toNat))=some (.string s26)/\∀ w27 R28,Ctx W w27 (yP++R28) I20->aG F.vF #[.string s26] w27 λe29 w30=>∃ n31 s32 c33,e29=.returned (Value.tuple #[Value.agg #[aA n31,.string s32],Value.bool c33])/\∃ LF xS,aB xS /\ Ctx W w30 (LF++R28) xS/\∀ (b k36:Nat) w37 UA,Ctx W w37 (Own.blk k36 [aA n31,.string s32] 216 :: LF++UA) xS->∃ p39 k40 k41 w42,Sem.run prog (builtin Builtin.append #[99,99] 99 #[false,false] #[.slice DK XQ uG,.slice (aO k36 0) 1 1]) w37=.ok (.value (.slice p39 k40 k41)) w42/\∃ R43 SQ,aB SQ/\Ctx W w42 (R43++UA) SQ/\bE (n18+1)/\Zb W R43 SQ k21 (I9 p39 k40 k41 (n18+1))) (Zr W yP I20 J (.slice DK XQ uG))
theorem MY(jB jO):bZ F.AN #[.pointer (aO jB jO)] (YK jB jO):=cA { keep:=some [0,2,3,5,6,9,10,11,12],gM:=[6],loops:=[(3,[(3,.one (.slice)),(11,.one (.int .i64))],[])] } λ_ _ _ _=>by kernel_rfl
def YL(nB nO:Nat):aY:=λW R Φ J=>
 Zd W R Φ λw0=>∃ p2 k3 k4,w0.cell? (aJ nB nO)=some (.slice p2 k3 k4)/\Zr W R Φ J (aA (↑k3:Int))
theorem MZ(nB nO):bZ F.AO #[.pointer (aO nB nO)] (YL nB nO):=cA { keep:=some [0,2] } λ_ _ _ _=>by kernel_rfl
def N0(mB mO:Nat):aY:=λW R Φ J=>
 ∀ w0 R1,Ctx W w0 (R++R1) Φ->aH w0 mB (mO+1) 1/\∀ w2,w2=w0.setCell (aJ mB (mO+1)) (Value.pointer none)->∃ R3 W4,aB W4/\Ctx W w2 (R3++R1) W4/\∀ w5 R6,Ctx W w5 (R3++R6) W4->aH w5 mB (mO+2) 1/\∀ w7,w7=w5.setCell (aJ mB (mO+2)) (Value.pointer none)->∃ R8 Φ9,aB Φ9/\Ctx W w7 (R8++R6) Φ9/\∀ w10 RR,Ctx W w10 (R8++RR) Φ9->aH w10 mB (mO+3) 1/\∀ JP,JP=w10.setCell (aJ mB (mO+3)) (Value.pointer none)->∃ R13 xW,aB xW/\Ctx W JP (R13++RR) xW/\Zr W R13 xW J (Value.tuple #[])
theorem DV(mB mO):bZ F.mN #[.pointer (aO mB mO)] (N0 mB mO):=cA { keep:=some [] } λ_ _ _ _=>by kernel_rfl
def a3R(a3S:Option Addr)(YM a9k:Nat):aY:=λW R Φ J=>
 AJ λ(I0:Int->List Own->PW->Nat->Prop)=>(Zs W R Φ (I0 0))/\∀ n6 R7 I8 k9,aB I8->I0 n6 R7 I8 k9->Br (decide (n6<(↑YM:Int))) (Zi n6 YM a3S λCY RO=>Zd W R7 I8 λJP=>∃ (u14:FuncId) (u15 u16:Array Value),JP.cell? (aJ CY (RO+n6.toNat))=some (Value.func (Fn.func u14) u15 u16)/\∀ w17 VF,Ctx W w17 (R7++VF) I8->sI prog u14=true/\Calls prog u14 (Array.mk ((u15.toList.append []).append u16.toList)) w17 λe19 w20=>∃ n21,e19=.returned (aA n21)/\∃ VE F0,aB F0/\Ctx W w20 (VE++VF) F0/\Br (decide (n21≠0)) (Zr W VE F0 J (aA n21)) (bE (n6+1)/\Zb W VE F0 k9 (I0 (n6+1)))) (Zr W R7 I8 J (aA 0))
theorem SX(a3S YM a9k):bZ F.zN #[.slice a3S YM a9k] (a3R a3S YM a9k):=cA { keep:=some [0,2,4,5,6,7,8,9,15],wrap:=[13],loops:=[(2,[(8,.one (.int .i64))],[])] } λ_ _ _ _=>by kernel_rfl
def HC(kB kO:Nat):aY:=λW R Φ J=>
 Zd W R Φ λw0=>∃ p2,w0.cell? (aJ kB kO)=some (.pointer p2)/\vX none p2 λk3 k4=>Zd W R Φ λw5=>∃ p7,w5.cell? (aJ k3 k4)=some (.pointer p7)/\Zc W R Φ F.gP #[.pointer p7,aA 2] λe10 q=>∃ n12,e10=.returned (aA n12)/\q λR13 xW=>Zr W R13 xW J (aA n12)
theorem B3(kB kO):bZ F.gZ #[.pointer (aO kB kO)] (HC kB kO):=cA { keep:=some [0,1] } λ_ _ _ _=>by kernel_rfl
def HD(kB kO lB lO:Nat):aY:=λW R Φ J=>
 Zd W R Φ λw0=>∃ p2,w0.cell? (aJ kB kO)=some (.pointer p2)/\vX none p2 λk3 k4=>Zd W R Φ λw5=>∃ p7,w5.cell? (aJ k3 k4)=some (.pointer p7)/\Zc W R Φ F.DE #[.pointer p7,aA 0] λe10 q=>∃ p12 RM,e10=.returned (Value.tuple #[.pointer p12,aA RM])/\q λR14 ML=>∀ K7 tJ,Ctx W K7 (R14++tJ) ML->aH K7 lB lO 1/\∀ JM,JM=K7.setCell (aJ lB lO) (Value.pointer p12)->∃ yP oP,aB oP/\Ctx W JM (yP++tJ) oP/\Zr W yP oP J (aA RM)
theorem B4(kB kO lB lO):bZ F.hY #[.pointer (aO kB kO),.pointer (aO lB lO)] (HD kB kO lB lO):=cA { keep:=some [0,1,2] } λ_ _ _ _=>by kernel_rfl
def HE(kB kO lB lO:Nat):aY:=λW R Φ J=>
 Zd W R Φ λw0=>∃ p2,w0.cell? (aJ kB kO)=some (.pointer p2)/\vX none p2 λk3 k4=>Zd W R Φ λw5=>∃ p7,w5.cell? (aJ k3 k4)=some (.pointer p7)/\Zc W R Φ F.JK #[.pointer p7,aA 2] λe10 q=>∃ p12 RM,e10=.returned (Value.tuple #[.pointer p12,aA RM])/\q λR14 ML=>∀ K7 tJ,Ctx W K7 (R14++tJ) ML->aH K7 lB lO 1/\∀ JM,JM=K7.setCell (aJ lB lO) (Value.pointer p12)->∃ yP oP,aB oP/\Ctx W JM (yP++tJ) oP/\Zr W yP oP J (aA RM)
theorem B5(kB kO lB lO):bZ F.iA #[.pointer (aO kB kO),.pointer (aO lB lO)] (HE kB kO lB lO):=cA { keep:=some [0,1,2] } λ_ _ _ _=>by kernel_rfl
def a6n(cB cO:Nat):aY:=λW R Φ J=>
 ∀ (b:Nat) w0 R1,Ctx W w0 (R++R1) Φ->aG F.uE #[.pointer (aO cB cO)] w0 λe2 w3=>∃ s4 c5,e2=.returned (Value.tuple #[.string s4,.bool c5])/\∃ R6 RQ,aB RQ/\Ctx W w3 (R6++R1) RQ/\Br (!c5) (Zr W R6 RQ J (Value.agg #[aA 0,aA (-1)])) (Zc W R6 RQ F.tG #[.string s4] λe12 q=>∃ p14,e12=.returned (.pointer p14)/\q λNU xV=>Zc W NU xV F.cH #[.pointer p14] λe19 q=>∃ n21,e19=.returned (aA n21)/\q λVE F0=>∀ JN R25,Ctx W JN (VE++R25) F0->aG F.cH #[.pointer p14] JN λe26 w27=>∃ n28,e26=.returned (aA n28) /\ ∃ Y9 wM,aB wM/\Ctx W w27 (Y9++R25) wM/\Zr W Y9 wM J (Value.agg #[aA n21,aA n28]))
theorem VQ(cB cO):bZ F.MK #[.pointer (aO cB cO)] (a6n cB cO):=cA { keep:=some [0,2,3,4,5,12],gM:=[2] } λ_ _ _ _=>by kernel_rfl
def PV(gB gO:Nat)(id:Int)(fF:FuncId)(fC:Array Value):aY:=λW R Φ J=>
 Zc W R Φ F.mY #[.pointer (aO gB gO),aA id] λe2 q=>∃ n4,e2=.returned (aA n4)/\q λR5 fW=>Br (decide (n4≠0)) (Zr W R5 fW J (aA n4)) ((0<=id/\id<3)/\Zd W R5 fW λw9=>∃ VM,w9.cell? (aJ gB (gO+id.toNat*4+3))=some (.pointer VM)/\∀ JP R13,Ctx W JP (R5++R13) fW->sI prog fF=true/\Calls prog fF (Array.mk (Value.pointer VM :: fC.toList)) JP λe14 w15=>∃ c16 n17 n18 n19 p20 k21 k22 p23 k24 k25,e14=.returned (Value.agg #[.bool c16,aA n17,aA n18,aA n19,.slice p20 k21 k22,.slice p23 k24 k25])/\∃ SA DL,aB DL/\Ctx W w15 (SA++R13) DL/\Zc W SA DL F.mZ #[.pointer (aO gB gO),aA id,Value.agg #[.bool c16,aA n17,aA n18,aA n19,.slice p20 k21 k22,.slice p23 k24 k25]] λe30 q=>∃ n32,e30=.returned (aA n32)/\q λG0 lW=>Zr W G0 lW J (aA n32))
theorem FA(gB gO id fF fC):bZ F.nV #[.pointer (aO gB gO),.int .i64 id,.func (.func fF) #[] fC] (PV gB gO id fF fC):=cA { keep:=some [0,1,2,6,7,12],wrap:=[24] } λ_ _ _ _=>by kernel_rfl
def SY(nB nO:Nat)(i:Int):aY:=λW R Φ J=>
 ∀ (b:Nat) w0 R1,Ctx W w0 (R++R1) Φ->aG F.DI #[.pointer (aO nB nO),aA i] w0 λe2 w3=>∃ n4 n5 s6 c7,e2=.returned (Value.tuple #[Value.agg #[aA n4,aA n5,.string s6],Value.bool c7])/\∃ R8 Φ9,aB Φ9/\Ctx W w3 (R8++R1) Φ9/\∀ (b:Nat),Br (!c7) (Zr W R8 Φ9 J (Value.tuple #[Value.agg #[aA 0,aA 0,Value.string (ByteArray.mk #[])],aA 4])) (Zc W R8 Φ9 F.wH #[.pointer (aO nB nO),aA n4,aA n5] λe14 q=>∃ c16,e14=.returned (.bool c16)/\q λtJ rX=>Br (!c16) (Zr W tJ rX J (Value.tuple #[Value.agg #[aA 0,aA 0,Value.string (ByteArray.mk #[])],aA 10])) (Zr W tJ rX J (Value.tuple #[Value.agg #[aA n4,aA n5,.string s6],aA 0])))
theorem HF(nB nO i):bZ F.vD #[.pointer (aO nB nO),.int .i64 i] (SY nB nO i):=cA { keep:=some [0,1,4,5,6,7,14,18],gM:=[4,6] } λ_ _ _ _=>by kernel_rfl
def DW(rB rO kB kO:Nat):aY:=λW R Φ J=>
 ∀ (b:Nat) w0 R1,Ctx W w0 (R++R1) Φ->∃ s2,w0.cell? (aJ kB (kO+2))=some (.string s2)/\Zc W R Φ F.DF #[.string s2] λe5 q=>∃ n7 n8 n9 n10 FI n12 RM c14 DK XQ uG c18,e5=.returned (Value.tuple #[Value.agg #[aA n7,aA n8,aA n9,aA n10,aA FI,aA n12,aA RM,.bool c14,.slice DK XQ uG],Value.bool c18])/\q λyP oP=>∀ (b:Nat) RP VE,Ctx W RP (yP++VE) oP->aG F.nD #[.pointer (aO rB rO),Value.agg #[aA n7,aA n8,aA n9,aA n10,aA FI,aA n12,aA RM,.bool c14,.slice DK XQ uG]] RP λe23 JN=>∃ c25 n26 n27 n28 p29 k30 k31 p32 k33 k34,e23=.returned (Value.agg #[.bool c25,aA n26,aA n27,aA n28,.slice p29 k30 k31,.slice p32 k33 k34])/\∃ R35 aC7,aB aC7/\Ctx W JN (R35++VE) aC7/\Zr W R35 aC7 J (Value.agg #[.bool c25,aA n26,aA n27,aA n28,.slice p29 k30 k31,.slice p32 k33 k34])
theorem y3(rB rO kB kO):bZ F.mF #[.pointer (aO rB rO),.pointer (aO kB kO)] (DW rB rO kB kO):=cA { keep:=some [0,1,3,4],gM:=[3,4] } λ_ _ _ _=>by kernel_rfl
def PX(gB gO:Nat):aY:=λW R Φ J=>
 Zd W R Φ λw0=>∃ p2 p3 p4 p5 p6 p7 p8 p9 p10 VM p12 RS,bT w0 gB gO [Value.pointer p2,Value.pointer p3,Value.pointer p4,Value.pointer p5,Value.pointer p6,Value.pointer p7,Value.pointer p8,Value.pointer p9,Value.pointer p10,Value.pointer VM,Value.pointer p12,Value.pointer RS]/\AJ λ(I14:Int->List Own->PW->Nat->Prop)=>(Zs W R Φ (I14 0))/\∀ n20 SG I22 k23,aB I22->I14 n20 SG I22 k23->Br (decide (n20<3)) ((0<=n20/\n20<3)/\∀ (k24:Nat) OR SA,Ctx W OR (Own.blk k24 [Value.pointer none,Value.pointer none,Value.pointer none,Value.pointer none] 132 :: SG++SA) I22->match (List.take 4 (List.drop (0+n20.toNat*4) [Value.pointer p2,Value.pointer p3,Value.pointer p4,Value.pointer p5,Value.pointer p6,Value.pointer p7,Value.pointer p8,Value.pointer p9,Value.pointer p10,Value.pointer VM,Value.pointer p12,Value.pointer RS])).length.beq 4&&(List.take 4 (List.drop (0+n20.toNat*4) [Value.pointer p2,Value.pointer p3,Value.pointer p4,Value.pointer p5,Value.pointer p6,Value.pointer p7,Value.pointer p8,Value.pointer p9,Value.pointer p10,Value.pointer VM,Value.pointer p12,Value.pointer RS])).all oY with|true=>aH OR k24 0 4/\∀ w29,w29=OR.setCells k24 0 (List.take 4 (List.drop (0+n20.toNat*4) [Value.pointer p2,Value.pointer p3,Value.pointer p4,Value.pointer p5,Value.pointer p6,Value.pointer p7,Value.pointer p8,Value.pointer p9,Value.pointer p10,Value.pointer VM,Value.pointer p12,Value.pointer RS]))->∃ Y3 MP,aB MP/\Ctx W w29 (Y3++SA) MP/\Zd W Y3 MP λw32=>∃ p34,w32.cell? (aJ k24 3)=some (.pointer p34)/\∃ (p35:Option Addr),((!p34.isNone)=true->w32.cell? (aJ k24 3)=some (.pointer p35))/\∃ (n36:Int),((!p34.isNone)=true->∀ (w37:World),(∃ (k38:Nat),w37=w32.drewN k38)->aG F.dU #[.pointer p35] w37 λe39 w40=>e39=.returned (aA n36)/\∃ (k41:Nat),w40=w32.drewN k41)/\∃ (p42:Option Addr) (k43 k44:Nat),((!p34.isNone)=true->w32.cell? (aJ gB (gO+13))=some (.slice p42 k43 k44))/\Br (p34.isNone||decide (n36<=(↑k43:Int))) (bE (n20+1)/\Zb W Y3 MP k23 (I14 (n20+1))) (∀ w50 W0,Ctx W w50 (Y3++W0) MP->aH w50 gB (gO+13) 1/\∀ w52,w52=w50.setCell (aJ gB (gO+13)) (Value.slice none 0 0)->∃ R53 wJ,aB wJ/\Ctx W w52 (R53++W0) wJ/\∃ R55 a1a,aB a1a/\Wk W R53 wJ R55 a1a/\∃ (p59:Option Addr), (Zd W R55 a1a λw60=>∃ p62,w60.cell? (aJ k24 3)=some (.pointer p62)/\Value.pointer p62=Value.pointer p59)/\∃ (p63:Option Addr),(Zd W R55 a1a λw64=>∃ p66,w64.cell? (aJ k24 3)=some (.pointer p66)/\Value.pointer p66=Value.pointer p63)/\Zc W R53 wJ F.jV #[.pointer p59] λe69 q=>∃ p71 k72 k73,e69=.returned (.slice p71 k72 k73)/\q λR74 PG=>Wk W R74 PG R55 a1a/\Zc W R74 PG F.dU #[.pointer p63] λe80 q=>∃ n82,e80=.returned (aA n82)/\q λR83 a9e=>Wk W R83 a9e R55 a1a/\(0<=n82/\n82<=(↑k73:Int))/\AJ λ(I87:Int->List Own->PW->Nat->Prop)=>(∃ R88 aGe k90,aB aGe /\ Wk W R83 a9e R88 aGe/\I87 0 R88 aGe k90)/\∀ n93 R94 I95 k96,aB I95->I87 n93 R94 I95 k96->Br (decide (n93<(↑n82.toNat:Int))) ((0<=n93/\n93<(↑n82.toNat:Int))/\vX none (cT p71 2 0 k73) λk97 k98=>Zd W R94 I95 λw99=>∃ n101 aPx,bT w99 k97 (k98+n93.toNat*2) [aA n101,.string aPx]/\∀ (b:Nat),∃ aKZ a6o,aB a6o/\Wk W R94 I95 aKZ a6o/\∃ (aVr:Option Addr) (aVs OU:Nat),(Zd W aKZ a6o λa5T=>∃ aGl a8E MM,a5T.cell? (aJ gB (gO+13))=some (.slice aGl a8E MM)/\Value.slice aGl a8E MM=Value.slice aVr aVs OU)/\∀ (SF:Nat),Wk W (Own.blk SF [.string aPx] 9 :: R94) I95 (aKZ) a6o/\∀ a8N a8X,Ctx W a8N (Own.blk SF [.string aPx] 9 :: R94++a8X) I95->∃ aVt aKg aVu a6m,Sem.run prog (builtin Builtin.append #[40,40] 40 #[false,false] #[.slice aVr aVs OU,.slice (aO SF 0) 1 1]) a8N=.ok (.value (.slice aVt aKg aVu)) a6m/\∃ a1g BV,aB BV/\Ctx W a6m (a1g++a8X) BV/\Wk W a1g BV aKZ a6o/\∀ a5Z a5N,Ctx W a5Z (a1g++a5N) BV->aH a5Z gB (gO+13) 1/\∀ a8L,a8L=a5Z.setCell (aJ gB (gO+13)) (Value.slice aVt aKg aVu)->∃ aC6 UG,aB UG/\Ctx W a8L (aC6++a5N) UG/\bE (n93+1)/\Zb W aC6 UG k96 (I87 (n93+1))) (bE (n20+1)/\Zb W R94 I95 k23 (I14 (n20+1))))|false=>False) (Zr W SG I22 J (Value.tuple #[]))
theorem FB(gB gO):bZ F.nW #[.pointer (aO gB gO)] (PX gB gO):=cA { keep:=some [0,3,5,9,10,11,26,36,37,38,39],gM:=[5],gC:=[(5,[.held [(0,true),(3,true),(8,true),(1,true),(4,true),(2,false),(5,false),(6,true),(7,true)]]),(8,[.held [(0,true),(1,true),(5,true),(2,true),(6,true),(3,true),(4,true),(7,false),(8,false)],.bW [9] none,.bW [10] (some 11)])],loops:=[(6,[(38,.one (.int .i64))],[]),(1,[(10,.one (.int .i64))],[])] } λ_ _ _ _=>by kernel_rfl
def KL(mB mO:Nat)(o0:Bool)(o1:Int)(o2:Int)(o3:Int)(o4P:Option Addr)(o4N o4C:Nat)(o5P:Option Addr)(o5N o5C:Nat):aY:=λW R Φ J=>
 ∀ (k0 k1:Nat),AJ λ(I2:Int->List Own->PW->Prop)=>(Zd W (Own.blk k1 [Value.bool o0,aA o1,aA o2,aA o3,Value.slice o4P o4N o4C,Value.slice o5P o5N o5C] 146 :: Own.blk k0 [Value.pointer (aO mB mO)] 139 :: R) Φ λw3=>∃ c5,w3.cell? (aJ k1 0)=some (.bool c5)/\Br c5 (∃ R6 RQ,aB RQ/\Wk W (Own.blk k1 [Value.bool o0,aA o1,aA o2,aA o3,Value.slice o4P o4N o4C,Value.slice o5P o5N o5C] 146 :: Own.blk k0 [Value.pointer (aO mB mO)] 139 :: R) Φ (R6) RQ/\∃ (p10:Option Addr),(Zd W R6 RQ λUD=>∃ RS,UD.cell? (aJ k0 0)=some (.pointer RS)/\Value.pointer RS=Value.pointer p10)/\vX none p10 λx8 JO=>∃ (n16:Int),(Zd W R6 RQ λw17=>∃ n19,w17.cell? (aJ k1 1)=some (aA n19)/\aA n19=aA n16)/\∃ (n20:Int),(Zd W R6 RQ λRP=>∃ n23,RP.cell? (aJ k1 2)=some (aA n23)/\aA n23=aA n20)/\∃ (p24:Option Addr),(Zd W R6 RQ λOR=>∃ p27,OR.cell? (aJ x8 (JO+2))=some (.pointer p27)/\Value.pointer p27=Value.pointer p24)/\Zc W (Own.blk k1 [Value.bool o0,aA o1,aA o2,aA o3,Value.slice o4P o4N o4C,Value.slice o5P o5N o5C] 146 :: Own.blk k0 [Value.pointer (aO mB mO)] 139 :: R) Φ F.pG #[aA n16] λe30 q=>∃ s32,e30=.returned (.string s32)/\q λG0 lW=>Wk W G0 lW R6 RQ /\ Zc W G0 lW F.pG #[aA n20] λe39 q=>∃ s41,e39=.returned (.string s41)/\q λR42 aCL=>Wk W R42 aCL R6 RQ/\(s32.size+s41.size).le 9223372036854775807/\Zc W R42 aCL F.uF #[.pointer p24,.string (s32++s41)] λe48 q=>∃ n50,e48=.returned (aA n50)/\q λW0 GG=>∃ R53 wJ,aB wJ/\Wk W W0 GG R53 wJ/\I2 n50 R53 wJ) (∃ R57 YC,aB YC/\Wk W (Own.blk k1 [Value.bool o0,aA o1,aA o2,aA o3,Value.slice o4P o4N o4C,Value.slice o5P o5N o5C] 146 :: Own.blk k0 [Value.pointer (aO mB mO)] 139 :: R) Φ (R57) YC/\I2 0 R57 YC))/\∀ (n61:Int) (R62:List Own) (I63:List Nat->World -> Prop),aB I63->I2 n61 R62 I63->Zd W R62 I63 λw64=>∃ (n66:Int),(decide (n61=0)=true->w64.cell? (aJ k1 3)=some (aA n66))/\Br (decide (n61=0)&&decide (0<n66)) (∀ (k67:Nat) w68 R69,Ctx W w68 (Own.blk k67 [.slice none 0 0] 40 :: R62++R69) I63->∃ p70 k71 k72,w68.cell? (aJ k1 4)=some (.slice p70 k71 k72)/\AJ λ(I73:Int->List Own->PW->Nat->Prop)=>(∃ R74 PG k76,aB PG/\Wk W (Own.blk k67 [.slice none 0 0] 40 :: R62) I63 (R74) PG/\I73 0 R74 PG k76)/\∀ n79 R80 I81 k82,aB I81->I73 n79 R80 I81 k82->Br (decide (n79<(↑k71:Int))) (Zi n79 k71 p70 λk83 k84=>Zd W R80 I81 λw85=>∃ n87 s88,bT w85 k83 (k84+n79.toNat*2) [aA n87,.string s88]/\∀ (b:Nat),∃ R89 a9l,aB a9l/\Wk W R80 I81 R89 a9l/\∃ (p93:Option Addr) (k94 k95:Nat),(Zd W R89 a9l λw96=>∃ p98 k99 aGk,w96.cell? (aJ k67 0)=some (.slice p98 k99 aGk)/\Value.slice p98 k99 aGk=Value.slice p93 k94 k95)/\Zc W R80 I81 F.jZ #[Value.agg #[aA n87,.string s88]] λa8Z q=>∃ a3O,a8Z=.returned (.string a3O)/\q λSL zP=>Wk W SL zP R89 a9l/\∀ (a3z:Nat),Wk W (Own.blk a3z [.string a3O] 9 :: SL) zP (R89) a9l/\∀ a6h aVw,Ctx W a6h (Own.blk a3z [.string a3O] 9 :: SL++aVw) zP->∃ aGQ aGR XS a8N,Sem.run prog (builtin Builtin.append #[40,40] 40 #[false,false] #[.slice p93 k94 k95,.slice (aO a3z 0) 1 1]) a6h=.ok (.value (.slice aGQ aGR XS)) a8N/\∃ a8X a6b, aB a6b/\Ctx W a8N (a8X++aVw) a6b/\∀ aGB a8O,Ctx W aGB (a8X++a8O) a6b->aH aGB k67 0 1/\∀ a6m,a6m=aGB.setCell (aJ k67 0) (Value.slice aGQ aGR XS)->∃ a1g BV,aB BV/\Ctx W a6m (a1g++a8O) BV/\bE (n79+1)/\Zb W a1g BV k82 (I73 (n79+1))) (∀ (aGm:Nat) aVx a6p,Ctx W aVx (Own.blk aGm [Value.func (Fn.func 307) #[] #[.pointer (aO k0 0),.pointer (aO k1 0)],Value.func (Fn.func 310) #[] #[.pointer (aO k0 0),.pointer (aO k67 0)]] 258 :: R80++a6p) I81->aG F.zN #[.slice (aO aGm 0) 2 2] aVx λb0C aJ7=>∃ n136,b0C=.returned (aA n136)/\∃ YH zQ,aB zQ/\Ctx W aJ7 (YH++a6p) zQ /\ Br (decide (n136≠0)) (Zd W YH zQ λa6j=>∃ aVy,a6j.cell? (aJ k0 0)=some (.pointer aVy)/\Zc W YH zQ F.mN #[.pointer aVy] λb0D q=>b0D=.returned (Value.tuple #[])/\q λOZ a6k=>Zr W OZ a6k J (aA n136)) (Zr W YH zQ J (aA n136)))) (Br (decide (n61≠0)) (Zd W R62 I63 λb0E=>∃ aVz,b0E.cell? (aJ k0 0)=some (.pointer aVz)/\Zc W R62 I63 F.mN #[.pointer aVz] λaPc q=>aPc=.returned (Value.tuple #[])/\q λb0F aVA=>Zr W b0F aVA J (aA n61)) (Zr W R62 I63 J (aA n61)))
theorem BX(mB mO o0 o1 o2 o3 o4P o4N o4C o5P o5N o5C):bZ F.lF #[.pointer (aO mB mO),.agg #[.bool o0,.int .i64 o1,.int .i64 o2,.int .i64 o3,.slice o4P o4N o4C,.slice o5P o5N o5C]] (KL mB mO o0 o1 o2 o3 o4P o4N o4C o5P o5N o5C):=cA { keep:=some [2,3,4,5,6,8,10,31,33,34,35,36,50],gM:=[8],gC:=[(3,[.held [(0,true),(4,true),(8,true),(1,true),(5,true),(9,true),(2,true),(6,true),(10,true),(3,true),(7,false),(11,false),(12,true)],.bW [] (some 13),.bW [14] none]),(9,[.held [(0,true),(1,true),(2,false),(3,false)],.bW [] (some 4),.bW [] (some 5)])],loops:=[(7,[(35,.one (.int .i64))],[])],a8p:=[(4,[(5,.one (.int .i64))],[])] } λ_ _ _ _=>by kernel_rfl
def a1i(nB nO:Nat)(YN:Int)(to:Int)(body:ByteArray):aY:=λW R Φ J=>
 Zd W R Φ λw0=>∃ (c2:Bool),(∀ w3,w3=w0->aG F.DJ #[aA YN] w3 λe4 w5=>e4=.returned (.bool c2)/\w5=w0)/\∃ (c6:Bool),((!!c2)=true->∀ w7,w7=w0->aG F.DJ #[aA to] w7 λe8 w9=>e8=.returned (.bool c6)/\w9=w0)/\Br (!c2 || !c6||decide (YN=to)) (Zr W R Φ J (aA 1)) (Zc W R Φ F.wH #[.pointer (aO nB nO),aA YN,aA to] λe14 q=>∃ c16,e14=.returned (.bool c16)/\q λtJ rX=>Br (!c16) (Zr W tJ rX J (aA 10)) (Zd W tJ rX λRP=>∃ p23 k24 k25,RP.cell? (aJ nB nO)=some (.slice p23 k24 k25)/\Br (decide (500<=(↑k24:Int))) (Zr W tJ rX J (aA 6)) (Zd W tJ rX λw28=>∃ p30 k31 k32,w28.cell? (aJ nB nO)=some (.slice p30 k31 k32)/\∀ (k33:Nat) w34 R35,Ctx W w34 (Own.blk k33 [aA YN,aA to,.string body] 267 :: tJ++R35) rX->∃ p36 k37 k38 w39,Sem.run prog (builtin Builtin.append #[109,109] 109 #[false,false] #[.slice p30 k31 k32,.slice (aO k33 0) 1 1]) w34=.ok (.value (.slice p36 k37 k38)) w39/\∃ R40 vI,aB vI/\Ctx W w39 (R40++R35) vI/\∀ w42 R43,Ctx W w42 (R40++R43) vI->aH w42 nB nO 1/\∀ w44,w44=w42.setCell (aJ nB nO) (Value.slice p36 k37 k38)->∃ R45 MO,aB MO/\Ctx W w44 (R45++R43) MO/\Zr W R45 MO J (aA 0))))
theorem PY(nB nO YN to body):bZ F.DG #[.pointer (aO nB nO),.int .i64 YN,.int .i64 to,.string body] (a1i nB nO YN to body):=cA { keep:=some [0,1,2,3,8,9,23,29] } λ_ _ _ _=>by kernel_rfl
def a1j(nB nO:Nat)(i:Int):aY:=λW R Φ J=>
 ∀ (b:Nat) w0 R1,Ctx W w0 (R++R1) Φ->∃ (p2:Option Addr) (k3 k4:Nat),((!decide (i<0))=true->w0.cell? (aJ nB nO)=some (.slice p2 k3 k4))/\Br (decide (i<0)||decide ((↑k3:Int)<=i)) (Zr W R Φ J (Value.tuple #[Value.agg #[aA 0,aA 0,Value.string (ByteArray.mk #[])],Value.bool false])) (Zd W R Φ λw7=>∃ p9 CY RO,w7.cell? (aJ nB nO)=some (.slice p9 CY RO)/\Zi i CY p9 λk12 k13=>Zd W R Φ λXV=>∃ n16 n17 SN,bT XV k12 (k13+i.toNat*3) [aA n16,aA n17,.string SN]/\∀ (b:Nat) XW UE,Ctx W XW (R++UE) Φ->∃ p21 k22 k23,XW.cell? (aJ nB nO)=some (.slice p21 k22 k23)/\bE (i+1)/\Zc W R Φ F.eX #[.slice p21 k22 k23,aA i,aA (i+1)] λe26 q=>∃ p28 k29 k30,e26=.returned (.slice p28 k29 k30)/\q λR31 PJ=>∀ w33 LF,Ctx W w33 (R31++LF) PJ->aH w33 nB nO 1/\∀ XY,XY=w33.setCell (aJ nB nO) (Value.slice p28 k29 k30)->∃ G9 tN,aB tN/\Ctx W XY (G9++LF) tN/\Zr W G9 tN J (Value.tuple #[Value.agg #[aA n16,aA n17,.string SN],Value.bool true]))
theorem PZ(nB nO i):bZ F.DI #[.pointer (aO nB nO),.int .i64 i] (a1j nB nO i):=cA { keep:=some [0,1,4,5,6,17],gM:=[4,6] } λ_ _ _ _=>by kernel_rfl
def a1k(nB nO:Nat)(a:Int)(b:Int):aY:=λW R Φ J=>
 Zd W R Φ λw0=>∃ (c2:Bool),(∀ (w3:World),(∃ (k4:Nat),w3=w0.drewN k4)->aG F.DJ #[aA a] w3 λe5 w6=>e5=.returned (.bool c2)/\∃ (k7:Nat),w6=w0.drewN k7)/\∃ (c8:Bool),(c2=true->∀ (w9:World),(∃ (CY:Nat),w9=w0.drewN CY)->aG F.DJ #[aA b] w9 λe11 JP=>e11=.returned (.bool c8)/\∃ (k13:Nat),JP=w0.drewN k13)/\∃ (RN:Int),((c2&&c8)=true->w0.cell? (aJ nB (nO+1))=some (aA RN))/\∃ (n15:Int),((c2&&c8)=true->∀ (K7:World),Sem.run prog (binOp BinOp.shr 3 (aA RN) (aA a)) K7=Result.ok (aA n15) K7)/\∃ (n17:Int),((c2&&c8)=true->∀ (JM:World),Sem.run prog (binOp BinOp.and 3 (aA n15) (aA 1)) JM=Result.ok (aA n17) JM)/\∃ (n19:Int),((c2&&c8)=true->w0.cell? (aJ nB (nO+1))=some (aA n19))/\∃ (n20:Int),((c2&&c8)=true->∀ (RP:World),Sem.run prog (binOp BinOp.shr 3 (aA n19) (aA b)) RP=Result.ok (aA n20) RP)/\∃ (n22:Int),((c2&&c8)=true->∀ (w23:World),Sem.run prog (binOp BinOp.and 3 (aA n20) (aA 1)) w23=Result.ok (aA n22) w23)/\Zr W R Φ J (.bool (c2&&c8&&decide (n17=n22)))
theorem Q2(nB nO a b):bZ F.wH #[.pointer (aO nB nO),.int .i64 a,.int .i64 b] (a1k nB nO a b):=cA { keep:=some [0,1,2,6] } λ_ _ _ _=>by kernel_rfl
def FC(kB kO lB lO:Nat):aY:=λW R Φ J=>
 ∃ R0 cL,aB cL/\Wk W R Φ R0 cL/\∃ (p4:Option Addr),(Zd W R0 cL λw5=>∃ p7,w5.cell? (aJ kB kO)=some (.pointer p7)/\Value.pointer p7=Value.pointer p4)/\∃ (p8:Option Addr),(Zd W R0 cL λw9=>∃ VM,w9.cell? (aJ kB kO)=some (.pointer VM)/\Value.pointer VM=Value.pointer p8)/\vX none p4 λk12 k13=>∃ (RN:Int),(Zd W R0 cL λw15=>∃ n17,w15.cell? (aJ lB (lO+3))=some (aA n17)/\aA n17=aA RN)/\vX none p8 λk18 k19=>bE (RN - 1)/\∃ (p20:Option Addr),(Zd W R0 cL λRP=>∃ p23,RP.cell? (aJ k12 (k13+1))=some (.pointer p23)/\Value.pointer p23=Value.pointer p20)/\∃ (p24:Option Addr),(Zd W R0 cL λOR=>∃ p27,OR.cell? (aJ k18 (k19+1))=some (.pointer p27)/\Value.pointer p27=Value.pointer p24)/\Zc W R Φ F.oO #[.pointer p24] λe30 q=>∃ n32,e30=.returned (aA n32)/\q λG0 lW=>Wk W G0 lW R0 cL/\Zc W G0 lW F.oM #[.pointer p20,aA (min (RN - 1) n32)] λe39 q=>∃ n41,e39=.returned (aA n41)/\q λR42 aCL=>Zr W R42 aCL J (aA n41)
theorem yX(kB kO lB lO):bZ F.fI #[.pointer (aO kB kO),.pointer (aO lB lO)] (FC kB kO lB lO):=cA { keep:=some [0,1,2],gC:=[(1,[.held [(0,true),(4,true),(7,true),(1,true),(5,true),(8,true),(2,true),(6,true),(9,true),(3,true),(10,true),(11,false),(12,true)],.bW [] (some 13),.bW [14] none])] } λ_ _ _ _=>by kernel_rfl
def FD(kB kO lB lO:Nat):aY:=λW R Φ J=>
 ∃ R0 cL,aB cL/\Wk W R Φ R0 cL/\∃ (p4:Option Addr),(Zd W R0 cL λw5=>∃ p7,w5.cell? (aJ kB kO)=some (.pointer p7)/\Value.pointer p7=Value.pointer p4)/\∃ (p8:Option Addr) (k9 CY:Nat),(Zd W R0 cL λUD=>∃ RS x8 JO,UD.cell? (aJ lB lO)=some (.slice RS x8 JO)/\Value.slice RS x8 JO=Value.slice p8 k9 CY)/\vX none p4 λXQ uG=>∃ (p18:Option Addr),(Zd W R0 cL λXW=>∃ p21,XW.cell? (aJ XQ (uG+1))=some (.pointer p21)/\Value.pointer p21=Value.pointer p18)/\Zc W R Φ F.lG #[.pointer p18,.slice p8 k9 CY] λe24 q=>∃ n26,e24=.returned (aA n26)/\q λVI a07=>Zr W VI a07 J (aA n26)
theorem yY(kB kO lB lO):bZ F.fJ #[.pointer (aO kB kO),.pointer (aO lB lO)] (FD kB kO lB lO):=cA { keep:=some [0,1,2],gC:=[(1,[.held [(0,true),(4,true),(1,true),(2,true),(3,true)],.bW [] (some 5),.bW [6] none])] } λ_ _ _ _=>by kernel_rfl
def oQ(sP:Option Addr)(sN sC:Nat)(i:Int)(j:Int):aY:=λW R Φ J=>
 (0<=i/\i<=j/\j<=(↑sN:Int)/\(↑sN:Int)<=(↑sC:Int))/\Br (decide (i=j)) (Zr W R Φ J (.slice sP sN sC)) (∃ R2 MH,aB MH/\Wk W R Φ R2 MH/\(0<=i/\i<=(↑sC:Int))/\(0<=j/\j<=(↑sN:Int)/\sN<=sC)/\∀ w6 R7,Ctx W w6 (R++R7) Φ->∃ p8 k9 CY UD,Sem.run prog (builtin Builtin.append #[109,109] 109 #[false,false] #[.slice (cT sP 3 0 sC) i.toNat sC,.slice (cT sP 3 j.toNat sC) (sN - j.toNat) (sC - j.toNat)]) w6=.ok (.value (.slice p8 k9 CY)) UD/\∃ FZ BN,aB BN/\Ctx W UD (FZ++R7) BN/\(0<=(↑k9:Int)/\(↑k9:Int)<=(↑sN:Int)/\(↑sN:Int)<=(↑CY:Int))/\∀ XV NU,Ctx W XV (FZ++NU) BN->∃ (K7:World),Sem.run prog (builtin Builtin.clear #[109] 0 #[false] #[.slice (cT p8 3 (↑k9:Int).toNat CY) ((↑sN:Int).toNat - (↑k9:Int).toNat) (CY - (↑k9 : Int).toNat)]) XV=.ok (.value (Value.tuple #[])) K7/\∃ tJ rX,aB rX/\Ctx W K7 (tJ++NU) rX/\Zr W tJ rX J (.slice p8 k9 CY))
theorem mH(sP sN sC i j):bZ F.eX #[.slice sP sN sC,.int .i64 i,.int .i64 j] (oQ sP sN sC i j):=cA { keep:=some [0,1,2,6,7,16],gC:=[(5,[.held [(0,true),(1,true),(3,true),(4,true),(2,true),(5,true)],.bW [] (some 6),.bW [7] none])] } λ_ _ _ _=>by kernel_rfl
end Go.Proofs.YtnlkemjhgdbfkaaGreatDoor
end

section
namespace Go.Proofs.YtnlkemjhgdbfkaaGreatDoor
open Go.Vc
def a6q(a:Int)(w:World)(J:Value->World->Prop):Prop :=
 J (.bool (decide (0<=a)&&decide (a<16))) w
theorem a3T(a:Int)(w:World)(J:Value->World->Prop)(h:a6q a w J):aG F.DJ #[.int .i64 a] w λe w'=>∃ v,e=.returned v/\J v w' :=
 BG (H:={ keep:=some [0,2] }) (by rw [show vcF prog { keep:=some [0,2] } F.DJ #[.int .i64 a] w J=a6q a w J by kernel_rfl];exact h)
end Go.Proofs.YtnlkemjhgdbfkaaGreatDoor
end

section
namespace Go.Vc
section
variable {P:Program}{W w:World}{S F:List Own}{Φ Ψ:PW}
structure Quiet(P:Program)(f:FuncId)(args:Array Value)(v:Value):Prop where
 go:∀ w,Calls P f args w λe w'=>e=.returned v/\w'=w
structure YO(P:Program)(f:FuncId)(args:Array Value)(v:Value):Prop where
 go:∀ (W w:World) (S:List Own) (Φ:PW),aB Φ->Ctx W w S Φ->Calls P f args w λe w'=>e=.returned v/\Ctx W w' S Φ
theorem Quiet.at{f args v}(h:Quiet P f args v){w w0}(e:w=w0):Calls P f args w λe w'=>e=.returned v/\w'=w0:=by subst e;exact h.go w
theorem Quiet.atN{f args v}(h:Quiet P f args v){w w0:World}(e:∃ n,w=w0.drewN n):Calls P f args w λe w'=>e=.returned v/\∃ n,w'=w0.drewN n:=by
 obtain ⟨n,rfl⟩:=e;exact (h.go _).mono λe w' ⟨h1,h2⟩=>⟨h1,n,h2⟩
theorem Quiet.a19{f args v}(h:Quiet P f args v):YO P f args v :=
 ⟨λW w S Φ _ c=>(h.go w).mono λe w' ⟨h1,h2⟩=>by subst h2;exact ⟨h1,c⟩⟩
theorem YO.use{f args v}(h:YO P f args v)[hs:aB Φ](c:Ctx W w S Φ){K}(hk:∀ w',Ctx W w' S Φ->K (.returned v) w'):Calls P f args w K :=
 (h.go W w S Φ hs c).mono λe w' ⟨he,c'⟩=>by subst he;exact hk w' c'
structure dF(Φ:PW)(P:Program)(f:FuncId)(args:Array Value)(v:Value):Prop where
 go:∀ (W w:World) (S:List Own),Ctx W w S Φ->Calls P f args w λe w'=>e=.returned v/\Ctx W w' S Φ
theorem dF.use{f args v}(h:dF Φ P f args v)(c:Ctx W w S Φ){K}(hk:∀ w',Ctx W w' S Φ->K (.returned v) w'):Calls P f args w K :=
 (h.go W w S c).mono λe w' ⟨he,c'⟩=>by subst he;exact hk w' c'
theorem YO.in[hs:aB Φ]{f args v}(h:YO P f args v):dF Φ P f args v:=⟨λW w S c=>h.go W w S Φ hs c⟩
theorem kE[aB Φ]{f args v}{B:World->List Own->PW->(Value->World->Prop)->Prop}(run:∀ {W w:World} {R:List Own} {Φ:PW} [aB Φ] {J:Value->World->Prop},Ctx W w R Φ->B W R Φ J->Calls P f args w λe w'=>∃ v,e=.returned v/\J v w')(h:∀ (W:World) (R:List Own),B W R Φ λu w'=>u=v/\Ctx W w' R Φ):dF Φ P f args v :=
 ⟨λW w S c=>a5w (run c (h W S)) λu w' ⟨h1,h2⟩=>⟨by rw [h1],h2⟩⟩
theorem Ctx.left[aB Φ](c:Ctx W w (S++F) Φ):Ctx W w S Φ:=c.sub (List.sublist_append_left _ _)
theorem Ctx.right[aB Φ](c:Ctx W w (S++F) Φ):Ctx W w F Φ:=c.sub (List.sublist_append_right _ _)
theorem Ctx.fst[aB Φ][aB Ψ](c:Ctx W w S (λM w=>Φ M w/\Ψ M w)):Ctx W w S Φ:=c.weak λ_ _ h=>h.1
theorem zT{cs vs:List Value}{o}(h:(cs.drop o).take vs.length=vs):∀ j,(hj:j<vs.length)->cs[o+j]? = some vs[j]:=by
 intro j hj;have h1:((cs.drop o).take vs.length)[j]? = vs[j]? := by rw [h]
 rw [List.getElem?_take_of_lt hj,List.getElem?_drop] at h1;rw [h1,List.getElem?_eq_getElem hj]
theorem quiet_of{f args v}{B:World->(Value->World->Prop)->Prop}(run:∀ (w:World) (J:Value->World->Prop),B w J->Calls P f args w λe w'=>∃ v,e=.returned v/\J v w')(h:∀ w,B w λu w'=>u=v/\w'=w):Quiet P f args v :=
 ⟨λw=>a5w (run w _ (h w)) λu w' ⟨h1,h2⟩=>⟨by rw [h1],h2⟩⟩
end
def Pin{α:Type}[Gv α](b o:Nat)(cs:List (List Value))(l:List α)(M:List Nat)(w:World):Prop :=
 ∀ j,(hj:j<l.length)->b ∉ M/\bT w b (o+j*(Gv.ty α).size) (cs.getD j [])/\Gv.rep M w (cs.getD j []) l[j]
instance aJD{α:Type}[Gv α](b o:Nat)(cs:List (List Value))(l:List α):aB (λM w=>Pin b o cs l M w):=⟨λhs h j hj=>by
 obtain ⟨h2,h3,h4⟩:=h j hj;have hlt:=aFr h3 (by rw [Gv.len h4];exact Gv.pos);exact ⟨λhm=>by rcases hs.sub b hm with h|h;exact h2 h;omega,hs.chg.row h3 h2,Gv.mE hs h4⟩⟩
theorem Sl.pin{α}[Gv α]{M w p}{l:List α}(h:Sl M w p l):∃ b o cs,(0<l.length->p=some ⟨b,o,none⟩)/\Pin b o cs l M w:=by
 by_cases h0:0<l.length
 .obtain ⟨b,o,_,hp,_⟩:=h 0 h0;have key:∀ j,j<l.length->∃ cs:List Value,∀ hj:j<l.length,b ∉ M/\bT w b (o+j*(Gv.ty α).size) cs/\Gv.rep M w cs l[j]:=by
   intro j hj;obtain ⟨b',o',cs,h1,h2,h3,h4⟩:=h j hj;rw [hp] at h1;cases h1;exact ⟨cs,λ_=>⟨h2,h3,h4⟩⟩
  obtain ⟨cs,hl,hcs⟩:=M5 l.length key;refine ⟨b,o,cs,λ_=>hp,λj hj=>?_⟩;have:=hcs j (by omega) hj;rw [show cs.getD j []=cs[j] by simp [List.getD,show j<cs.length by omega]];exact this
 .exact ⟨0,0,[],λh=>absurd h h0,λj hj=>by omega⟩
theorem Ctx.pin{W w S}{Φ:PW}(c:Ctx W w S Φ){α}[Gv α]{p}{l:List α}(h:Sl (dom S) w p l):
  ∃ b o cs,(0<l.length->p=some ⟨b,o,none⟩)/\Ctx W w S (λM w=>Φ M w/\Pin b o cs l M w):=by
 obtain ⟨b,o,cs,hp,b0H⟩:=h.pin;exact ⟨b,o,cs,hp,c.add b0H⟩
section
variable {P:Program}{W w:World}{S F:List Own}{Φ Ψ:PW}
def y4(W:World)(o:Own)(M:List Nat)(w:World):Prop:=o.at w/\∀ b∈o.dom,b ∉ M/\W.heap.size<=b
instance YP(D:List Nat)(Φ:PW)[aB Φ]:aB (λM w=>Φ (D++M) w):=⟨fun {M M' w w'} hs h =>
 aB.step (Φ:=Φ) (M:=D++M) (M':=D++M') ⟨hs.chg.mono λx hx=>List.mem_append_right _ hx,λb hb=>by
  rcases List.mem_append.1 hb with h|h
  .exact .inl (List.mem_append_left _ h)
  .rcases hs.sub b h with h|h
   .exact .inl (List.mem_append_right _ h)
   .exact .inr h⟩ h⟩
theorem Own.nodup(o:Own):o.dom.Nodup:=by
 cases o with
 | blk=>simp [Own.dom]
 | obj=>simp [Own.dom]
 | buf p=>cases p<;>simp [Own.dom]
theorem HG(o S):dom (o :: S)=o.dom++dom S:=rfl
theorem Ctx.b0I{o}(c:Ctx W w (o :: S) Φ):Ctx W w S (λM w=>Φ (o.dom++M) w/\y4 W o M w) :=
 ⟨c.chg,λx hx=>c.own x (List.mem_cons_of_mem _ hx),λb hb=>c.OE b (by rw [HG];exact List.mem_append_right _ hb),
  (by have:=c.nodup;rw [HG,List.nodup_append] at this;exact this.2.1),c.yK,c.own o List.mem_cons_self,λb hb =>
   ⟨λhm=>by have:=c.nodup;rw [HG,List.nodup_append] at this;exact this.2.2 b hb b hm rfl,c.OE b (by rw [HG];exact List.mem_append_left _ hb)⟩⟩
theorem y4.sl{α}[Gv α]{M D p n cap cs t}{l:List α}(h:y4 W (.buf p n cap cs t (Gv.ty α).size) M w)(he:dR (D++M) w cs l):Sl M w p l:=by
 obtain ⟨⟨h1,h2⟩,h3⟩:=h;have hpos:0<(Gv.ty α).size:=Gv.pos;intro j hj;have hle:(j+1)*(Gv.ty α).size<=cs.length:=by rw [he.1];exact Nat.mul_le_mul_right _ hj
 rw [Nat.add_mul,Nat.one_mul] at hle;rcases h2 with ⟨e,rfl⟩|⟨g,cap',cur,e,_,hg,hnc,hcm,hcs,uL⟩
 .rw [Nat.zero_mul] at h1;omega
 .cases e;refine ⟨g,0,(cs.drop (j*(Gv.ty α).size)).take (Gv.ty α).size,rfl,(h3 g (by simp [Own.dom])).1,λi hi=>?_,?_⟩
  .rw [Nat.zero_add];simp only [List.length_take,List.length_drop] at hi;rw [List.getElem_take,List.getElem_drop];have hlt:j*(Gv.ty α).size+i<cs.length:=by omega
   have h2:∀ k v,k<cs.length->cs[k]? = some v->cur[k]? = some v:=by
    intro k v hk hv;rw [<-uL,List.getElem?_take_of_lt (by omega)] at hv;simpa using hv
   have h2:=h2 _ _ hlt (List.getElem?_eq_getElem hlt);simp [World.cell?,hg,h2]
  .exact Gv.mE ⟨kT.refl _ _,λb hb=>.inl (List.mem_append_right _ hb)⟩ (he.2 j hj)
def a2a(p:Option Addr)(n:Nat):Prop:=0<n->∃ b o,p=some ⟨b,o,none⟩
theorem Sl.there{α}[Gv α]{M w p}{l:List α}(h:Sl M w p l):a2a p l.length:=λh0=>by
 obtain ⟨b,o,_,h1,_⟩:=h 0 h0;exact ⟨b,o,h1⟩
theorem Sl.nil{α}[Gv α]{M w p}:Sl M w p ([]:List α):=λj hj=>by simp at hj
theorem dF.there{f args v p n}(oX:∀ M w,Φ M w->a2a p n)(h:a2a p n->dF Φ P f args v):dF Φ P f args v :=
 ⟨λW w S c=>(h (oX _ _ c.yK)).go W w S c⟩
def aC9(P:Program)(ts t:TypeId)(size bytes:Nat):Bool :=
 (match P.underlying ts with|some (.slice u)=>decide (u=t)|_=>false)&&(match P.info? t with
  | some i=>(match i.zero with|some z=>decide (z.cells.size=size)|none=>false)&&decide (i.size=size)&&decide (i.bytes=bytes)
  | none=>false)
theorem y5{ts t size bytes}(h:aC9 P ts t size bytes=true):∃ i z,P.underlying ts=some (.slice t)/\P.info? t=some i/\i.zero=some z/\i.size=size/\z.cells.size=size/\i.bytes=bytes:=by
 unfold aC9 at h;rw [Bool.and_eq_true] at h;obtain ⟨h1,h2⟩:=h;split at h1
 .rename_i u hu;have:u=t:=by simpa using h1
  subst this;split at h2
  .rename_i i hi;simp only [Bool.and_eq_true] at h2;obtain ⟨⟨h2,h3⟩,h4⟩:=h2;split at h2
   .rename_i z hz;exact ⟨i,z,hu,hi,hz,by simpa using h3,by simpa using h2,by simpa using h4⟩
   .cases h2
  .cases h2
 .cases h1
theorem wQ{ats ty cs args v w w'}(h:(Builtin.append_ ats ty args).run P w=.ok v w'):Sem.run P (builtin Builtin.append ats ty cs args) w=.ok (.value v) w':=by
 unfold builtin;simp only [Sem.run_bind,h,Result.andThen,Sem.run_pure]
theorem Ctx.YQ[aB Φ]{b news t' p n cap cs t size bytes}(c:Ctx W w (.blk b news t' :: .buf p n cap cs t size :: S) Φ){ts ty kb}(hb:aC9 P ts t size bytes=true)(h0:0<size)(hl:news.length=size)(h1:(news.all λu=>oY u)=true)(hlen:n<100000000)(hbytes:bytes<=1000):
  ∃ p' cap' w',Sem.run P (builtin Builtin.append #[ts,ts] ty kb #[.slice p n cap,.slice (some ⟨b,0,none⟩) 1 1]) w=.ok (.value (.slice p' (n+1) cap')) w'/\(∃ g,p'=some ⟨g,0,none⟩)/\Ctx W w' (.buf p' (n+1) cap' (cs++news) t size :: S) Φ:=by
 obtain ⟨i,z,e1,e2,e3,e4,e5,e6⟩:=y5 hb;have hby:(n+1)*i.bytes<=100000000*1000:=Nat.mul_le_mul (by omega) (by omega);obtain ⟨p',cap',w',h2,c'⟩:=c.append 1 rfl (ty:=ty) e1 e2 e3 e4 e5 (a:=⟨b,0,none⟩) (m:=1) (c2:=1) (news:=news) (by omega) (by rw [hl,Nat.one_mul]) (λj u hj=>by rw [addr_add,Nat.zero_add];exact c.get 0 rfl hj)
  (λu hu=>List.all_eq_true.1 h1 u hu) (by omega) (by omega)
 refine ⟨p',cap',w',wQ h2,?_,c'.drop1⟩;obtain ⟨g,hg,_⟩:=c'.nU 1 rfl (by rw [List.length_append];omega);exact ⟨g,hg⟩
theorem Ctx.Q3[aB Φ](c:Ctx W w S Φ)(t size):Ctx W w (.buf none 0 0 [] t size :: S) Φ:=c.aCp t size
theorem y4.aVB{α}[Gv α]{M b cs t}{l:List α}(h:y4 W (.blk b cs t) M w)(he:dR M w cs l):Sl M w (some ⟨b,0,none⟩) l:=by
 obtain ⟨h1,h2⟩:=h;have h1:vT w b cs t:=h1;intro j hj;have hle:(j+1)*(Gv.ty α).size<=cs.length:=by rw [he.1];exact Nat.mul_le_mul_right _ hj
 rw [Nat.add_mul,Nat.one_mul] at hle;refine ⟨b,0,(cs.drop (j*(Gv.ty α).size)).take (Gv.ty α).size,rfl,(h2 b (by simp [Own.dom])).1,λi hi=>?_,he.2 j hj⟩;simp only [List.length_take,List.length_drop] at hi;rw [Nat.zero_add,List.getElem_take,List.getElem_drop];exact h1.D8 (List.getElem?_eq_getElem (by omega))
theorem Ctx.BZ[aB Φ]{α}[Gv α]{b cs t}{l:List α}(c:Ctx W w (.blk b cs t :: S) Φ)(he:dR (dom (.blk b cs t :: S)) w cs l):Ctx W w S Φ/\Sl (dom S) w (some ⟨b,0,none⟩) l:=by
 have c':=c.b0I;refine ⟨c.drop1,c'.yK.2.aVB ⟨he.1,λj hj=>?_⟩⟩;exact Gv.mE ⟨kT.refl _ _,λb hb=>.inl (by rw [HG];exact List.mem_append_right _ hb)⟩ (he.2 j hj)
theorem dR.one{α}[Gv α]{M cs}{x:α}(h1:Gv.rep M w cs x):dR M w cs [x]:=dR.snoc (l:=[]) (cs:=[]) dR.nil h1
end
section
variable {P:Program}{W w w':World}{S S' F:List Own}{Φ Ψ:PW}
theorem Ctx.swap[aB Φ]{a b}(c:Ctx W w (a :: b :: S) Φ):Ctx W w (b :: a :: S) Φ:=c.perm (List.Perm.swap _ _ _)
theorem Ctx.aGU(c:Ctx W w S Φ)(k:Nat){p n cap cs t size}(hk:S[k]? = some (.buf p n cap cs t size))(h0:0<cs.length):
  ∃ b cur,p=some ⟨b,0,none⟩/\vT w b cur t/\cur.take (n*size)=cs/\n<=cap/\cap<=maxLen/\cur.length=cap*size/\cs.length=n*size:=by
 obtain ⟨h1,h2⟩:=c.own _ (List.mem_of_getElem? hk);rcases h2 with ⟨e,rfl⟩|⟨g,cap',cur,e,_,hg,hnc,hcm,hcs,uL⟩
 .rw [Nat.zero_mul] at h1;omega
 .cases e;exact ⟨g,cur.toList,rfl,by simpa [vT] using hg,uL,hnc,hcm,by simpa using hcs,h1⟩
theorem Ctx.a9m(c:Ctx W w S Φ)(k:Nat){p n cap cs t size}(hk:S[k]? = some (.buf p n cap cs t size)){b o}(hp:p=some ⟨b,0,none⟩){vs}(hv:∀ j,(hj:j<vs.length)->cs[o+j]? = some vs[j]):bT w b o vs:=by
 intro j hj;have hlt:o+j<cs.length:=(List.getElem?_eq_some_iff.1 (hv j hj)).1;obtain ⟨b',h1,_,h2⟩:=c.nU k hk (by omega);rw [hp] at h1;cases h1;exact (h2 _ _ (hv j hj)).1
theorem Ctx.a9n(c:Ctx W w S Φ)(k:Nat){p n cap cs t size}(hk:S[k]? = some (.buf p n cap cs t size)){b o m}(hp:p=some ⟨b,0,none⟩)(hm:o+m<=cs.length):aH w b o m:=by
 intro j hj;obtain ⟨b',h1,_,h2⟩:=c.nU k hk (by omega);rw [hp] at h1;cases h1;have:=h2 (o+j) cs[o+j] (List.getElem?_eq_getElem (by omega));exact ⟨by rw [this.1];rfl,this.2⟩
theorem HH:∀ (vs:List Value) (cs:List Value) (o:Nat),(mS cs o vs).length=cs.length
 | [],_,_=>rfl
 | v :: r,cs,o=>by unfold mS;rw [HH r];simp
theorem a2b:∀ (vs:List Value) (cs:List Value) (o m:Nat),o+vs.length<=m->(mS cs o vs).take m=mS (cs.take m) o vs
 | [],_,_,_,_=>rfl
 | v :: r,cs,o,m,h=>by
  unfold mS;simp only [List.length_cons] at h;rw [a2b r _ _ _ (by omega),List.take_set]
theorem rK:∀ (vs:List Value) (cs:List Value) (o i:Nat),(i<o\/o+vs.length<=i)->(mS cs o vs)[i]? = cs[i]?
 | [],_,_,_,_=>rfl
 | v :: r,cs,o,i,h=>by
  unfold mS;simp only [List.length_cons] at h;rw [rK r _ _ _ (by omega),List.getElem?_set_ne (by omega)]
theorem Q4:∀ (vs:List Value) (cs:List Value) (o i:Nat),i<vs.length->o+vs.length<=cs.length->(mS cs o vs)[o+i]? = vs[i]?
 | [],_,_,_,h,_=>by simp at h
 | v :: r,cs,o,0,h,hl=>by
  unfold mS;simp only [List.length_cons] at hl;rw [rK r _ _ _ (by omega),Nat.add_zero,List.getElem?_set_self (by omega)];rfl
 | v :: r,cs,o,i+1,h,hl=>by
  unfold mS;simp only [List.length_cons] at hl h;rw [show o+(i+1)=o+1+i by omega,Q4 r _ _ _ (by omega) (by simp;omega)];rfl
theorem Ctx.W5[aB Φ](c:Ctx W w S Φ)(k){p n cap cs vs t size}(hk:S[k]? = some (.buf p n cap cs t size)){b o}(hp:p=some ⟨b,0,none⟩)(h0:0<cs.length)(ho:o+vs.length<=cs.length)(e:w'=w.setCells b o vs):Ctx W w' (S.set k (.buf p n cap (mS cs o vs) t size)) Φ:=by
 obtain ⟨b',cur,h1,hb,uL,hnc,hcm,uK,hl⟩:=c.aGU k hk h0;rw [hp] at h1;cases h1;subst e;refine c.upd hk ((kT.refl _ _).setCells (by subst hp;simp [Own.dom]) o vs) (λx hx=>.inl (by subst hp;exact hx)) (by subst hp;simp [Own.dom]) ?_;have hb':=vT.sets vs o hb;refine ⟨by rw [HH,hl],.inr ⟨b,cap,(mS cur o vs).toArray,by rw [hp],Nat.zero_le _,hb',hnc,hcm,by simp [HH,uK],?_⟩⟩;rw [<-uL,a2b _ _ _ _ (by omega)]
theorem Sl.cells{α}[Gv α]{M p}{l:List α}(h:Sl M w p l)(h1:∀ M w cs (x:α),Gv.rep M w cs x->(cs.all λu=>oY u)=true)(h0:0<l.length):
  ∃ b o news,p=some ⟨b,o,none⟩/\news.length=l.length*(Gv.ty α).size/\(∀ j u,news[j]? = some u->w.cell? ⟨b,o+j,none⟩=some u)/\dR M w news l/\(news.all λu=>oY u)=true:=by
 obtain ⟨b,o,_,hp,_⟩:=h 0 h0;have key:∀ k,k<=l.length->∃ news:List Value,news.length=k*(Gv.ty α).size/\(∀ j u,news[j]? = some u->w.cell? ⟨b,o+j,none⟩=some u)/\dR M w news (l.take k)/\(news.all λu=>oY u)=true:=by
  intro k
  induction k with
  | zero=>intro _;exact ⟨[],by simp,λj u hj=>by simp at hj,by rw [List.take_zero];exact dR.nil,rfl⟩
  | succ k ih =>
   intro hk;obtain ⟨news,g1,g2,g3,g4⟩:=ih (by omega);obtain ⟨b',o',cs,e1,_,e3,e4⟩:=h k (by omega);rw [hp] at e1;cases e1;have hlen:=Gv.len e4;refine ⟨news++cs,by rw [List.length_append,g1,hlen,Nat.add_mul,Nat.one_mul],λj u hj=>?_,?_,by rw [List.all_append,g4,h1 _ _ _ _ e4];rfl⟩
   .by_cases hlt:j<news.length
    .rw [List.getElem?_append_left hlt] at hj;exact g2 j u hj
    .rw [List.getElem?_append_right (by omega)] at hj;have hl2:j - news.length<cs.length:=(List.getElem?_eq_some_iff.1 hj).1;have:=e3 (j - news.length) hl2;rw [show o+k*(Gv.ty α).size+(j - news.length)=o+j by omega] at this;rw [this,<-hj,List.getElem?_eq_getElem hl2]
   .rw [List.take_succ_eq_append_getElem (by omega)];exact g3.snoc e4
 obtain ⟨news,g1,g2,g3,g4⟩:=key l.length (Nat.le_refl _);rw [List.take_length] at g3;exact ⟨b,o,news,hp,g1,g2,g3,g4⟩
theorem Ctx.aGV[aB Φ]{α}[Gv α]{q}{l:List α}{c2 p n cap cs t bytes}(c:Ctx W w (.buf p n cap cs t (Gv.ty α).size :: S) Φ){ts ty kb}(hb:aC9 P ts t (Gv.ty α).size bytes=true)(h1:∀ M w cs (x:α),Gv.rep M w cs x->(cs.all λu=>oY u)=true)(qU:∀ M w,Φ M w->Sl M w q l)(h0:0<l.length)(hlen:n+l.length<100000000)(hbytes:bytes<=1000):
  ∃ p' cap' w' news,Sem.run P (builtin Builtin.append #[ts,ts] ty kb #[.slice p n cap,.slice q l.length c2]) w=.ok (.value (.slice p' (n+l.length) cap')) w'/\(∃ g,p'=some ⟨g,0,none⟩) /\
   Ctx W w' (.buf p' (n+l.length) cap' (cs++news) t (Gv.ty α).size :: S) (λM w=>Φ M w/\dR M w news l):=by
 obtain ⟨i,z,e1,e2,e3,e4,e5,e6⟩:=y5 hb;have hby:(n+l.length)*i.bytes<=100000000*1000:=Nat.mul_le_mul (by omega) (by omega);obtain ⟨b,o,news,hp,g1,g2,g3,g4⟩:=(qU _ _ c.yK).cells h1 h0;obtain ⟨p',cap',w',h2,c'⟩:=(c.add (Ψ:=λM w=>dR M w news l) g3).append 0 rfl (ty:=ty) e1 e2 e3 e4 e5 (a:=⟨b,o,none⟩) (m:=l.length) (c2:=c2) (news:=news) h0 g1 (λj u hj=>by rw [addr_add];exact g2 j u hj)
  (λu hu=>List.all_eq_true.1 g4 u hu) (by omega) (by omega)
 have hpos:0<(Gv.ty α).size:=Gv.pos;have hl2:0<l.length*(Gv.ty α).size:=Nat.mul_pos h0 hpos;refine ⟨p',cap',w',news,by rw [hp];exact wQ h2,?_,c'⟩;obtain ⟨g,hg,_⟩:=c'.nU 0 rfl (by rw [List.length_append];omega);exact ⟨g,hg⟩
end
section
variable {P:Program}{W w w':World}{S S' F:List Own}{Φ Ψ:PW}
theorem aB.less{Φ:PW}[aB Φ]{D M w}(h:Φ (D++M) w):Φ M w :=
 aB.step (Φ:=Φ) ⟨kT.refl _ _,λb hb=>.inl (List.mem_append_right _ hb)⟩ h
theorem Ctx.aGW[aB Φ]{α}[Gv α]{q}{l:List α}{c2 k t bytes}(c:Ctx W w (.blk k [] t :: S) Φ){ts ty kb}(hb:aC9 P ts t (Gv.ty α).size bytes=true)(h1:∀ M w cs (x:α),Gv.rep M w cs x->(cs.all λu=>oY u)=true)(qU:∀ M w,Φ M w->Sl M w q l)(hlen:l.length<100000000)(hbytes:bytes<=1000):
  ∃ p' cap' w' cs,Sem.run P (builtin Builtin.append #[ts,ts] ty kb #[.slice (some ⟨k,0,none⟩) 0 0,.slice q l.length c2]) w=.ok (.value (.slice p' l.length cap')) w' /\
   Ctx W w' (.buf p' l.length cap' cs t (Gv.ty α).size :: S) (λM w=>Φ M w/\dR M w cs l):=by
 have c':Ctx W w (.buf (some ⟨k,0,none⟩) 0 0 [] t (Gv.ty α).size :: S) Φ:=c.aMH 0 0 (Gv.ty α).size rfl (by simp) (by simp [maxLen]);rcases Nat.eq_zero_or_pos l.length with h0|h0
 .obtain ⟨i,z,e1,e2,e3,e4,e5,e6⟩:=y5 hb;have hl:l=[]:=List.eq_nil_of_length_eq_zero h0;subst hl;exact ⟨_,_,w,[],wQ (c'.aJS 0 rfl e1 e2 q c2),c'.add dR.nil⟩
 .obtain ⟨p',cap',w',news,h2,_,c3⟩:=c'.aGV (ty:=ty) (kb:=kb) (c2:=c2) hb h1 qU h0 (by omega) hbytes;rw [Nat.zero_add] at h2 c3;exact ⟨p',cap',w',news,h2,c3⟩
def aVC(b o:Nat)(vs:List Value)(M:List Nat)(w:World):Prop:=b ∉ M/\bT w b o vs/\b<w.heap.size
theorem y4.aVD{M b o cs vs t}(h:y4 W (.blk b cs t) M w)(hv:∀ j,(hj:j<vs.length)->cs[o+j]? = some vs[j]):aVC b o vs M w :=
 ⟨(h.2 b (by simp [Own.dom])).1,vT.row (show vT w b cs t from h.1) hv,Own.aFs h.1 b (by simp [Own.dom])⟩
def a3U(W:World)(Q:List Own)(M:List Nat)(w:World):Prop:=(∀ o∈Q,o.at w)/\(dom Q).Nodup/\∀ b∈dom Q,b ∉ M/\W.heap.size<=b
instance aBt(W:World)(Q:List Own):aB (λM w=>a3U W Q M w):=⟨λhs h=>by
 have hlt:∀ b∈dom Q,b<_:=λb hb=>by
  obtain ⟨o,ho,hb⟩:=List.mem_flatMap.1 hb;exact Own.aFs (h.1 o ho) b hb
 exact ⟨λo ho=>Own.OD (h.1 o ho) λb hb=>hs.chg.block b (hlt b (nT ho hb)) (h.2.2 b (nT ho hb)).1,h.2.1,λb hb=>⟨λhm=>by
  rcases hs.sub b hm with h1|h1
  .exact (h.2.2 b hb).1 h1
  .have:=hlt b hb;omega,(h.2.2 b hb).2⟩⟩⟩
def iT(W:World)(Q:List Own)(Φ:PW):PW:=λM w=>Φ (dom Q++M) w/\a3U W Q M w
instance aE3(W:World)(Q:List Own)(Φ:PW)[aB Φ]:aB (iT W Q Φ) :=
 have h1:aB (λM w=>Φ (dom Q++M) w):=YP (dom Q) Φ
 dD (λM w=>Φ (dom Q++M) w) (λM w=>a3U W Q M w)
theorem Ctx.aside{Q}(c:Ctx W w (Q++S) Φ):Ctx W w S (iT W Q Φ):=by
 have hd:=wG Q S;have hn:=c.nodup;rw [hd,List.nodup_append] at hn;refine ⟨c.chg,λx hx=>c.own x (List.mem_append_right _ hx),λb hb=>c.OE b (by rw [hd];exact List.mem_append_right _ hb),hn.2.1,?_,λo ho=>c.own o (List.mem_append_left _ ho),hn.1,λb hb=>⟨λhm=>hn.2.2 b hb b hm rfl,c.OE b (by rw [hd];exact List.mem_append_left _ hb)⟩⟩;have:=c.yK;rw [hd] at this;exact this
theorem Ctx.zU{Q}(c:Ctx W w S (iT W Q Φ)):Ctx W w (Q++S) Φ:=by
 obtain ⟨h1,h2,h3,h4⟩:=c.yK;have hd:=wG Q S;refine ⟨c.chg,λx hx=>?_,λb hb=>?_,?_,by rw [hd];exact h1⟩
 .rcases List.mem_append.1 hx with hx|hx
  .exact h2 x hx
  .exact c.own x hx
 .rw [hd] at hb;rcases List.mem_append.1 hb with hb|hb
  .exact (h4 b hb).2
  .exact c.OE b hb
 .rw [hd,List.nodup_append];exact ⟨h3,c.nodup,λa ha b hb e=>by subst e;exact (h4 a ha).1 hb⟩
theorem iT.parked{Q M}(h:iT W Q Φ M w){o}(ho:o∈Q):y4 W o M w:=⟨h.2.1 o ho,λb hb=>h.2.2.2 b (nT ho hb)⟩
theorem iT.less[aB Φ]{Q M}(h:iT W Q Φ M w):Φ M w:=aB.less h.1
theorem Ctx.re(c:Ctx W w S Φ)(e:S=S'):Ctx W w S' Φ:=e ▸ c
theorem Ctx.aPy{Q T G}(c:Ctx W w (Q++T++G) Φ):Ctx W w (T++G) (iT W Q Φ):=Ctx.aside (c.re (bM _ _ _))
theorem Ctx.aGX{Q T G}(c:Ctx W w (T++G) (iT W Q Φ)):Ctx W w (Q++T++G) Φ:=c.zU.re (bM _ _ _).symm
theorem Ctx.aGY(c:Ctx W w S Φ)(k:Nat){p n cap cs t size}(hk:S[k]? = some (.buf p n cap cs t size)){b i v}(hp:p=some ⟨b,0,none⟩)(hv:cs[i]? = some v):w.cell? ⟨b,i,none⟩=some v:=by
 obtain ⟨b',h1,_,h2⟩:=c.nU k hk (by have:=(List.getElem?_eq_some_iff.1 hv).1;omega);rw [hp] at h1;cases h1;exact (h2 _ _ hv).1
theorem a6r{α}[Gv α]{M p}{l:List α}{cap}(h:Sl M w p l)(k)(hc:l.length<=cap):Sl M w (cT p (Gv.ty α).size k cap) (l.drop k):=by
 intro j hj;rw [List.length_drop] at hj;obtain ⟨b,o,cs,rfl,h2,h3,h4⟩:=h (k+j) (by omega);refine ⟨b,o+k*(Gv.ty α).size,cs,?_,h2,?_,?_⟩
 .unfold cT;rw [if_neg (by omega)];simp [Addr.add]
 .rw [show o+k*(Gv.ty α).size+j*(Gv.ty α).size=o+(k+j)*(Gv.ty α).size by rw [Nat.add_mul];omega];exact h3
 .rw [List.getElem_drop];exact h4
end
end Go.Vc
end

section
namespace Go.Proofs.YtnlkemjhgdbfkaaGreatDoor
open Go.Vc
structure bH where
 term:Int
 data:ByteArray
instance:Gv bH:=Gv.via (β:=Int × ByteArray) (λx=>(x.term,x.data)) (λy=>⟨y.1,y.2⟩) (λ_=>rfl)
theorem aBu{x y:bH}:x=y ↔ (x.term=y.term/\x.data=y.data):=by cases x;cases y;simp
instance:DecidableEq bH:=λ_ _=>decidable_of_iff _ aBu.symm
structure bA where
 kind:Int
 src:Int
 to:Int
 term:Int
 index:Int
 prev:Int
 aD:Int
 yes:Bool
 aE:List bH
instance:Gv bA:=Gv.via (β:=Int × Int × Int × Int × Int × Int × Int × Bool × List bH) (λx=>(x.kind,x.src,x.to,x.term,x.index,x.prev,x.aD,x.yes,x.aE))
 (λy=>⟨y.1,y.2.1,y.2.2.1,y.2.2.2.1,y.2.2.2.2.1,y.2.2.2.2.2.1,y.2.2.2.2.2.2.1,y.2.2.2.2.2.2.2.1,y.2.2.2.2.2.2.2.2⟩) (λ_=>rfl)
structure kR where
 save:Bool
 term:Int
 aK:Int
 src:Int
 aE:List bH
 send:List bA
abbrev jS:kR:=⟨false,0,0,0,[],[]⟩
abbrev mI(l:List bA):kR:=⟨false,0,0,0,[],l⟩
structure dH where
 id:Nat
 term:Int
 aK:Int
 log:List bH
 role:Int
 aD:Nat
 bX:Nat->Bool
 next:Nat->Nat
 cE:Nat->Nat
def oR:List bH->Int->Int->Bool
 | [],_,_=>true
 | x :: l,least,most=>if (decide (x.term<least)||decide (most<x.term)||decide (2000<(x.data.size:Int)))=true then false else oR l x.term most
def aU(l:List bH):Nat->Int
 | 0=>0
 | k+1=>match l[k]? with
  | some x=>x.term
  | none=>0
def aL(id:Nat):List Nat:=if id=0 then [1,2] else if id=1 then [0,2] else [0,1]
def put{α:Type}(f:Nat->α)(i:Nat)(x:α):Nat->α:=λj=>if j=i then x else f j
def mP(r:dH)(kind to:Int):bA:=⟨kind,r.id,to,r.term,0,0,0,false,[]⟩
def entriesOf(r:dH)(to:Nat):bA :=
 ⟨2,r.id,to,r.term,((r.next to - 1:Nat):Int),aU r.log (r.next to - 1),r.aD,false,(r.log.drop (r.next to - 1)).take 8⟩
def bL(r:dH):List bA:=(aL r.id).map λi=>entriesOf r i
def dP(id:Nat)(term aK:Int)(log:List bH):dH:=⟨id,term,aK,log,0,0,λ_=>false,λ_=>0,λ_=>0⟩
def iP(r:dH)(to:Nat):bA:=⟨0,r.id,to,r.term,r.log.length,aU r.log r.log.length,0,false,[]⟩
def cV(r:dH):dH × kR :=
 if r.role=2 then (r,mI (bL r))
 else if r.term=1099511627776 then (r,jS)
 else
  let r1:dH:={ r with term:=r.term+1,aK:=r.id,role:=1,bX:=λi=>decide (i=r.id) }
  (r1,⟨true,r1.term,r1.aK,0,[],(aL r.id).map λi=>iP r1 i⟩)
def gQ(id:Nat)(m:bA):Bool :=
 decide (0<=m.kind)&&decide (m.kind<=3)&&decide (m.to=id)&&decide (m.src≠id)&&decide (0<=m.src)&&decide (m.src<=2)&&decide (1<=m.term)&&decide (m.term<=1099511627776)&&decide (0<=m.index)&&decide (m.index<=4000) &&
  decide (0<=m.prev)&&decide (m.prev<=m.term) && !(decide (m.index=0)&&decide (m.prev≠0))&&decide (0<=m.aD)&&decide (m.aD<=4000)&&decide ((m.aE.length:Int)<=8)&&decide (m.index+(m.aE.length:Int)<=4000)&&oR m.aE (max 1 m.prev) m.term
def HI(r:dH)(m:bA):Bool:=decide (aU r.log r.log.length<m.prev)||decide (m.prev=aU r.log r.log.length)&&decide ((r.log.length:Int)<=m.index)
def cX(r:dH)(m:bA):dH × kR :=
 if (decide (m.term=r.term)&&(decide (r.aK = -1)||decide (r.aK=m.src))&&HI r m)=true then ({ r with aK:=m.src },mI [⟨1,r.id,m.src,r.term,0,0,0,true,[]⟩])
 else (r,mI [mP r 1 m.src])
def b2n(b:Bool):Nat:=if b then 1 else 0
def kF(v:Nat->Bool):Nat:=b2n (v 0)+b2n (v 1)+b2n (v 2)
def cU(r:dH)(m:bA):dH × kR :=
 if (decide (r.role≠1)||decide (m.term≠r.term) || !m.yes)=true then (r,jS)
 else
  let r1:dH:={ r with bX:=put r.bX m.src.toNat true }
  if kF r1.bX<2 then (r1,jS)
  else
   let r2:dH:={ r1 with role:=2,next:=λ_=>r.log.length+1,cE:=λ_=>0 }
   (r2,mI (bL r2))
def agree:List bH->List bH->Nat
 | a :: l,b :: r=>if a.term=b.term then agree l r+1 else 0
 | _,_=>0
def iC(r:dH)(m:bA):bA:=⟨3,r.id,m.src,r.term,m.index+m.aE.length,0,0,true,[]⟩
def b9(r:dH)(m:bA):dH × kR :=
 if m.term<r.term then (r,mI [mP r 3 m.src])
 else if r.role=2 then (r,jS)
 else
  let r1:dH:={ r with role:=0 }
  if (decide ((r.log.length:Int)<m.index)||decide (aU r.log m.index.toNat≠m.prev))=true then (r1,mI [⟨3,r.id,m.src,r.term,min (r.log.length:Int) (m.index - 1),0,0,false,[]⟩])
  else
   let ix:=m.index.toNat
   let k:=agree (r.log.drop ix) m.aE
   let c:=max r.aD (min m.aD.toNat (ix+m.aE.length))
   if k<m.aE.length then
    if ix+k+1<=r.aD then (r1,jS)
    else ({ r1 with log:=r.log.take (ix+k)++m.aE.drop k,aD:=c },⟨false,0,0,((ix+k+1:Nat):Int),m.aE.drop k,[iC r m]⟩)
   else ({ r1 with aD:=c },mI [iC r m])
def lI(r:dH):Nat:=(aL r.id).foldl (λa i=>max a (r.cE i)) 0
def aQ(r:dH):dH:=if (decide (r.aD<lI r)&&decide (aU r.log (lI r)=r.term))=true then { r with aD:=lI r } else r
def aW(r:dH)(m:bA):dH × kR :=
 if (decide (r.role≠2)||decide (m.term≠r.term)||m.yes&&decide ((r.log.length:Int)<m.index))=true then (r,jS)
 else
  let f:=m.src.toNat
  if m.yes=false then
   let r1:dH:={ r with next:=put r.next f (max (r.cE f+1) (min (r.next f - 1) (m.index.toNat+1))) }
   (r1,mI [entriesOf r1 f])
  else
   let mt:=max (r.cE f) m.index.toNat
   let r1:dH:=aQ { r with cE:=put r.cE f mt,next:=put r.next f (mt+1) }
   if mt+1<=r.log.length then (r1,mI [entriesOf r1 f]) else (r1,jS)
def aT(r:dH)(m:bA):dH × kR :=
 if gQ r.id m=false then (r,jS)
 else
  let r1:dH:=if r.term<m.term then { r with term:=m.term,aK := -1,role:=0 } else r
  let x:dH × kR:=if m.kind=0 then cX r1 m else if m.kind=1 then cU r1 m else if m.kind=2 then b9 r1 m else aW r1 m
  if (decide (x.1.term=r.term)&&decide (x.1.aK=r.aK))=true then x
  else (x.1,{ x.2 with save:=true,term:=x.1.term,aK:=x.1.aK })
def aF(r:dH)(data:ByteArray):dH × Int × Int × kR :=
 if r.role≠2 then (r,0,24,jS)
 else if 2000<(data.size:Int) then (r,0,1,jS)
 else if r.log.length=4000 then (r,0,6,jS)
 else
  let x:bH:=⟨r.term,data⟩
  let r1:dH:={ r with log:=r.log++[x] }
  (r1,((r.log.length+1:Nat):Int),0,⟨false,0,0,((r.log.length+1:Nat):Int),[x],bL r1⟩)
structure kH(l:List bH)(most:Int):Prop where
 lo:∀ x∈l,1<=x.term
 hi:∀ x∈l,x.term<=most
 data:∀ x∈l,x.data.size<=2000
 N1:∀ i j,i<=j->(hj:j<l.length)->(hi:i<l.length)->l[i].term<=l[j].term
structure dH.Ok(r:dH):Prop where
 id:r.id<=2
 kK:0<=r.term
 iD:r.term<=1099511627776
 y6 : -1<=r.aK
 y7:r.aK<=2
 log:kH r.log r.term
 len:r.log.length<=4000
 role:r.role=0\/r.role=1\/r.role=2
 aD:r.aD<=r.log.length
 next:r.role=2->∀ i,1<=r.next i/\r.next i<=r.log.length+1/\r.cE i<=r.log.length
 bound:∀ i,r.next i<=4001/\r.cE i<=4000
end Go.Proofs.YtnlkemjhgdbfkaaGreatDoor
end

section
namespace Go.Vc
open Go.ChangeShapes Go.WideShapes Go.RowKit
section
variable {H:Type}{enc:TypeId × Value->H}{P:Program}{W:World}
theorem dF.law{Φ f args}(h:dF Φ P f args (.bool true))(h0:Φ [] W):Calls P f args W λe W'=>∃ u,e=.returned u/\(u=.bool true/\kT [] W W') :=
 (h.go W W [] (Ctx.start W h0)).mono λe w' ⟨h1,h2⟩=>⟨_,h1,rfl,h2.chg⟩
end
end Go.Vc
end

section
namespace Go.Vc
open Go.RowKit Go.Shelf
section
variable {P:Program}{W w w':World}{S R F:List Own}{Φ Ψ:PW}
theorem Ctx.lose[aB Φ](c:Ctx W w (R++S) Φ)(h:kT (dom R) w w'):Ctx W w' S Φ:=by
 have hn:=c.nodup;rw [wG,List.nodup_append] at hn;refine c.go ⟨h.mono λx hx=>by rw [wG];exact List.mem_append_left _ hx,λb hb=>.inl (by rw [wG];exact List.mem_append_right _ hb)⟩ (λo ho=>?_) hn.2.1;exact Own.OD (c.own o (List.mem_append_right _ ho)) λb hb=>h.block b (c.lt (nT (List.mem_append_right _ ho) hb)) λhm=>hn.2.2 b hm b (nT ho hb) rfl
theorem Ctx.aPz[aB Φ]{p n cap cs e}(c:Ctx W w (.buf p n cap cs e 1 :: S) Φ){t u ty kb i}(ht:P.underlying t=some (.slice e))(hu:P.underlying u=some .string)(hi:P.info? e=some i)(hz:i.zero=some (.int .u8 0))(hsize:i.size=1)(hby:i.bytes=1)(s)(hb:n+s.size<=140737488355328)(h63:n+s.size<=maxLen):
  ∃ p' cap' w',Sem.run P (builtin Builtin.append #[t,u] ty kb #[.slice p n cap,.string s]) w=.ok (.value (.slice p' (n+s.size) cap')) w'/\Ctx W w' (.buf p' (n+s.size) cap' (cs++Lib.strCells s) e 1 :: S) Φ:=by
 have hown:=c.own _ (List.mem_cons_self);obtain ⟨uK,hown⟩:=hown;have hxl:cs.length=n:=by simpa using uK
 have hlen:(cs++Lib.strCells s).length=(n+s.size)*1:=by rw [List.length_append,hxl,Lib.strCells_length,Nat.mul_one]
 have grown:∀ (old:Nat),old<n+s.size ->
   Ctx W (w.drew.alloc (.cells (cs.toArray++(Lib.strCells s).toArray++Builtin.zeroCells (Value.int .u8 0).cells (grownCap w (n+s.size) old e - (n+s.size))) e))
    (.buf (some ⟨w.heap.size,0,none⟩) (n+s.size) (grownCap w (n+s.size) old e) (cs++Lib.strCells s) e 1 :: S) Φ:=by
  intro old ho;have hge:=grownCap_ge w (n+s.size) old e;have hcm:grownCap w (n+s.size) old e<=maxLen:=grownCap_le_maxLen w (n+s.size) old e h63;have h:=c.upd (k:=0) (o':=.buf (some ⟨w.heap.size,0,none⟩) (n+s.size) (grownCap w (n+s.size) old e) (cs++Lib.strCells s) e 1) rfl (((kT.refl _ _).drewN 1).alloc (.cells (cs.toArray++(Lib.strCells s).toArray++Builtin.zeroCells (Value.int .u8 0).cells (grownCap w (n+s.size) old e - (n+s.size))) e)) (by simp [Own.dom]) (by simp [Own.dom])
   ⟨hlen,.inr ⟨w.heap.size,_,_,rfl,Nat.zero_le _,wD w.drew _,hge,hcm,?_,?_⟩⟩
  .exact h
  .have hz1:(Value.int IntKind.u8 0).cells.size=1:=rfl;simp only [Array.size_append,List.size_toArray,size_zeroCells,hz1,hxl,Lib.strCells_length];omega
  .simp only [Array.toList_append,bM];rw [<-bM,<-hlen];exact List.take_left
 rcases hown with ⟨e1,rfl⟩|⟨g,cap',cur,e1,_,hg,hnc,hcm,hcs,uL⟩
 .cases e1;have hx:cs=[]:=List.eq_nil_of_length_eq_zero hxl;subst hx;by_cases hm:s.size=0
  .have hn:Lib.strCells s=[]:=List.eq_nil_of_length_eq_zero (by rw [Lib.strCells_length];exact hm);refine ⟨none,0,w,wQ ?_,by rw [hm,hn];exact c⟩;have hf:=Lib.run_firstCells_string (P:=P) w 1 s;rw [hm] at hf;simp [Builtin.append_,run_underlying ht,run_underlying hu,sizeOf,typeInfo,hi,hsize,Builtin.lenOf,hm,hf]
  .have hr:=run_append_nil_string (P:=P) w t u ty e i (.int .u8 0) ht hu hi hz s (by omega) (by omega) (by rw [hby];omega);have hgr:=grown 0 (by omega);simp only [Nat.zero_add,List.nil_append,Array.empty_append] at hgr ⊢;have e1:(s.data.map λb=>Value.int .u8 b.toNat)=(Lib.strCells s).toArray:=by
    apply Array.ext';simp [Lib.strCells]
   rw [e1] at hr;exact ⟨_,_,_,wQ hr,hgr⟩
 .cases e1;have b5O:cur.size=cap:=by simpa using hcs
  have ht':cur.toList.take n=cs:=by simpa using uL
  by_cases hroom:n+s.size<=cap
  .have hr:=Lib.run_append_room_string (P:=P) w t u ty e i ht hu hi hsize g n cap cur hg s hroom (by omega);refine ⟨_,_,_,wQ hr,?_⟩;have h:=c.upd (k:=0) (w':=w.setRow g (cur.toList.take n++Lib.strCells s++cur.toList.drop (n+s.size)).toArray) (o':=.buf (some ⟨g,0,none⟩) (n+s.size) cap (cs++Lib.strCells s) e 1) rfl ⟨rfl,rfl,rfl,by simp,λb _ hb=>setRow_other w g b _ (by simpa [Own.dom] using hb)⟩ (by simp [Own.dom]) (by simp [Own.dom])
    ⟨hlen,.inr ⟨g,cap,_,rfl,Nat.zero_le _,setRow_heap w g cur _ e _ hg,hroom,hcm,?_,?_⟩⟩
   .exact h
   .simp only [List.size_toArray,List.length_append,List.length_take,List.length_drop,Array.length_toList,Lib.strCells_length];omega
   .rw [ht',<-hlen];exact List.take_left
  .have holds:∀ j u,cs[j]? = some u->w.cell? ((⟨g,0,none⟩:Addr).add j)=some u:=by
    intro j u hj;have hlt:j<cs.length:=(List.getElem?_eq_some_iff.1 hj).1;have h2:cur[j]? = some u:=by
     rw [<-ht',List.getElem?_take_of_lt (by omega)] at hj;simpa using hj
    rw [addr_add,Nat.zero_add];simp [World.cell?,hg,h2]
   have hr:=Lib.run_append_grow_string (P:=P) w t u ty e i (.int .u8 0) ht hu hi hz ⟨g,0,none⟩ n cap cs (by rw [hsize];simpa using hxl) holds s (by omega) (by omega) (by rw [hby];exact growslice_fits (by omega) (by omega));exact ⟨_,_,_,wQ hr,grown cap (by omega)⟩
def Bd(T e:TypeId)(b:Nat)(l:List UInt8)(R:List Own):Prop :=
 ∃ (pa:Value) (p:Option Addr) (cap:Nat),(pa=.pointer none\/pa=.pointer (some ⟨b,0,none⟩))/\R=[.blk b [pa,.slice p l.length cap] T,.buf p l.length cap (Lib.byteCells l) e 1]
theorem Bd.fresh[aB Φ]{T e b}(c:Ctx W w (.blk b [.pointer none,.slice none 0 0] T :: S) Φ):Ctx W w ([.blk b [.pointer none,.slice none 0 0] T,.buf none 0 0 [] e 1]++S) Φ :=
 ((c.aCp e 1).perm (List.Perm.swap _ _ _))
theorem Bd.nil{T e b}:Bd T e b [] [.blk b [.pointer none,.slice none 0 0] T,.buf none 0 0 [] e 1]:=⟨.pointer none,none,0,.inl rfl,rfl⟩
end
section
open Go.Proofs
variable {P:Program}{ρ:Ren}
theorem a9o{a w D}(h:kT D a w){p}(hp:p.block∈D)(n):kT D a (w.freeze p n):=by
 refine h.trans (T:=D) ?_ (λx hx=>.inl hx);unfold World.freeze;split
 .exact kT.refl _ _
 .refine ⟨rfl,rfl,rfl,by simp,λk hk hn=>?_⟩;simp only [Array.getElem?_modify];rw [if_neg (λe=>hn (by rw [<-e];exact hp))]
set_option maxHeartbeats 1000000 in
set_option maxRecDepth 100000 in
theorem KM(L:Lays.n169 P ρ)(X:Builder.Extra P ρ)(b g cap pa l w)(h0:l≠[])(hbk:w.heap[b]? = some (.cells #[pa,.slice (some ⟨g,0,none⟩) l.length cap] (ρ.t 72) (0,0)))(hown:w.ownsRow 0 (ρ.t 5) 1 (.slice (some ⟨g,0,none⟩) l.length cap) l.length (Lib.byteCells l)):
  Calls P (ρ.f 169) #[.pointer (some ⟨b,0,none⟩)] w λe w'=>e=.returned (.string ⟨l.toArray⟩)/\kT [g] w w':=by
 have hl0:l.length≠0:=by simpa using h0
 obtain ⟨cur,hg,hnc,hcm,hcs,uL⟩:∃ cur,w.heap[g]? = some (.cells cur (ρ.t 5) (0,0))/\l.length<=cap/\cap<=maxLen/\cur.size=cap*1/\cur.toList.take (l.length*1)=Lib.byteCells l:=by
  rcases hown.2 with ⟨hv,_⟩|⟨g',cap',cur,hv,_,r⟩
  .cases hv
  .cases hv;exact ⟨cur,r⟩
 have c1:w.drew.cell? ⟨b,1,none⟩=some (.slice (some ⟨g,0,none⟩) l.length cap):=by
  have:w.drew.heap[b]? = some (.cells #[pa,.slice (some ⟨g,0,none⟩) l.length cap] (ρ.t 72) (0,0)):=hbk;rw [Lib.cell_of_heap this];rfl
 have hSD:(Builtin.unsafeSliceData_ #[(ρ.t 37)] (ρ.t 127) #[.slice (some ⟨g,0,none⟩) l.length cap]).run P w.drew=.ok (.pointer (some ⟨g,0,none⟩)) w.drew :=
  Lib.run_unsafeSliceData_row _ _ _ _ _ _ (by omega)
 have hUS:(Builtin.unsafeString_ #[(ρ.t 127),(ρ.t 3)] (ρ.t 9) #[.pointer (some ⟨g,0,none⟩),.int .i64 l.length]).run P w.drew=.ok (.string ⟨l.toArray⟩) (w.drew.freeze ⟨g,0,none⟩ l.length):=by
  refine Lib.run_unsafeString_row w.drew (ρ.t 127) (ρ.t 3) (ρ.t 9) (ρ.t 5) L.t127 X.cellsByte g cur.size (by have hg':w.drew.heap[g]? = some (.cells cur (ρ.t 5) (0,0)):=hg;simp [World.shape?,hg']) l h0 (by omega) (by unfold maxLen at hcm;omega) ?_;intro j x hx;have:=hown.cells (g:=g) rfl j (.int .u8 x.toNat) (by simp [Lib.byteCells,hx]);exact this
 have mixed:=L.mixed;have t72:=L.t72;have a72:=L.a72;have z72:=L.z72;have v72:=L.v72;have u72:=run_underlying L.t72;have t70:=L.t70;have a70:=L.a70;have z70:=L.z70;have v70:=L.v70;have u70:=run_underlying L.t70;have t37:=L.t37;have a37:=L.a37;have z37:=L.z37;have v37:=L.v37;have u37:=run_underlying L.t37;have t127:=L.t127;have a127:=L.a127;have z127:=L.z127;have v127:=L.v127;have aPA:=run_underlying L.t127
 have t3:=L.t3;have a3:=L.a3;have z3:=L.z3;have v3:=L.v3;have u3:=run_underlying L.t3;have t9:=L.t9;have a9:=L.a9;have z9:=L.z9;have v9:=L.v9;have u9:=run_underlying L.t9;have t5:=X.t5;have a5:=X.a5;have z5:=X.z5;have v5:=X.v5;have u5:=run_underlying X.t5
 go_enter L.f169,Body.n169_ntmps ρ
 go_wp2
 go_region_o
 all_goals (go_wp2;go_ret;exact ⟨rfl,a9o ((kT.refl _ _).drewN 1) (p:=⟨g,0,none⟩) (by simp) _⟩)
set_option maxHeartbeats 2000000 in
set_option maxRecDepth 100000 in
theorem N2(L:Lays.n169 P ρ)(X:Builder.Extra P ρ)(b p w)(hbk:w.heap[b]? = some (.cells #[p,.slice none 0 0] (ρ.t 72) (0,0))):
  Calls P (ρ.f 169) #[.pointer (some ⟨b,0,none⟩)] w λe w'=>e=.returned (.string ⟨#[]⟩)/\kT [] w w':=by
 have hUS:=Any.unsafeString_none L X;have c1:w.drew.cell? ⟨b,1,none⟩=some (.slice none 0 0):=by
  have:w.drew.heap[b]? = some (.cells #[p,.slice none 0 0] (ρ.t 72) (0,0)):=hbk;rw [Lib.cell_of_heap this];rfl
 have hSD:(Builtin.unsafeSliceData_ #[(ρ.t 37)] (ρ.t 127) #[.slice none 0 0]).run P w.drew=.ok (.pointer none) w.drew:=rfl;have mixed:=L.mixed;have t72:=L.t72;have a72:=L.a72;have z72:=L.z72;have v72:=L.v72;have u72:=run_underlying L.t72;have t70:=L.t70;have a70:=L.a70;have z70:=L.z70;have v70:=L.v70;have u70:=run_underlying L.t70;have t37:=L.t37;have a37:=L.a37;have z37:=L.z37;have v37:=L.v37;have u37:=run_underlying L.t37
 have t127:=L.t127;have a127:=L.a127;have z127:=L.z127;have v127:=L.v127;have aPA:=run_underlying L.t127;have t3:=L.t3;have a3:=L.a3;have z3:=L.z3;have v3:=L.v3;have u3:=run_underlying L.t3;have t9:=L.t9;have a9:=L.a9;have z9:=L.z9;have v9:=L.v9;have u9:=run_underlying L.t9;have t5:=X.t5;have a5:=X.a5;have z5:=X.z5;have v5:=X.v5;have u5:=run_underlying X.t5
 go_enter L.f169,Body.n169_ntmps ρ
 go_wp2
 go_region_o
 all_goals (go_wp2;go_ret;exact ⟨rfl,(kT.refl _ _).drewN 1⟩)
set_option maxHeartbeats 2000000 in
set_option maxRecDepth 100000 in
theorem FE(L:Lays.n169 P ρ)(X:Builder.Extra P ρ)(b g p cur w)(hbk:w.heap[b]? = some (.cells #[p,.slice (some ⟨g,0,none⟩) 0 0] (ρ.t 72) (0,0)))(hg:w.heap[g]? = some (.cells cur (ρ.t 5) (0,0))):
  Calls P (ρ.f 169) #[.pointer (some ⟨b,0,none⟩)] w λe w'=>e=.returned (.string ⟨#[]⟩)/\kT [] w w':=by
 have hUS:=Any.unsafeString_none L X;have hlt:b<w.heap.size:=by
  rcases Nat.lt_or_ge b w.heap.size with h'|h'
  .exact h'
  .simp [Array.getElem?_eq_none h'] at hbk
 have c1:w.drew.cell? ⟨b,1,none⟩=some (.slice (some ⟨g,0,none⟩) 0 0):=by
  have:w.drew.heap[b]? = some (.cells #[p,.slice (some ⟨g,0,none⟩) 0 0] (ρ.t 72) (0,0)):=hbk;rw [Lib.cell_of_heap this];rfl
 have hSD:(Builtin.unsafeSliceData_ #[(ρ.t 37)] (ρ.t 127) #[.slice (some ⟨g,0,none⟩) 0 0]).run P w.drew=.ok (.pointer (some ⟨w.drew.heap.size,0,none⟩)) (w.drew.alloc (.view ⟨g,0,none⟩ (ρ.t 5))) :=
  Lib.run_unsafeSliceData_zero w.drew _ _ (ρ.t 5) L.t127 ⟨g,0,none⟩ 0 ((ρ.t 5),cur.size) (by have hg':w.drew.heap[g]? = some (.cells cur (ρ.t 5) (0,0)):=hg;simp [World.shape?,hg'])
 have c2:(w.drew.alloc (.view ⟨g,0,none⟩ (ρ.t 5))).cell? ⟨b,1,none⟩=some (.slice (some ⟨g,0,none⟩) 0 0):=by
  have:(w.drew.alloc (.view ⟨g,0,none⟩ (ρ.t 5))).heap[b]? = _:=(Lib.alloc_old w.drew _ b hlt).trans hbk;rw [Lib.cell_of_heap this];rfl
 have c3:(w.alloc (.view ⟨g,0,none⟩ (ρ.t 5))).drew.cell? ⟨b,1,none⟩=some (.slice (some ⟨g,0,none⟩) 0 0):=c2;have c0:w.cell? ⟨b,1,none⟩=some (.slice (some ⟨g,0,none⟩) 0 0):=c1;have mixed:=L.mixed;have t72:=L.t72;have a72:=L.a72;have z72:=L.z72;have v72:=L.v72;have u72:=run_underlying L.t72;have t70:=L.t70;have a70:=L.a70;have z70:=L.z70;have v70:=L.v70;have u70:=run_underlying L.t70;have t37:=L.t37;have a37:=L.a37;have z37:=L.z37;have v37:=L.v37;have u37:=run_underlying L.t37
 have t127:=L.t127;have a127:=L.a127;have z127:=L.z127;have v127:=L.v127;have aPA:=run_underlying L.t127;have t3:=L.t3;have a3:=L.a3;have z3:=L.z3;have v3:=L.v3;have u3:=run_underlying L.t3;have t9:=L.t9;have a9:=L.a9;have z9:=L.z9;have v9:=L.v9;have u9:=run_underlying L.t9;have t5:=X.t5;have a5:=X.a5;have z5:=X.z5;have v5:=X.v5;have u5:=run_underlying X.t5
 go_enter L.f169,Body.n169_ntmps ρ
 go_wp2
 go_region_o
 all_goals (go_wp2;go_ret;exact ⟨rfl,((kT.refl _ _).drewN 1).alloc _⟩)
set_option maxHeartbeats 2000000 in
set_option maxRecDepth 100000 in
theorem KN(L:Lays.n169 P ρ)(X:Builder.Extra P ρ)(b g cap p w)(hc0:cap≠0)(hbk:w.heap[b]? = some (.cells #[p,.slice (some ⟨g,0,none⟩) 0 cap] (ρ.t 72) (0,0))):
  Calls P (ρ.f 169) #[.pointer (some ⟨b,0,none⟩)] w λe w'=>e=.returned (.string ⟨#[]⟩)/\kT [] w w':=by
 have hUS:=Any.unsafeString_none L X;have c1:w.drew.cell? ⟨b,1,none⟩=some (.slice (some ⟨g,0,none⟩) 0 cap):=by
  have:w.drew.heap[b]? = some (.cells #[p,.slice (some ⟨g,0,none⟩) 0 cap] (ρ.t 72) (0,0)):=hbk;rw [Lib.cell_of_heap this];rfl
 have hSD:(Builtin.unsafeSliceData_ #[(ρ.t 37)] (ρ.t 127) #[.slice (some ⟨g,0,none⟩) 0 cap]).run P w.drew=.ok (.pointer (some ⟨g,0,none⟩)) w.drew :=
  Lib.run_unsafeSliceData_row _ _ _ _ _ _ hc0
 clear hc0;have mixed:=L.mixed;have t72:=L.t72;have a72:=L.a72;have z72:=L.z72;have v72:=L.v72;have u72:=run_underlying L.t72;have t70:=L.t70;have a70:=L.a70;have z70:=L.z70;have v70:=L.v70;have u70:=run_underlying L.t70;have t37:=L.t37;have a37:=L.a37;have z37:=L.z37;have v37:=L.v37;have u37:=run_underlying L.t37;have t127:=L.t127;have a127:=L.a127;have z127:=L.z127;have v127:=L.v127;have aPA:=run_underlying L.t127
 have t3:=L.t3;have a3:=L.a3;have z3:=L.z3;have v3:=L.v3;have u3:=run_underlying L.t3;have t9:=L.t9;have a9:=L.a9;have z9:=L.z9;have v9:=L.v9;have u9:=run_underlying L.t9;have t5:=X.t5;have a5:=X.a5;have z5:=X.z5;have v5:=X.v5;have u5:=run_underlying X.t5
 go_enter L.f169,Body.n169_ntmps ρ
 go_wp2
 go_region_o
 all_goals (go_wp2;go_ret;exact ⟨rfl,(kT.refl _ _).drewN 1⟩)
theorem Bd.string{W w S R}{Φ:PW}[aB Φ]{b l}(L:Lays.n169 P ρ)(X:Builder.Extra P ρ)(h:Bd (ρ.t 72) (ρ.t 5) b l R)(c:Ctx W w (R++S) Φ){K}(hk:∀ w',Ctx W w' S Φ->K (.returned (.string ⟨l.toArray⟩)) w'):Calls P (ρ.f 169) #[.pointer (some ⟨b,0,none⟩)] w K:=by
 obtain ⟨pa,p,cap,hpa,rfl⟩:=h;have hbk:w.heap[b]? = some (.cells #[pa,.slice p l.length cap] (ρ.t 72) (0,0)):=c.blk 0 rfl;have hown:w.ownsRow 0 (ρ.t 5) 1 (.slice p l.length cap) l.length (Lib.byteCells l):=c.own _ (List.mem_cons_of_mem _ List.mem_cons_self);by_cases h0:l=[]
 .subst h0;rcases hown.2 with ⟨e,_⟩|⟨g,cap',cur,e,_,hg,_⟩
  .cases e;exact (N2 L X b pa w hbk).mono λe w' ⟨he,hc⟩=>by subst he;exact hk w' (c.lose (hc.mono (by simp)))
  .cases e;by_cases hc0:cap=0
   .subst hc0;exact (FE L X b g pa cur w hbk hg).mono λe w' ⟨he,hc⟩=>by subst he;exact hk w' (c.lose (hc.mono (by simp)))
   .exact (KN L X b g cap pa w hc0 hbk).mono λe w' ⟨he,hc⟩=>by subst he;exact hk w' (c.lose (hc.mono (by simp)))
 .have hl0:l.length≠0:=by simpa using h0
  obtain ⟨g,rfl⟩:∃ g,p=some ⟨g,0,none⟩:=by
   rcases hown.2 with ⟨_,hz⟩|⟨g,cap',cur,hv,_⟩
   .exact absurd hz hl0
   .cases hv;exact ⟨g,rfl⟩
  exact (KM L X b g cap pa l w h0 hbk hown).mono λe w' ⟨he,hc⟩=>by subst he;exact hk w' (c.lose (hc.mono (by simp [dom,Own.dom])))
end
def Tab(P:Program)(name:String)(k:IntKind)(zs:List Int):PW:=λM w=>Lib.TabIs P w name k zs/\∀ g,P.globalNamed name=some g->g ∉ M
instance aJE(P:Program)(name:String)(k:IntKind)(zs:List Int):aB (Tab P name k zs):=⟨fun {M M' w w'} hs h=>by
 obtain ⟨h1,h2⟩:=h;unfold Lib.TabIs World.var? at h1;cases hg:P.globalNamed name with
 | none=>simp [hg] at h1
 | some g =>
  simp only [hg,Option.bind_some] at h1;have hlt:g<w.heap.size:=by
   rcases Nat.lt_or_ge g w.heap.size with h'|h'
   .exact h'
   .rw [Array.getElem?_eq_none h'] at h1;simp at h1
  refine ⟨?_,λg' hg' hm=>?_⟩
  .unfold Lib.TabIs World.var?;simp only [hg,Option.bind_some];rw [hs.chg.block g hlt (h2 g hg)];exact h1
  .rw [hg] at hg';cases hg';rcases hs.sub g hm with h|h
   .exact h2 g hg h
   .omega⟩
theorem Tab.start{P name k zs w}(h:Lib.TabIs P w name k zs):Tab P name k zs [] w:=⟨h,λ_ _=>by simp⟩
theorem aG0{w k os}:kT [] w (Sort.grow (w.drewN k) os) :=
 ⟨rfl,rfl,rfl,by show w.heap.size<=(w.heap++os).size;rw [Array.size_append];omega,λj hj _=>by
  show (w.heap++os)[j]? = w.heap[j]?;rw [Array.getElem?_append_left hj]⟩
theorem aK0{P f}{Φ : PW}[aB Φ]{name}(hI : ∀ (n : Int), -9223372036854775808 <= n -> n <= 9223372036854775807 -> ∀ w, Lib.TabIs P w name .u64 Lib.pow10Tab ->
   Calls P f #[.int .i64 n] w λe w'=>e=.returned (.string ⟨(Lib.itoa n).toArray⟩)/\∃ k os,w'=Sort.grow (w.drewN k) os)(oX:∀ M w,Φ M w->Tab P name .u64 Lib.pow10Tab M w)(n)(h:bE n):dF Φ P f #[.int .i64 n] (.string ⟨(Lib.itoa n).toArray⟩) :=
 ⟨λW w S c=>(hI n (by unfold bE at h;omega) (by unfold bE at h;omega) w (oX _ _ c.yK).1).mono λe w' ⟨he,k,os,hw⟩=>⟨he,by rw [hw];exact c.call aG0⟩⟩
open Go.ChangeShapes Go.WideShapes Go.ChangeAt
theorem a6s{H enc C os f fn s conds apart fresh handsOn tb ld}(own:ownKnob C.prog.godebug=none)(started:os.Started)(noInit:C.prog.inits.idxOf? f=none)(hfn:C.prog.funcs[f]? = some fn)(laid:laidOutB C.prog=true)(hvars:s.vars=[])(hspec:∀ ds:List (DataW H),ds.length=fn.params.toList.length->(s.fn H (ds++[])).results=[.lit (.bool true)]/\(s.fn H (ds++[])).args=ds/\(s.fn H (ds++[])).vars=[])(hres:fn.resultTypes=#[tb])(htb:C.prog.underlying tb=some .bool)(types:(fn.params.toList.all λt=>C.prog.readableRec t&&decide (t<C.prog.types.size))=true)(witness:∃ (w:World) (tape:Tape) (i:Input),w.os=os/\(w.forCall tape i).Shaped C.prog/\i.vars=[]/\Input.okWide C.prog (w.forCall tape i) .any w.heap.size f i /\
   ((s.pre enc C.prog fn conds apart (w.forCall tape i).memory i.args/\laidMetH C.prog ld (w.forCall tape i).memory)/\sizedMet enc C.prog fn (OpenSpec.ofChange s) apart (w.forCall tape i).memory i.args)/\Assume.holds {} C.prog (lone (Frame.enter C.prog f i.args .normal) [] (w.forCall tape i)))(contract:∀ (W:World) (base:Nat) (args:Array Value) (ds:List (DataW H)) (p:List MemPlace),
   (∀ (j:Nat) t v,fn.params[j]? = some t->args[j]? = some v->Value.okWide C.prog W .any base t v) ->
   DataW.TrodAll enc C.prog W 0 (λ_=>true) true fn.params.toList args.toList ds p ->
   conds.all (PathCond.test C.prog ⟨fn.params.toList,ds,s.plain.varTypes C.prog,[]⟩)=true->laidMetH C.prog ld W ->
   Calls C.prog f args W λe W'=>∃ u,e=.returned u/\(u=.bool true/\kT [] W W')):
  ReturnsInHanded {} C os f .any (λw args=>(s.pre enc C.prog fn conds apart w args/\laidMetH C.prog ld w)/\sizedMet enc C.prog fn (OpenSpec.ofChange s) apart w args) (s.post enc C.prog fn apart fresh handsOn false):=by
 refine returnsInHanded_of_change_and (X:=λw _=>laidMetH C.prog ld w) (λ_ _ _ hh h=>h.of_heap hh) own started noInit hfn witness ?_;intro W base args ds gs before hval hW b0O _ hL _;have hW':=hW;obtain ⟨p,q,hA,hV,rfl,_,_⟩:=hW;rw [hvars] at hV;obtain ⟨rfl,rfl⟩:=trodVars_none hV;simp only [List.append_nil] at hW';refine (contract W base args ds p hval hA b0O hL).mono λe W' ⟨u,he,hu,hc⟩=>?_;subst he;subst hu
 have hb:Below W.heap.size W W':=hc.below (Nat.le_refl _) (by simp);obtain ⟨e1,e2,e3⟩:=hspec ds (FQ hA).2;refine ⟨_,rfl,ds,[],p,[],p,[],hW',?_,?_,?_,hb.frame _,λh=>by cases h⟩
 .rw [e1,hres];exact trodAll_mk1 (t:=tb) (v:=.bool true) ⟨1,by simp [DataW.trod,Value.cells,htb]⟩
 .rw [e2];exact LA laid hb types hA (λx hx=>by simpa using hW'.lt x hx)
 .rw [e3,hvars];rfl
end Go.Vc
end

section
namespace Go.Proofs
open Go.Shelf
def Tryz.UH:Go.Shelf.Ren:=⟨fun|169=>145|n=>n,fun|70=>204|9=>9|0=>0|72=>207|37=>205|127=>318|3=>3|5=>5|n=>n,fun|n=>n⟩
theorem Tryz.aK1:Go.Proofs.Lays.n169 prog Tryz.UH:={
 mixed:=by kernel_rfl
 f169:=func145.trans (congrArg some (by kernel_rfl))
 t0:=underlying0
 a0:=isAgg0
 z0:=sizeOf0
 v0:=zeroValue0
 t3:=underlying3
 a3:=isAgg3
 z3:=sizeOf3
 v3:=zeroValue3
 t9:=underlying9
 a9:=isAgg9
 z9:=sizeOf9
 v9:=zeroValue9
 t37:=underlying205
 a37:=isAgg205
 z37:=sizeOf205
 v37:=zeroValue205
 t70:=underlying204
 a70:=isAgg204
 z70:=sizeOf204
 v70:=zeroValue204
 t72:=underlying207
 a72:=isAgg207
 z72:=sizeOf207
 v72:=zeroValue207
 t127:=underlying318
 a127:=isAgg318
 z127:=sizeOf318
 v127:=zeroValue318 }
theorem Tryz.Q5:Builder.Extra prog Tryz.UH:={
 sizeBuilder:=by kernel_rfl
 liesBuilder:=by kernel_rfl
 t5:=underlying5
 a5:=isAgg5
 z5:=sizeOf5
 v5:=zeroValue5
 infoByte:=by kernel_rfl
 cellsByte:=by kernel_rfl
 sizeByte:=by kernel_rfl
 neB5:=by decide }
def Tryz.a6t:Go.Shelf.Ren:=⟨fun|137=>315|217=>385|266=>425|n=>n,fun|9=>9|5=>5|3=>3|n=>n,fun|n=>n⟩
theorem Tryz.aK2:Go.Proofs.Lays.n137 prog Tryz.a6t:={
 mixed:=by kernel_rfl
 f137:=func315.trans (congrArg some (by kernel_rfl))
 f217:=func385.trans (congrArg some (by kernel_rfl))
 f266:=func425.trans (congrArg some (by kernel_rfl))
 t3:=underlying3
 a3:=isAgg3
 z3:=sizeOf3
 v3:=zeroValue3
 t5:=underlying5
 a5:=isAgg5
 z5:=sizeOf5
 v5:=zeroValue5
 t9:=underlying9
 a9:=isAgg9
 z9:=sizeOf9
 v9:=zeroValue9 }
def Tryz.a6u:Go.Shelf.Ren:=⟨fun|103=>317|210=>388|206=>431|n=>n,fun|9=>9|4=>4|24=>344|3=>3|n=>n,fun|n=>n⟩
theorem Tryz.aK3:Go.Proofs.Lays.n103 prog Tryz.a6u:={
 mixed:=by kernel_rfl
 f103:=func317.trans (congrArg some (by kernel_rfl))
 f206:=func431.trans (congrArg some (by kernel_rfl))
 f210:=func388.trans (congrArg some (by kernel_rfl))
 t3:=underlying3
 a3:=isAgg3
 z3:=sizeOf3
 v3:=zeroValue3
 t4:=underlying4
 a4:=isAgg4
 z4:=sizeOf4
 v4:=zeroValue4
 t9:=underlying9
 a9:=isAgg9
 z9:=sizeOf9
 v9:=zeroValue9
 t24:=underlying344
 a24:=isAgg344
 z24:=sizeOf344
 v24:=zeroValue344 }
def Tryz.a3V:Go.Shelf.Ren:=⟨fun|171=>210|243=>313|246=>381|283=>417|284=>418|285=>419|286=>420|129=>441|317=>440|318=>442|319=>443|320=>444|337=>451|338=>452|n=>n,fun|3=>3|9=>9|2=>2|4=>4|171=>445|0=>0|53=>383|37=>205|5=>5|173=>448|212=>464|51=>380|20=>20|213=>465|46=>97|232=>479|233=>480|n=>n,fun|17=>1|18=>5|19=>6|n=>n⟩
theorem Tryz.aG1:Go.Proofs.LaysM.n171 prog Tryz.a3V:={
 mixed:=by kernel_rfl
 f129:=func441.trans (congrArg some (by kernel_rfl))
 f171:=func210.trans (congrArg some (by kernel_rfl))
 f243:=func313.trans (congrArg some (by kernel_rfl))
 f246:=func381.trans (congrArg some (by kernel_rfl))
 f283:=func417.trans (congrArg some (by kernel_rfl))
 f284:=func418.trans (congrArg some (by kernel_rfl))
 f285:=func419.trans (congrArg some (by kernel_rfl))
 f286:=func420.trans (congrArg some (by kernel_rfl))
 f317:=func440.trans (congrArg some (by kernel_rfl))
 f318:=func442.trans (congrArg some (by kernel_rfl))
 f319:=func443.trans (congrArg some (by kernel_rfl))
 f320:=func444.trans (congrArg some (by kernel_rfl))
 f337:=func451.trans (congrArg some (by kernel_rfl))
 f338:=func452.trans (congrArg some (by kernel_rfl))
 t0:=underlying0
 a0:=isAgg0
 z0:=sizeOf0
 v0:=zeroValue0
 t2:=underlying2
 a2:=isAgg2
 z2:=sizeOf2
 v2:=zeroValue2
 t3:=underlying3
 a3:=isAgg3
 z3:=sizeOf3
 v3:=zeroValue3
 t4:=underlying4
 a4:=isAgg4
 z4:=sizeOf4
 v4:=zeroValue4
 t5:=underlying5
 a5:=isAgg5
 z5:=sizeOf5
 v5:=zeroValue5
 t9:=underlying9
 a9:=isAgg9
 z9:=sizeOf9
 v9:=zeroValue9
 t20:=underlying20
 a20:=isAgg20
 z20:=sizeOf20
 v20:=zeroValue20
 t37:=underlying205
 a37:=isAgg205
 z37:=sizeOf205
 v37:=zeroValue205
 t46:=underlying97
 a46:=isAgg97
 z46:=sizeOf97
 v46:=zeroValue97
 t51:=underlying380
 a51:=isAgg380
 z51:=sizeOf380
 v51:=zeroValue380
 t53:=underlying383
 a53:=isAgg383
 z53:=sizeOf383
 v53:=zeroValue383
 t171:=underlying445
 a171:=isAgg445
 z171:=sizeOf445
 v171:=zeroValue445
 t173:=underlying448
 a173:=isAgg448
 z173:=sizeOf448
 v173:=zeroValue448
 t212:=underlying464
 a212:=isAgg464
 z212:=sizeOf464
 v212:=zeroValue464
 t213:=underlying465
 a213:=isAgg465
 z213:=sizeOf465
 t232:=underlying479
 a232:=isAgg479
 z232:=sizeOf479
 v232:=zeroValue479
 t233:=underlying480
 a233:=isAgg480
 z233:=sizeOf480
 v233:=zeroValue480
 g17:=by kernel_rfl
 g18:=by kernel_rfl
 g19:=by kernel_rfl
 i0:=by kernel_rfl
 i2:=by kernel_rfl
 i3:=by kernel_rfl
 i4:=by kernel_rfl
 i5:=by kernel_rfl
 i9:=by kernel_rfl
 i20:=by kernel_rfl
 i37:=by kernel_rfl
 i46:=by kernel_rfl
 i51:=by kernel_rfl
 i53:=by kernel_rfl
 i171:=by kernel_rfl
 i173:=by kernel_rfl
 i212:=by kernel_rfl
 i232:=by kernel_rfl
 i233:=by kernel_rfl
 m17:=by kernel_rfl
 m18:=by kernel_rfl
 m19:=by kernel_rfl }
def Tryz.a6v:Go.Shelf.Ren:=⟨fun|171=>210|243=>313|246=>381|283=>417|284=>418|285=>419|286=>420|129=>441|317=>440|318=>442|319=>443|320=>444|337=>451|338=>452|n=>n,fun|3=>3|9=>9|2=>2|4=>4|171=>445|0=>0|53=>383|37=>205|5=>5|173=>448|212=>464|51=>380|20=>20|213=>465|46=>97|232=>479|233=>480|n=>n,fun|17=>1|18=>5|19=>6|n=>n⟩
theorem Tryz.aK4:Go.Proofs.Lays.n171 prog Tryz.a6v:={
 mixed:=by kernel_rfl
 f129:=func441.trans (congrArg some (by kernel_rfl))
 f171:=func210.trans (congrArg some (by kernel_rfl))
 f243:=func313.trans (congrArg some (by kernel_rfl))
 f246:=func381.trans (congrArg some (by kernel_rfl))
 f283:=func417.trans (congrArg some (by kernel_rfl))
 f284:=func418.trans (congrArg some (by kernel_rfl))
 f285:=func419.trans (congrArg some (by kernel_rfl))
 f286:=func420.trans (congrArg some (by kernel_rfl))
 f317:=func440.trans (congrArg some (by kernel_rfl))
 f318:=func442.trans (congrArg some (by kernel_rfl))
 f319:=func443.trans (congrArg some (by kernel_rfl))
 f320:=func444.trans (congrArg some (by kernel_rfl))
 f337:=func451.trans (congrArg some (by kernel_rfl))
 f338:=func452.trans (congrArg some (by kernel_rfl))
 t0:=underlying0
 a0:=isAgg0
 z0:=sizeOf0
 v0:=zeroValue0
 t2:=underlying2
 a2:=isAgg2
 z2:=sizeOf2
 v2:=zeroValue2
 t3:=underlying3
 a3:=isAgg3
 z3:=sizeOf3
 v3:=zeroValue3
 t4:=underlying4
 a4:=isAgg4
 z4:=sizeOf4
 v4:=zeroValue4
 t5:=underlying5
 a5:=isAgg5
 z5:=sizeOf5
 v5:=zeroValue5
 t9:=underlying9
 a9:=isAgg9
 z9:=sizeOf9
 v9:=zeroValue9
 t20:=underlying20
 a20:=isAgg20
 z20:=sizeOf20
 v20:=zeroValue20
 t37:=underlying205
 a37:=isAgg205
 z37:=sizeOf205
 v37:=zeroValue205
 t46:=underlying97
 a46:=isAgg97
 z46:=sizeOf97
 v46:=zeroValue97
 t51:=underlying380
 a51:=isAgg380
 z51:=sizeOf380
 v51:=zeroValue380
 t53:=underlying383
 a53:=isAgg383
 z53:=sizeOf383
 v53:=zeroValue383
 t171:=underlying445
 a171:=isAgg445
 z171:=sizeOf445
 v171:=zeroValue445
 t173:=underlying448
 a173:=isAgg448
 z173:=sizeOf448
 v173:=zeroValue448
 t212:=underlying464
 a212:=isAgg464
 z212:=sizeOf464
 v212:=zeroValue464
 t213:=underlying465
 a213:=isAgg465
 z213:=sizeOf465
 t232:=underlying479
 a232:=isAgg479
 z232:=sizeOf479
 v232:=zeroValue479
 t233:=underlying480
 a233:=isAgg480
 z233:=sizeOf480
 v233:=zeroValue480
 g17:=by kernel_rfl
 g18:=by kernel_rfl
 g19:=by kernel_rfl }
def Tryz.a3W:Go.Shelf.Ren:=⟨fun|172=>316|244=>386|245=>387|247=>426|279=>427|280=>428|281=>429|282=>430|287=>445|316=>446|171=>210|205=>447|321=>453|322=>454|243=>313|246=>381|283=>417|284=>418|285=>419|286=>420|129=>441|317=>440|318=>442|319=>443|320=>444|337=>451|338=>452|n=>n,fun|9=>9|3=>3|75=>209|76=>210|4=>4|5=>5|167=>454|37=>205|0=>0|85=>455|2=>2|168=>457|53=>383|175=>467|46=>97|210=>470|127=>318|145=>478|143=>476|21=>21|171=>445|173=>448|212=>464|51=>380|20=>20|213=>465|232=>479|233=>480|80=>158|n=>n,fun|15=>3|16=>4|17=>1|18=>5|19=>6|n=>n⟩
theorem Tryz.YR:Go.Proofs.LaysC.n172 prog Tryz.a3W:={
 mixed:=by kernel_rfl
 f129:=func441.trans (congrArg some (by kernel_rfl))
 f171:=func210.trans (congrArg some (by kernel_rfl))
 f172:=func316.trans (congrArg some (by kernel_rfl))
 f205:=func447.trans (congrArg some (by kernel_rfl))
 f243:=func313.trans (congrArg some (by kernel_rfl))
 f244:=func386.trans (congrArg some (by kernel_rfl))
 f245:=func387.trans (congrArg some (by kernel_rfl))
 f246:=func381.trans (congrArg some (by kernel_rfl))
 f247:=func426.trans (congrArg some (by kernel_rfl))
 f279:=func427.trans (congrArg some (by kernel_rfl))
 f280:=func428.trans (congrArg some (by kernel_rfl))
 f281:=func429.trans (congrArg some (by kernel_rfl))
 f282:=func430.trans (congrArg some (by kernel_rfl))
 f283:=func417.trans (congrArg some (by kernel_rfl))
 f284:=func418.trans (congrArg some (by kernel_rfl))
 f285:=func419.trans (congrArg some (by kernel_rfl))
 f286:=func420.trans (congrArg some (by kernel_rfl))
 f287:=func445.trans (congrArg some (by kernel_rfl))
 f316:=func446.trans (congrArg some (by kernel_rfl))
 f317:=func440.trans (congrArg some (by kernel_rfl))
 f318:=func442.trans (congrArg some (by kernel_rfl))
 f319:=func443.trans (congrArg some (by kernel_rfl))
 f320:=func444.trans (congrArg some (by kernel_rfl))
 f321:=func453.trans (congrArg some (by kernel_rfl))
 f322:=func454.trans (congrArg some (by kernel_rfl))
 f337:=func451.trans (congrArg some (by kernel_rfl))
 f338:=func452.trans (congrArg some (by kernel_rfl))
 t0:=underlying0
 a0:=isAgg0
 z0:=sizeOf0
 v0:=zeroValue0
 t2:=underlying2
 a2:=isAgg2
 z2:=sizeOf2
 v2:=zeroValue2
 t3:=underlying3
 a3:=isAgg3
 z3:=sizeOf3
 v3:=zeroValue3
 t4:=underlying4
 a4:=isAgg4
 z4:=sizeOf4
 v4:=zeroValue4
 t5:=underlying5
 a5:=isAgg5
 z5:=sizeOf5
 v5:=zeroValue5
 t9:=underlying9
 a9:=isAgg9
 z9:=sizeOf9
 v9:=zeroValue9
 t20:=underlying20
 a20:=isAgg20
 z20:=sizeOf20
 v20:=zeroValue20
 t21:=underlying21
 a21:=isAgg21
 z21:=sizeOf21
 v21:=zeroValue21
 t37:=underlying205
 a37:=isAgg205
 z37:=sizeOf205
 v37:=zeroValue205
 t46:=underlying97
 a46:=isAgg97
 z46:=sizeOf97
 v46:=zeroValue97
 t51:=underlying380
 a51:=isAgg380
 z51:=sizeOf380
 v51:=zeroValue380
 t53:=underlying383
 a53:=isAgg383
 z53:=sizeOf383
 v53:=zeroValue383
 t75:=underlying209
 a75:=isAgg209
 z75:=sizeOf209
 v75:=zeroValue209
 t76:=underlying210
 a76:=isAgg210
 z76:=sizeOf210
 v76:=zeroValue210
 t85:=underlying455
 a85:=isAgg455
 z85:=sizeOf455
 v85:=zeroValue455
 t127:=underlying318
 a127:=isAgg318
 z127:=sizeOf318
 v127:=zeroValue318
 t143:=underlying476
 a143:=isAgg476
 z143:=sizeOf476
 v143:=zeroValue476
 t145:=underlying478
 a145:=isAgg478
 z145:=sizeOf478
 v145:=zeroValue478
 t167:=underlying454
 a167:=isAgg454
 z167:=sizeOf454
 v167:=zeroValue454
 t168:=underlying457
 a168:=isAgg457
 z168:=sizeOf457
 v168:=zeroValue457
 t171:=underlying445
 a171:=isAgg445
 z171:=sizeOf445
 v171:=zeroValue445
 t173:=underlying448
 a173:=isAgg448
 z173:=sizeOf448
 v173:=zeroValue448
 t175:=underlying467
 a175:=isAgg467
 z175:=sizeOf467
 v175:=zeroValue467
 t210:=underlying470
 a210:=isAgg470
 z210:=sizeOf470
 v210:=zeroValue470
 t212:=underlying464
 a212:=isAgg464
 z212:=sizeOf464
 v212:=zeroValue464
 t213:=underlying465
 a213:=isAgg465
 z213:=sizeOf465
 t232:=underlying479
 a232:=isAgg479
 z232:=sizeOf479
 v232:=zeroValue479
 t233:=underlying480
 a233:=isAgg480
 z233:=sizeOf480
 v233:=zeroValue480
 g15:=by kernel_rfl
 g16:=by kernel_rfl
 g17:=by kernel_rfl
 g18:=by kernel_rfl
 g19:=by kernel_rfl
 t80:=underlying158
 a80:=isAgg158
 z80:=sizeOf158
 v80:=zeroValue158
 i0:=by kernel_rfl
 i2:=by kernel_rfl
 i3:=by kernel_rfl
 i4:=by kernel_rfl
 i5:=by kernel_rfl
 i9:=by kernel_rfl
 i20:=by kernel_rfl
 i21:=by kernel_rfl
 i37:=by kernel_rfl
 i46:=by kernel_rfl
 i51:=by kernel_rfl
 i53:=by kernel_rfl
 i75:=by kernel_rfl
 i76:=by kernel_rfl
 i80:=by kernel_rfl
 i85:=by kernel_rfl
 i127:=by kernel_rfl
 i143:=by kernel_rfl
 i145:=by kernel_rfl
 i167:=by kernel_rfl
 i168:=by kernel_rfl
 i171:=by kernel_rfl
 i173:=by kernel_rfl
 i175:=by kernel_rfl
 i210:=by kernel_rfl
 i212:=by kernel_rfl
 i232:=by kernel_rfl
 i233:=by kernel_rfl
 m15:=by kernel_rfl
 m16:=by kernel_rfl
 m17:=by kernel_rfl
 m18:=by kernel_rfl
 m19:=by kernel_rfl
 c0:=by kernel_rfl
 c2:=by kernel_rfl
 c3:=by kernel_rfl
 c4:=by kernel_rfl
 c5:=by kernel_rfl
 c9:=by kernel_rfl
 c20:=by kernel_rfl
 c21:=by kernel_rfl
 c37:=by kernel_rfl
 c46:=by kernel_rfl
 c51:=by kernel_rfl
 c53:=by kernel_rfl
 c75:=by kernel_rfl
 c76:=by kernel_rfl
 c80:=by kernel_rfl
 c85:=by kernel_rfl
 c127:=by kernel_rfl
 c143:=by kernel_rfl
 c145:=by kernel_rfl
 c167:=by kernel_rfl
 c168:=by kernel_rfl
 c171:=by kernel_rfl
 c173:=by kernel_rfl
 c175:=by kernel_rfl
 c210:=by kernel_rfl
 c212:=by kernel_rfl
 c213:=by kernel_rfl
 c232:=by kernel_rfl
 c233:=by kernel_rfl }
end Go.Proofs
end

section
namespace Go.Proofs.YtnlkemjhgdbfkaaGreatDoor
open Go.Vc
abbrev BdT(b:Nat)(l:List UInt8)(R:List Own):Prop:=Bd 207 5 b l R
theorem aBv:∃ j,prog.info? 207=some j/\j.size=2:=by
 have h:(prog.info? 207).map (·.size)=some 2:=by kernel_rfl
 exact Option.map_eq_some_iff.1 h
set_option maxHeartbeats 1000000 in
set_option maxRecDepth 100000 in
theorem YS(b w)(h0:w.cell? ⟨b,0,none⟩=some (.pointer (some ⟨b,0,none⟩))):
  Calls prog 243 #[.pointer (some ⟨b,0,none⟩)] w λe w'=>e=.returned (.tuple #[])/\w'=w:=by
 obtain ⟨j,hj,_⟩:=aBv
 go_enter func243,Tryz.ntmps243
 go_wp2
 rw [Lib.run_neq_ptr_same w _ underlying204 hj]
 go_wp2
 go_end0
 exact ⟨rfl,rfl⟩
set_option maxHeartbeats 1000000 in
set_option maxRecDepth 100000 in
theorem VR(b w)(h0:w.cell? ⟨b,0,none⟩=some (.pointer none))(hsh:w.shape? b=some (207,2))(hfz:w.frozen? ⟨b,0,none⟩=false):
  Calls prog 243 #[.pointer (some ⟨b,0,none⟩)] w λe w'=>e=.returned (.tuple #[])/\w'=w.setCell ⟨b,0,none⟩ (.pointer (some ⟨b,0,none⟩)):=by
 obtain ⟨j,hj,hjs⟩:=aBv
 go_enter func243,Tryz.ntmps243
 go_wp2
 rw [Lib.run_to_unsafe w ⟨b,0,none⟩ underlying204 underlying392 hj (by rw [hjs];decide) hsh (Nat.zero_lt_succ 1)];simp only [Result.andThen];rw [Oper.upon_value]
 go_wp2
 rw [run_callFunc_extern func333 (by kernel_rfl) (by kernel_rfl) (by kernel_rfl) (e:=Extern.AbiNoEscape.same) (by kernel_rfl)];rw [Lib.run_noEscape];simp only [Result.andThen];rw [Oper.upon_value]
 go_wp2
 rw [Lib.run_from_unsafe w ⟨b,0,none⟩ underlying392 underlying204 hj hsh (by kernel_rfl)];simp only [Result.andThen];rw [Oper.upon_value]
 go_wp2
 go_end0
 exact ⟨rfl,rfl⟩
theorem a1l{W w S}{Φ:PW}[aB Φ]{b pa v}(hp:pa=.pointer none\/pa=.pointer (some ⟨b,0,none⟩))(c:Ctx W w (.blk b [pa,v] 207 :: S) Φ){K}(hk:∀ w',Ctx W w' (.blk b [.pointer (some ⟨b,0,none⟩),v] 207 :: S) Φ->K (.returned (.tuple #[])) w'):aG F.oE #[.pointer (some ⟨b,0,none⟩)] w K:=by
 have hb:w.heap[b]? = some (.cells #[pa,v] 207 (0,0)):=c.blk 0 rfl;rcases hp with rfl|rfl
 .exact (VR b w (c.get 0 rfl rfl) (by simp [World.shape?,hb]) (by simp [World.frozen?,hb])).mono λe w' ⟨he,hw⟩=>by
   subst he;exact hk w' (c.put 0 hw rfl)
 .exact (YS b w (c.get 0 rfl rfl)).mono λe w' ⟨he,hw⟩=>by
   subst he;subst hw;exact hk w' c
theorem aDa:∃ i,prog.info? 5=some i/\i.zero=some (.int .u8 0)/\i.size=1/\i.bytes=1:=by
 have h:(prog.info? 5).map (λi=>(i.zero,i.size,i.bytes))=some (some (.int .u8 0),1,1):=by kernel_rfl
 obtain ⟨i,hi,he⟩:=Option.map_eq_some_iff.1 h;simp only [Prod.mk.injEq] at he;exact ⟨i,hi,he⟩
theorem YT(s):Lib.strCells s=Lib.byteCells s.data.toList:=rfl
theorem VS{W w S R}{Φ:PW}[aB Φ]{b l}(s)(h:BdT b l R)(c:Ctx W w (R++S) Φ)(hlen:l.length+s.size<=100000000000){K}(hk:∀ R' w',BdT b (l++s.data.toList) R'->Ctx W w' (R'++S) Φ->K (.returned (.tuple #[.int .i64 s.size,.nilIface])) w'):aG F.iK #[.pointer (some ⟨b,0,none⟩),.string s] w K:=by
 obtain ⟨pa,p,cap,hpa,rfl⟩:=h;obtain ⟨i,hi,hz,hsz,hby⟩:=aDa;refine iO (rJ b 0 s (J:=K∘.returned) c ?_);refine λw G c=>a1l hpa c λw c=>⟨rfl,[.blk b [.pointer (some ⟨b,0,none⟩),.slice p l.length cap] 207,.buf p l.length cap (Lib.byteCells l) 5 1]++S,Φ,aR,c,λw G c=>⟨p,l.length,cap,c.get 0 rfl rfl,λw G c=>?_⟩⟩;obtain ⟨p',cap',w',hrun,c'⟩:=Ctx.aPz (P:=prog) (t:=205) (u:=9) (ty:=205) (kb:=#[false,false]) (c.swap) underlying205 underlying9 hi hz hsz hby s (by omega) (by unfold maxLen;omega)
 refine ⟨p',_,cap',w',hrun,[.blk b [.pointer (some ⟨b,0,none⟩),.slice p l.length cap] 207,.buf p' (l.length+s.size) cap' (Lib.byteCells l++Lib.strCells s) 5 1]++S,Φ,aR,c'.swap,λw G c=>⟨c.can 0 rfl (by simp),λw' hw'=>?_⟩⟩;refine ⟨[.blk b [.pointer (some ⟨b,0,none⟩),.slice p' (l.length+s.size) cap'] 207,.buf p' (l.length+s.size) cap' (Lib.byteCells l++Lib.strCells s) 5 1]++S,Φ,aR,c.put 0 hw' rfl,λw G c=>hk [.blk b [.pointer (some ⟨b,0,none⟩),.slice p' (l.length+s.size) cap'] 207,.buf p' (l.length+s.size) cap' (Lib.byteCells l++Lib.strCells s) 5 1] w ⟨_,p',cap',.inr rfl,?_⟩ c.left⟩
 have hl:(l++s.data.toList).length=l.length+s.size:=by rw [List.length_append,Array.length_toList];rfl
 rw [hl,YT,Lib.byteCells_append]
theorem a9p{W w S R}{Φ:PW}[aB Φ]{b l}(h:BdT b l R)(c:Ctx W w (R++S) Φ){K}(hk:∀ w',Ctx W w' S Φ->K (.returned (.string ⟨l.toArray⟩)) w'):aG F.rG #[.pointer (some ⟨b,0,none⟩)] w K :=
 Bd.string Tryz.aK1 Tryz.Q5 h c hk
def sK(rB rO:Nat)(w:World)(J:Value->World->Prop):Prop :=
 ∃ (n0:Int),w.cell? (Addr.mk rB (rO+4) none)=some (.int .i64 n0)/\J (.int .i64 n0) w
theorem yZ(rB rO:Nat)(w:World)(J:Value->World->Prop)(h:sK rB rO w J):aG F.gN #[.pointer (some ⟨rB,rO,none⟩)] w λe w'=>∃ v,e=.returned v/\J v w' :=
 BG (H:={ keep:=some [0,2] }) (by rw [show vcF prog { keep:=some [0,2] } F.gN #[.pointer (some ⟨rB,rO,none⟩)] w J=sK rB rO w J by kernel_rfl];exact h)
def C9(n:Int)(a:Int)(b:Int)(w:World)(J:Value->World->Prop):Prop :=
 J (.bool (decide (a<=n)&&decide (n<=b))) w
theorem HJ(n:Int)(a:Int)(b:Int)(w:World)(J:Value->World->Prop)(h:C9 n a b w J):aG F.dL #[.int .i64 n,.int .i64 a,.int .i64 b] w λe w'=>∃ v,e=.returned v/\J v w' :=
 BG (H:={ keep:=some [0,1,2,6] }) (by rw [show vcF prog { keep:=some [0,1,2,6] } F.dL #[.int .i64 n,.int .i64 a,.int .i64 b] w J=C9 n a b w J by kernel_rfl];exact h)
def sL(rB rO:Nat)(n:Int)(w:World)(J:Value->World->Prop):Prop :=
 Br (decide (n=0)) (J (.int .i64 0) w) (∃ (p0:Option Addr) (k1 k2:Nat),w.cell? (Addr.mk rB (rO+3) none)=some (.slice p0 k1 k2)/\bE (n - 1)/\(0<=n - 1/\n - 1<(↑k1:Int))/\vX none p0 λk3 k4=>∃ (n5:Int),w.cell? (Addr.mk k3 (k4+(n - 1).toNat*2) none)=some (.int .i64 n5)/\J (.int .i64 n5) w)
theorem z6(rB rO:Nat)(n:Int)(w:World)(J:Value->World->Prop)(h:sL rB rO n w J):aG F.cC #[.pointer (some ⟨rB,rO,none⟩),.int .i64 n] w λe w'=>∃ v,e=.returned v/\J v w' :=
 BG (H:={ keep:=some [0,1,4,6] }) (by rw [show vcF prog { keep:=some [0,1,4,6] } F.cC #[.pointer (some ⟨rB,rO,none⟩),.int .i64 n] w J=sL rB rO n w J by kernel_rfl];exact h)
def qH(rB rO:Nat)(w:World)(J:Value->World->Prop):Prop :=
 ∃ (n0:Int),w.cell? (Addr.mk rB (rO+5) none)=some (.int .i64 n0)/\J (.int .i64 n0) w
theorem wR(rB rO:Nat)(w:World)(J:Value->World->Prop)(h:qH rB rO w J):aG F.dU #[.pointer (some ⟨rB,rO,none⟩)] w λe w'=>∃ v,e=.returned v/\J v w' :=
 BG (H:={ keep:=some [0,2] }) (by rw [show vcF prog { keep:=some [0,2] } F.dU #[.pointer (some ⟨rB,rO,none⟩)] w J=qH rB rO w J by kernel_rfl];exact h)
end Go.Proofs.YtnlkemjhgdbfkaaGreatDoor
end

