/-
 The conditions of the walks of some functions,one formula each;'B<f>_run' says that they suffice. The formulas are printed by a program;the kernel compares them with the functions' code.
-/
import Derived.Test.YtfccagphnfceiaaGreatDoorCRf6
import Derived.Test.YtfccagphnfceiaaGreatDoorCRf7
import Derived.Test.YtfccagphnfceiaaGreatDoorCRf5
import Derived.Maps.RangeRun
import Derived.Lib.AppendZerosOnto
import Derived.Lib.Overlaps
import Derived.Laws.IdiomCopy
import Derived.Laws.Externs

set_option linter.unusedVariables false
set_option linter.unusedSimpArgs false
section
namespace Go.Proofs.YtfccagphnfceiaaGreatDoor
set_option maxRecDepth 100000
open Go.Vc
def yL  (W:World) (R:List Own) (Φ:PW) (J:Value->World->Prop):Prop :=
 Zc W R Φ Tryz.prog F.F4 #[] λe2 q=>∃ p4,e2=.returned (.pointer p4)/\q λR5 iQ=>Zc W R5 iQ Tryz.prog F.M6 #[.int .i64 2,.slice none 0 0] λe9 q=>∃ UI,e9=.returned (.pointer UI)/\q λuO j3=>Zd W uO j3 λMA=>Br (p4.isNone||UI.isNone) (Zr W uO j3 J (.bool false)) (Zc W uO j3 Tryz.prog F.nM #[.pointer p4,.int .i64 3] λe20 q=>∃ p22 BG,e20=.returned (Value.tuple #[.pointer p22,.int .i64 BG])/\q λxE mQ=>Br p22.isNone (Zr W xE mQ J (.bool false)) (Br (decide (BG=0)) (Zc W xE mQ Tryz.prog F.aH #[.int .i64 1,.int .i64 1] λe30 q=>∃ p32 W6 Y9,e30=.returned (.slice p32 W6 Y9)/\q λR35 O9=>Zc W R35 O9 Tryz.prog F.aD #[.pointer p22,Value.int IntKind.i64 1,Value.int IntKind.i64 9,Value.slice p32 W6 Y9,Value.string (ByteArray.mk #[OfNat.ofNat 99,OfNat.ofNat 49])] λe39 q=>∃ n41,e39=.returned (.int .i64 n41)/\q λR42 a9m=>Br (decide (n41=0)) (Zc W R42 a9m Tryz.prog F.eF #[.pointer p22,.pointer UI] λe46 q=>∃ n48,e46=.returned (.int .i64 n48)/\q λR49 FT=>Br (decide (n48=0)) (Zc W R49 FT Tryz.prog F.eU #[.pointer p22] λe53 q=>∃ n55,e53=.returned (.int .i64 n55)/\q λR56 aGv=>Br (decide (n55=0)) (Zc W R56 aGv Tryz.prog F.dD #[.pointer p22] λe60 q=>∃ s62,e60=.returned (.string s62)/\q λWA yW=>Zc W WA yW Tryz.prog F.aG #[.pointer p4,.slice none 0 0] λe67 q=>∃ p69 n70,e67=.returned (Value.tuple #[.pointer p69,.int .i64 n70])/\q λR71 UM=>Br p69.isNone (Zr W R71 UM J (.bool false)) (Br (decide (n70=0)) (∀ w75 R76,Ctx W w75 (R71++R76) UM->Calls Tryz.prog F.aS #[.pointer p69] w75 λe77 w78=>∃ n79,e77=.returned (.int .i64 n79)/\∃ R80 X6,aA X6/\Ctx W w78 (R80 ++ R76) X6/\Br (decide (n79=2)) (Zc W R80 X6 Tryz.prog F.bD #[.pointer p69,.pointer UI] λe84 q=>∃ n86,e84=.returned (.int .i64 n86)/\q λR87 a0N=>Br (decide (n86=0)) (Zc W R87 a0N Tryz.prog F.aS #[.pointer p69] λe91 q=>∃ n93,e91=.returned (.int .i64 n93)/\q λR94 a5B=>Br (decide (n93=0)) (Zc W R94 a5B Tryz.prog F.bF #[.pointer p69] λe98 q=>∃ n100,e98=.returned (.int .i64 n100)/\q λM9 PY=>Br (decide (n100=1)) (∀ aPV OM,Ctx W aPV (M9++OM) PY->Calls Tryz.prog F.fH #[.pointer UI] aPV λaZr a8x=>∃ n107,aZr = .returned (.int .i64 n107)/\∃ aBf TK,aA TK/\Ctx W a8x (aBf++OM) TK/\Zc W aBf TK Tryz.prog F.aH #[.int .i64 2,.int .i64 2] λaZs q=>∃ aCB WU aCC,aZs=.returned (.slice aCB WU aCC)/\q λaJ4 aA0=>Zc W aJ4 aA0 Tryz.prog F.aD #[.pointer p69,Value.int IntKind.i64 2,Value.int IntKind.i64 9,Value.slice aCB WU aCC,Value.string (ByteArray.mk #[OfNat.ofNat 99,OfNat.ofNat 50])] λaZt q=>∃ n123,aZt=.returned (.int .i64 n123)/\q λaB1 YT=>Zc W aB1 YT Tryz.prog F.aG #[.pointer p4,.slice none 0 0] λaZu q=>∃ aCD n131,aZu=.returned (Value.tuple #[.pointer aCD,.int .i64 n131])/\q λRN Z7=>Br aCD.isNone (Zr W RN Z7 J (.bool false)) (Br (decide (s62=ByteArray.mk #[OfNat.ofNat 99,OfNat.ofNat 49])) (Br (decide (n107=1)) (Br (decide (n123=0)) (Br (decide (n131=0)) (Zc W RN Z7 Tryz.prog F.bD #[.pointer aCD,.pointer UI] λaZv q=>∃ n140,aZv=.returned (.int .i64 n140)/\q λaPW aH8=>Br (decide (n140=0)) (Zc W aPW aH8 Tryz.prog F.bF #[.pointer aCD] λaLc q=>∃ n147,aLc=.returned (.int .i64 n147)/\q λaCE a3j=>Br (decide (n147=1)) (Zc W aCE a3j Tryz.prog F.dD #[.pointer aCD] λaZw q=>∃ aPX,aZw=.returned (.string aPX)/\q λaGx aPY=>Zr W aGx aPY J (.bool (decide (aPX=ByteArray.mk #[OfNat.ofNat 99,OfNat.ofNat 49])))) (Zr W aCE a3j J (.bool false))) (Zr W aPW aH8 J (.bool false))) (Zr W RN Z7 J (.bool false))) (Zr W RN Z7 J (.bool false))) (Zr W RN Z7 J (.bool false))) (Zr W RN Z7 J (.bool false)))) (Zc W M9 PY Tryz.prog F.aH #[.int .i64 2,.int .i64 2] λaZx q=>∃ aPZ aP0 aGy,aZx=.returned (.slice aPZ aP0 aGy)/\q λaGz a3k=>Zc W aGz a3k Tryz.prog F.aD #[.pointer p69,Value.int IntKind.i64 2,Value.int IntKind.i64 9,Value.slice aPZ aP0 aGy,Value.string (ByteArray.mk #[OfNat.ofNat 99,OfNat.ofNat 50])] λaZy q=>∃ n184,aZy=.returned (.int .i64 n184)/\q λaZz aP1=>Zc W aZz aP1 Tryz.prog F.aG #[.pointer p4,.slice none 0 0] λaLd q=>∃ aCF n192,aLd=.returned (Value.tuple #[.pointer aCF,.int .i64 n192])/\q λaCG a3l=>Br aCF.isNone (Zr W aCG a3l J (.bool false)) (Br (decide (s62=ByteArray.mk #[OfNat.ofNat 99,OfNat.ofNat 49])) (∀ aP2 aLe, Ctx W aP2 (aCG++aLe) a3l->J (.bool false) aP2) (Zr W aCG a3l J (.bool false))))) (Zc W R94 a5B Tryz.prog F.aH #[.int .i64 2,.int .i64 2] λaZA q=>∃ aP3 aP4 aP5,aZA=.returned (.slice aP3 aP4 aP5)/\q λaZB aP6=>Zc W aZB aP6 Tryz.prog F.aD #[.pointer p69,Value.int IntKind.i64 2,Value.int IntKind.i64 9,Value.slice aP3 aP4 aP5,Value.string (ByteArray.mk #[OfNat.ofNat 99,OfNat.ofNat 50])] λaZC q=>∃ n214,aZC=.returned (.int .i64 n214)/\q λa3m J3=>∀ a9n aCH,Ctx W a9n (a3m++aCH) J3->Calls Tryz.prog F.aG #[.pointer p4,.slice none 0 0] a9n λaZD aZE=>∃ aP7 n222, aZD=.returned (Value.tuple #[.pointer aP7,.int .i64 n222])/\∃ a5C a3n,aA a3n/\Ctx W aZE (a5C++aCH) a3n/\Br aP7.isNone (Zr W a5C a3n J (.bool false)) (Br (decide (s62=ByteArray.mk #[OfNat.ofNat 99,OfNat.ofNat 49])) (Zr W a5C a3n J (.bool false)) (Zr W a5C a3n J (.bool false))))) (Zc W R87 a0N Tryz.prog F.aH #[.int .i64 2,.int .i64 2] λaZF q=>∃ a9o a9p a9q,aZF=.returned (.slice a9o a9p a9q)/\q λaLf a7v=>Zc W aLf a7v Tryz.prog F.aD #[.pointer p69,Value.int IntKind.i64 2,Value.int IntKind.i64 9,Value.slice a9o a9p a9q,Value.string (ByteArray.mk #[OfNat.ofNat 99, OfNat.ofNat 50])] λaZG q=>∃ n244,aZG=.returned (.int .i64 n244)/\q λaZH aP8=>Zc W aZH aP8 Tryz.prog F.aG #[.pointer p4,.slice none 0 0] λaZI q=>∃ aP9 n252,aZI=.returned (Value.tuple #[.pointer aP9,.int .i64 n252])/\q λaLg aCI=>Br aP9.isNone (Zr W aLg aCI J (.bool false)) (Br (decide (s62=ByteArray.mk #[OfNat.ofNat 99,OfNat.ofNat 49])) (Zr W aLg aCI J (.bool false)) (Zr W aLg aCI J (.bool false))))) (Zc W R80 X6 Tryz.prog F.aH #[.int .i64 2,.int .i64 2] λaZJ q=>∃ aCJ aCK aCL,aZJ=.returned (.slice aCJ aCK aCL)/\q λaZK aQa=>Zc W aZK aQa Tryz.prog F.aD #[.pointer p69,Value.int IntKind.i64 2,Value.int IntKind.i64 9,Value.slice aCJ aCK aCL,Value.string (ByteArray.mk #[OfNat.ofNat 99,OfNat.ofNat 50])] λaZL q=>∃ n274,aZL=.returned (.int .i64 n274)/\q λaZM aQb=>Zc W aZM aQb Tryz.prog F.aG #[.pointer p4,.slice none 0 0] λaZN q=>∃ aQc n282,aZN=.returned (Value.tuple #[.pointer aQc,.int .i64 n282])/\q λaLh aCM=>Br aQc.isNone (Zr W aLh aCM J (.bool false)) (Br (decide (s62=ByteArray.mk #[OfNat.ofNat 99,OfNat.ofNat 49])) (Zr W aLh aCM J (.bool false)) (Zr W aLh aCM J (.bool false))))) (Zc W R71 UM Tryz.prog F.aH #[.int .i64 2,.int .i64 2] λaZO q=>∃ aQd aQe aQf,aZO=.returned (.slice aQd aQe aQf)/\q λaGA a3o=>Zc W aGA a3o Tryz.prog F.aD #[.pointer p69,Value.int IntKind.i64 2,Value.int IntKind.i64 9,Value.slice aQd aQe aQf,Value.string (ByteArray.mk #[OfNat.ofNat 99,OfNat.ofNat 50])] λaLi q=>∃ n304,aLi=.returned (.int .i64 n304)/\q λaLj aCN=>Zc W aLj aCN Tryz.prog F.aG #[.pointer p4,.slice none 0 0] λaZP q=>∃ aQg n312,aZP=.returned (Value.tuple #[.pointer aQg,.int .i64 n312])/\q λa9r aCO=>Br aQg.isNone (Zr W a9r aCO J (.bool false)) (Br (decide (s62=ByteArray.mk #[OfNat.ofNat 99,OfNat.ofNat 49])) (Zr W a9r aCO J (.bool false)) (Zr W a9r aCO J (.bool false)))))) (Zc W R56 aGv Tryz.prog F.aG #[.pointer p4,.slice none 0 0] λaZQ q=>∃ RO n326,aZQ=.returned (Value.tuple #[.pointer RO,.int .i64 n326])/\q λaCP a3p=>Br RO.isNone (Zr W aCP a3p J (.bool false)) (Br (decide (n326=0)) (Zc W aCP a3p Tryz.prog F.aS #[.pointer RO] λaZR q=>∃ n335,aZR=.returned (.int .i64 n335)/\q λaQh aH9=>Br (decide (n335=2)) (Zc W aQh aH9 Tryz.prog F.bD #[.pointer RO,.pointer UI] λaZS q=>∃ n342,aZS=.returned (.int .i64 n342)/\q λaCQ Z8=>Br (decide (n342=0)) (Zc W aCQ Z8 Tryz.prog F.aS #[.pointer RO] λaZT q=>∃ aQi,aZT=.returned (.int .i64 aQi)/\q λaQj aIa=>Br (decide (aQi=0)) (Zc W aQj aIa Tryz.prog F.bF #[.pointer RO] λaZU q=>∃ aQk,aZU=.returned (.int .i64 aQk)/\q λaQl aIb=>Br (decide (aQk=1)) (Zc W aQl aIb Tryz.prog F.fH #[.pointer UI] λaZV q=>∃ aZW,aZV=.returned (.int .i64 aZW)/\q λaZX aQm=>Zc W aZX aQm Tryz.prog F.aH #[.int .i64 2,.int .i64 2] λaZY q=>∃ aQn aQo aQp,aZY=.returned (.slice aQn aQo aQp)/\q λaZZ aQq=>Zc W aZZ aQq Tryz.prog F.aD #[.pointer RO,Value.int IntKind.i64 2,Value.int IntKind.i64 9,Value.slice aQn aQo aQp,Value.string (ByteArray.mk #[OfNat.ofNat 99,OfNat.ofNat 50])] λaZ0 q=>∃ aZ1,aZ0=.returned (.int .i64 aZ1)/\q λaZ2 aQr=>Zc W aZ2 aQr Tryz.prog F.aG #[.pointer p4,.slice none 0 0] λaZ3 q=>∃ aCR aCS,aZ3=.returned (Value.tuple #[.pointer aCR,.int .i64 aCS])/\q λaQs aIc=>Br aCR.isNone (Zr W aQs aIc J (.bool false)) (Zr W aQs aIc J (.bool false))) (Zc W aQl aIb Tryz.prog F.aH #[.int .i64 2,.int .i64 2] λaZ4 q=>∃ aQt aQu aCT,aZ4=.returned (.slice aQt aQu aCT)/\q λaZ5 aQv=>Zc W aZ5 aQv Tryz.prog F.aD #[.pointer RO,Value.int IntKind.i64 2,Value.int IntKind.i64 9,Value.slice aQt aQu aCT,Value.string (ByteArray.mk #[OfNat.ofNat 99, OfNat.ofNat 50])] λaZ6 q=>∃ aZ7,aZ6=.returned (.int .i64 aZ7)/\q λaZ8 aQw=>Zc W aZ8 aQw Tryz.prog F.aG #[.pointer p4,.slice none 0 0] λaZ9 q=>∃ aQx b0a,aZ9=.returned (Value.tuple #[.pointer aQx,.int .i64 b0a])/\q λaQy aId=>Br aQx.isNone (Zr W aQy aId J (.bool false)) (Zr W aQy aId J (.bool false)))) (Zc W aQj aIa Tryz.prog F.aH #[.int .i64 2,.int .i64 2] λb0b q=>∃ aQz aQA aQB,b0b=.returned (.slice aQz aQA aQB)/\q λaGB a3q=>Zc W aGB a3q Tryz.prog F.aD #[.pointer RO,Value.int IntKind.i64 2,Value.int IntKind.i64 9,Value.slice aQz aQA aQB,Value.string (ByteArray.mk #[OfNat.ofNat 99,OfNat.ofNat 50])] λb0c q=>∃ b0d,b0c=.returned (.int .i64 b0d)/\q λb0e aQC=>Zc W b0e aQC Tryz.prog F.aG #[.pointer p4,.slice none 0 0] λb0f q=>∃ aQD b0g,b0f=.returned (Value.tuple #[.pointer aQD,.int .i64 b0g])/\q λaGC aIe=>Br aQD.isNone (Zr W aGC aIe J (.bool false)) (Zr W aGC aIe J (.bool false)))) (∀ aQE aQF,Ctx W aQE (aCQ++aQF) Z8->Calls Tryz.prog F.aH #[.int .i64 2,.int .i64 2] aQE λb0h b0i=>∃ aQG aQH aQI,b0h = .returned (.slice aQG aQH aQI)/\∃ aQJ aCU,aA aCU/\Ctx W b0i (aQJ++aQF) aCU/\Zc W aQJ aCU Tryz.prog F.aD #[.pointer RO,Value.int IntKind.i64 2,Value.int IntKind.i64 9,Value.slice aQG aQH aQI,Value.string (ByteArray.mk #[OfNat.ofNat 99,OfNat.ofNat 50])] λb0j q=>∃ b0k,b0j=.returned (.int .i64 b0k)/\q λb0l aQK=>Zc W b0l aQK Tryz.prog F.aG #[.pointer p4,.slice none 0 0] λb0m q=>∃ aQL b0n,b0m=.returned (Value.tuple #[.pointer aQL,.int .i64 b0n])/\q λaQM aIf=>Br aQL.isNone (Zr W aQM aIf J (.bool false)) (Zr W aQM aIf J (.bool false)))) (Zc W aQh aH9 Tryz.prog F.aH #[.int .i64 2,.int .i64 2] λb0o q=>∃ aQN aQO aQP,b0o=.returned (.slice aQN aQO aQP)/\q λb0p aQQ=>Zc W b0p aQQ Tryz.prog F.aD #[.pointer RO,Value.int IntKind.i64 2,Value.int IntKind.i64 9,Value.slice aQN aQO aQP,Value.string (ByteArray.mk #[OfNat.ofNat 99,OfNat.ofNat 50])] λb0q q=>∃ b0r,b0q=.returned (.int .i64 b0r)/\q λb0s aQR=>∀ aQS aQT,Ctx W aQS (b0s++aQT) aQR->Calls Tryz.prog F.aG #[.pointer p4,.slice none 0 0] aQS λb0t b0u=>∃ aQU b0v,b0t=.returned (Value.tuple #[.pointer aQU,.int .i64 b0v])/\∃ aLk a7w,aA a7w/\Ctx W b0u (aLk++aQT) a7w /\ Br aQU.isNone (Zr W aLk a7w J (.bool false)) (Zr W aLk a7w J (.bool false)))) (Zc W aCP a3p Tryz.prog F.aH #[.int .i64 2,.int .i64 2] λb0w q=>∃ aQV aQW aQX,b0w=.returned (.slice aQV aQW aQX)/\q λb0x aQY=>Zc W b0x aQY Tryz.prog F.aD #[.pointer RO,Value.int IntKind.i64 2,Value.int IntKind.i64 9,Value.slice aQV aQW aQX,Value.string (ByteArray.mk #[OfNat.ofNat 99,OfNat.ofNat 50])] λb0y q=>∃ b0z,b0y=.returned (.int .i64 b0z)/\q λb0A aQZ=>Zc W b0A aQZ Tryz.prog F.aG #[.pointer p4,.slice none 0 0] λb0B q=>∃ aQ0 b0C,b0B=.returned (Value.tuple #[.pointer aQ0,.int .i64 b0C])/\q λaQ1 aIg=>Br aQ0.isNone (Zr W aQ1 aIg J (.bool false)) (Zr W aQ1 aIg J (.bool false)))))) (Zc W R49 FT Tryz.prog F.aG #[.pointer p4,.slice none 0 0] λb0D q=>∃ RP aQ2,b0D=.returned (Value.tuple #[.pointer RP,.int .i64 aQ2])/\q λaLl aCV=>Br RP.isNone (Zr W aLl aCV J (.bool false)) (Br (decide (aQ2=0)) (∀ aQ3 aQ4,Ctx W aQ3 (aLl++aQ4) aCV->Calls Tryz.prog F.aS #[.pointer RP] aQ3 λb0E b0F=>∃ aQ5,b0E=.returned (.int .i64 aQ5)/\∃ aLm a7x,aA a7x /\ Ctx W b0F (aLm++aQ4) a7x/\Br (decide (aQ5=2)) (Zc W aLm a7x Tryz.prog F.bD #[.pointer RP,.pointer UI] λb0G q=>∃ aQ6,b0G=.returned (.int .i64 aQ6)/\q λaQ7 aIh=>Br (decide (aQ6=0)) (Zc W aQ7 aIh Tryz.prog F.aS #[.pointer RP] λb0H q=>∃ aQ8,b0H=.returned (.int .i64 aQ8)/\q λaQ9 aIi=>Br (decide (aQ8=0)) (Zc W aQ9 aIi Tryz.prog F.bF #[.pointer RP] λb0I q=>∃ aRa,b0I=.returned (.int .i64 aRa)/\q λaRb aIj=>Br (decide (aRa=1)) (Zc W aRb aIj Tryz.prog F.fH #[.pointer UI] λb0J q=>∃ b0K,b0J=.returned (.int .i64 b0K)/\q λb0L aRc=>Zc W b0L aRc Tryz.prog F.aH #[.int .i64 2,.int .i64 2] λb0M q=>∃ aRd aRe aRf,b0M=.returned (.slice aRd aRe aRf)/\q λb0N aRg=>Zc W b0N aRg Tryz.prog F.aD #[.pointer RP,Value.int IntKind.i64 2,Value.int IntKind.i64 9,Value.slice aRd aRe aRf,Value.string (ByteArray.mk #[OfNat.ofNat 99,OfNat.ofNat 50])] λb0O q=>∃ b0P,b0O=.returned (.int .i64 b0P)/\q λb0Q aRh=>Zc W b0Q aRh Tryz.prog F.aG #[.pointer p4,.slice none 0 0] λb0R q=>∃ aRi b0S,b0R=.returned (Value.tuple #[.pointer aRi,.int .i64 b0S])/\q λaRj aIk=>Br aRi.isNone (Zr W aRj aIk J (.bool false)) (Zr W aRj aIk J (.bool false))) (Zc W aRb aIj Tryz.prog F.aH #[.int .i64 2,.int .i64 2] λb0T q=>∃ aRk aRl aRm,b0T=.returned (.slice aRk aRl aRm)/\q λb0U aRn=>Zc W b0U aRn Tryz.prog F.aD #[.pointer RP,Value.int IntKind.i64 2,Value.int IntKind.i64 9,Value.slice aRk aRl aRm,Value.string (ByteArray.mk #[OfNat.ofNat 99,OfNat.ofNat 50])] λb0V q=>∃ b0W,b0V=.returned (.int .i64 b0W)/\q λb0X aRo=>Zc W b0X aRo Tryz.prog F.aG #[.pointer p4,.slice none 0 0] λb0Y q=>∃ aRp b0Z,b0Y=.returned (Value.tuple #[.pointer aRp,.int .i64 b0Z])/\q λaRq aIl=>Br aRp.isNone (Zr W aRq aIl J (.bool false)) (Zr W aRq aIl J (.bool false)))) (Zc W aQ9 aIi Tryz.prog F.aH #[.int .i64 2,.int .i64 2] λb00 q=>∃ aRr aRs aRt,b00=.returned (.slice aRr aRs aRt)/\q λb01 aRu=>Zc W b01 aRu Tryz.prog F.aD #[.pointer RP,Value.int IntKind.i64 2,Value.int IntKind.i64 9, Value.slice aRr aRs aRt,Value.string (ByteArray.mk #[OfNat.ofNat 99,OfNat.ofNat 50])] λb02 q=>∃ b03,b02=.returned (.int .i64 b03)/\q λb04 aRv=>Zc W b04 aRv Tryz.prog F.aG #[.pointer p4,.slice none 0 0] λb05 q=>∃ aRw b06,b05=.returned (Value.tuple #[.pointer aRw,.int .i64 b06])/\q λaRx aIm=>Br aRw.isNone (Zr W aRx aIm J (.bool false)) (Zr W aRx aIm J (.bool false)))) (∀ aRy aRz,Ctx W aRy (aQ7++aRz) aIh->Calls Tryz.prog F.aH #[.int .i64 2,.int .i64 2] aRy λb07 b08=>∃ aRA aRB aRC,b07=.returned (.slice aRA aRB aRC)/\∃ aRD aCW,aA aCW/\Ctx W b08 (aRD++aRz) aCW /\ Zc W aRD aCW Tryz.prog F.aD #[.pointer RP,Value.int IntKind.i64 2,Value.int IntKind.i64 9,Value.slice aRA aRB aRC,Value.string (ByteArray.mk #[OfNat.ofNat 99,OfNat.ofNat 50])] λb09 q=>∃ b1a,b09=.returned (.int .i64 b1a)/\q λb1b aRE=>Zc W b1b aRE Tryz.prog F.aG #[.pointer p4,.slice none 0 0] λb1c q=>∃ aRF b1d,b1c=.returned (Value.tuple #[.pointer aRF,.int .i64 b1d])/\q λaRG aIn=>Br aRF.isNone (Zr W aRG aIn J (.bool false)) (Zr W aRG aIn J (.bool false)))) (Zc W aLm a7x Tryz.prog F.aH #[.int .i64 2, .int .i64 2] λb1e q=>∃ aRH aRI aRJ,b1e=.returned (.slice aRH aRI aRJ)/\q λb1f aRK=>Zc W b1f aRK Tryz.prog F.aD #[.pointer RP,Value.int IntKind.i64 2,Value.int IntKind.i64 9,Value.slice aRH aRI aRJ,Value.string (ByteArray.mk #[OfNat.ofNat 99,OfNat.ofNat 50])] λb1g q=>∃ b1h,b1g=.returned (.int .i64 b1h)/\q λb1i aRL=>Zc W b1i aRL Tryz.prog F.aG #[.pointer p4,.slice none 0 0] λb1j q=>∃ aRM b1k,b1j=.returned (Value.tuple #[.pointer aRM,.int .i64 b1k])/\q λaRN aIo=>Br aRM.isNone (Zr W aRN aIo J (.bool false)) (Zr W aRN aIo J (.bool false)))) (Zc W aLl aCV Tryz.prog F.aH #[.int .i64 2,.int .i64 2] λb1l q=>∃ aRO aRP aRQ,b1l=.returned (.slice aRO aRP aRQ)/\q λb1m aRR=>Zc W b1m aRR Tryz.prog F.aD #[.pointer RP,Value.int IntKind.i64 2,Value.int IntKind.i64 9,Value.slice aRO aRP aRQ,Value.string (ByteArray.mk #[OfNat.ofNat 99,OfNat.ofNat 50])] λb1n q=>∃ b1o,b1n=.returned (.int .i64 b1o)/\q λb1p aRS=>Zc W b1p aRS Tryz.prog F.aG #[.pointer p4,.slice none 0 0] λb1q q=>∃ aRT b1r,b1q=.returned (Value.tuple #[.pointer aRT,.int .i64 b1r])/\q λaRU aIp=>Br aRT.isNone (Zr W aRU aIp J (.bool false)) (Zr W aRU aIp J (.bool false)))))) (Zc W R42 a9m Tryz.prog F.aG #[.pointer p4,.slice none 0 0] λb1s q=>∃ RQ aRV,b1s=.returned (Value.tuple #[.pointer RQ,.int .i64 aRV])/\q λaLn aCX=>Br RQ.isNone (Zr W aLn aCX J (.bool false)) (Br (decide (aRV=0)) (Zc W aLn aCX Tryz.prog F.aS #[.pointer RQ] λb1t q=>∃ aRW,b1t=.returned (.int .i64 aRW)/\q λaRX aIq=>Br (decide (aRW=2)) (Zc W aRX aIq Tryz.prog F.bD #[.pointer RQ,.pointer UI] λb1u q=>∃ aRY,b1u=.returned (.int .i64 aRY)/\q λaRZ aIr=>Br (decide (aRY=0)) (Zc W aRZ aIr Tryz.prog F.aS #[.pointer RQ] λb1v q=>∃ aR0,b1v=.returned (.int .i64 aR0)/\q λaR1 aIs=>Br (decide (aR0=0)) (Zc W aR1 aIs Tryz.prog F.bF #[.pointer RQ] λb1w q=>∃ aR2,b1w=.returned (.int .i64 aR2)/\q λaR3 aIt=>Br (decide (aR2=1)) (Zc W aR3 aIt Tryz.prog F.fH #[.pointer UI] λb1x q=>∃ b1y,b1x=.returned (.int .i64 b1y)/\q λb1z aR4=>Zc W b1z aR4 Tryz.prog F.aH #[.int .i64 2,.int .i64 2] λb1A q=>∃ aR5 aR6 aR7,b1A=.returned (.slice aR5 aR6 aR7)/\q λb1B aR8=>Zc W b1B aR8 Tryz.prog F.aD #[.pointer RQ,Value.int IntKind.i64 2,Value.int IntKind.i64 9,Value.slice aR5 aR6 aR7,Value.string (ByteArray.mk #[OfNat.ofNat 99,OfNat.ofNat 50])] λb1C q=>∃ b1D,b1C=.returned (.int .i64 b1D)/\q λb1E aR9=>Zc W b1E aR9 Tryz.prog F.aG #[.pointer p4,.slice none 0 0] λb1F q=>∃ aSa b1G,b1F=.returned (Value.tuple #[.pointer aSa,.int .i64 b1G])/\q λaSb aIu=>Br aSa.isNone (Zr W aSb aIu J (.bool false)) (Zr W aSb aIu J (.bool false))) (Zc W aR3 aIt Tryz.prog F.aH #[.int .i64 2,.int .i64 2] λb1H q=>∃ aSc aSd aSe,b1H=.returned (.slice aSc aSd aSe)/\q λb1I aSf=>Zc W b1I aSf Tryz.prog F.aD #[.pointer RQ,Value.int IntKind.i64 2,Value.int IntKind.i64 9,Value.slice aSc aSd aSe,Value.string (ByteArray.mk #[OfNat.ofNat 99,OfNat.ofNat 50])] λb1J q=>∃ b1K,b1J=.returned (.int .i64 b1K)/\q λb1L aSg=>∀ aSh aSi,Ctx W aSh (b1L++aSi) aSg -> Calls Tryz.prog F.aG #[.pointer p4,.slice none 0 0] aSh λb1M b1N=>∃ aSj b1O,b1M=.returned (Value.tuple #[.pointer aSj,.int .i64 b1O])/\∃ aLo a7y,aA a7y/\Ctx W b1N (aLo++aSi) a7y/\Br aSj.isNone (Zr W aLo a7y J (.bool false)) (Zr W aLo a7y J (.bool false)))) (Zc W aR1 aIs Tryz.prog F.aH #[.int .i64 2,.int .i64 2] λb1P q=>∃ aSk aSl aSm,b1P=.returned (.slice aSk aSl aSm)/\q λb1Q aSn=>Zc W b1Q aSn Tryz.prog F.aD #[.pointer RQ,Value.int IntKind.i64 2,Value.int IntKind.i64 9,Value.slice aSk aSl aSm,Value.string (ByteArray.mk #[OfNat.ofNat 99,OfNat.ofNat 50])] λb1R q=>∃ b1S,b1R=.returned (.int .i64 b1S)/\q λb1T aSo=>Zc W b1T aSo Tryz.prog F.aG #[.pointer p4,.slice none 0 0] λb1U q=>∃ aSp b1V,b1U=.returned (Value.tuple #[.pointer aSp,.int .i64 b1V])/\q λaSq aIv=>Br aSp.isNone (Zr W aSq aIv J (.bool false)) (Zr W aSq aIv J (.bool false)))) (Zc W aRZ aIr Tryz.prog F.aH #[.int .i64 2,.int .i64 2] λb1W q=>∃ aSr aSs aSt,b1W=.returned (.slice aSr aSs aSt)/\q λb1X aSu=>Zc W b1X aSu Tryz.prog F.aD #[.pointer RQ,Value.int IntKind.i64 2,Value.int IntKind.i64 9,Value.slice aSr aSs aSt,Value.string (ByteArray.mk #[OfNat.ofNat 99,OfNat.ofNat 50])] λb1Y q=>∃ b1Z,b1Y=.returned (.int .i64 b1Z)/\q λb10 aSv=>Zc W b10 aSv Tryz.prog F.aG #[.pointer p4,.slice none 0 0] λb11 q=>∃ aSw b12,b11=.returned (Value.tuple #[.pointer aSw,.int .i64 b12])/\q λaSx aIw=>Br aSw.isNone (Zr W aSx aIw J (.bool false)) (Zr W aSx aIw J (.bool false)))) (Zc W aRX aIq Tryz.prog F.aH #[.int .i64 2,.int .i64 2] λb13 q=>∃ aSy aSz aSA,b13=.returned (.slice aSy aSz aSA)/\q λb14 aSB=>Zc W b14 aSB Tryz.prog F.aD #[.pointer RQ,Value.int IntKind.i64 2,Value.int IntKind.i64 9,Value.slice aSy aSz aSA,Value.string (ByteArray.mk #[OfNat.ofNat 99,OfNat.ofNat 50])] λb15 q=>∃ b16,b15=.returned (.int .i64 b16)/\q λb17 aSC=>Zc W b17 aSC Tryz.prog F.aG #[.pointer p4,.slice none 0 0] λb18 q=>∃ aSD b19,b18=.returned (Value.tuple #[.pointer aSD,.int .i64 b19])/\q λaSE aIx=>Br aSD.isNone (Zr W aSE aIx J (.bool false)) (Zr W aSE aIx J (.bool false)))) (Zc W aLn aCX Tryz.prog F.aH #[.int .i64 2,.int .i64 2] λb2a q=>∃ aSF aSG aSH,b2a=.returned (.slice aSF aSG aSH)/\q λb2b aSI=>Zc W b2b aSI Tryz.prog F.aD #[.pointer RQ,Value.int IntKind.i64 2,Value.int IntKind.i64 9,Value.slice aSF aSG aSH,Value.string (ByteArray.mk #[OfNat.ofNat 99,OfNat.ofNat 50])] λb2c q=>∃ b2d,b2c=.returned (.int .i64 b2d)/\q λb2e aSJ=>Zc W b2e aSJ Tryz.prog F.aG #[.pointer p4,.slice none 0 0] λb2f q=>∃ aSK b2g,b2f=.returned (Value.tuple #[.pointer aSK,.int .i64 b2g])/\q λaSL aIy=>Br aSK.isNone (Zr W aSL aIy J (.bool false)) (Zr W aSL aIy J (.bool false)))))) (Zc W xE mQ Tryz.prog F.aG #[.pointer p4,.slice none 0 0] λb2h q=>∃ RR aSM,b2h=.returned (Value.tuple #[.pointer RR,.int .i64 aSM])/\q λaLp aCY=>Br RR.isNone (Zr W aLp aCY J (.bool false)) (Br (decide (aSM=0)) (Zc W aLp aCY Tryz.prog F.aS #[.pointer RR] λb2i q=>∃ aSN,b2i=.returned (.int .i64 aSN)/\q λaSO aIz=>Br (decide (aSN=2)) (Zc W aSO aIz Tryz.prog F.bD #[.pointer RR,.pointer UI] λb2j q=>∃ aSP,b2j=.returned (.int .i64 aSP)/\q λaSQ aIA=>Br (decide (aSP=0)) (Zc W aSQ aIA Tryz.prog F.aS #[.pointer RR] λb2k q=>∃ aSR,b2k=.returned (.int .i64 aSR)/\q λaSS aIB=>Br (decide (aSR=0)) (Zc W aSS aIB Tryz.prog F.bF #[.pointer RR] λb2l q=>∃ aST,b2l=.returned (.int .i64 aST)/\q λaSU aIC=>Br (decide (aST=1)) (Zc W aSU aIC Tryz.prog F.fH #[.pointer UI] λaSV q=>∃ aSW,aSV=.returned (.int .i64 aSW)/\q λaSX aLq=>Zc W aSX aLq Tryz.prog F.aH #[.int .i64 2,.int .i64 2] λaSY q=>∃ aID aIE aIF,aSY=.returned (.slice aID aIE aIF)/\q λaSZ aLr=>Zc W aSZ aLr Tryz.prog F.aD #[.pointer RR,Value.int IntKind.i64 2,Value.int IntKind.i64 9,Value.slice aID aIE aIF,Value.string (ByteArray.mk #[OfNat.ofNat 99,OfNat.ofNat 50])] λaS0 q=>∃ aS1,aS0=.returned (.int .i64 aS1)/\q λaS2 aLs=>∀ aIG aIH,Ctx W aIG (aS2++aIH) aLs->Calls Tryz.prog F.aG #[.pointer p4,.slice none 0 0] aIG λaS3 aS4=>∃ aII aS5,aS3=.returned (Value.tuple #[.pointer aII,.int .i64 aS5])/\∃ aCZ a1g, aA a1g/\Ctx W aS4 (aCZ++aIH) a1g/\Br aII.isNone (Zr W aCZ a1g J (.bool false)) (Zr W aCZ a1g J (.bool false))) (Zc W aSU aIC Tryz.prog F.aH #[.int .i64 2,.int .i64 2] λaS6 q=>∃ aIJ aIK aIL,aS6=.returned (.slice aIJ aIK aIL)/\q λaS7 aLt=>Zc W aS7 aLt Tryz.prog F.aD #[.pointer RR,Value.int IntKind.i64 2,Value.int IntKind.i64 9,Value.slice aIJ aIK aIL,Value.string (ByteArray.mk #[OfNat.ofNat 99,OfNat.ofNat 50])] λaS8 q=>∃ aS9,aS8=.returned (.int .i64 aS9)/\q λaTa aLu=>Zc W aTa aLu Tryz.prog F.aG #[.pointer p4,.slice none 0 0] λaTb q=>∃ aIM aTc,aTb=.returned (Value.tuple #[.pointer aIM,.int .i64 aTc])/\q λaIN aC0=>Br aIM.isNone (Zr W aIN aC0 J (.bool false)) (Zr W aIN aC0 J (.bool false)))) (Zc W aSS aIB Tryz.prog F.aH #[.int .i64 2,.int .i64 2] λaTd q=>∃ aIO aIP aIQ,aTd=.returned (.slice aIO aIP aIQ)/\q λaTe aLv=>Zc W aTe aLv Tryz.prog F.aD #[.pointer RR,Value.int IntKind.i64 2,Value.int IntKind.i64 9, Value.slice aIO aIP aIQ,Value.string (ByteArray.mk #[OfNat.ofNat 99,OfNat.ofNat 50])] λaTf q=>∃ aTg,aTf=.returned (.int .i64 aTg)/\q λaTh aLw=>Zc W aTh aLw Tryz.prog F.aG #[.pointer p4,.slice none 0 0] λaTi q=>∃ aIR aTj,aTi=.returned (Value.tuple #[.pointer aIR,.int .i64 aTj])/\q λaIS aC1=>Br aIR.isNone (Zr W aIS aC1 J (.bool false)) (Zr W aIS aC1 J (.bool false)))) (Zc W aSQ aIA Tryz.prog F.aH #[.int .i64 2,.int .i64 2] λaTk q=>∃ aIT aIU aIV,aTk=.returned (.slice aIT aIU aIV)/\q λaTl aLx=>Zc W aTl aLx Tryz.prog F.aD #[.pointer RR,Value.int IntKind.i64 2,Value.int IntKind.i64 9,Value.slice aIT aIU aIV,Value.string (ByteArray.mk #[OfNat.ofNat 99,OfNat.ofNat 50])] λaTm q=>∃ aTn,aTm=.returned (.int .i64 aTn)/\q λaTo aLy=>Zc W aTo aLy Tryz.prog F.aG #[.pointer p4,.slice none 0 0] λaTp q=>∃ aIW aTq,aTp=.returned (Value.tuple #[.pointer aIW,.int .i64 aTq])/\q λaIX aC2=>Br aIW.isNone (Zr W aIX aC2 J (.bool false)) (Zr W aIX aC2 J (.bool false)))) (Zc W aSO aIz Tryz.prog F.aH #[.int .i64 2,.int .i64 2] λaTr q=>∃ aIY aIZ aI0,aTr=.returned (.slice aIY aIZ aI0)/\q λaTs aLz=>Zc W aTs aLz Tryz.prog F.aD #[.pointer RR,Value.int IntKind.i64 2,Value.int IntKind.i64 9,Value.slice aIY aIZ aI0,Value.string (ByteArray.mk #[OfNat.ofNat 99,OfNat.ofNat 50])] λaTt q=>∃ aTu,aTt=.returned (.int .i64 aTu)/\q λaTv aLA=>Zc W aTv aLA Tryz.prog F.aG #[.pointer p4,.slice none 0 0] λaTw q=>∃ aI1 aTx,aTw=.returned (Value.tuple #[.pointer aI1,.int .i64 aTx])/\q λaI2 aC3=>Br aI1.isNone (Zr W aI2 aC3 J (.bool false)) (Zr W aI2 aC3 J (.bool false)))) (Zc W aLp aCY Tryz.prog F.aH #[.int .i64 2,.int .i64 2] λaTy q=>∃ aI3 aI4 aI5,aTy=.returned (.slice aI3 aI4 aI5)/\q λaTz aLB=>Zc W aTz aLB Tryz.prog F.aD #[.pointer RR,Value.int IntKind.i64 2,Value.int IntKind.i64 9,Value.slice aI3 aI4 aI5,Value.string (ByteArray.mk #[OfNat.ofNat 99,OfNat.ofNat 50])] λaTA q=>∃ aTB,aTA=.returned (.int .i64 aTB)/\q λaTC aLC=>Zc W aTC aLC Tryz.prog F.aG #[.pointer p4,.slice none 0 0] λaTD q=>∃ aI6 aTE,aTD=.returned (Value.tuple #[.pointer aI6,.int .i64 aTE])/\q λaI7 aC4=>Br aI6.isNone (Zr W aI7 aC4 J (.bool false)) (Zr W aI7 aC4 J (.bool false)))))))
theorem DA  {W w:World} {R:List Own} {Φ:PW} [aA Φ] {J:Value->World->Prop} (c:Ctx W w R Φ) (h:yL  W R Φ J):Calls Tryz.prog F.mT #[] w λe w'=>∃ v,e=.returned v/\J v w' :=
 aB (H:={ keep:=some [0,1,2,3,4,5,6,7,15,22,53,92],split:=[8,12,17] }) (by rw [show aW Tryz.prog W { keep:=some [0,1,2,3,4,5,6,7,15,22,53,92],split:=[8,12,17] } F.mT #[] R Φ J=yL  W R Φ J by kernel_rfl];exact h) c
def N3 (dB dO:Nat) (file:Int) (W:World) (R:List Own) (Φ:PW) (J:Value->World->Prop):Prop :=
 Zc W R Φ Tryz.prog F.iW #[.pointer (some (Addr.mk dB dO none)),.int .i64 file] λe2 q=>∃ n4,e2=.returned (.int .i64 n4)/\q λR5 iQ=>Br (decide (n4≠0)) (Zr W R5 iQ J (Value.tuple #[.pointer none,.int .i64 n4])) (Zc W R5 iQ Tryz.prog F.BB #[.pointer (some (Addr.mk dB dO none)),.int .i64 file] λe11 q=>∃ WL EO,e11=.returned (Value.tuple #[.pointer WL,.int .i64 EO])/\q λNO TH=>Br (decide (EO≠0)) (Zr W NO TH J (Value.tuple #[.pointer none,.int .i64 EO])) (∀ (FG:Nat) (W8:World) (L3:List Own),Ctx W W8 (Own.blk FG [Value.pointer WL,Value.int IntKind.i64 0,Value.int IntKind.i64 0,Value.string (ByteArray.mk #[]),Value.int IntKind.i64 0,Value.int IntKind.i64 0,Value.string (ByteArray.mk #[]),Value.slice none 0 0,Value.bool false,Value.bool false] 102 :: NO++L3) TH->Calls Tryz.prog F.uJ #[.pointer WL] W8 λe22 YB=>∃ s24 c25,e22=.returned (Value.tuple #[.string s24,.bool c25])/\∃ R26 O7,aA O7/\Ctx W YB (R26++L3) O7/\Br c25 (Zc W R26 O7 Tryz.prog F.zM #[.string s24] λe30 q=>∃ n32 WS s34 Q4 n36 s37 p38 k39 k40 c41,e30=.returned (Value.tuple #[Value.agg #[.int .i64 n32,.int .i64 WS,.string s34,.int .i64 Q4,.int .i64 n36,.string s37,.slice p38 k39 k40],Value.bool c41])/\q λR42 a9m=>∀ S4 R45,Ctx W S4 (R42++R45) a9m->aE S4 FG 1 7/\∀ (VY:World),VY=S4.setCells FG 1 [.int .i64 n32,.int .i64 WS,.string s34,.int .i64 Q4,.int .i64 n36,.string s37,.slice p38 k39 k40]->∃ KT AM,aA AM/\Ctx W VY (KT++R45) AM/\Br (!c41) (Zr W KT AM J (Value.tuple #[.pointer none,.int .i64 2])) (Zr W KT AM J (Value.tuple #[.pointer (some (Addr.mk FG 0 none)),.int .i64 0]))) (Zr W R26 O7 J (Value.tuple #[.pointer (some (Addr.mk FG 0 none)),.int .i64 0]))))
theorem P0 (dB dO:Nat) (file:Int) {W w:World} {R:List Own} {Φ:PW} [aA Φ] {J:Value->World->Prop} (c:Ctx W w R Φ) (h:N3 dB dO file W R Φ J):Calls Tryz.prog F.nM #[.pointer (some ⟨dB,dO,none⟩),.int .i64 file] w λe w'=>∃ v,e=.returned v/\J v w' :=
 aB (H:={ keep:=some [0,1,4,5,6,7,8,9,10,11,16,25,35,45] }) (by rw [show aW Tryz.prog W { keep:=some [0,1,4,5,6,7,8,9,10,11,16,25,35,45] } F.nM #[.pointer (some ⟨dB,dO,none⟩),.int .i64 file] R Φ J=N3 dB dO file W R Φ J by kernel_rfl];exact h) c
def yM (dB dO:Nat) (r4:Option Addr) (gN tC:Nat) (W:World) (R:List Own) (Φ:PW) (J:Value->World->Prop):Prop :=
 Zc W R Φ Tryz.prog F.j9 #[.pointer (some (Addr.mk dB dO none)),.slice r4 gN tC] λe2 q=>e2=.returned (Value.tuple #[])/\q λR4 Φ5=>Zc W R4 Φ5 Tryz.prog F.qF #[.pointer (some (Addr.mk dB dO none))] λe8 q=>e8=.returned (Value.tuple #[])/\q λpP lK=>Zc W pP lK Tryz.prog F.nM #[.pointer (some (Addr.mk dB dO none)),.int .i64 3] λe14 q=>∃ p16 KV,e14=.returned (Value.tuple #[.pointer p16,.int .i64 KV])/\q λWN RA=>Zr W WN RA J (Value.tuple #[.pointer p16,.int .i64 KV])
theorem DB (dB dO:Nat) (r4:Option Addr) (gN tC:Nat) {W w:World} {R:List Own} {Φ:PW} [aA Φ] {J:Value->World->Prop} (c:Ctx W w R Φ) (h:yM dB dO r4 gN tC W R Φ J):Calls Tryz.prog F.aG #[.pointer (some ⟨dB,dO,none⟩),.slice r4 gN tC] w λe w'=>∃ v,e=.returned v/\J v w' :=
 aB (H:={ keep:=some [0,1,4,5] }) (by rw [show aW Tryz.prog W { keep:=some [0,1,4,5] } F.aG #[.pointer (some ⟨dB,dO,none⟩),.slice r4 gN tC] R Φ J=yM dB dO r4 gN tC W R Φ J by kernel_rfl];exact h) c
def mZ (cB cO:Nat) (sB sO:Nat) (W:World) (R:List Own) (Φ:PW) (J:Value->World->Prop):Prop :=
 Zd W R Φ λw0=>∃ c2,w0.cell? (Addr.mk cB (cO+9) none)=some (.bool c2)/\Br c2 (Zr W R Φ J (.int .i64 9)) (Zd W R Φ λw5=>∃ n7,w5.cell? (Addr.mk cB (cO+2) none)=some (.int .i64 n7)/\Br (decide (n7=1)) (Zc W R Φ Tryz.prog F.gQ #[.pointer (some (Addr.mk cB cO none)),.pointer (some (Addr.mk sB sO none))] λe10 q=>∃ n12,e10=.returned (.int .i64 n12)/\q λR13 ED=>Zr W R13 ED J (.int .i64 n12)) (Zd W R Φ λw17=>∃ n19,w17.cell? (Addr.mk cB (cO+2) none)=some (.int .i64 n19)/\Br (decide (n19=2)) (Zc W R Φ Tryz.prog F.gB #[.pointer (some (Addr.mk cB cO none)),.pointer (some (Addr.mk sB sO none))] λe22 q=>∃ n24,e22=.returned (.int .i64 n24)/\q λR25 aB5=>Zr W R25 aB5 J (.int .i64 n24)) (Zr W R Φ J (.int .i64 0))))
theorem sQ (cB cO:Nat) (sB sO:Nat) {W w:World} {R:List Own} {Φ:PW} [aA Φ] {J:Value->World->Prop} (c:Ctx W w R Φ) (h:mZ cB cO sB sO W R Φ J):Calls Tryz.prog F.bD #[.pointer (some ⟨cB,cO,none⟩),.pointer (some ⟨sB,sO,none⟩)] w λe w'=>∃ v,e=.returned v/\J v w' :=
 aB (H:={ keep:=some [0,1,4,5,10,20] }) (by rw [show aW Tryz.prog W { keep:=some [0,1,4,5,10,20] } F.bD #[.pointer (some ⟨cB,cO,none⟩),.pointer (some ⟨sB,sO,none⟩)] R Φ J=mZ cB cO sB sO W R Φ J by kernel_rfl];exact h) c
def qA (cB cO:Nat) (W:World) (R:List Own) (Φ:PW) (J:Value->World->Prop):Prop :=
 Zd W R Φ λw0=>∃ n2,w0.cell? (Addr.mk cB (cO+1) none)=some (.int .i64 n2)/\Zr W R Φ J (.int .i64 n2)
theorem vU (cB cO:Nat) {W w:World} {R:List Own} {Φ:PW} [aA Φ] {J:Value->World->Prop} (c:Ctx W w R Φ) (h:qA cB cO W R Φ J):Calls Tryz.prog F.bF #[.pointer (some ⟨cB,cO,none⟩)] w λe w'=>∃ v,e=.returned v/\J v w' :=
 aB (H:={ keep:=some [0,2] }) (by rw [show aW Tryz.prog W { keep:=some [0,2] } F.bF #[.pointer (some ⟨cB,cO,none⟩)] R Φ J=qA cB cO W R Φ J by kernel_rfl];exact h) c
def oV (cB cO:Nat) (W:World) (R:List Own) (Φ:PW) (J:Value->World->Prop):Prop :=
 Zd W R Φ λw0=>∃ n2,w0.cell? (Addr.mk cB (cO+2) none)=some (.int .i64 n2)/\Br (decide (n2=2)) (Zd W R Φ λw3=>∃ s5,w3.cell? (Addr.mk cB (cO+6) none)=some (.string s5)/\Zr W R Φ J (.string s5)) (Zd W R Φ λw8=>∃ s10,w8.cell? (Addr.mk cB (cO+3) none)=some (.string s10)/\Zr W R Φ J (.string s10))
theorem v7 (cB cO:Nat) {W w:World} {R:List Own} {Φ:PW} [aA Φ] {J:Value->World->Prop} (c:Ctx W w R Φ) (h:oV cB cO W R Φ J):Calls Tryz.prog F.dD #[.pointer (some ⟨cB,cO,none⟩)] w λe w'=>∃ v,e=.returned v/\J v w' :=
 aB (H:={ keep:=some [0,2,8] }) (by rw [show aW Tryz.prog W { keep:=some [0,2,8] } F.dD #[.pointer (some ⟨cB,cO,none⟩)] R Φ J=oV cB cO W R Φ J by kernel_rfl];exact h) c
def oW (cB cO:Nat) (W:World) (R:List Own) (Φ:PW) (J:Value->World->Prop):Prop :=
 Zd W R Φ λw0=>∃ n2,w0.cell? (Addr.mk cB (cO+2) none)=some (.int .i64 n2)/\Zr W R Φ J (.int .i64 n2)
theorem v8 (cB cO:Nat) {W w:World} {R:List Own} {Φ:PW} [aA Φ] {J:Value->World->Prop} (c:Ctx W w R Φ) (h:oW cB cO W R Φ J):Calls Tryz.prog F.aS #[.pointer (some ⟨cB,cO,none⟩)] w λe w'=>∃ v,e=.returned v/\J v w' :=
 aB (H:={ keep:=some [0,2] }) (by rw [show aW Tryz.prog W { keep:=some [0,2] } F.aS #[.pointer (some ⟨cB,cO,none⟩)] R Φ J=oW cB cO W R Φ J by kernel_rfl];exact h) c
def oX (cB cO:Nat) (W:World) (R:List Own) (Φ:PW) (J:Value->World->Prop):Prop :=
 ∃ R0 bH,aA bH/\Wk W R Φ R0 bH/\∃ (n4:Int),(Zd W R0 bH λw5=>∃ n7,w5.cell? (Addr.mk cB (cO+4) none)=some (.int .i64 n7)/\Value.int IntKind.i64 n7=Value.int IntKind.i64 n4)/\∃ (n8:Int),(Zd W R0 bH λw9=>∃ JS,w9.cell? (Addr.mk cB (cO+5) none)=some (.int .i64 JS)/\Value.int IntKind.i64 JS=Value.int IntKind.i64 n8)/\∃ (p12:Option Addr) (JY JV:Nat),(Zd W R0 bH λME=>∃ p17 ER FG,ME.cell? (Addr.mk cB (cO+7) none)=some (.slice p17 ER FG)/\Value.slice p17 ER FG=Value.slice p12 JY JV)/\Zc W R Φ Tryz.prog F.mL #[.slice p12 JY JV] λe22 q=>∃ p24 k25 TD,e22=.returned (.slice p24 k25 TD)/\q λCS HM=>Wk W CS HM R0 bH/\Zr W CS HM J (Value.tuple #[.int .i64 n4,.int .i64 n8,.slice p24 k25 TD])
theorem vA (cB cO:Nat) {W w:World} {R:List Own} {Φ:PW} [aA Φ] {J:Value->World->Prop} (c:Ctx W w R Φ) (h:oX cB cO W R Φ J):Calls Tryz.prog F.gP #[.pointer (some ⟨cB,cO,none⟩)] w λe w'=>∃ v,e=.returned v/\J v w' :=
 aB (H:={ keep:=some [0,2,3,4],cF:=[(1,[.held [(0,true),(5,true),(10,true),(1,true),(6,true),(11,true),(2,true),(7,true),(12,true),(3,true),(8,true),(13,true),(4,true),(9,true),(14,true),(15,false),(16,true),(17,true),(18,true)]])] }) (by rw [show aW Tryz.prog W { keep:=some [0,2,3,4],cF:=[(1,[.held [(0,true),(5,true),(10,true),(1,true),(6,true),(11,true),(2,true),(7,true),(12,true),(3,true),(8,true),(13,true),(4,true),(9,true),(14,true),(15,false),(16,true),(17,true),(18,true)]])] } F.gP #[.pointer (some ⟨cB,cO,none⟩)] R Φ J=oX cB cO W R Φ J by kernel_rfl];exact h) c
def o6 (cB cO:Nat) (W:World) (R:List Own) (Φ:PW) (J:Value->World->Prop):Prop :=
 ∀ (k0:Nat) (w1:World) (R2:List Own),Ctx W w1 (Own.blk k0 [Value.pointer (some (Addr.mk cB cO none))] 37 :: R++R2) Φ->∃ p3,w1.cell? (Addr.mk k0 0 none)=some (.pointer p3)/\Zc W (Own.blk k0 [Value.pointer (some (Addr.mk cB cO none))] 37 :: R) Φ Tryz.prog F.dK #[.pointer p3,Value.int IntKind.i64 1,Value.func (Fn.func 82) #[] #[.pointer (some (Addr.mk k0 0 none))]] λe6 q=>∃ n8,e6=.returned (.int .i64 n8)/\q λR9 uN=>Zr W R9 uN J (.int .i64 n8)
theorem uD (cB cO:Nat) {W w:World} {R:List Own} {Φ:PW} [aA Φ] {J:Value->World->Prop} (c:Ctx W w R Φ) (h:o6 cB cO W R Φ J):Calls Tryz.prog F.eU #[.pointer (some ⟨cB,cO,none⟩)] w λe w'=>∃ v,e=.returned v/\J v w' :=
 aB (H:={ keep:=some [1,2] }) (by rw [show aW Tryz.prog W { keep:=some [1,2] } F.eU #[.pointer (some ⟨cB,cO,none⟩)] R Φ J=o6 cB cO W R Φ J by kernel_rfl];exact h) c
def o7 (cB cO:Nat) (sB sO:Nat) (W:World) (R:List Own) (Φ:PW) (J:Value->World->Prop):Prop :=
 ∀ (k0 k1:Nat) (w2:World) (R3:List Own),Ctx W w2 (Own.blk k1 [Value.pointer (some (Addr.mk sB sO none))] 33 :: Own.blk k0 [Value.pointer (some (Addr.mk cB cO none))] 37 :: R++R3) Φ->∃ p4,w2.cell? (Addr.mk k0 0 none)=some (.pointer p4)/\Zc W (Own.blk k1 [Value.pointer (some (Addr.mk sB sO none))] 33 :: Own.blk k0 [Value.pointer (some (Addr.mk cB cO none))] 37 :: R) Φ Tryz.prog F.dK #[.pointer p4,Value.int IntKind.i64 2,Value.func (Fn.func 83) #[] #[.pointer (some (Addr.mk k1 0 none)),.pointer (some (Addr.mk k0 0 none))]] λe7 q=>∃ n9,e7=.returned (.int .i64 n9)/\q λpP lK=>Zr W pP lK J (.int .i64 n9)
theorem uE (cB cO:Nat) (sB sO:Nat) {W w:World} {R:List Own} {Φ:PW} [aA Φ] {J:Value->World->Prop} (c:Ctx W w R Φ) (h:o7 cB cO sB sO W R Φ J):Calls Tryz.prog F.gB #[.pointer (some ⟨cB,cO,none⟩),.pointer (some ⟨sB,sO,none⟩)] w λe w'=>∃ v,e=.returned v/\J v w' :=
 aB (H:={ keep:=some [2,3,4] }) (by rw [show aW Tryz.prog W { keep:=some [2,3,4] } F.gB #[.pointer (some ⟨cB,cO,none⟩),.pointer (some ⟨sB,sO,none⟩)] R Φ J=o7 cB cO sB sO W R Φ J by kernel_rfl];exact h) c
def oY (cB cO:Nat) (sB sO:Nat) (W:World) (R:List Own) (Φ:PW) (J:Value->World->Prop):Prop :=
 ∀ (k0 k1:Nat) (w2:World) (R3:List Own),Ctx W w2 (Own.blk k1 [Value.pointer (some (Addr.mk sB sO none))] 33 :: Own.blk k0 [Value.pointer (some (Addr.mk cB cO none))] 37 :: R++R3) Φ->∃ p4,w2.cell? (Addr.mk k0 0 none)=some (.pointer p4)/\Zc W (Own.blk k1 [Value.pointer (some (Addr.mk sB sO none))] 33 :: Own.blk k0 [Value.pointer (some (Addr.mk cB cO none))] 37 :: R) Φ Tryz.prog F.dK #[.pointer p4,Value.int IntKind.i64 1,Value.func (Fn.func 87) #[] #[.pointer (some (Addr.mk k1 0 none)),.pointer (some (Addr.mk k0 0 none))]] λe7 q=>∃ n9,e7=.returned (.int .i64 n9)/\q λpP lK=>Zr W pP lK J (.int .i64 n9)
theorem vB (cB cO:Nat) (sB sO:Nat) {W w:World} {R:List Own} {Φ:PW} [aA Φ] {J:Value->World->Prop} (c:Ctx W w R Φ) (h:oY cB cO sB sO W R Φ J):Calls Tryz.prog F.gQ #[.pointer (some ⟨cB,cO,none⟩),.pointer (some ⟨sB,sO,none⟩)] w λe w'=>∃ v,e=.returned v/\J v w' :=
 aB (H:={ keep:=some [2,3,4] }) (by rw [show aW Tryz.prog W { keep:=some [2,3,4] } F.gQ #[.pointer (some ⟨cB,cO,none⟩),.pointer (some ⟨sB,sO,none⟩)] R Φ J=oY cB cO sB sO W R Φ J by kernel_rfl];exact h) c
def nA (cB cO:Nat) (sB sO:Nat) (W:World) (R:List Own) (Φ:PW) (J:Value->World->Prop):Prop :=
 Zd W R Φ λw0=>∃ c2,w0.cell? (Addr.mk cB (cO+9) none)=some (.bool c2)/\Br c2 (Zr W R Φ J (.int .i64 9)) (Zd W R Φ λw5=>∃ n7,w5.cell? (Addr.mk cB (cO+2) none)=some (.int .i64 n7)/\Br (decide (n7≠1)) (Zr W R Φ J (.int .i64 7)) (Zc W R Φ Tryz.prog F.kM #[.pointer (some (Addr.mk sB sO none))] λe12 q=>∃ EO,e12=.returned (.int .i64 EO)/\q λNO TH=>Br (decide (EO=0)) (∃ PU xX,aA xX/\Wk W NO TH PU xX/\∃ (TL:Int),(Zd W PU xX λw22=>∃ n24,w22.cell? (Addr.mk cB (cO+4) none)=some (.int .i64 n24)/\Value.int IntKind.i64 n24=Value.int IntKind.i64 TL)/\∃ (p25:Option Addr) (TD S0:Nat),(Zd W PU xX λHN=>∃ p30 k31 k32, HN.cell? (Addr.mk cB (cO+7) none)=some (.slice p30 k31 k32)/\Value.slice p30 k31 k32=Value.slice p25 TD S0)/\Zc W NO TH Tryz.prog F.jN #[.pointer (some (Addr.mk sB sO none)),.int .i64 TL,.slice p25 TD S0] λe35 q=>∃ n37,e35=.returned (.int .i64 n37)/\q λHO rF=>Zd W HO rF λw40=>∃ c42,w40.cell? (Addr.mk cB (cO+8) none)=some (.bool c42)/\Br c42 (∀ w43 R44,Ctx W w43 (HO++R44) rF->aE w43 cB (cO+8) 1/\∀ (w45:World),w45=w43.setCell (Addr.mk cB (cO+8) none) (Value.bool true)->∃ R46 CU,aA CU/\Ctx W w45 (R46++R44) CU/\Zr W R46 CU J (.int .i64 n37)) (∀ w50 R51,Ctx W w50 (HO++R51) rF->aE w50 cB (cO+8) 1/\∀ (w52:World),w52=w50.setCell (Addr.mk cB (cO+8) none) (Value.bool (decide (n37=0)))->∃ R53 KB,aA KB/\Ctx W w52 (R53++R51) KB/\Zr W R53 KB J (.int .i64 n37))) (Zc W NO TH Tryz.prog F.rQ #[.pointer (some (Addr.mk sB sO none))] λe59 q=>∃ p61,e59=.returned (.pointer p61)/\q λR62 aJ2=>Zc W R62 aJ2 Tryz.prog F.eG #[.pointer (some (Addr.mk cB cO none)),.pointer p61] λe66 q=>∃ n68,e66=.returned (.int .i64 n68)/\q λR69 UK=>Zd W R69 UK λw71=>∃ c73,w71.cell? (Addr.mk cB (cO+8) none)=some (.bool c73)/\Br c73 (∀ w74 R75,Ctx W w74 (R69++R75) UK->aE w74 cB (cO+8) 1/\∀ (w76:World),w76=w74.setCell (Addr.mk cB (cO+8) none) (Value.bool true)->∃ R77 aLD,aA aLD/\Ctx W w76 (R77++R75) aLD/\Zr W R77 aLD J (.int .i64 n68)) (∀ w81 Z9,Ctx W w81 (R69++Z9) UK->aE w81 cB (cO+8) 1/\∀ (w83:World),w83=w81.setCell (Addr.mk cB (cO+8) none) (Value.bool (decide (n68=0)))->∃ R84 V4,aA V4/\Ctx W w83 (R84++Z9) V4/\Zr W R84 V4 J (.int .i64 n68)))))
theorem sR (cB cO:Nat) (sB sO:Nat) {W w:World} {R:List Own} {Φ:PW} [aA Φ] {J:Value->World->Prop} (c:Ctx W w R Φ) (h:nA cB cO sB sO W R Φ J):Calls Tryz.prog F.eF #[.pointer (some ⟨cB,cO,none⟩),.pointer (some ⟨sB,sO,none⟩)] w λe w'=>∃ v,e=.returned v/\J v w' :=
 aB (H:={ keep:=some [0,1,4,5,6,11,20],cF:=[(7,[.held [(0,true),(1,true),(6,true),(2,true),(7,true),(3,true),(8,true),(4,true),(9,true),(5,true),(10,true)],.aO [] (some 11),.aO [12] none])],split:=[9] }) (by rw [show aW Tryz.prog W { keep:=some [0,1,4,5,6,11,20],cF:=[(7,[.held [(0,true),(1,true),(6,true),(2,true),(7,true),(3,true),(8,true),(4,true),(9,true),(5,true),(10,true)],.aO [] (some 11),.aO [12] none])],split:=[9] } F.eF #[.pointer (some ⟨cB,cO,none⟩),.pointer (some ⟨sB,sO,none⟩)] R Φ J=nA cB cO sB sO W R Φ J by kernel_rfl];exact h) c
def oZ (cB cO:Nat) (batch:Int) (mark:Int) (cY:Option Addr) (cQ aX:Nat) (next:ByteArray) (W:World) (R:List Own) (Φ:PW) (J:Value->World->Prop):Prop :=
 ∀ (k0 k1 k2 k3 k4:Nat) (w5:World) (R6:List Own),Ctx W w5 (Own.blk k4 [.string next] 9 :: Own.blk k3 [.slice cY cQ aX] 22 :: Own.blk k2 [.int .i64 mark] 3 :: Own.blk k1 [.int .i64 batch] 3 :: Own.blk k0 [Value.pointer (some (Addr.mk cB cO none))] 37 :: R++R6) Φ->∃ p7,w5.cell? (Addr.mk k0 0 none)=some (.pointer p7)/\Zc W (Own.blk k4 [.string next] 9 :: Own.blk k3 [.slice cY cQ aX] 22 :: Own.blk k2 [.int .i64 mark] 3 :: Own.blk k1 [.int .i64 batch] 3 :: Own.blk k0 [Value.pointer (some (Addr.mk cB cO none))] 37 :: R) Φ Tryz.prog F.dK #[.pointer p7,Value.int IntKind.i64 0,Value.func (Fn.func 102) #[] #[.pointer (some (Addr.mk k1 0 none)),.pointer (some (Addr.mk k0 0 none)),.pointer (some (Addr.mk k3 0 none)),.pointer (some (Addr.mk k2 0 none)),.pointer (some (Addr.mk k4 0 none))]] λe10 q=>∃ n12,e10=.returned (.int .i64 n12)/\q λR13 ED=>Zr W R13 ED J (.int .i64 n12)
theorem vC (cB cO:Nat) (batch:Int) (mark:Int) (cY:Option Addr) (cQ aX:Nat) (next:ByteArray) {W w:World} {R:List Own} {Φ:PW} [aA Φ] {J:Value->World->Prop} (c:Ctx W w R Φ) (h:oZ cB cO batch mark cY cQ aX next W R Φ J):Calls Tryz.prog F.aD #[.pointer (some ⟨cB,cO,none⟩),.int .i64 batch,.int .i64 mark,.slice cY cQ aX,.string next] w λe w'=>∃ v,e=.returned v/\J v w' :=
 aB (H:={ keep:=some [5,6,7,8,9,10] }) (by rw [show aW Tryz.prog W { keep:=some [5,6,7,8,9,10] } F.aD #[.pointer (some ⟨cB,cO,none⟩),.int .i64 batch,.int .i64 mark,.slice cY cQ aX,.string next] R Φ J=oZ cB cO batch mark cY cQ aX next W R Φ J by kernel_rfl];exact h) c
def A2 (no:Int) (batch:Int) (W:World) (R:List Own) (Φ:PW) (J:Value->World->Prop):Prop :=
 ∀ (k0 k1:Nat) (w2:World) (R3:List Own),Ctx W w2 (Own.blk k1 [.int .i64 no,.int .i64 batch,.int .i64 5,.slice (some (Addr.mk k0 0 none)) 1 1,.int .i64 1,.int .i64 0,.int .i64 0] 31 :: Own.blk k0 [Value.int IntKind.i64 0,Value.int IntKind.i64 7,Value.string (ByteArray.mk #[])] 147 :: R++R3) Φ->J (.slice (some (Addr.mk k1 0 none)) 1 1) w2
theorem EI (no:Int) (batch:Int) {W w:World} {R:List Own} {Φ:PW} [aA Φ] {J:Value->World->Prop} (c:Ctx W w R Φ) (h:A2 no batch W R Φ J):Calls Tryz.prog F.aH #[.int .i64 no,.int .i64 batch] w λe w'=>∃ v,e=.returned v/\J v w' :=
 aB (H:={ keep:=some [0,1,4] }) (by rw [show aW Tryz.prog W { keep:=some [0,1,4] } F.aH #[.int .i64 no,.int .i64 batch] R Φ J=A2 no batch W R Φ J by kernel_rfl];exact h) c
def N4 (s:ByteArray) (W:World) (R:List Own) (Φ:PW) (J:Value->World->Prop):Prop :=
 ∀ (k0:Nat) (w1:World) (R2:List Own),Ctx W w1 (Own.blk k0 [Value.int IntKind.i64 0,Value.int IntKind.i64 0,Value.string (ByteArray.mk #[]),Value.int IntKind.i64 0,Value.int IntKind.i64 0,Value.string (ByteArray.mk #[]),Value.slice none 0 0] 100 :: R++R2) Φ->Calls Tryz.prog F.BC #[.string s] w1 λe3 w4=>∃ p5,e3=.returned (.pointer p5)/\∃ R6 Y6,aA Y6/\Ctx W w4 (R6++R2) Y6/\Zc W R6 Y6 Tryz.prog F.bK #[.pointer p5] λe10 q=>∃ n12,e10=.returned (.int .i64 n12)/\q λR13 ED=>Zc W R13 ED Tryz.prog F.bK #[.pointer p5] λe17 q=>∃ n19,e17=.returned (.int .i64 n19)/\q λO6 HQ=>Zc W O6 HQ Tryz.prog F.fM #[.pointer p5] λe24 q=>∃ s26,e24=.returned (.string s26)/\q λCS HM=>∀ (b:Nat),vZ λ(I29:Int->Int->ByteArray->Int->Int->ByteArray->Option Addr->Nat->Nat->List Own->PW->Prop)=>Br (decide (n19≠0)) (Zc W CS HM Tryz.prog F.bK #[.pointer p5] λe32 q=>∃ n34,e32=.returned (.int .i64 n34)/\q λR35 O9=>Zc W R35 O9 Tryz.prog F.bK #[.pointer p5] λe39 q=>∃ n41,e39=.returned (.int .i64 n41)/\q λR42 a9m=>Zc W R42 a9m Tryz.prog F.fM #[.pointer p5] λe46 q=>∃ s48,e46=.returned (.string s48)/\q λR49 FT=>Zc W R49 FT Tryz.prog F.jB #[.pointer p5] λe53 q=>∃ n55,e53=.returned (.int .i64 n55)/\q λR56 aGv=>vZ λ(I58:Int->Int->Int->ByteArray->Int->Int->ByteArray->Option Addr->Nat->Nat->List Own->PW->Nat->Prop)=>(Zs W R56 aGv (I58 n55 n12 n19 s26 n34 n41 s48 none 0 0))/\∀ n64 n65 n66 s67 n68 n69 s70 p71 k72 k73 R74 I75 k76,aA I75->I58 n64 n65 n66 s67 n68 n69 s70 p71 k72 k73 R74 I75 k76->Br (decide (0<n64)) (Zc W R74 I75 Tryz.prog F.kQ #[.pointer p5] λe79 q=>∃ n81,e79=.returned (.int .i64 n81)/\q λZ9 KI=>Br (decide (0<n81)) (vZ λ(I84:Nat->Nat->List Own->PW->Prop)=>(∃ R85 P1,aA P1/\Wk W Z9 KI R85 P1/\(Zc W Z9 KI Tryz.prog F.bK #[.pointer p5] λe91 q=>∃ n93,e91=.returned (.int .i64 n93)/\q λR94 a5B=>Wk W R94 a5B R85 P1/\(Zc W R94 a5B Tryz.prog F.bK #[.pointer p5] λaLG q=>∃ n102,aLG=.returned (.int .i64 n102)/\q λa2r MD=>Wk W a2r MD R85 P1/\(∀ (a1h:Nat),Wk W (Own.blk a1h [.int .i64 0,.int .i64 0,.int .i64 0,.slice none 0 0,.int .i64 0,.int .i64 0,.int .i64 0] 31 :: a2r) MD (R85) P1/\∀ a4R aBg,Ctx W a4R (Own.blk a1h [.int .i64 0,.int .i64 0,.int .i64 0,.slice none 0 0,.int .i64 0,.int .i64 0,.int .i64 0] 31 :: a2r++aBg) MD->aE a4R a1h 0 7/\∀ (a0O:World),a0O=a4R.setCells a1h 0 [.int .i64 n93,.int .i64 n68,.int .i64 n102,.slice none 0 0, .int .i64 0,.int .i64 0,.int .i64 0]->∃ E6 sZ,aA sZ/\Ctx W a0O (E6++aBg) sZ/\∃ X3 BU,aA BU/\Wk W E6 sZ X3 BU/\I84 a1h 0 X3 BU)/\True)/\(∀ (a5D:Nat),Wk W (Own.blk a5D [.int .i64 0,.int .i64 0,.int .i64 0,.slice none 0 0,.int .i64 0,.int .i64 0,.int .i64 0] 31 :: R94) a5B (R85) P1/\(Zc W (Own.blk a5D [.int .i64 0,.int .i64 0,.int .i64 0,.slice none 0 0,.int .i64 0,.int .i64 0,.int .i64 0] 31 :: R94) a5B Tryz.prog F.bK #[.pointer p5] λb2n q=>∃ n126,b2n=.returned (.int .i64 n126)/\q λaA2 Y7=>Wk W aA2 Y7 R85 P1/\∀ a9s RN,Ctx W a9s (aA2++RN) Y7->aE a9s a5D 0 7/\∀ (aTM:World),aTM=a9s.setCells a5D 0 [.int .i64 n93,.int .i64 n68,.int .i64 n126,.slice none 0 0,.int .i64 0, .int .i64 0,.int .i64 0]->∃ a01 QI,aA QI/\Ctx W aTM (a01++RN) QI/\∃ aTN aC6,aA aC6/\Wk W a01 QI aTN aC6/\I84 a5D 0 aTN aC6)/\True)/\True)/\(∀ (aC7:Nat),Wk W (Own.blk aC7 [.int .i64 0,.int .i64 0,.int .i64 0,.slice none 0 0,.int .i64 0,.int .i64 0,.int .i64 0] 31 :: Z9) KI (R85) P1/\(Zc W (Own.blk aC7 [.int .i64 0,.int .i64 0,.int .i64 0,.slice none 0 0,.int .i64 0,.int .i64 0,.int .i64 0] 31 :: Z9) KI Tryz.prog F.bK #[.pointer p5] λaLc q=>∃ n147,aLc=.returned (.int .i64 n147)/\q λaCE a3j=>Wk W aCE a3j R85 P1/\(Zc W aCE a3j Tryz.prog F.bK #[.pointer p5] λb2o q=>∃ n156,b2o=.returned (.int .i64 n156)/\q λaC8 ZA=>Wk W aC8 ZA R85 P1/\∀ aC9 aDa,Ctx W aC9 (aC8++aDa) ZA->aE aC9 aC7 0 7/\∀ (aTO:World),aTO=aC9.setCells aC7 0 [.int .i64 n147,.int .i64 n68,.int .i64 n156,.slice none 0 0,.int .i64 0,.int .i64 0,.int .i64 0]->∃ aGE a3r,aA a3r/\Ctx W aTO (aGE++aDa) a3r/\∃ a2M IX,aA IX/\Wk W aGE a3r a2M IX/\I84 aC7 0 a2M IX)/\True)/\True)/\True)/\∀ (X7 N5:Nat) (aBQ:List Own) (aLH:List Nat->World->Prop),aA aLH->I84 X7 N5 aBQ aLH->Zc W aBQ aLH Tryz.prog F.fM #[.pointer p5] λb2p q=>∃ aTP,b2p=.returned (.string aTP)/\q λaGF a3s=>Zc W aGF a3s Tryz.prog F.mN #[.string aTP] λaLI q=>∃ aLJ aLK aLL aTQ,aLI=.returned (Value.tuple #[.slice aLJ aLK aLL,.bool aTQ])/\q λaGG aTR=>Zc W aGG aTR Tryz.prog F.bK #[.pointer p5] λb2q q=>∃ n195,b2q=.returned (.int .i64 n195)/\q λb2r aTS=>Zc W b2r aTS Tryz.prog F.bK #[.pointer p5] λb2s q=>∃ n202,b2s=.returned (.int .i64 n202)/\q λaGH a3t=>Zc W aGH a3t Tryz.prog F.bK #[.pointer p5] λaLM q=>∃ n209,aLM=.returned (.int .i64 n209)/\q λaLN aDb=>∀ a5E aDc,Ctx W a5E (aLN++aDc) aDb->aE a5E X7 (N5+3) 1/\∀ (aDd : World),aDd=a5E.setCell (Addr.mk X7 (N5+3) none) (Value.slice aLJ aLK aLL)->∃ a3m J3,aA J3/\Ctx W aDd (a3m++aDc) J3/\∀ a9n aCH,Ctx W a9n (a3m++aCH) J3->aE a9n X7 (N5+4) 1/\∀ (aDe:World),aDe=a9n.setCell (Addr.mk X7 (N5+4) none) (Value.int IntKind.i64 n195)->∃ a5F ZB,aA ZB/\Ctx W aDe (a5F++aCH) ZB/\∀ aDf a5C,Ctx W aDf (a5F++a5C) ZB->aE aDf X7 (N5+5) 1/\∀ (aTT:World),aTT=aDf.setCell (Addr.mk X7 (N5+5) none) (Value.int IntKind.i64 n202)->∃ aTU aDg,aA aDg/\Ctx W aTT (aTU++a5C) aDg/\∀ aLO a3u,Ctx W aLO (aTU++a3u) aDg->aE aLO X7 (N5+6) 1/\∀ (aTV:World),aTV=aLO.setCell (Addr.mk X7 (N5+6) none) (Value.int IntKind.i64 n209)->∃ aDh V5,aA V5/\Ctx W aTV (aDh++a3u) V5/\Br (!aTQ) (∀ aLP aTW,Ctx W aLP (aDh++aTW) V5->aE aLP k0 0 7/\∀ (aTX:World),aTX=aLP.setCells k0 0 [Value.int IntKind.i64 0,Value.int IntKind.i64 0,Value.string (ByteArray.mk #[]),Value.int IntKind.i64 0,Value.int IntKind.i64 0,Value.string (ByteArray.mk #[]),Value.slice none 0 0]->∃ aLQ a7z,aA a7z/\Ctx W aTX (aLQ++aTW) a7z/\Zd W aLQ a7z λb2t=>∃ n239 n240 aTY n242 n243 aTZ aT0 aT1 aDi,dH b2t k0 0 [.int .i64 n239,.int .i64 n240,.string aTY,.int .i64 n242,.int .i64 n243,.string aTZ,.slice aT0 aT1 aDi]/\Zr W aLQ a7z J (Value.tuple #[Value.agg #[.int .i64 n239,.int .i64 n240,.string aTY,.int .i64 n242,.int .i64 n243,.string aTZ,.slice aT0 aT1 aDi],Value.bool false])) (Zc W aDh V5 Tryz.prog F.kN #[.slice aLJ aLK aLL] λb2u q=>∃ aT2,b2u=.returned (.bool aT2)/\q λaLR aDj=>Br (!aT2) (∀ aLS aT3,Ctx W aLS (aLR++aT3) aDj->aE aLS k0 0 7/\∀ (aT4:World),aT4=aLS.setCells k0 0 [Value.int IntKind.i64 0,Value.int IntKind.i64 0,Value.string (ByteArray.mk #[]),Value.int IntKind.i64 0,Value.int IntKind.i64 0,Value.string (ByteArray.mk #[]),Value.slice none 0 0]->∃ aLT a7A,aA a7A/\Ctx W aT4 (aLT++aT3) a7A/\Zd W aLT a7A λb2v=>∃ n264 n265 aT5 n267 n268 aT6 aT7 aT8 aT9,dH b2v k0 0 [.int .i64 n264,.int .i64 n265,.string aT5,.int .i64 n267,.int .i64 n268,.string aT6,.slice aT7 aT8 aT9]/\Zr W aLT a7A J (Value.tuple #[Value.agg #[.int .i64 n264,.int .i64 n265,.string aT5,.int .i64 n267,.int .i64 n268,.string aT6,.slice aT7 aT8 aT9],Value.bool false])) (Zd W aLR aDj λaGI=>∃ n277 n278 n279 aUa aUb aUc n283 n284 n285,dH aGI X7 N5 [.int .i64 n277,.int .i64 n278,.int .i64 n279,.slice aUa aUb aUc,.int .i64 n283,.int .i64 n284,.int .i64 n285]/\∀ (aUd:Nat) (aUe:World) (aUf:List Own),Ctx W aUe (Own.blk aUd [.int .i64 n277,.int .i64 n278,.int .i64 n279,.slice aUa aUb aUc,.int .i64 n283,.int .i64 n284,.int .i64 n285] 31 :: aLR++aUf) aDj->∃ (aUg:Option Addr) (aUh aUi:Nat) (aUj:World),Sem.run Tryz.prog (builtin Builtin.append #[22,22] 22 #[false,false] #[.slice p71 k72 k73,.slice (some (Addr.mk aUd 0 none)) 1 1]) aUe=.ok (.value (.slice aUg aUh aUi)) aUj/\∃ aUk aDk,aA aDk/\Ctx W aUj (aUk++aUf) aDk/\aR (n64 - 1)/\Zb W aUk aDk k76 (I58 (n64 - 1) n65 n66 s67 n68 n69 s70 aUg aUh aUi)))) (∃ aUl aDl,aA aDl/\Wk W Z9 KI aUl aDl/\I29 n65 n66 s67 n68 n69 s70 p71 k72 k73 aUl aDl)) (∃ aUm aDm,aA aDm/\Wk W R74 I75 aUm aDm/\I29 n65 n66 s67 n68 n69 s70 p71 k72 k73 aUm aDm)) (∃ aDn aDo,aA aDo/\Wk W CS HM aDn aDo/\I29 n12 n19 s26 0 0 (ByteArray.mk #[]) none 0 0 aDn aDo)/\∀ (n312 n313:Int) (aGJ:ByteArray) (n315 n316:Int) (aGK:ByteArray) (aGL:Option Addr) (aGM aGN:Nat) (aUn:List Own) (aLU:List Nat->World->Prop),aA aLU->I29 n312 n313 aGJ n315 n316 aGK aGL aGM aGN aUn aLU->vZ λ(a5G:Bool->List Own->PW->Prop)=>(∀ aUo aUp,Ctx W aUo (aUn++aUp) aLU->Calls Tryz.prog F.kR #[.pointer p5] aUo λb2w b2x=>∃ aUq,b2w=.returned (.bool aUq)/\∃ a5H QJ,aA QJ/\Ctx W b2x (a5H++aUp) QJ /\ Br aUq (Br (decide (0<=n312)) (Br (decide (0<=n313)) (Br (decide (n313<=2)) (Br (decide (n313=0)) (∃ aUr aDp,aA aDp/\Wk W a5H QJ aUr aDp/\a5G true aUr aDp) (∃ aUs aDq,aA aDq/\Wk W a5H QJ aUs aDq/\a5G (decide (n312<n315)) aUs aDq)) (∃ aGO a3v,aA a3v/\Wk W a5H QJ aGO a3v/\a5G false aGO a3v)) (∃ aCQ Z8,aA Z8/\Wk W a5H QJ aCQ Z8/\a5G false aCQ Z8)) (∃ aUt aDr,aA aDr/\Wk W a5H QJ aUt aDr/\a5G false aUt aDr)) (∃ aGP a3w,aA a3w/\Wk W a5H QJ aGP a3w/\a5G false aGP a3w))/\∀ (aUu:Bool) (a5I:List Own) (aDs:List Nat->World->Prop),aA aDs->a5G aUu a5I aDs->∃ aGQ a3x,aA a3x/\Wk W a5I aDs aGQ a3x/\Br aUu (Zc W a5I aDs Tryz.prog F.iB #[Value.agg #[.int .i64 n312,.int .i64 n313,.string aGJ, .int .i64 n315,.int .i64 n316,.string aGK,.slice aGL aGM aGN]] λb2y q=>∃ aUv,b2y=.returned (.string aUv)/\q λaUw aI9=>Wk W aUw aI9 aGQ a3x/\∀ aLV aUx,Ctx W aLV (aUw++aUx) aI9->aE aLV k0 0 7/\∀ (aUy:World),aUy=aLV.setCells k0 0 [.int .i64 n312,.int .i64 n313,.string aGJ,.int .i64 n315,.int .i64 n316,.string aGK,.slice aGL aGM aGN]->∃ aGR a3y,aA a3y/\Ctx W aUy (aGR++aUx) a3y/\Wk W aGR a3y aGQ a3x/\Zd W aGR a3y λb2z=>∃ aUz aUA aUB aUC aUD aUE aCR aUF aUG,dH b2z k0 0 [.int .i64 aUz,.int .i64 aUA,.string aUB,.int .i64 aUC,.int .i64 aUD,.string aUE,.slice aCR aUF aUG]/\Zr W aGR a3y J (Value.tuple #[Value.agg #[.int .i64 aUz,.int .i64 aUA,.string aUB,.int .i64 aUC,.int .i64 aUD,.string aUE,.slice aCR aUF aUG],Value.bool (decide (aUv=s))])) (∀ aLW aUH,Ctx W aLW (a5I++aUH) aDs->aE aLW k0 0 7/\∀ (aUI:World),aUI=aLW.setCells k0 0 [.int .i64 n312,.int .i64 n313,.string aGJ,.int .i64 n315,.int .i64 n316,.string aGK,.slice aGL aGM aGN]->∃ aGS a3z,aA a3z/\Ctx W aUI (aGS++aUH) a3z/\Wk W aGS a3z aGQ a3x/\Zd W aGS a3z λb2A=>∃ aUJ aUK aUL aDt aDu aUM aUN aDv aUO,dH b2A k0 0 [.int .i64 aUJ,.int .i64 aUK,.string aUL,.int .i64 aDt,.int .i64 aDu,.string aUM,.slice aUN aDv aUO]/\Zr W aGS a3z J (Value.tuple #[Value.agg #[.int .i64 aUJ,.int .i64 aUK,.string aUL,.int .i64 aDt,.int .i64 aDu,.string aUM,.slice aUN aDv aUO],Value.bool false]))
theorem P2 (s:ByteArray) {W w:World} {R:List Own} {Φ:PW} [aA Φ] {J:Value->World->Prop} (c:Ctx W w R Φ) (h:N4 s W R Φ J):Calls Tryz.prog F.zM #[.string s] w λe w'=>∃ v,e=.returned v/\J v w' :=
 aB (H:={ keep:=some [0,2,3,4,5,6,7,8,9,10,22,40,73],bW:=[5],cF:=[(8,[.tree (.rd 0 (.rd 2 (.rd 4 (.rd 3 (.alt 1 (.alt 5 (.rd 6 (.alt 7 (.done) (.no))) (.alt 7 (.alt 5 (.rd 6 (.done)) (.no)) (.no))) (.alt 7 (.alt 1 (.alt 5 (.rd 6 (.done)) (.no)) (.no)) (.no))))))) 8,.aO [] (some 8)]),(15,[.held [(0,true),(1,true),(2,true),(3,true),(5,true),(4,false),(6,true),(7,true),(8,false)],.aO [9] none])],split:=[6,11,14],loops:=[(6,[(6,.one (.int .i64))],[(5,.agg [.int .i64,.int .i64,.str,.int .i64,.int .i64,.str,.slice])])],QW:=[(9,[(7,.one .adr)],[]),(14,[],[(5,.agg [.int .i64,.int .i64,.str,.int .i64,.int .i64,.str,.slice])]),(15,[(10,.one (.bool))],[])] }) (by rw [show aW Tryz.prog W { keep:=some [0,2,3,4,5,6,7,8,9,10,22,40,73],bW:=[5],cF:=[(8,[.tree (.rd 0 (.rd 2 (.rd 4 (.rd 3 (.alt 1 (.alt 5 (.rd 6 (.alt 7 (.done) (.no))) (.alt 7 (.alt 5 (.rd 6 (.done)) (.no)) (.no))) (.alt 7 (.alt 1 (.alt 5 (.rd 6 (.done)) (.no)) (.no)) (.no))))))) 8,.aO [] (some 8)]),(15,[.held [(0,true),(1,true),(2,true),(3,true),(5,true),(4,false),(6,true),(7,true),(8,false)],.aO [9] none])],split:=[6,11,14],loops:=[(6,[(6,.one (.int .i64))],[(5,.agg [.int .i64,.int .i64,.str,.int .i64,.int .i64,.str,.slice])])],QW:=[(9,[(7,.one .adr)],[]),(14,[],[(5,.agg [.int .i64,.int .i64,.str,.int .i64,.int .i64,.str,.slice])]),(15,[(10,.one (.bool))],[])] } F.zM #[.string s] R Φ J=N4 s W R Φ J by kernel_rfl];exact h) c
def GF (cY:Option Addr) (cQ aX:Nat) (W:World) (R:List Own) (Φ:PW) (J:Value->World->Prop):Prop :=
 Zc W R Φ Tryz.prog F.bG #[.slice cY cQ aX] λe2 q=>∃ p4 k5 k6,e2=.returned (.slice p4 k5 k6)/\q λR7 E2=>vZ λ(I9:Int->List Own->PW->Nat->Prop)=>(Zs W R7 E2 (I9 0))/\∀ nT E5 W9 ER,aA W9->I9 nT E5 W9 ER->Br (decide (nT<(↑k5:Int))) (Zi nT k5 p4 λFG k20=>Zd W E5 W9 λw21=>∃ p23 W5 k25,w21.cell? (Addr.mk FG (k20+nT.toNat*7+3) none)=some (.slice p23 W5 k25)/\Zc W E5 W9 Tryz.prog F.bT #[.slice p23 W5 k25] λe28 q=>∃ p30 k31 k32,e28=.returned (.slice p30 k31 k32)/\q λAW mP=>(0<=nT/\nT<(↑k5:Int)) /\ jD none p4 λk35 k36=>∀ HR HO,Ctx W HR (AW++HO) mP->aE HR k35 (k36+nT.toNat*7+3) 1/\∀ (w39:World),w39=HR.setCell (Addr.mk k35 (k36+nT.toNat*7+3) none) (Value.slice p30 k31 k32)->∃ R40 RD,aA RD/\Ctx W w39 (R40++HO) RD/\aR (nT+1)/\Zb W R40 RD ER (I9 (nT+1))) (Zr W E5 W9 J (.slice p4 k5 k6))
theorem KJ (cY:Option Addr) (cQ aX:Nat) {W w:World} {R:List Own} {Φ:PW} [aA Φ] {J:Value->World->Prop} (c:Ctx W w R Φ) (h:GF cY cQ aX W R Φ J):Calls Tryz.prog F.mL #[.slice cY cQ aX] w λe w'=>∃ v,e=.returned v/\J v w' :=
 aB (H:={ keep:=some [0,2,3,4,8,9,10],loops:=[(3,[(9,.one (.int .i64))],[])] }) (by rw [show aW Tryz.prog W { keep:=some [0,2,3,4,8,9,10],loops:=[(3,[(9,.one (.int .i64))],[])] } F.mL #[.slice cY cQ aX] R Φ J=GF cY cQ aX W R Φ J by kernel_rfl];exact h) c
def qB (cB cO:Nat) (phase:Int) (doF:FuncId) (doC:Array Value) (W:World) (R:List Own) (Φ:PW) (J:Value->World->Prop):Prop :=
 Zd W R Φ λw0=>∃ c2,w0.cell? (Addr.mk cB (cO+9) none)=some (.bool c2)/\Br c2 (Zr W R Φ J (.int .i64 9)) (Zd W R Φ λw5=>∃ n7,w5.cell? (Addr.mk cB (cO+2) none)=some (.int .i64 n7)/\Br (decide (n7≠phase)) (Zr W R Φ J (.int .i64 7)) (∀ YC EP,Ctx W YC (R++EP) Φ->qT Tryz.prog doF=true/\Calls Tryz.prog doF (Array.mk doC.toList) YC λe12 w13=>∃ EO nT s16 KV W7 s19 RZ CT E0 BG,e12=.returned (Value.tuple #[Value.agg #[.int .i64 EO,.int .i64 nT,.string s16,.int .i64 KV,.int .i64 W7,.string s19,.slice RZ CT E0],Value.int IntKind.i64 BG])/\∃ xE mQ,aA mQ/\Ctx W w13 (xE++EP) mQ/\∀ (b:Nat),Br (decide (BG≠0)) (Zr W xE mQ J (.int .i64 BG)) (∃ OA sK,aA sK/\Wk W xE mQ OA sK/\∃ (p32:Option Addr),(Zd W OA sK λw33=>∃ p35,w33.cell? (Addr.mk cB cO none)=some (.pointer p35)/\Value.pointer p35=Value.pointer p32)/\Zc W xE mQ Tryz.prog F.iB #[Value.agg #[.int .i64 EO,.int .i64 nT,.string s16,.int .i64 KV,.int .i64 W7,.string s19,.slice RZ CT E0]] λe38 q=>∃ s40,e38=.returned (.string s40)/\q λKY AK=>Wk W KY AK OA sK/\Zc W KY AK Tryz.prog F.pN #[.pointer p32,.string s40] λe47 q=>∃ n49,e47=.returned (.int .i64 n49)/\q λR50 WT=>Br (decide (n49=0)) (∀ w52 R53,Ctx W w52 (R50++R53) WT->aE w52 cB (cO+1) 7/\∀ (w54:World),w54=w52.setCells cB (cO+1) [.int .i64 EO,.int .i64 nT,.string s16,.int .i64 KV,.int .i64 W7,.string s19,.slice RZ CT E0]->∃ R55 a8r,aA a8r/\Ctx W w54 (R55++R53) a8r/\∀ w57 GY,Ctx W w57 (R55++GY) a8r->aE w57 cB (cO+8) 1/\∀ (w59:World),w59=w57.setCell (Addr.mk cB (cO+8) none) (Value.bool false)->∃ R60 N6,aA N6/\Ctx W w59 (R60++GY) N6/\Br (decide (n49≠0)) (∀ w62 WA,Ctx W w62 (R60++WA) N6->aE w62 cB (cO+9) 1/\∀ (CD:World),CD=w62.setCell (Addr.mk cB (cO+9) none) (Value.bool (decide (n49≠6)))->∃ R65 a8u,aA a8u/\Ctx W CD (R65++WA) a8u/\Zr W R65 a8u J (.int .i64 n49)) (∀ w69 R70,Ctx W w69 (R60++R70) N6->aE w69 cB (cO+9) 1/\∀ (w71:World),w71=w69.setCell (Addr.mk cB (cO+9) none) (Value.bool false)->∃ R72 FB,aA FB/\Ctx W w71 (R72++R70) FB/\Zr W R72 FB J (.int .i64 n49))) (Br (decide (n49≠0)) (∀ w76 R77,Ctx W w76 (R50++R77) WT->aE w76 cB (cO+9) 1/\∀ (w78:World),w78=w76.setCell (Addr.mk cB (cO+9) none) (Value.bool (decide (n49≠6)))->∃ R79 JX,aA JX/\Ctx W w78 (R79++R77) JX/\Zr W R79 JX J (.int .i64 n49)) (∀ w83 R84,Ctx W w83 (R50++R84) WT->aE w83 cB (cO+9) 1/\∀ (w85:World),w85=w83.setCell (Addr.mk cB (cO+9) none) (Value.bool false)->∃ R86 aLY,aA aLY/\Ctx W w85 (R86++R84) aLY/\Zr W R86 aLY J (.int .i64 n49))))))
theorem vV (cB cO:Nat) (phase:Int) (doF:FuncId) (doC:Array Value) {W w:World} {R:List Own} {Φ:PW} [aA Φ] {J:Value->World->Prop} (c:Ctx W w R Φ) (h:qB cB cO phase doF doC W R Φ J):Calls Tryz.prog F.dK #[.pointer (some ⟨cB,cO,none⟩),.int .i64 phase,.func (.func doF) #[] doC] w λe w'=>∃ v,e=.returned v/\J v w' :=
 aB (H:={ keep:=some [0,1,2,6,7,8,9,14,28,38],wrap:=[24],bW:=[7],cF:=[(8,[.held [(0,true),(4,true),(1,true),(2,true),(3,true),(5,false)],.aO [] (some 6),.aO [7] none])],split:=[11] }) (by rw [show aW Tryz.prog W { keep:=some [0,1,2,6,7,8,9,14,28,38],wrap:=[24],bW:=[7],cF:=[(8,[.held [(0,true),(4,true),(1,true),(2,true),(3,true),(5,false)],.aO [] (some 6),.aO [7] none])],split:=[11] } F.dK #[.pointer (some ⟨cB,cO,none⟩),.int .i64 phase,.func (.func doF) #[] doC] R Φ J=qB cB cO phase doF doC W R Φ J by kernel_rfl];exact h) c
def mH (cB cO:Nat) (W:World) (R:List Own) (Φ:PW) (J:Value->World->Prop):Prop :=
 ∀ (b:Nat) (w0:World) (R1:List Own),Ctx W w0 (R++R1) Φ->∃ p2,w0.cell? (Addr.mk cB cO none)=some (.pointer p2)/\jD none p2 λk3 k4=>Zd W R Φ λw5=>∃ c7,w5.cell? (Addr.mk k3 (k4+8) none)=some (.bool c7)/\Br (!c7) (Zr W R Φ J (Value.tuple #[Value.agg #[.int .i64 0,Value.int IntKind.i64 0,Value.string (ByteArray.mk #[]),Value.int IntKind.i64 0,Value.int IntKind.i64 0,Value.string (ByteArray.mk #[]),Value.slice none 0 0],Value.int IntKind.i64 25])) (Zd W R Φ λYC=>∃ p12,YC.cell? (Addr.mk cB cO none)=some (.pointer p12)/\jD none p12 λJY JV=>Zd W R Φ λME=>∃ KV W7 s19 YD TL s22 p23 W5 k25,dH ME JY (JV+1) [.int .i64 KV,.int .i64 W7,.string s19,.int .i64 YD,.int .i64 TL,.string s22,.slice p23 W5 k25]/\∀ (b:Nat) (JR:World) (CS:List Own),Ctx W JR (R++CS) Φ->J (Value.tuple #[Value.agg #[.int .i64 KV,.int .i64 2,.string s19,.int .i64 YD,.int .i64 TL,.string s22,.slice p23 W5 k25],Value.int IntKind.i64 0]) JR)
theorem sF (cB cO:Nat) {W w:World} {R:List Own} {Φ:PW} [aA Φ] {J:Value->World->Prop} (c:Ctx W w R Φ) (h:mH cB cO W R Φ J):Calls Tryz.prog F.mV #[.pointer (some ⟨cB,cO,none⟩)] w λe w'=>∃ v,e=.returned v/\J v w' :=
 aB (H:={ keep:=some [0,1,2,3,8],bW:=[1,3] }) (by rw [show aW Tryz.prog W { keep:=some [0,1,2,3,8],bW:=[1,3] } F.mV #[.pointer (some ⟨cB,cO,none⟩)] R Φ J=mH cB cO W R Φ J by kernel_rfl];exact h) c
def mI (sB sO cB cO:Nat) (W:World) (R:List Own) (Φ:PW) (J:Value->World->Prop):Prop :=
 ∀ (b:Nat) (w0:World) (R1:List Own),Ctx W w0 (R++R1) Φ->∃ p2,w0.cell? (Addr.mk sB sO none)=some (.pointer p2)/\Zc W R Φ Tryz.prog F.kM #[.pointer p2] λe5 q=>∃ n7,e5=.returned (.int .i64 n7)/\q λR8 CC=>Br (decide (n7=0)) (Zd W R8 CC λYC=>∃ p12,YC.cell? (Addr.mk cB cO none)=some (.pointer p12)/\Zd W R8 CC λw13=>∃ p15,w13.cell? (Addr.mk sB sO none)=some (.pointer p15)/\Zc W R8 CC Tryz.prog F.gC #[.pointer p12,.pointer p15] λe18 q=>∃ YD,e18=.returned (.int .i64 YD)/\q λL3 uA=>∃ PX wT,aA wT/\Wk W L3 uA PX wT/\Zd W L3 uA λw27=>∃ p29,w27.cell? (Addr.mk cB cO none)=some (.pointer p29) /\ Zd W L3 uA λTM=>∃ p32,TM.cell? (Addr.mk cB cO none)=some (.pointer p32)/\jD none p29 λW6 Y9=>jD none p32 λk35 k36=>Zd W L3 uA λHR=>∃ n39,HR.cell? (Addr.mk W6 (Y9+4) none)=some (.int .i64 n39)/\Zd W L3 uA λw40=>∃ s42,w40.cell? (Addr.mk k35 (k36+6) none)=some (.string s42)/\Wk W L3 uA PX wT/\Zr W L3 uA J (Value.tuple #[Value.agg #[.int .i64 n39,Value.int IntKind.i64 0,Value.string s42,Value.int IntKind.i64 0,Value.int IntKind.i64 0,Value.string (ByteArray.mk #[]),Value.slice none 0 0],Value.int IntKind.i64 YD])) (Zd W R8 CC λw47=>∃ p49,w47.cell? (Addr.mk cB cO none)=some (.pointer p49)/\Zd W R8 CC λw50=>∃ p52,w50.cell? (Addr.mk sB sO none)=some (.pointer p52)/\Zc W R8 CC Tryz.prog F.eG #[.pointer p49,.pointer p52] λe55 q=>∃ n57,e55=.returned (.int .i64 n57)/\q λGY pO=>∃ R60 N6,aA N6/\Wk W GY pO R60 N6/\Zd W GY pO λCD=>∃ p66,CD.cell? (Addr.mk cB cO none)=some (.pointer p66)/\Zd W GY pO λw67=>∃ p69,w67.cell? (Addr.mk cB cO none)=some (.pointer p69)/\jD none p66 λk70 k71=>jD none p69 λk72 k73=>Zd W GY pO λw74=>∃ n76,w74.cell? (Addr.mk k70 (k71+4) none)=some (.int .i64 n76)/\Zd W GY pO λw77=>∃ s79,w77.cell? (Addr.mk k72 (k73+6) none)=some (.string s79)/\Wk W GY pO R60 N6/\Zr W GY pO J (Value.tuple #[Value.agg #[.int .i64 n76,Value.int IntKind.i64 0,Value.string s79,Value.int IntKind.i64 0,Value.int IntKind.i64 0,Value.string (ByteArray.mk #[]),Value.slice none 0 0],Value.int IntKind.i64 n57]))
theorem sG (sB sO cB cO:Nat) {W w:World} {R:List Own} {Φ:PW} [aA Φ] {J:Value->World->Prop} (c:Ctx W w R Φ) (h:mI sB sO cB cO W R Φ J):Calls Tryz.prog F.mW #[.pointer (some ⟨sB,sO,none⟩),.pointer (some ⟨cB,cO,none⟩)] w λe w'=>∃ v,e=.returned v/\J v w' :=
 aB (H:={ keep:=some [0,1,2,3,4,7],bW:=[2],cF:=[(5,[.late [0,5,1,6,2,7,3,8,4,9,10] [0,5,11,1,6,2,7,3,8,4,9,10] [(12,[13])]])] }) (by rw [show aW Tryz.prog W { keep:=some [0,1,2,3,4,7],bW:=[2],cF:=[(5,[.late [0,5,1,6,2,7,3,8,4,9,10] [0,5,11,1,6,2,7,3,8,4,9,10] [(12,[13])]])] } F.mW #[.pointer (some ⟨sB,sO,none⟩),.pointer (some ⟨cB,cO,none⟩)] R Φ J=mI sB sO cB cO W R Φ J by kernel_rfl];exact h) c
def o8 (cB cO:Nat) (sB sO:Nat) (W:World) (R:List Own) (Φ:PW) (J:Value->World->Prop):Prop :=
 Zd W R Φ λw0=>∃ n2,w0.cell? (Addr.mk cB (cO+4) none)=some (.int .i64 n2)/\Zc W R Φ Tryz.prog F.kU #[.pointer (some (Addr.mk sB sO none)),.int .i64 n2] λe5 q=>∃ n7,e5=.returned (.int .i64 n7)/\q λR8 CC=>Br (decide (n7≠4)) (Zr W R8 CC J (.int .i64 n7)) (∃ uO j3,aA j3/\Wk W R8 CC uO j3/\∃ (MC:Int),(Zd W uO j3 λw17=>∃ n19,w17.cell? (Addr.mk cB (cO+4) none)=some (.int .i64 n19)/\Value.int IntKind.i64 n19=Value.int IntKind.i64 MC)/\∃ (RZ:Option Addr) (CT E0:Nat),(Zd W uO j3 λYB=>∃ p25 TD S0,YB.cell? (Addr.mk cB (cO+7) none)=some (.slice p25 TD S0)/\Value.slice p25 TD S0=Value.slice RZ CT E0)/\Zc W R8 CC Tryz.prog F.jN #[.pointer (some (Addr.mk sB sO none)),.int .i64 MC,.slice RZ CT E0] λe30 q=>∃ n32,e30=.returned (.int .i64 n32)/\q λAW mP=>Br (decide (n32≠0)) (Zr W AW mP J (.int .i64 n32)) (Zd W AW mP λHR=>∃ n39,HR.cell? (Addr.mk cB (cO+4) none)=some (.int .i64 n39)/\Zc W AW mP Tryz.prog F.kU #[.pointer (some (Addr.mk sB sO none)),.int .i64 n39] λe42 q=>∃ n44,e42=.returned (.int .i64 n44)/\q λR45 UL=>Zr W R45 UL J (.int .i64 n44)))
theorem uF (cB cO:Nat) (sB sO:Nat) {W w:World} {R:List Own} {Φ:PW} [aA Φ] {J:Value->World->Prop} (c:Ctx W w R Φ) (h:o8 cB cO sB sO W R Φ J):Calls Tryz.prog F.gC #[.pointer (some ⟨cB,cO,none⟩),.pointer (some ⟨sB,sO,none⟩)] w λe w'=>∃ v,e=.returned v/\J v w' :=
 aB (H:={ keep:=some [0,1,4,5,6,15,30],cF:=[(4,[.held [(0,true),(1,true),(6,true),(2,true),(7,true),(3,true),(8,true),(4,true),(9,true),(5,true),(10,true)],.aO [] (some 11),.aO [12] none])] }) (by rw [show aW Tryz.prog W { keep:=some [0,1,4,5,6,15,30],cF:=[(4,[.held [(0,true),(1,true),(6,true),(2,true),(7,true),(3,true),(8,true),(4,true),(9,true),(5,true),(10,true)],.aO [] (some 11),.aO [12] none])] } F.gC #[.pointer (some ⟨cB,cO,none⟩),.pointer (some ⟨sB,sO,none⟩)] R Φ J=o8 cB cO sB sO W R Φ J by kernel_rfl];exact h) c
def nC (cB cO:Nat) (sB sO:Nat) (W:World) (R:List Own) (Φ:PW) (J:Value->World->Prop):Prop :=
 ∃ R0 bH,aA bH/\Wk W R Φ R0 bH/\∃ (n4:Int),(Zd W R0 bH λw5=>∃ n7,w5.cell? (Addr.mk cB (cO+4) none)=some (.int .i64 n7)/\Value.int IntKind.i64 n7=Value.int IntKind.i64 n4)/\∃ (p8:Option Addr) (k9 xD:Nat),(Zd W R0 bH λQY=>∃ WL JV k15,QY.cell? (Addr.mk cB (cO+7) none)=some (.slice WL JV k15)/\Value.slice WL JV k15=Value.slice p8 k9 xD)/\Zc W R Φ Tryz.prog F.mU #[.pointer (some (Addr.mk sB sO none)),.int .i64 n4,.slice p8 k9 xD] λe18 q=>∃ YD,e18=.returned (.int .i64 YD)/\q λL3 uA=>Zr W L3 uA J (.int .i64 YD)
theorem sS (cB cO:Nat) (sB sO:Nat) {W w:World} {R:List Own} {Φ:PW} [aA Φ] {J:Value->World->Prop} (c:Ctx W w R Φ) (h:nC cB cO sB sO W R Φ J):Calls Tryz.prog F.eG #[.pointer (some ⟨cB,cO,none⟩),.pointer (some ⟨sB,sO,none⟩)] w λe w'=>∃ v,e=.returned v/\J v w' :=
 aB (H:={ keep:=some [0,1,4],cF:=[(1,[.held [(0,true),(1,true),(6,true),(2,true),(7,true),(3,true),(8,true),(4,true),(9,true),(5,true),(10,true)],.aO [] (some 11),.aO [12] none])] }) (by rw [show aW Tryz.prog W { keep:=some [0,1,4],cF:=[(1,[.held [(0,true),(1,true),(6,true),(2,true),(7,true),(3,true),(8,true),(4,true),(9,true),(5,true),(10,true)],.aO [] (some 11),.aO [12] none])] } F.eG #[.pointer (some ⟨cB,cO,none⟩),.pointer (some ⟨sB,sO,none⟩)] R Φ J=nC cB cO sB sO W R Φ J by kernel_rfl];exact h) c
def nD (sB sO cB cO:Nat) (W:World) (R:List Own) (Φ:PW) (J:Value->World->Prop):Prop :=
 ∀ (b:Nat) (w0:World) (R1:List Own),Ctx W w0 (R++R1) Φ->∃ p2,w0.cell? (Addr.mk sB sO none)=some (.pointer p2)/\Zc W R Φ Tryz.prog F.kM #[.pointer p2] λe5 q=>∃ n7,e5=.returned (.int .i64 n7)/\q λR8 CC=>∃ pP lK,aA lK/\Wk W R8 CC pP lK/\Br (decide (n7=0)) (∃ (p14:Option Addr),(Zd W pP lK λME=>∃ p17,ME.cell? (Addr.mk sB sO none)=some (.pointer p17)/\Value.pointer p17=Value.pointer p14)/\∃ (p18:Option Addr),(Zd W pP lK λPV=>∃ p21,PV.cell? (Addr.mk cB cO none)=some (.pointer p21)/\Value.pointer p21=Value.pointer p18)/\jD none p18 λE0 k23=>∃ (n24:Int),(Zd W pP lK λw25=>∃ n27,w25.cell? (Addr.mk E0 (k23+4) none)=some (.int .i64 n27)/\Value.int IntKind.i64 n27=Value.int IntKind.i64 n24)/\Zc W R8 CC Tryz.prog F.lJ #[.pointer p14] λe30 q=>∃ n32,e30=.returned (.int .i64 n32)/\q λAW mP=>Wk W AW mP pP lK/\Br (decide (n32=n24)) (∃ R37 JW,aA JW/\Wk W AW mP R37 JW/\∃ (p41:Option Addr),(Zd W R37 JW λw42=>∃ p44,w42.cell? (Addr.mk sB sO none)=some (.pointer p44)/\Value.pointer p44=Value.pointer p41)/\∃ (p45:Option Addr),(Zd W R37 JW λVY=>∃ p48,VY.cell? (Addr.mk cB cO none)=some (.pointer p48)/\Value.pointer p48=Value.pointer p45)/\jD none p45 λk49 TE=>∃ (n51:Int),(Zd W R37 JW λw52=>∃ n54,w52.cell? (Addr.mk k49 (TE+4) none)=some (.int .i64 n54)/\Value.int IntKind.i64 n54=Value.int IntKind.i64 n51)/\Zc W AW mP Tryz.prog F.qH #[.pointer p41,.int .i64 n51] λe57 q=>∃ n59,e57=.returned (.int .i64 n59)/\q λR60 N6=>Zd W R60 N6 λw62=>∃ p64,w62.cell? (Addr.mk cB cO none)=some (.pointer p64)/\Zd W R60 N6 λw65=>∃ p67,w65.cell? (Addr.mk cB cO none)=some (.pointer p67)/\jD none p64 λk68 k69=>jD none p67 λk70 k71=>Zd W R60 N6 λw72=>∃ n74,w72.cell? (Addr.mk k68 (k69+1) none)=some (.int .i64 n74)/\Zd W R60 N6 λw75=>∃ s77,w75.cell? (Addr.mk k70 (k71+3) none)=some (.string s77)/\Zr W R60 N6 J (Value.tuple #[Value.agg #[.int .i64 n74,Value.int IntKind.i64 0,Value.string s77,Value.int IntKind.i64 0,Value.int IntKind.i64 0,Value.string (ByteArray.mk #[]),Value.slice none 0 0], Value.int IntKind.i64 0])) (Zd W AW mP λw80=>∃ p82,w80.cell? (Addr.mk cB cO none)=some (.pointer p82)/\Zd W AW mP λw83=>∃ p85,w83.cell? (Addr.mk cB cO none)=some (.pointer p85)/\jD none p82 λk86 k87=>jD none p85 λk88 k89=>Zd W AW mP λw90=>∃ n92,w90.cell? (Addr.mk k86 (k87+1) none)=some (.int .i64 n92)/\Zd W AW mP λw93=>∃ s95,w93.cell? (Addr.mk k88 (k89+3) none)=some (.string s95)/\Zr W AW mP J (Value.tuple #[Value.agg #[.int .i64 n92,Value.int IntKind.i64 0,Value.string s95,Value.int IntKind.i64 0,Value.int IntKind.i64 0,Value.string (ByteArray.mk #[]),Value.slice none 0 0],Value.int IntKind.i64 0]))) (Zd W R8 CC λw98=>∃ aFG,w98.cell? (Addr.mk cB cO none)=some (.pointer aFG)/\Zd W R8 CC λb2C=>∃ aUW,b2C.cell? (Addr.mk cB cO none)=some (.pointer aUW)/\jD none aFG λa84 b2D=>jD none aUW λaGT a1h=>Zd W R8 CC λb2E=>∃ n110,b2E.cell? (Addr.mk a84 (b2D+1) none)=some (.int .i64 n110)/\Zd W R8 CC λaF0=>∃ aUX,aF0.cell? (Addr.mk aGT (a1h+3) none)=some (.string aUX)/\Zr W R8 CC J (Value.tuple #[Value.agg #[.int .i64 n110,Value.int IntKind.i64 0,Value.string aUX,Value.int IntKind.i64 0,Value.int IntKind.i64 0,Value.string (ByteArray.mk #[]),Value.slice none 0 0],Value.int IntKind.i64 0]))
theorem sU (sB sO cB cO:Nat) {W w:World} {R:List Own} {Φ:PW} [aA Φ] {J:Value->World->Prop} (c:Ctx W w R Φ) (h:nD sB sO cB cO W R Φ J):Calls Tryz.prog F.nP #[.pointer (some ⟨sB,sO,none⟩),.pointer (some ⟨cB,cO,none⟩)] w λe w'=>∃ v,e=.returned v/\J v w' :=
 aB (H:={ keep:=some [0,1,2,3,16],bW:=[2],cF:=[(1,[.aO [0] (some 1),.held [(2,true),(3,true),(4,true),(6,true),(7,true),(8,true),(9,true),(10,true),(5,false)],.aO [11,12] none]),(2,[.held [(0,true),(1,true),(2,true),(3,true),(4,true),(5,true)],.aO [] (some 6)]),(3,[.aO [0,5,1,6,2,7,3,8,4,9,10] (some 11),.aO [12] none])] }) (by rw [show aW Tryz.prog W { keep:=some [0,1,2,3,16],bW:=[2],cF:=[(1,[.aO [0] (some 1),.held [(2,true),(3,true),(4,true),(6,true),(7,true),(8,true),(9,true),(10,true),(5,false)],.aO [11,12] none]),(2,[.held [(0,true),(1,true),(2,true),(3,true),(4,true),(5,true)],.aO [] (some 6)]),(3,[.aO [0,5,1,6,2,7,3,8,4,9,10] (some 11),.aO [12] none])] } F.nP #[.pointer (some ⟨sB,sO,none⟩),.pointer (some ⟨cB,cO,none⟩)] R Φ J=nD sB sO cB cO W R Φ J by kernel_rfl];exact h) c
def nE (bB bO cB cO lB lO mB mO nB nO:Nat) (W:World) (R:List Own) (Φ:PW) (J:Value->World->Prop):Prop :=
 ∀ (b:Nat) (w0:World) (R1:List Own),Ctx W w0 (R++R1) Φ->∃ n2,w0.cell? (Addr.mk bB bO none)=some (.int .i64 n2)/\∃ p3,w0.cell? (Addr.mk cB cO none)=some (.pointer p3)/\jD none p3 λk4 k5=>∃ n6,w0.cell? (Addr.mk k4 (k5+1) none)=some (.int .i64 n6)/\Br (decide (n2<=n6)) (Zr W R Φ J (Value.tuple #[Value.agg #[.int .i64 0,Value.int IntKind.i64 0,Value.string (ByteArray.mk #[]),Value.int IntKind.i64 0,Value.int IntKind.i64 0,Value.string (ByteArray.mk #[]),Value.slice none 0 0],Value.int IntKind.i64 25])) (Zd W R Φ λw9=>∃ UI k12 JY,w9.cell? (Addr.mk lB lO none)=some (.slice UI k12 JY)/\∀ MA NO,Ctx W MA (R++NO) Φ->Calls Tryz.prog F.dF #[.slice UI k12 JY,Value.func (Fn.func 104) #[] #[.pointer (some (Addr.mk bB bO none))]] MA λe16 w17=>∃ c18,e16 = .returned (.bool c18)/\∃ KU tX,aA tX/\Ctx W w17 (KU++NO) tX/\Br c18 (Zr W KU tX J (Value.tuple #[Value.agg #[.int .i64 0,Value.int IntKind.i64 0,Value.string (ByteArray.mk #[]),Value.int IntKind.i64 0,Value.int IntKind.i64 0,Value.string (ByteArray.mk #[]),Value.slice none 0 0],Value.int IntKind.i64 1])) (∃ PX wT,aA wT/\Wk W KU tX PX wT/\∃ (p27:Option Addr),(Zd W PX wT λHN=>∃ p30,HN.cell? (Addr.mk cB cO none)=some (.pointer p30)/\Value.pointer p30=Value.pointer p27)/\∃ (p31:Option Addr),(Zd W PX wT λKX=>∃ p34,KX.cell? (Addr.mk cB cO none)=some (.pointer p34)/\Value.pointer p34=Value.pointer p31)/\∃ (Q4:Int),(Zd W PX wT λw36=>∃ n38,w36.cell? (Addr.mk bB bO none)=some (.int .i64 n38)/\Value.int IntKind.i64 n38 = Value.int IntKind.i64 Q4)/\∃ (n39:Int),(Zd W PX wT λw40=>∃ NP,w40.cell? (Addr.mk mB mO none)=some (.int .i64 NP)/\Value.int IntKind.i64 NP=Value.int IntKind.i64 n39)/\∃ (s43:ByteArray),(Zd W PX wT λS4=>∃ s46,S4.cell? (Addr.mk nB nO none)=some (.string s46)/\Value.string s46=Value.string s43)/\Zd W KU tX λw47=>∃ p49 TE YA,w47.cell? (Addr.mk lB lO none)=some (.slice p49 TE YA)/\jD none p27 λk52 k53=>jD none p31 λk54 k55=>∃ (n56:Int),(Zd W PX wT λw57=>∃ n59,w57.cell? (Addr.mk k52 (k53+1) none)=some (.int .i64 n59)/\Value.int IntKind.i64 n59=Value.int IntKind.i64 n56)/\∃ (s60:ByteArray),(Zd W PX wT λw61=>∃ s63,w61.cell? (Addr.mk k54 (k55+3) none)=some (.string s63)/\Value.string s63=Value.string s60)/\Zc W KU tX Tryz.prog F.mL #[.slice p49 TE YA] λe66 q=>∃ p68 k69 k70,e66=.returned (.slice p68 k69 k70)/\q λR71 UM=>Wk W R71 UM PX wT/\Wk W R71 UM PX wT/\Zr W R71 UM J (Value.tuple #[Value.agg #[.int .i64 n56,.int .i64 1,.string s60,.int .i64 Q4,.int .i64 n39,.string s43,.slice p68 k69 k70],Value.int IntKind.i64 0])))
theorem sV (bB bO cB cO lB lO mB mO nB nO:Nat) {W w:World} {R:List Own} {Φ:PW} [aA Φ] {J:Value->World->Prop} (c:Ctx W w R Φ) (h:nE bB bO cB cO lB lO mB mO nB nO W R Φ J):Calls Tryz.prog F.nQ #[.pointer (some ⟨bB,bO,none⟩),.pointer (some ⟨cB,cO,none⟩),.pointer (some ⟨lB,lO,none⟩),.pointer (some ⟨mB,mO,none⟩),.pointer (some ⟨nB,nO,none⟩)] w λe w'=>∃ v,e=.returned v/\J v w' :=
 aB (H:={ keep:=some [0,1,2,3,4,5,6,7,16],bW:=[5],cF:=[(5,[.late [13] [0,5,10,11,12,13,1,6,2,7,3,8,4,9] [(14,[15]),(16,[17])]])] }) (by rw [show aW Tryz.prog W { keep:=some [0,1,2,3,4,5,6,7,16],bW:=[5],cF:=[(5,[.late [13] [0,5,10,11,12,13,1,6,2,7,3,8,4,9] [(14,[15]),(16,[17])]])] } F.nQ #[.pointer (some ⟨bB,bO,none⟩),.pointer (some ⟨cB,cO,none⟩),.pointer (some ⟨lB,lO,none⟩),.pointer (some ⟨mB,mO,none⟩),.pointer (some ⟨nB,nO,none⟩)] R Φ J=nE bB bO cB cO lB lO mB mO nB nO W R Φ J by kernel_rfl];exact h) c
def hJ (sP:Option Addr) (sN sC:Nat) (fF:FuncId) (fC:Array Value) (W:World) (R:List Own) (Φ:PW) (J:Value->World->Prop):Prop :=
 Zc W R Φ Tryz.prog F.dV #[.slice sP sN sC,Value.func (Fn.func fF) #[] fC] λe2 q=>∃ n4,e2=.returned (.int .i64 n4)/\q λR5 iQ=>Zr W R5 iQ J (.bool (decide (0<=n4)))
theorem lR (sP:Option Addr) (sN sC:Nat) (fF:FuncId) (fC:Array Value) {W w:World} {R:List Own} {Φ:PW} [aA Φ] {J:Value->World->Prop} (c:Ctx W w R Φ) (h:hJ sP sN sC fF fC W R Φ J):Calls Tryz.prog F.dF #[.slice sP sN sC,.func (.func fF) #[] fC] w λe w'=>∃ v,e=.returned v/\J v w' :=
 aB (H:={ keep:=some [0,1,4] }) (by rw [show aW Tryz.prog W { keep:=some [0,1,4] } F.dF #[.slice sP sN sC,.func (.func fF) #[] fC] R Φ J=hJ sP sN sC fF fC W R Φ J by kernel_rfl];exact h) c
def lE (y0 y1 y2:Int) (y3P:Option Addr) (y3N y3C:Nat) (y4 y5 y6:Int) (bB bO:Nat) (W:World) (R:List Own) (Φ:PW) (J:Value->World->Prop):Prop :=
 ∀ (b:Nat) (w0:World) (R1:List Own),Ctx W w0 (R++R1) Φ->∃ n2,w0.cell? (Addr.mk bB bO none)=some (.int .i64 n2)/\Br (decide (y1≠n2)) (Zr W R Φ J (.bool true)) (Zc W R Φ Tryz.prog F.kN #[.slice y3P y3N y3C] λe7 q=>∃ c9,e7=.returned (.bool c9)/\q λpP lK=>Zr W pP lK J (.bool !c9))
theorem rG (y0 y1 y2:Int) (y3P:Option Addr) (y3N y3C:Nat) (y4 y5 y6:Int) (bB bO:Nat) {W w:World} {R:List Own} {Φ:PW} [aA Φ] {J:Value->World->Prop} (c:Ctx W w R Φ) (h:lE y0 y1 y2 y3P y3N y3C y4 y5 y6 bB bO W R Φ J):Calls Tryz.prog F.fJ #[.agg #[.int .i64 y0,.int .i64 y1,.int .i64 y2,.slice y3P y3N y3C,.int .i64 y4,.int .i64 y5,.int .i64 y6],.pointer (some ⟨bB,bO,none⟩)] w λe w'=>∃ v,e=.returned v/\J v w' :=
 aB (H:={ keep:=some [1,2,3],bW:=[2],split:=[1] }) (by rw [show aW Tryz.prog W { keep:=some [1,2,3],bW:=[2],split:=[1] } F.fJ #[.agg #[.int .i64 y0,.int .i64 y1,.int .i64 y2,.slice y3P y3N y3C,.int .i64 y4,.int .i64 y5,.int .i64 y6],.pointer (some ⟨bB,bO,none⟩)] R Φ J=lE y0 y1 y2 y3P y3N y3C y4 y5 y6 bB bO W R Φ J by kernel_rfl];exact h) c
def yN (x0:Int) (x1:Int) (x2:ByteArray) (x3:Int) (x4:Int) (x5:ByteArray) (x6P:Option Addr) (x6N x6C:Nat) (W:World) (R:List Own) (Φ:PW) (J:Value->World->Prop):Prop :=
 ∀ (b k0:Nat),∃ R1 pI,aA pI/\Wk W (Own.blk k0 [Value.pointer none,Value.slice none 0 0] 165 :: R) Φ (R1) pI/\Zc W (Own.blk k0 [Value.pointer none,Value.slice none 0 0] 165 :: R) Φ Tryz.prog F.iX #[.int .i64 x0] λe7 q=>∃ s9,e7=.returned (.string s9)/\q λpP lK=>Wk W pP lK R1 pI/\Zc W pP lK Tryz.prog F.iX #[.int .i64 x1] λe16 q=>∃ CW,e16=.returned (.string CW)/\q λKU tX=>Wk W KU tX R1 pI/\(s9.size+CW.size).le 9223372036854775807/\Zc W KU tX Tryz.prog F.tW #[.string x2] λe25 q=>∃ s27,e25=.returned (.string s27)/\q λOA sK=>Wk W OA sK R1 pI/\((s9++CW).size+s27.size).le 9223372036854775807/\Zc W OA sK Tryz.prog F.bM #[.pointer (some (Addr.mk k0 0 none)),.string (s9++CW++s27)] λe34 q=>∃ (n36:Int) (v37:Value),e34=.returned (Value.tuple #[.int .i64 n36,v37])/\q λHO rF=>Br (decide (x1=0)) (Zc W HO rF Tryz.prog F.iO #[.pointer (some (Addr.mk k0 0 none))] λe42 q=>∃ s44,e42=.returned (.string s44)/\q λR45 UL=>Zr W R45 UL J (.string s44)) (∃ R49 FT,aA FT/\Wk W HO rF R49 FT/\Zc W HO rF Tryz.prog F.iX #[.int .i64 x3] λe55 q=>∃ s57,e55=.returned (.string s57)/\q λGY pO=>Wk W GY pO R49 FT/\Zc W GY pO Tryz.prog F.iX #[.int .i64 x4] λe64 q=>∃ s66,e64=.returned (.string s66)/\q λR67 EF=>Wk W R67 EF R49 FT/\(s57.size+s66.size).le 9223372036854775807/\Zc W R67 EF Tryz.prog F.tW #[.string x5] λe73 q=>∃ s75,e73=.returned (.string s75)/\q λR76 aBd=>Wk W R76 aBd R49 FT/\((s57++s66).size+s75.size).le 9223372036854775807/\Zc W R76 aBd Tryz.prog F.F6 #[.int .i64 (↑x6N:Int)] λe82 q=>∃ s84,e82=.returned (.string s84)/\q λR85 P1=>Wk W R85 P1 R49 FT/\((s57++s66++s75).size+s84.size).le 9223372036854775807/\Zc W R85 P1 Tryz.prog F.bM #[.pointer (some (Addr.mk k0 0 none)),.string (s57++s66++s75++s84)] λe91 q=>∃ (n93:Int) (v94:Value),e91=.returned (Value.tuple #[.int .i64 n93,v94])/\q λR95 aKH=>vZ λ(I97:Int->List Own->PW->Nat->Prop)=>(Zs W R95 aKH (I97 0))/\∀ n103 OM V6 aGT,aA V6->I97 n103 OM V6 aGT->Br (decide (n103<(↑x6N:Int))) (Zi n103 x6N x6P λa1h aGU=>Zd W OM V6 λa8R=>∃ n111 n112 n113 aCB WU aCC n117 n118 n119,dH a8R a1h (aGU+n103.toNat*7) [.int .i64 n111,.int .i64 n112,.int .i64 n113,.slice aCB WU aCC,.int .i64 n117,.int .i64 n118,.int .i64 n119]/\∀ (b:Nat),∃ G0 yO,aA yO/\Wk W OM V6 G0 yO/\Zc W OM V6 Tryz.prog F.iX #[.int .i64 n111] λb2I q=>∃ a5K,b2I=.returned (.string a5K)/\q λaB2 aJd=>Wk W aB2 aJd G0 yO/\Zc W aB2 aJd Tryz.prog F.iX #[.int .i64 n113] λb2J q=>∃ a5L,b2J=.returned (.string a5L)/\q λa8T aJe=>Wk W a8T aJe G0 yO/\(a5K.size+a5L.size).le 9223372036854775807/\Zc W a8T aJe Tryz.prog F.rR #[.slice aCB WU aCC] λb2K q=>∃ aU0,b2K=.returned (.string aU0)/\q λRJ FV=>Wk W RJ FV G0 yO/\∀ a1i X8,Ctx W a1i (RJ++X8) FV->Calls Tryz.prog F.tW #[.string aU0] a1i λb2L a5i=>∃ a9t,b2L = .returned (.string a9t)/\∃ a5M N7,aA N7/\Ctx W a5i (a5M++X8) N7/\Wk W a5M N7 G0 yO/\((a5K++a5L).size+a9t.size).le 9223372036854775807/\Zc W a5M N7 Tryz.prog F.iX #[.int .i64 n117] λb2M q=>∃ a02,b2M=.returned (.string a02)/\q λaU1 aJf=>Wk W aU1 aJf G0 yO/\((a5K++a5L++a9t).size+a02.size).le 9223372036854775807/\Zc W aU1 aJf Tryz.prog F.iX #[.int .i64 n118] λb2N q=>∃ aGV,b2N=.returned (.string aGV)/\q λa5f QD=>Wk W a5f QD G0 yO/\((a5K++a5L++a9t++a02).size+aGV.size).le 9223372036854775807/\Zc W a5f QD Tryz.prog F.iX #[.int .i64 n119] λb2O q=>∃ aL2,b2O=.returned (.string aL2)/\q λaU2 aJg=>Wk W aU2 aJg G0 yO/\((a5K++a5L++a9t++a02++aGV).size+aL2.size).le 9223372036854775807/\Zc W aU2 aJg Tryz.prog F.bM #[.pointer (some (Addr.mk k0 0 none)),.string (a5K++a5L++a9t++a02++aGV++aL2)] λaLd q=>∃ (n191:Int) (b2P:Value),aLd=.returned (Value.tuple #[.int .i64 n191,b2P])/\q λaCG a3l=>aR (n103+1)/\Zb W aCG a3l aGT (I97 (n103+1))) (Zc W OM V6 Tryz.prog F.iO #[.pointer (some (Addr.mk k0 0 none))] λb2Q q=>∃ aU3,b2Q=.returned (.string aU3)/\q λb2R aU4=>Zr W b2R aU4 J (.string aU3)))
theorem DC (x0:Int) (x1:Int) (x2:ByteArray) (x3:Int) (x4:Int) (x5:ByteArray) (x6P:Option Addr) (x6N x6C:Nat) {W w:World} {R:List Own} {Φ:PW} [aA Φ] {J:Value->World->Prop} (c:Ctx W w R Φ) (h:yN x0 x1 x2 x3 x4 x5 x6P x6N x6C W R Φ J):Calls Tryz.prog F.iB #[.agg #[.int .i64 x0,.int .i64 x1,.string x2,.int .i64 x3,.int .i64 x4,.string x5,.slice x6P x6N x6C]] w λe w'=>∃ v,e=.returned v/\J v w' :=
 aB (H:={ keep:=some [1,2,3,5,20,40,41,42,43],bW:=[1,5],cF:=[(2,[.held [(0,true),(3,true),(7,true),(1,true),(4,true),(8,true),(2,false),(5,false),(6,true),(9,false)],.aO [10] (some 11)]),(5,[.held [(0,true),(3,true),(7,true),(11,true),(1,true),(4,true),(8,true),(12,true),(13,true),(2,false),(5,false),(6,true),(9,false),(10,true),(14,false)],.aO [15] (some 16)]),(9,[.held [(0,true),(3,true),(7,true),(12,true),(16,true),(20,true),(1,true),(4,true),(8,true),(13,true),(17,true),(21,true),(2,false),(5,false),(6,true),(9,false),(10,false),(11,true),(14,false),(15,true),(18,false),(19,true),(22,false)],.aO [23] (some 24)])],loops:=[(7,[(42,.one (.int .i64))],[])] }) (by rw [show aW Tryz.prog W { keep:=some [1,2,3,5,20,40,41,42,43],bW:=[1,5],cF:=[(2,[.held [(0,true),(3,true),(7,true),(1,true),(4,true),(8,true),(2,false),(5,false),(6,true),(9,false)],.aO [10] (some 11)]),(5,[.held [(0,true),(3,true),(7,true),(11,true),(1,true),(4,true),(8,true),(12,true),(13,true),(2,false),(5,false),(6,true),(9,false),(10,true),(14,false)],.aO [15] (some 16)]),(9,[.held [(0,true),(3,true),(7,true),(12,true),(16,true),(20,true),(1,true),(4,true),(8,true),(13,true),(17,true),(21,true),(2,false),(5,false),(6,true),(9,false),(10,false),(11,true),(14,false),(15,true),(18,false),(19,true),(22,false)],.aO [23] (some 24)])],loops:=[(7,[(42,.one (.int .i64))],[])] } F.iB #[.agg #[.int .i64 x0,.int .i64 x1,.string x2,.int .i64 x3,.int .i64 x4,.string x5,.slice x6P x6N x6C]] R Φ J=yN x0 x1 x2 x3 x4 x5 x6P x6N x6C W R Φ J by kernel_rfl];exact h) c
def iS (sP:Option Addr) (sN sC:Nat) (fF:FuncId) (fC:Array Value) (W:World) (R:List Own) (Φ:PW) (J:Value->World->Prop):Prop :=
 vZ λ(I0:Int->List Own->PW->Nat->Prop)=>(Zs W R Φ (I0 0))/\∀ n6 R7 I8 k9,aA I8->I0 n6 R7 I8 k9->Br (decide (n6<(↑sN:Int))) (Zi n6 sN sP λxD Y2=>Zd W R7 I8 λM7=>∃ EO nT MC p17 ER FG YD TL VZ,dH M7 xD (Y2+n6.toNat*7) [.int .i64 EO,.int .i64 nT,.int .i64 MC,.slice p17 ER FG,.int .i64 YD,.int .i64 TL,.int .i64 VZ]/\∀ YB xE,Ctx W YB (R7++xE) I8->qT Tryz.prog fF=true/\Calls Tryz.prog fF (Array.mk (Value.agg #[.int .i64 EO,.int .i64 nT,.int .i64 MC,.slice p17 ER FG,.int .i64 YD,.int .i64 TL,.int .i64 VZ] :: fC.toList)) YB λe25 JR=>∃ c27,e25=.returned (.bool c27)/\∃ OA sK,aA sK/\Ctx W JR (OA++xE) sK/\Br c27 (Zr W OA sK J (.int .i64 n6)) (aR (n6+1)/\Zb W OA sK k9 (I0 (n6+1)))) (Zr W R7 I8 J (.int .i64 (-1)))
theorem nG (sP:Option Addr) (sN sC:Nat) (fF:FuncId) (fC:Array Value) {W w:World} {R:List Own} {Φ:PW} [aA Φ] {J:Value->World->Prop} (c:Ctx W w R Φ) (h:iS sP sN sC fF fC W R Φ J):Calls Tryz.prog F.dV #[.slice sP sN sC,.func (.func fF) #[] fC] w λe w'=>∃ v,e=.returned v/\J v w' :=
 aB (H:={ keep:=some [0,1,4,5,7,8,9,16],wrap:=[16],loops:=[(2,[(8,.one (.int .i64))],[])] }) (by rw [show aW Tryz.prog W { keep:=some [0,1,4,5,7,8,9,16],wrap:=[16],loops:=[(2,[(8,.one (.int .i64))],[])] } F.dV #[.slice sP sN sC,.func (.func fF) #[] fC] R Φ J=iS sP sN sC fF fC W R Φ J by kernel_rfl];exact h) c
end Go.Proofs.YtfccagphnfceiaaGreatDoor
end

section
namespace Go.Proofs.YtfccagphnfceiaaGreatDoor
set_option maxRecDepth 100000
open Go.Vc
def A3 (s:ByteArray) (W:World) (R:List Own) (Φ:PW) (J:Value->World->Prop):Prop :=
 Zd W R Φ λw0=>∃ (u2:UInt8),(decide (0<(↑s.size:Int))=true->(0:Int)<=0/\s.data.toList.get?Internal 0=some u2)/\Br (decide (0<(↑s.size:Int))&&decide ((↑u2.toNat:Int)=45)) (vZ λ(I3:Int->Int->List Own->PW->Nat->Prop)=>(Zs W R Φ (I3 0 1))/\∀ n9 Q3 EP I12 JY,aA I12->I3 n9 Q3 EP I12 JY->Br (decide (Q3<(↑s.size:Int))) (Zd W EP I12 λMA=>∃ (u16:UInt8),(0<=Q3/\s.data.toList.get?Internal Q3.toNat=some u16)/\∃ (u17:UInt8),((!decide ((↑u16.toNat:Int)<48))=true->0<=Q3/\s.data.toList.get?Internal Q3.toNat=some u17)/\Br (decide ((↑u16.toNat:Int)<48)||decide (57<(↑u17.toNat:Int))||decide (20<Q3)) (Zr W EP I12 J (Value.tuple #[.int .i64 0,.bool false])) (∃ (u20:UInt8),(0<=Q3 /\ s.data.toList.get?Internal Q3.toNat=some u20)/\aR (Q3+1)/\∃ L3 uA k23,aA uA/\Wk W EP I12 L3 uA/\I3 (IntKind.i64.wrap (IntKind.i64.wrap (10*n9) - IntKind.i64.wrap (IntKind.u8.wrap ((↑u20.toNat:Int) - 48)))) (Q3+1) L3 uA k23/\k23<JY)) (Zc W EP I12 Tryz.prog F.jA #[.int .i64 n9] λe28 q=>∃ s30,e28=.returned (.string s30)/\q λHZ wV=>(s.size+(ByteArray.mk #[OfNat.ofNat 59]).size).le 9223372036854775807/\Zr W HZ wV J (Value.tuple #[.int .i64 n9,Value.bool (decide (s30=s++ByteArray.mk #[OfNat.ofNat 59]))]))) (vZ λ(I35:Int->Int->List Own->PW->Nat->Prop)=>(Zs W R Φ (I35 0 0))/\∀ n41 NP R43 I44 k45,aA I44->I35 n41 NP R43 I44 k45->Br (decide (NP < (↑s.size:Int))) (Zd W R43 I44 λVY=>∃ (u48:UInt8),(0<=NP/\s.data.toList.get?Internal NP.toNat=some u48)/\∃ (u49:UInt8),((!decide ((↑u48.toNat:Int)<48))=true->0<=NP/\s.data.toList.get?Internal NP.toNat=some u49)/\Br (decide ((↑u48.toNat:Int)<48)||decide (57<(↑u49.toNat:Int))||decide (20<NP)) (Zr W R43 I44 J (Value.tuple #[.int .i64 0,.bool false])) (∃ (u52:UInt8),(0<=NP/\s.data.toList.get?Internal NP.toNat=some u52)/\aR (NP+1)/\∃ R53 KB k55,aA KB/\Wk W R43 I44 R53 KB/\I35 (IntKind.i64.wrap (IntKind.i64.wrap (10*n41) - IntKind.i64.wrap (IntKind.u8.wrap ((↑u52.toNat:Int) - 48)))) (NP+1) R53 KB k55/\k55<k45)) (∀ w58 R59,Ctx W w58 (R43++R59) I44->Calls Tryz.prog F.jA #[.int .i64 (IntKind.i64.wrap (0 - n41))] w58 λe60 w61=>∃ s62,e60 = .returned (.string s62)/\∃ WA yW,aA yW/\Ctx W w61 (WA++R59) yW/\(s.size+(ByteArray.mk #[OfNat.ofNat 59]).size).le 9223372036854775807/\Zr W WA yW J (Value.tuple #[.int .i64 (IntKind.i64.wrap (0 - n41)),Value.bool (decide (s62=s++ByteArray.mk #[OfNat.ofNat 59]))])))
theorem EJ (s:ByteArray) {W w:World} {R:List Own} {Φ:PW} [aA Φ] {J:Value->World->Prop} (c:Ctx W w R Φ) (h:A3 s W R Φ J):Calls Tryz.prog F.oI #[.string s] w λe w'=>∃ v,e=.returned v/\J v w' :=
 aB (H:={ keep:=some [0,2,3,4,5,6,14,19,35,45],wrap:=[37,43,47],loops:=[(6,[(5,.one (.int .i64)),(6,.one (.int .i64))],[])] }) (by rw [show aW Tryz.prog W { keep:=some [0,2,3,4,5,6,14,19,35,45],wrap:=[37,43,47],loops:=[(6,[(5,.one (.int .i64)),(6,.one (.int .i64))],[])] } F.oI #[.string s] R Φ J=A3 s W R Φ J by kernel_rfl];exact h) c
end Go.Proofs.YtfccagphnfceiaaGreatDoor
end

section
namespace Go.Proofs.YtfccagphnfceiaaGreatDoor
open Go.Vc
section
variable {W w:World} {R G S:List Own} {Φ:PW} {b:Nat} {st:iK}
theorem iZ [aA Φ] (eT:∀ M w,Φ M w->EH M w) (hl:st.1.length<=1000000000) {n:Int} {s1:iK} (e:aL st=(n,s1)) (c:Ctx W w (rd b st :: S++G) Φ) {K:Int->List Own->PW->Prop}
  (hk:K n (rd b s1 :: S) Φ) :
  Calls Tryz.prog F.bK #[.pointer (some ⟨b,0,none⟩)] w λe w'=>∃ n,e=.returned (.int .i64 n)/\∃ R' aF,aA aF/\Ctx W w' (R'++G) aF/\K n R' aF :=
 a09 eT (by omega) c (by rw [e];exact hk)
theorem aJh {PS:PW} [aA PS] {op:Option Addr} {oc:Nat} {ds:List Value} {o:List aM} {x:aM} {a:Option Addr} {ac kb:Nat} (hx:∀ M w,PS M w->Gv.rep M w (x.cells a ac) x) (ho:o.length<10000000)
  (cx:Ctx W w (.blk kb (x.cells a ac) 31 :: .buf op o.length oc ds 31 7 :: R++G) (λM w=>PS M w/\aQ M w ds o)) :
  ∃ p c w',Sem.run Tryz.prog (builtin Builtin.append #[22,22] 22 #[false,false] #[.slice op o.length oc,.slice (some ⟨kb,0,none⟩) 1 1]) w=.ok (.value (.slice p (o++[x]).length c)) w'/\Ctx W w' (.buf p (o++[x]).length c (ds++x.cells a ac) 31 7 :: R++G) (λM w=>PS M w/\aQ M w (ds++x.cells a ac) (o++[x])):=by
 obtain ⟨p',cap',w',hrun,_,cx'⟩:=Ctx.a2t (P:=Tryz.prog) (ts:=22) (ty:=22) (kb:=#[false,false]) (size:=7) (bytes:=72) cx (by kernel_rfl) (by omega) rfl rfl (by omega) (by omega)
 have e:o.length+1=(o++[x]).length:=by simp
 rw [e] at hrun cx'
 exact ⟨p',cap',w',hrun,cx'.weak λM w h=>⟨h.1,h.2.snoc (hx M w h.1)⟩⟩
end
end Go.Proofs.YtfccagphnfceiaaGreatDoor
end

section
namespace Go.Proofs.YtfccagphnfceiaaGreatDoor
open Go.Vc
theorem Ctx.mid {W w:World} {A B G:List Own} {x:Own} {Φ:PW} [aA Φ] (c:Ctx W w ((x :: (A++B))++G) Φ):Ctx W w ((A++(x :: B))++G) Φ:=c.perm (by simpa using (List.perm_middle (l₁:=A) (a:=x) (l₂:=B++G)).symm)
theorem Ctx.front {W w:World} {A B G:List Own} {x:Own} {Φ:PW} [aA Φ] (c:Ctx W w ((A++(x :: B))++G) Φ):Ctx W w ((x :: (A++B))++G) Φ:=c.perm (by simp)
theorem a9u {A T:List Own} {a b c:Own}:(A++(a :: b :: c :: T)).Perm (c :: b :: a :: (A++T)):=by
 have h:(A++([a,b,c]++T)).Perm ([a,b,c]++(A++T)):=by
  rw [<-List.append_assoc,<-List.append_assoc]
  exact List.Perm.append_right _ List.perm_append_comm
 exact h.trans ((List.reverse_perm [c,b,a]).append_right (A++T))
theorem Ctx.aU6 {W w:World} {A B R G:List Own} {Φ:PW} [aA Φ] (c:Ctx W w ((A++(B++R))++G) Φ):Ctx W w ((B++(A++R))++G) Φ:=c.perm (by
 rw [<-List.append_assoc,<-List.append_assoc B A]
 exact List.Perm.append_right _ (List.Perm.append_right _ List.perm_append_comm))
section
variable {Φ:PW} {q:KP} {st:j0} {W w:World} {R S G:List Own} {p:Option Addr} {cap:Nat} {L:List aM} {cs:List Value}
theorem a5N [aA Φ] {l:List Int} (src:a8L S Φ p l) (hlen:l.length<=10000000) (c:Ctx W w S Φ) :
  Calls Tryz.prog F.cI #[.slice p l.length cap] w λe w'=>∃ p' c',e=.returned (.slice p' l.length c')/\Ctx W w' (wU p' c' l :: S) Φ:=by
 refine (oP p l.length cap (J:=λv w'=>∃ p' c',v=.slice p' l.length c'/\Ctx W w' (wU p' c' l :: S) Φ) c ?_).mono λe w' ⟨v,he,p',c',hv,rest⟩=>⟨p',c',by rw [he,hv],rest⟩
 clear c
 refine Br.intro (λhn=>λw F c=>?_) (λhn=>λk w F c=>?_)
 ·have hl:l=[]:=by
   rcases Nat.eq_zero_or_pos l.length with h0|h0
   ·exact List.eq_nil_of_length_eq_zero h0
   ·obtain ⟨b,o,e⟩:=src.ptr h0
    rw [e] at hn;cases hn
  subst hl
  exact ⟨none,0,rfl,c.left.a8d 3 1⟩
 ·have c':Ctx W w (wU (some ⟨k,0,none⟩) 0 [] :: (S++F)) Φ:=c.a14 0 0 1 rfl (by simp) (by simp [maxLen])
  obtain ⟨i,z,e1,e2,e3,e4,e5,e6⟩:=nV (P:=Tryz.prog) (ts:=23) (t:=3) (size:=1) (bytes:=8) (by kernel_rfl)
  rcases Nat.eq_zero_or_pos l.length with h0|h0
  ·have hl:l=[]:=List.eq_nil_of_length_eq_zero h0
   subst hl
   exact ⟨_,_,_,w,kI (c'.LU 0 rfl e1 e2 p cap),wU (some ⟨k,0,none⟩) 0 [] :: S,Φ,inferInstance,c',λw G c=>⟨some ⟨k,0,none⟩,0,rfl,c.left⟩⟩
  ·obtain ⟨b,o,hp⟩:=src.ptr h0
   obtain ⟨p',cap',w',hrun,cx⟩:=c'.append 0 rfl (ty:=23) e1 e2 e3 e4 e5 (a:=⟨b,o,none⟩) (m:=l.length) (c2:=cap) (news:=l.map aFN) h0 (by simp) (λj u hj=>by
    rw [addr_add]
    rw [List.getElem?_map] at hj
    obtain ⟨y,hy,rfl⟩:=Option.map_eq_some_iff.1 hj
    obtain ⟨hjl,rfl⟩:=List.getElem?_eq_some_iff.1 hy
    exact src.rd hp c'.drop1 j hjl) (λu hu=>by obtain ⟨y,_,rfl⟩:=List.mem_map.1 hu;rfl) (by rw [e6,List.length_nil];omega) (by rw [List.length_nil];omega)
   rw [<-hp] at hrun
   have hz:([]:List Int).length+l.length=l.length:=Nat.zero_add _
   rw [hz] at hrun cx
   exact ⟨_,_,_,w',kI hrun,wU p' cap' l :: S,Φ,inferInstance,cx,λw G c=>⟨p',cap',rfl,c.left⟩⟩
theorem a9v [aA Φ] {l:List aM} [eT:Has Φ (λM w=>Sl M w p l)] (hlen:l.length<=1000000):jP Φ Tryz.prog F.bG #[.slice p l.length cap] l id :=
 .there (λM w h=>(eT.go M w h).there) λK4=>⟨λW w S c=>by
  obtain ⟨cs,c1⟩:=QC c (eT.go _ _ c.gW)
  refine (D2 (S:=S) (Φ:=λM w=>Φ M w/\yV p l cs M w) (uU (Φ:=λM w=>Φ M w/\yV p l cs M w) K4 (λM w h=>h.2)).app hlen c1).mono λe w' ⟨p',c',cs',he,cx⟩=>?_
  obtain ⟨c2,hs,_,h2,h3⟩:=Ctx.freeze (α:=aM) cx cx.gW.2
  exact ⟨p',c',he,h2,h3,(c2.add hs).weak λM w h=>⟨h.1.1.1,h.2⟩⟩⟩
set_option maxHeartbeats 2000000 in
theorem aGW [aA Φ] [hF:Has Φ (nF q st)] (hq:AX q st) {n:Nat} (hs:KZ st n) (hn:n<=400000) (c:Ctx W w ((dP q st++R)++G) Φ) {K:Option Addr->List Own->PW->Prop}
  (hk:∀ q':KP,AX q' st->aA (λM w=>Φ M w/\nF q' st M w)->K (some ⟨q'.sb,0,none⟩) (dP q' st++(dP q st++R)) (λM w=>Φ M w/\nF q' st M w)) :
  Calls Tryz.prog F.rQ #[snk q] w λe w'=>∃ p,e=.returned (.pointer p)/\∃ R' aF,aA aF/\Ctx W w' (R'++G) aF/\K p R' aF:=by
 have h1:=hs.lines
 have h2:=hs.aside
 have h3:=hs.dZ
 have h4:=hs.key
 have hK:Has Φ (λM w=>Sl M w q.kp st.key):=⟨λM w h=>(hF.go M w h).2.1⟩
 refine (HV q.sb 0 (R:=(dP q st++R)++G) (J:=λv w'=>∃ p,v=.pointer p/\∃ R' aF,aA aF/\Ctx W w' (R'++G) aF/\K p R' aF) c ?_).mono λe w' ⟨v,he,p,hv,rest⟩=>⟨p,by rw [he,hv],rest⟩
 clear c
 refine λw G2 cx=>⟨st.kind,q.kp,st.key.length,q.kc,q.bp,st.dZ.length,q.bc,q.lp,st.lines.length,q.lc,st.dN,q.ap,st.aside.length,q.ac,cx.LO 0 rfl,λk w G2 cx=>⟨cx.can 0 rfl (by show 0+6<=6;decide),λw2 F3=>?_⟩⟩
 have c2:Ctx W w2 (.blk k (SkB q st) 92 :: (dP q st++(R++G))++G2) Φ:=Ctx.re (cx.EY 0 F3 rfl) (by show Own.blk k (SkB q st) 92 :: (((dP q st++R)++G)++G2)=_;simp)
 refine ⟨.blk k (SkB q st) 92 :: (dP q st++(R++G)),Φ,inferInstance,c2,.blk k (SkB q st) 92 :: (dP q st++(R++G)),Φ,inferInstance,λw G cx=>cx,q.kp,st.key.length,q.kc,λw G cx=>⟨_,_,_,cx.get 1 rfl rfl,rfl⟩,q.bp,st.dZ.length,q.bc,λw G cx=>⟨_,_,_,cx.get 1 rfl rfl,rfl⟩,q.lp,st.lines.length,q.lc,λw G cx=>⟨_,_,_,cx.get 1 rfl rfl,rfl⟩,q.ap,st.aside.length,q.ac,λw G cx=>⟨_,_,_,cx.get 1 rfl rfl,rfl⟩,?_⟩
 clear c2 cx
 refine λw G2 cx=>(YP (l:=st.key) (by omega)).to cx λp1 c1 f1 f2 st1=>⟨λw G cx=>cx.fst,?_⟩
 clear cx
 refine λw G2 cx=>(a5N (S:=(dP q st++(.blk k (SkB q st) 92 :: (R++G)))++G2) (OJ hq).app.app (by omega) (Ctx.mid cx)).mono λe w' ⟨p2,c2,he,cx⟩=>⟨p2,_,c2,he,wU p2 c2 st.dZ :: (dP q st++(.blk k (SkB q st) 92 :: (R++G))),_,st1,cx,λw G cx=>(Ctx.front cx.drop1).fst,?_⟩
 clear cx
 refine λw G2 cx=>(D2 (S:=(dP q st++(wU p2 c2 st.dZ :: .blk k (SkB q st) 92 :: (R++G)))++G2) (aKF hq λM w h=>(hF.go M w h.1).1).app.app (by omega) (Ctx.mid cx)).mono λe w' ⟨p3,c3,UF,he,cx⟩=>⟨p3,_,c3,he,cR p3 st.lines.length c3 UF :: (dP q st++(wU p2 c2 st.dZ :: .blk k (SkB q st) 92 :: (R++G))),(λM w=>(Φ M w/\Sl M w p1 st.key)/\aQ M w UF st.lines),cU (λM w=>Φ M w/\Sl M w p1 st.key) (λM w=>aQ M w UF st.lines),cx,λw G cx=>?_,?_⟩
 ·exact (Ctx.front (Ctx.drop1 (Ctx.front cx.drop1))).weak λM w h=>h.1.1
 clear cx
 have st3:aA (λM w=>(Φ M w/\Sl M w p1 st.key)/\aQ M w UF st.lines):=cU (λM w=>Φ M w/\Sl M w p1 st.key) (λM w=>aQ M w UF st.lines)
 have hA:Has (λM w=>(Φ M w/\Sl M w p1 st.key)/\aQ M w UF st.lines) (λM w=>Sl M w q.ap st.aside):=⟨λM w h=>(hF.go M w h.1.1).2.2⟩
 refine λw G2 cx=>(a9v (l:=st.aside) (by omega)).to cx λp4 c4 e1 e2 st4=>?_
 clear cx
 intro w G2 cx
 have c5:Ctx W w (.blk k (SkB q st) 92 :: wU p2 c2 st.dZ :: cR p3 st.lines.length c3 UF :: (dP q st++(R++G))++G2) (λM w=>((Φ M w/\Sl M w p1 st.key)/\aQ M w UF st.lines)/\Sl M w p4 st.aside):=(Ctx.mid cx).perm (List.Perm.append_right G2 a9u)
 clear cx
 refine ⟨c5.can 0 rfl (by show 1+1<=6;decide),λw2 F3=>?_⟩
 have c6:=c5.put 0 F3 rfl
 refine ⟨.blk k [.int .i64 st.kind,.slice p1 st.key.length c1,.slice q.bp st.dZ.length q.bc,.slice q.lp st.lines.length q.lc,.int .i64 st.dN,.slice q.ap st.aside.length q.ac] 92 :: wU p2 c2 st.dZ :: cR p3 st.lines.length c3 UF :: (dP q st++(R++G)),_,st4,c6,λw G2 cx=>⟨cx.can 0 rfl (by show 2+1<=6;decide),λw2 F3=>?_⟩⟩
 have c7:=cx.put 0 F3 rfl
 refine ⟨.blk k [.int .i64 st.kind,.slice p1 st.key.length c1,.slice p2 st.dZ.length c2,.slice q.lp st.lines.length q.lc,.int .i64 st.dN,.slice q.ap st.aside.length q.ac] 92 :: wU p2 c2 st.dZ :: cR p3 st.lines.length c3 UF :: (dP q st++(R++G)),_,st4,c7,λw G2 cx=>⟨cx.can 0 rfl (by show 3+1<=6;decide),λw2 F3=>?_⟩⟩
 have c8:=cx.put 0 F3 rfl
 refine ⟨.blk k [.int .i64 st.kind,.slice p1 st.key.length c1,.slice p2 st.dZ.length c2,.slice p3 st.lines.length c3,.int .i64 st.dN,.slice q.ap st.aside.length q.ac] 92 :: wU p2 c2 st.dZ :: cR p3 st.lines.length c3 UF :: (dP q st++(R++G)),_,st4,c8,λw G2 cx=>⟨cx.can 0 rfl (by show 5+1<=6;decide),λw2 F3=>?_⟩⟩
 have c9:=cx.put 0 F3 rfl
 obtain ⟨q',hqe⟩:∃ q':KP,q'=⟨k,p1,c1,p2,c2,p3,c3,UF,p4,c4⟩:=⟨_,rfl⟩
 have c10:Ctx W w2 ((dP q' st++(dP q st++R))++(G++G2)) (λM w=>Φ M w/\nF q' st M w):=by
  rw [hqe]
  have c11:=c9.weak (Ψ:=λM w=>Φ M w/\nF ⟨k,p1,c1,p2,c2,p3,c3,UF,p4,c4⟩ st M w) λM w h=>⟨h.1.1.1,h.1.2,h.1.1.2,h.2⟩
  exact c11.re (by simp)
 have KR:AX q' st:=OL (S:=(dP q st++R)++(G++G2)) (c10.re (by simp)) (by rw [hqe];exact ⟨f1,f2⟩) (by rw [hqe];exact ⟨e1,e2⟩)
 have hkk:=hk q' KR inferInstance
 rw [show q'.sb=k by rw [hqe]] at hkk
 exact ⟨dP q' st++(dP q st++(R++G)),_,inferInstance,c10.re (by simp),λw G3 cx=>⟨_,rfl,dP q' st++(dP q st++R),_,inferInstance,cx.left.re (by simp),hkk⟩⟩
structure RdK (kind:Int) (key:List Int) (i n m:Nat) (st:j0):Prop where
 kind:st.kind=kind
 key:st.key=key
 dN:st.dN=0
 aside:st.aside=[]
 dZ:st.dZ.length=i
 lines:st.lines.length+n=m
end
end Go.Proofs.YtfccagphnfceiaaGreatDoor
end

section
namespace Go.Proofs.YtfccagphnfceiaaGreatDoor
open Go.Vc
def ZC (l:List ByteArray):Bs:=l.flatMap λs=>(gM s).data.toList
def b2U (b n:Nat):Bs:=(cH b).data.toList++(cH n).data.toList
structure a3A where
 base:Int
 cell:sL
 list:List ByteArray
 bytes:Nat
 broken:Bool
def Enc (s:Nat) (v:Bs) (l:List ByteArray):Prop:=(s=0/\l=[])\/(s≠0/\v=b2U (ZC l).length l.length)
structure Live (d:cC) (j:a3A):Prop where
 base:0<=j.base/\j.base<=14
 file:j.cell.file=j.base+1
 bytes:j.bytes=(ZC j.list).length
 most:(ZC j.list).length<=1048576
 now:kX (d.files (j.base+1)).now j.cell.slot j.cell.value
 last:kX (d.files (j.base+1)).last j.cell.slot j.cell.value
 enc:Enc j.cell.slot j.cell.value j.list
 log:Pre (ZC j.list) (d.files j.base)
def a1j (d:cC) (b:Int) (P:List ByteArray->Prop):Prop:=Z0 (d.files (b+1)) λs v=>∃ l,Enc s v l/\Pre (ZC l) (d.files b)/\(ZC l).length<=1048576/\P l
theorem Live.Z2 {d:cC} {j:a3A} (h:Live d j) {P:List ByteArray->Prop} (hP:P j.list):a1j d j.base P:=q9 h.now h.last ⟨j.list,h.enc,h.log,h.most,hP⟩
theorem a1j.mono {d:cC} {b:Int} {P Q:List ByteArray->Prop} (h:a1j d b P) (hPQ:∀ l,P l->Q l):a1j d b Q:=Z0.mono h λs v ⟨l,h1,h2,h3,h4⟩=>⟨l,h1,h2,h3,hPQ l h4⟩
theorem a1j.ev {d d':cC} {b:Int} {P:List ByteArray->Prop} (h:a1j d b P) (h1:Ev (d.files (b+1)) (d'.files (b+1))) (h2:Ev (d.files b) (d'.files b)):a1j d' b P :=
 (h1.Z2 h).mono λs v ⟨l,e1,e2,e3,e4⟩=>⟨l,e1,h2.pre e2,e3,e4⟩
theorem Live.frame {d d':cC} {j:a3A} (h:Live d j) (hf:d'.files=d.files):Live d' j:=⟨h.base,h.file,h.bytes,h.most,by rw [hf];exact h.now,by rw [hf];exact h.last,h.enc,by rw [hf];exact h.log⟩
structure b52 (d:cC) (b:Int) (P:List ByteArray->Prop) (r:cC × Option a3A × Int):Prop where
 w:L4 r.1
 other:∀ G,Ev (d.files G) (r.1.files G)\/(G=b\/G=b+1)
 OZ:L5 d->L5 r.1/\r.2.2=0
 or:(∃ j,r.2.1=some j/\r.2.2=0/\Live r.1 j/\P j.list/\j.base=b/\j.broken=false)\/(r.2.1=none/\(r.2.2=9\/r.2.2=10)/\a1j r.1 b P)
structure aDx (d:cC) (j:a3A) (want:List ByteArray) (r:cC × a3A × Int):Prop where
 w:L4 r.1
 other:∀ G,Ev (d.files G) (r.1.files G)\/(G=j.base\/G=j.base+1)
 OZ:L5 d->L5 r.1/\r.2.2=0
 base:r.2.1.base=j.base
 or:(r.2.2=0/\r.2.1.broken=false/\r.2.1.list=want/\Live r.1 r.2.1)\/((r.2.2=9\/r.2.2=10)/\r.2.1.broken=true/\r.2.1.list=j.list/\a1j r.1 j.base λl=>l=j.list\/l=want)
theorem aDx.from {d d':cC} {j:a3A} {want:List ByteArray} {r:cC × a3A × Int} (h:aDx d' j want r) (ho:∀ G,G≠j.base->Ev (d.files G) (d'.files G)) (hf:L5 d->L5 d'):aDx d j want r :=
 ⟨h.w,λG=>by
  by_cases hG:G=j.base
  ·exact .inr (.inl hG)
  ·rcases h.other G with h1|h1
   ·exact .inl ((ho G hG).trans h1)
   ·exact .inr h1,λhh=>h.OZ (hf hh),h.base,h.or⟩
end Go.Proofs.YtfccagphnfceiaaGreatDoor
end

section
namespace Go.Vc
variable {κ ν:Type} {kv:κ->Value} {vv:ν->Value} {z:ν}
theorem J4 {x:κ}:∀ {es:List (bE κ ν)} {n:Nat} {a:bE κ ν},es.Pairwise (λa b=>a.key≠b.key)->es[n]? = some a->a.key=x->∀ e∈es.eraseIdx n,e.key≠x
 | [],_,_,_,h,_,_,_=>by simp at h
 | c :: es,0,a,hp,h,hk,e,he=>by
  have:c=a:=by simpa using h
  subst this
  rw [List.eraseIdx_cons_zero] at he
  exact λh2=>(List.pairwise_cons.1 hp).1 e he (hk.trans h2.symm)
 | c :: es,n+1,a,hp,h,hk,e,he=>by
  obtain ⟨h1,h2⟩:=List.pairwise_cons.1 hp
  have h':es[n]? = some a:=by simpa using h
  rw [List.eraseIdx_cons_succ] at he
  rcases List.mem_cons.1 he with rfl|he
  ·exact λe2=>h1 a (List.mem_of_getElem? h') (e2.trans hk.symm)
  ·exact J4 h2 h' hk e he
section
variable [DecidableEq κ] {P:Program} {t k e:TypeId} (T:GTy P t k e kv vv z)
include T
theorem a3B {w:World} {b:Nat} {es:List (bE κ ν)} {clock:Nat} (ok:GOk es clock) (hb:w.heap[b]? = some (cA kv vv es clock)) (x:κ) (kt ty:TypeId) (cs:Array Bool) :
  ∃ fU,Sem.run P (builtin Builtin.delete #[t,kt] ty cs #[.map (some b),kv x]) w=.ok (.value (.tuple #[])) (CJ w b (cA kv vv fU clock))/\GOk fU clock/\(∀ y,hY z fU y=if y=x then z else hY z es y)/\fU.Sublist es/\∀ e∈fU,e.key≠x:=by
 have h1:=T.find x es w
 unfold cA at hb
 have run:∀ fU:List (bE κ ν),(Builtin.delete_ #[t,kt] ty #[.map (some b),kv x]).run P w=.ok (.tuple #[]) (CJ w b (cA kv vv fU clock))->Sem.run P (builtin Builtin.delete #[t,kt] ty cs #[.map (some b),kv x]) w=.ok (.value (.tuple #[])) (CJ w b (cA kv vv fU clock)):=λfU h=>by
  unfold builtin
  simp only [Sem.run_bind,h,Result.andThen,Sem.run_pure]
 cases hf:yD vv es x 0 with
 | none =>
  have hn:=tY hf
  refine ⟨es,run _ ?_,ok,λy=>?_,List.Sublist.refl _,hn⟩
  ·have h3:=MapKept.run_setObj_map (P:=P) (.map (es.map (bE.m kv vv)).toArray clock) hb
   unfold Builtin.delete_
   rw [hf] at h1
   simp only [Array.getElem?_eq_getElem,List.size_toArray,List.length_cons,List.length_nil,Nat.zero_lt_succ,Nat.lt_add_one,List.getElem_toArray,List.getElem_cons_zero,List.getElem_cons_succ,Sem.run_bind,run_underlying T.map,MapKept.run_getObj_map hb,Result.andThen,T.chk,Sem.run_pure,h1,h3]
   rfl
  ·by_cases hy:y=x
   ·rw [if_pos hy,hy];exact qZ hn
   ·rw [if_neg hy]
 | some r =>
  obtain ⟨j,v⟩:=r
  obtain ⟨n,a,hj,ha,hk,hv,hg⟩:=tZ (z:=z) hf
  have hj:j=n:=by omega
  subst hj
  have hlt:j<es.length:=(List.getElem?_eq_some_iff.1 ha).1
  refine ⟨es.eraseIdx j,run _ ?_,⟨ok.keys.sublist (List.eraseIdx_sublist _ _),ok.rW.sublist (List.eraseIdx_sublist _ _),λe he=>ok.lt e ((List.eraseIdx_sublist _ _).mem he)⟩,TZ ok.keys ha hk,List.eraseIdx_sublist _ _,J4 ok.keys ha hk⟩
  have h3:=MapKept.run_setObj_map (P:=P) (.map ((es.map (bE.m kv vv)).toArray.eraseIdxIfInBounds j) clock) hb
  unfold Builtin.delete_
  rw [hf] at h1
  simp only [Array.getElem?_eq_getElem,List.size_toArray,List.length_cons,List.length_nil,Nat.zero_lt_succ,Nat.lt_add_one,List.getElem_toArray,List.getElem_cons_zero,List.getElem_cons_succ,Sem.run_bind,run_underlying T.map,MapKept.run_getObj_map hb,Result.andThen,T.chk,Sem.run_pure,h1,h3]
  congr 2
  unfold cA
  refine congrArg (λa=>w.heap.setIfInBounds b (Obj.map a clock)) ?_
  unfold Array.eraseIdxIfInBounds
  rw [dif_pos (by simpa using hlt)]
  apply Array.toList_inj.1
  simp
  exact TY es j
theorem a3C {w:World} {b:Nat} {es:List (bE κ ν)} {clock:Nat} (ok:GOk es clock) (hb:w.heap[b]? = some (cA kv vv es clock)) (x:κ) (v:ν) (hx:∃ a∈es,a.key=x) :
  ∃ fU,Sem.run P (Instr.mapUpdate t (.map (some b)) (kv x) (vv v)) w=.ok () (CJ w b (cA kv vv fU clock))/\GOk fU clock/\(∀ y,hY z fU y=if y=x then v else hY z es y)/\fU.map bE.key=es.map bE.key/\fU.map bE.born=es.map bE.born:=by
 have h1:=T.find x es w
 unfold cA at hb
 cases hf:yD vv es x 0 with
 | none=>exact absurd hx λ⟨a,ha,hk⟩=>tY hf a ha hk
 | some r =>
  obtain ⟨j,u⟩:=r
  obtain ⟨n,a,hj,ha,hk,hv,hg⟩:=tZ (z:=z) hf
  have hj:j=n:=by omega
  subst hj
  have ha2:(es.map (bE.m kv vv)).toArray[j]? = some (bE.m kv vv a):=by simp [ha]
  have h3:=MapKept.run_setObj_map (P:=P) (.map ((es.map (bE.m kv vv)).toArray.modify j λe=>{ e with key:=kv x,val:=vv v }) clock) hb
  refine ⟨es.modify j λa=>{ a with val:=v },?_,⟨?_,?_,?_⟩,U0 ok.keys ha hk,OG _ _ _,yE _ _ _⟩
  ·unfold Instr.mapUpdate
   rw [hf] at h1
   simp only [Sem.run_bind,run_underlying T.map,MapKept.run_getObj_map hb,Result.andThen,T.chk,Sem.run_pure,h1,ha2,Option.map_some,Option.getD_some]
   rw [show (bE.m kv vv a).key=kv x by rw [<-hk];rfl,T.stays x w]
   simp only [h3]
   congr 2
   unfold cA
   refine congrArg (λa=>w.heap.setIfInBounds b (Obj.map a clock)) ?_
   apply Array.ext'
   apply List.ext_getElem?
   intro i
   simp only [Array.toList_modify,List.getElem?_modify,List.getElem?_map]
   by_cases h:j=i
   ·subst h
    rw [ha]
    simp [bE.m,hk]
   ·simp [h]
  ·have:=List.pairwise_map.2 ok.keys
   exact List.pairwise_map.1 (by rw [OG];exact List.pairwise_map.2 ok.keys)
  ·exact List.pairwise_map.1 (by rw [yE];exact List.pairwise_map.2 ok.rW)
  ·intro c hc
   have hm:c.born∈(es.modify j λa=>{ a with val:=v }).map bE.born:=List.mem_map.2 ⟨c,hc,rfl⟩
   rw [yE] at hm
   obtain ⟨d,hd,he⟩:=List.mem_map.1 hm
   rw [<-he];exact ok.lt d hd
end
section
variable {P:Program} {w:World} {r bm since clock c0:Nat} {seen:Array Nat} {es:List (bE κ ν)}
theorem aDy (ty:TypeId) (hr:w.heap[r]? = some (.mapIter (some bm) since seen c0)) (hb:w.heap[bm]? = some (cA kv vv es clock)) (hold:∀ e∈es,e.born<since) (hsc:since<=c0) :
  ((∀ e∈es,e.born∈seen.toList)/\(Instr.next (.pointer (some ⟨r,0,none⟩)) false ty).run P w=.ok (.tuple #[.bool false]) w) \/
  ∃ a∈es,a.born ∉ seen.toList/\∃ w1:World,(w1=w\/w1=w.drewN 1)/\(Instr.next (.pointer (some ⟨r,0,none⟩)) false ty).run P w=.ok (.tuple #[.bool true,kv a.key,vv a.val]) (CJ w1 r (.mapIter (some bm) since (seen.push a.born) clock)):=by
 have hmem:∀ x∈(es.map (bE.m kv vv)),∃ a∈es,bE.m kv vv a=x:=λx hx=>by
  obtain ⟨a,ha,e⟩:=List.mem_map.1 hx
  exact ⟨a,ha,e⟩
 rcases run_next_at (P:=P) w ty r bm since c0 seen (es.map (bE.m kv vv)).toArray clock hr hb (λx hx=>by
  obtain ⟨a,ha,rfl⟩:=hmem x hx
  exact hold a ha) hsc with ⟨h0,h1⟩|⟨x,hx,w1,hw,h1⟩
 ·refine .inl ⟨λa ha=>?_,h1⟩
  refine Classical.byContradiction λhn=>?_
  have hin:bE.m kv vv a∈(leftOf (es.map (bE.m kv vv)).toArray seen).toList:=by
   unfold leftOf
   simp only [Array.toList_filter,List.mem_filter]
   refine ⟨List.mem_map.2 ⟨a,ha,rfl⟩,?_⟩
   have:¬ seen.contains a.born=true:=λh=>hn (by simpa using h)
   simpa [bE.m] using this
  have:(leftOf (es.map (bE.m kv vv)).toArray seen).toList=[]:=by
   have:=Array.eq_empty_of_size_eq_zero h0
   rw [this]
  rw [this] at hin
  cases hin
 ·unfold leftOf at hx
  simp only [Array.toList_filter,List.mem_filter] at hx
  obtain ⟨a,ha,rfl⟩:=hmem x hx.1
  refine .inr ⟨a,ha,λh=>?_,w1,hw,h1⟩
  have h2:=hx.2
  simp [bE.m] at h2
  exact h2 (by simpa using h)
theorem a7B {a:bE κ ν} (ok:GOk es clock) (hr:w.heap[r]? = some (.mapIter (some bm) since (seen.push a.born) clock)) (hb:w.heap[bm]? = some (cA kv vv es clock)) (ha:a∈es) :
  (Instr.entry (.pointer (some ⟨r,0,none⟩))).run P w=.ok (.tuple #[kv a.key,vv a.val]) w:=by
 refine run_entry_at w r bm since seen (es.map (bE.m kv vv)).toArray clock (bE.m kv vv a) hr hb (List.mem_map.2 ⟨a,ha,rfl⟩) ?_
 have:((es.map (bE.m kv vv)).toArray.toList.map (·.born))=es.map bE.born:=by simp [bE.m,Function.comp_def]
 rw [this]
 exact List.nodup_iff_pairwise_ne.2 (List.pairwise_map.2 ok.rW)
def N8 (seen:List Nat) (es:List (bE κ ν)):Nat:=(es.filter λe => !seen.contains e.born).length
theorem KK {seen:List Nat} {es fU:List (bE κ ν)} {a:bE κ ν} (hs:(fU.map bE.born).Sublist (es.map bE.born)) (ha:a∈es) (hn:a.born ∉ seen) (hb:(es.map bE.born).Nodup) :
  N8 (seen++[a.born]) fU<N8 seen es:=by
 have key:∀ (l:List (bE κ ν)) (s:List Nat),N8 s l=((l.map bE.born).filter λb => !s.contains b).length:=λl s=>by
  unfold N8
  rw [List.filter_map,List.length_map]
  rfl
 rw [key,key]
 have h1:((fU.map bE.born).filter λb => !(seen++[a.born]).contains b).Sublist ((es.map bE.born).filter λb => !(seen++[a.born]).contains b):=hs.filter _
 refine Nat.lt_of_le_of_lt h1.length_le ?_
 have h2:((es.map bE.born).filter λb => !(seen++[a.born]).contains b)=((es.map bE.born).filter λb => !seen.contains b).filter λb=>b != a.born:=by
  rw [List.filter_filter]
  congr 1
  funext b
  rw [List.contains_append]
  cases h:seen.contains b<;>simp [bne]<;>rfl
 rw [h2]
 have hm:a.born∈(es.map bE.born).filter λb => !seen.contains b:=List.mem_filter.2 ⟨List.mem_map.2 ⟨a,ha,rfl⟩,by simpa using hn⟩
 generalize (es.map bE.born).filter (λb => !seen.contains b)=l at hm
 induction l with
 | nil=>cases hm
 | cons x l ih =>
  by_cases hx:x=a.born
  ·rw [List.filter_cons_of_neg (by simp [hx])]
   exact Nat.lt_succ_of_le (List.length_filter_le _ _)
  ·rw [List.filter_cons_of_pos (by simpa using hx),List.length_cons,List.length_cons]
   refine Nat.succ_lt_succ (ih ?_)
   rcases List.mem_cons.1 hm with h|h
   ·exact absurd h.symm hx
   ·exact h
end
end Go.Vc
end

section
namespace Go.Vc
theorem aGX {P:Program} {ats:Array TypeId} {ty:TypeId} {cs:Array Bool} {args:Array Value} {v:Value} {w w':World} (h:(Builtin.copy_ ats ty args).run P w=.ok v w'):Sem.run P (builtin Builtin.copy ats ty cs args) w=.ok (.value v) w':=by
 unfold builtin
 simp only [Sem.run_bind,h,Result.andThen,Sem.run_pure]
theorem S8 (vs cs:List Value) (o:Nat) (h:o+vs.length<=cs.length):oB cs o vs=cs.take o++vs++cs.drop (o+vs.length):=by
 apply List.ext_getElem?
 intro i
 by_cases h1:i<o
 ·rw [kW _ _ _ _ (.inl h1),List.append_assoc,List.getElem?_append_left (by rw [List.length_take];omega),List.getElem?_take_of_lt h1]
 ·by_cases h2:i<o+vs.length
  ·obtain ⟨q,rfl⟩:∃ q,i=o+q:=⟨i - o,by omega⟩
   rw [CZ _ _ _ _ (by omega) h,List.append_assoc,List.getElem?_append_right (by rw [List.length_take];omega),List.getElem?_append_left (by rw [List.length_take];omega)]
   congr 1
   rw [List.length_take]
   omega
  ·rw [kW _ _ _ _ (.inr (by omega)),List.getElem?_append_right (by rw [List.length_append,List.length_take];omega),List.getElem?_drop]
   congr 1
   rw [List.length_append,List.length_take]
   omega
section
variable {P:Program} {W w:World} {S:List Own} {Φ:PW}
end
theorem ZD (b sz k c:Nat) (h:k<c):pH (some ⟨b,0,none⟩) sz k c=some ⟨b,k*sz,none⟩:=by
 unfold pH
 rw [if_neg (by omega)]
 show some ((⟨b,0,none⟩:Addr).add (k*sz))=_
 rw [addr_add,Nat.zero_add]
theorem a9w (b sz k c:Nat):∃ o,pH (some ⟨b,0,none⟩) sz k c=some ⟨b,o,none⟩:=by
 unfold pH
 split
 ·exact ⟨0,rfl⟩
 ·refine ⟨k*sz,?_⟩
  show some ((⟨b,0,none⟩:Addr).add (k*sz))=_
  rw [addr_add,Nat.zero_add]
theorem a3D (b sz c:Nat):pH (some ⟨b,0,none⟩) sz 0 c=some ⟨b,0,none⟩:=by
 unfold pH
 split
 ·rfl
 ·show some ((⟨b,0,none⟩:Addr).add (0*sz))=_
  rw [addr_add,Nat.zero_mul]
structure b76 (P:Program) (sz:Nat) (ts tv ti t:TypeId) (bytes:Nat) (fo:FuncId):Prop where
 app:WV P ts t sz bytes=true
 var:P.underlying tv=some (.slice t)
 int:P.underlying ti=some (.int .i64)
 byt:bytes<=1000
 pos:0<sz
 over:∃ fn tr,P.funcs[fo]? = some fn/\(fn.name == "runtime.NumGoroutine")=false/\fn.body.isNone=true/\(Extern.findNext fn).isNone=true/\Extern.find fn=some (Extern.SlicesOverlaps.overlaps #[tv,tv] #[tr])
section
variable {P:Program} {W w:World} {S:List Own} {Φ:PW}
end
theorem a7C {P:Program} {ats:Array TypeId} {ty:TypeId} {cs:Array Bool} {args:Array Value} {v:Value} {w w':World} (h:(Builtin.clear_ ats ty args).run P w=.ok v w'):Sem.run P (builtin Builtin.clear ats ty cs args) w=.ok (.value v) w':=by
 unfold builtin
 simp only [Sem.run_bind,h,Result.andThen,Sem.run_pure]
theorem a5O {P:Program} (w:World) (t e ty:TypeId) {i:TypeInfo} {z:Value} (ht:P.underlying t=some (.slice e)) (hi:P.info? e=some i) (hz:i.zero=some z) (b o n c:Nat) (hn:0<n)
  (hc:∀ j,j<(Builtin.zeroCells z.cells n).toList.length->(w.cell? ⟨b,o+j,none⟩).isSome=true) (hf:∀ j,j<(Builtin.zeroCells z.cells n).toList.length->w.frozen? ⟨b,o+j,none⟩=false) (h1:∀ v∈(Builtin.zeroCells z.cells n).toList,v.oneCell'=true) :
  (Builtin.clear_ #[t] ty #[.slice (some ⟨b,o,none⟩) n c]).run P w=.ok (.tuple #[]) (w.setCells b o (Builtin.zeroCells z.cells n).toList):=by
 have hst:=run_storeCells_cells (P:=P) b o (Builtin.zeroCells z.cells n).toList 0 w (by simpa using hc) (by simpa using hf) h1
 rw [Nat.add_zero] at hst
 obtain ⟨m,rfl⟩:∃ m,n=m+1:=⟨n - 1,by omega⟩
 simp [Builtin.clear_,run_underlying ht,zeroValue,typeInfo,hi,hz,hst]
def aJi (P:Program) (t:TypeId):Bool:=match P.info? t with|some i=>(match i.zero with|some z=>z.cells.toList.all (λu=>Value.oneCell' u)|none=>false)|none=>false
theorem X9 (cs:Array Value) (n:Nat):∀ v∈(Builtin.zeroCells cs n).toList,v∈cs.toList:=by
 intro v hv
 unfold Builtin.zeroCells at hv
 rw [Array.toList_map] at hv
 obtain ⟨a,ha,rfl⟩:=List.mem_map.1 hv
 have ha:a<n*cs.size:=by simpa using ha
 have h0:0<cs.size:=by
  rcases Nat.eq_zero_or_pos cs.size with h|h
  ·rw [h,Nat.mul_zero] at ha;omega
  ·exact h
 have hlt:a % cs.size<cs.size:=Nat.mod_lt _ h0
 rw [getElem!_pos cs (a % cs.size) hlt]
 exact Array.getElem_mem_toList hlt
section
variable {P:Program} {W w:World} {S:List Own} {Φ:PW}
theorem Ctx.a7D [aA Φ] {p:Option Addr} {n cap:Nat} {cs:List Value} {t:TypeId} {size:Nat} (c:Ctx W w (.buf p n cap cs t size :: S) Φ) {k:Nat} (hk:k<=n):Ctx W w (.buf p k cap (cs.take (k*size)) t size :: S) Φ:=by
 have hown:=c.own _ List.mem_cons_self
 have hmul:k*size<=n*size:=Nat.mul_le_mul_right _ hk
 refine c.upd (k:=0) (o':=.buf p k cap (cs.take (k*size)) t size) rfl (kD.refl _ _) (λx hx=>.inl (by cases p<;>exact hx)) (Own.nodup _) ?_
 obtain ⟨h1,h2⟩:=hown
 refine ⟨by rw [List.length_take,h1];omega,?_⟩
 rcases h2 with ⟨e,rfl⟩|⟨g,cap',cur,e,h3,hg,hnc,hcm,hcs,xO⟩
 ·cases e
  have:k=0:=by omega
  subst this
  exact .inl ⟨rfl,by simp⟩
 ·cases e
  exact .inr ⟨g,cap,cur,rfl,h3,hg,by omega,hcm,hcs,by rw [<-xO,List.take_take,Nat.min_eq_left hmul]⟩
theorem Ctx.aL3 [aA Φ] {p:Option Addr} {n cap:Nat} {cs:List Value} {t:TypeId} {size bytes:Nat} (c:Ctx W w (.buf p n cap cs t size :: S) Φ) {b:Nat} (hp:p=some ⟨b,0,none⟩) {ts ty:TypeId} {kb:Array Bool} (hb:WV P ts t size bytes=true) (hz:aJi P t=true) (hpos:0<size)
  {k:Nat} (hk:k<=n):∃ w',Sem.run P (builtin Builtin.clear #[ts] ty kb #[.slice (pH p size k cap) (n - k) (cap - k)]) w=.ok (.value (.tuple #[])) w'/\Ctx W w' (.buf p k cap (cs.take (k*size)) t size :: S) Φ:=by
 obtain ⟨i,z,e1,e2,e3,e4,e5,e6⟩:=nV hb
 subst hp e4
 have hz:z.cells.toList.all (λu=>Value.oneCell' u)=true:=by unfold aJi at hz;rw [e2] at hz;simp only [e3] at hz;exact hz
 obtain ⟨DI,hnc,hcm⟩:=c.xM 0 rfl
 rcases Nat.eq_zero_or_pos (n - k) with h0|h0
 ·obtain ⟨o,ho⟩:=a9w b i.size k cap
  rw [h0,ho]
  exact ⟨w,a7C (by simp [Builtin.clear_,run_underlying e1]),c.a7D hk⟩
 ·rw [ZD b i.size k cap (by omega)]
  have hzl:(Builtin.zeroCells z.cells (n - k)).toList.length=(n - k)*i.size:=by rw [Array.length_toList,size_zeroCells,e5]
  have hsub:(n - k)*i.size=n*i.size - k*i.size:=Nat.sub_mul _ _ _
  have hmul:k*i.size<=n*i.size:=Nat.mul_le_mul_right _ hk
  have hn0:0<(n - k)*i.size:=Nat.mul_pos h0 hpos
  obtain ⟨b',hb',_,hcell⟩:=c.jF 0 rfl (by omega)
  cases hb'
  have hat:∀ j,(hj:j<(Builtin.zeroCells z.cells (n - k)).toList.length)->w.cell? ⟨b,k*i.size+j,none⟩=some (cs[k*i.size+j]'(by omega))/\w.frozen? ⟨b,k*i.size+j,none⟩=false:=λj hj=>hcell _ _ (List.getElem?_eq_getElem _)
  refine ⟨_,a7C (a5O w ts t ty e1 e2 e3 b (k*i.size) (n - k) (cap - k) h0 (λj hj=>by rw [(hat j hj).1];rfl) (λj hj=>(hat j hj).2) (λv hv=>List.all_eq_true.1 hz v (X9 _ _ v hv))),?_⟩
  have c2:=(c.a0Q 0 rfl rfl (by omega) (by omega) rfl:Ctx W (w.setCells b (k*i.size) (Builtin.zeroCells z.cells (n - k)).toList) (.buf (some ⟨b,0,none⟩) n cap (oB cs (k*i.size) (Builtin.zeroCells z.cells (n - k)).toList) t i.size :: S) Φ)
  have c3:=c2.a7D hk
  rw [S8 _ _ _ (by omega),List.append_assoc,List.take_append_of_le_length (by rw [List.length_take];omega),List.take_take,Nat.min_self] at c3
  exact c3
end
end Go.Vc
end

