/-
 Layings of the kit's shelf at this seat's numbers (printed by the kit's own tools).
-/
import Derived.Shelf.Strings.Builder1
import Derived.Shelf.Small.Strs
import Derived.Shelf.Small.Wraps
import Derived.Shelf.Strings.BuilderF
import Derived.Shelf.Strings.BuilderK
import Derived.Shelf.Strconv.Atoi
import Derived.Shelf.Strconv.Itoa0
import Derived.Shelf.Strconv.Itoa1
import Derived.Shelf.LaysM
import Derived.Shelf.Strconv.Itoa2
import Derived.Shelf.Strconv.Itoa3
import Derived.Shelf.Strconv.AtoiErrFast
import Derived.Shelf.Strconv.ParseIntEmpty
import Derived.Shelf.Strconv.AtoiFail
import Derived.Shelf.Strconv.Clone
import Derived.Shelf.Strconv.SyntaxError
import Derived.Shelf.LaysC
import Derived.Shelf.Strconv.ToError
import Derived.Shelf.Strconv.Lower
import Derived.Shelf.Strconv.ParseUint10
import Derived.Shelf.Strconv.ParseUint10Empty
import Derived.Shelf.Strconv.ParseUint10Any
import Derived.Shelf.Strconv.ParseInt10
import Derived.Shelf.Strconv.AtoiLong
import Derived.Shelf.Strconv.AtoiInnerAll
import Derived.Shelf.Strconv.RangeError
import Derived.Shelf.Strconv.ToErrorRange
import Derived.Shelf.Strconv.AtoiAll
import Derived.Shelf.Strconv.ParseUintEmpty
import Derived.Shelf.Strconv.ParseUint10b64
import Derived.Shelf.Strconv.ParseUint10b32
import Derived.Shelf.Strconv.ParseUint10b16
import Derived.Shelf.Strconv.ParseUint10b8
import Derived.Shelf.Strconv.ParseUint10At
import Derived.Shelf.Strings.Search1
import Derived.Shelf.Strings.Prefix
import Derived.Shelf.Bits.Mul64
import Derived.Shelf.Slices.Turned
import Derived.Shelf.Slices.Clone
import Derived.Shelf.Slices.SearchI
import Derived.Shelf.SlicesE.Clone
import Derived.Test.YtnlkemjhgdbfkaaGreatDoorRows
import Derived.Test.YtnlkemjhgdbfkaaGreatDoorCh6
import Derived.Test.YtnlkemjhgdbfkaaGreatDoorCh5
import Derived.Test.YtnlkemjhgdbfkaaGreatDoorCh4
import Derived.Lib.SliceRun
open Go.Proofs.Tryz
set_option linter.unusedVariables false
set_option linter.unusedSimpArgs false
section
namespace Go.Proofs
open Go.Shelf
def Tryz.VB:Go.Shelf.Ren:=⟨fun|169=>145|n=>n,fun|70=>204|9=>9|0=>0|72=>207|37=>205|127=>318|3=>3|5=>5|n=>n,fun|n=>n⟩
theorem Tryz.aKV:Go.Proofs.Lays.n169 prog Tryz.VB:={
 mixed:=by kernel_rfl
 f169:=func145.trans (congrArg some (by kernel_rfl))
 t0:=underlying0
 a0:=isAgg0
 z0:=sizeOf0
 v0:=zeroValue0
 t3:=underlying3
 a3:=isAgg3
 z3:=sizeOf3
 v3:=zeroValue3
 t9:=underlying9
 a9:=isAgg9
 z9:=sizeOf9
 v9:=zeroValue9
 t37:=underlying205
 a37:=isAgg205
 z37:=sizeOf205
 v37:=zeroValue205
 t70:=underlying204
 a70:=isAgg204
 z70:=sizeOf204
 v70:=zeroValue204
 t72:=underlying207
 a72:=isAgg207
 z72:=sizeOf207
 v72:=zeroValue207
 t127:=underlying318
 a127:=isAgg318
 z127:=sizeOf318
 v127:=zeroValue318 }
theorem Tryz.QE:Builder.Extra prog Tryz.VB:={
 sizeBuilder:=by kernel_rfl
 liesBuilder:=by kernel_rfl
 t5:=underlying5
 a5:=isAgg5
 z5:=sizeOf5
 v5:=zeroValue5
 infoByte:=by kernel_rfl
 cellsByte:=by kernel_rfl
 sizeByte:=by kernel_rfl
 neB5:=by decide }
def Tryz.a6x:Go.Shelf.Ren:=⟨fun|137=>315|217=>385|266=>425|n=>n,fun|9=>9|5=>5|3=>3|n=>n,fun|n=>n⟩
theorem Tryz.aKW:Go.Proofs.Lays.n137 prog Tryz.a6x:={
 mixed:=by kernel_rfl
 f137:=func315.trans (congrArg some (by kernel_rfl))
 f217:=func385.trans (congrArg some (by kernel_rfl))
 f266:=func425.trans (congrArg some (by kernel_rfl))
 t3:=underlying3
 a3:=isAgg3
 z3:=sizeOf3
 v3:=zeroValue3
 t5:=underlying5
 a5:=isAgg5
 z5:=sizeOf5
 v5:=zeroValue5
 t9:=underlying9
 a9:=isAgg9
 z9:=sizeOf9
 v9:=zeroValue9 }
def Tryz.a6y:Go.Shelf.Ren:=⟨fun|103=>317|210=>388|206=>431|n=>n,fun|9=>9|4=>4|24=>344|3=>3|n=>n,fun|n=>n⟩
theorem Tryz.aKX:Go.Proofs.Lays.n103 prog Tryz.a6y:={
 mixed:=by kernel_rfl
 f103:=func317.trans (congrArg some (by kernel_rfl))
 f206:=func431.trans (congrArg some (by kernel_rfl))
 f210:=func388.trans (congrArg some (by kernel_rfl))
 t3:=underlying3
 a3:=isAgg3
 z3:=sizeOf3
 v3:=zeroValue3
 t4:=underlying4
 a4:=isAgg4
 z4:=sizeOf4
 v4:=zeroValue4
 t9:=underlying9
 a9:=isAgg9
 z9:=sizeOf9
 v9:=zeroValue9
 t24:=underlying344
 a24:=isAgg344
 z24:=sizeOf344
 v24:=zeroValue344 }
def Tryz.a4c:Go.Shelf.Ren:=⟨fun|171=>210|243=>313|246=>381|283=>417|284=>418|285=>419|286=>420|129=>441|317=>440|318=>442|319=>443|320=>444|337=>451|338=>452|n=>n,fun|3=>3|9=>9|2=>2|4=>4|171=>445|0=>0|53=>383|37=>205|5=>5|173=>448|212=>464|51=>380|20=>20|213=>465|46=>97|232=>479|233=>480|n=>n,fun|17=>1|18=>5|19=>6|n=>n⟩
theorem Tryz.aGW:Go.Proofs.LaysM.n171 prog Tryz.a4c:={
 mixed:=by kernel_rfl
 f129:=func441.trans (congrArg some (by kernel_rfl))
 f171:=func210.trans (congrArg some (by kernel_rfl))
 f243:=func313.trans (congrArg some (by kernel_rfl))
 f246:=func381.trans (congrArg some (by kernel_rfl))
 f283:=func417.trans (congrArg some (by kernel_rfl))
 f284:=func418.trans (congrArg some (by kernel_rfl))
 f285:=func419.trans (congrArg some (by kernel_rfl))
 f286:=func420.trans (congrArg some (by kernel_rfl))
 f317:=func440.trans (congrArg some (by kernel_rfl))
 f318:=func442.trans (congrArg some (by kernel_rfl))
 f319:=func443.trans (congrArg some (by kernel_rfl))
 f320:=func444.trans (congrArg some (by kernel_rfl))
 f337:=func451.trans (congrArg some (by kernel_rfl))
 f338:=func452.trans (congrArg some (by kernel_rfl))
 t0:=underlying0
 a0:=isAgg0
 z0:=sizeOf0
 v0:=zeroValue0
 t2:=underlying2
 a2:=isAgg2
 z2:=sizeOf2
 v2:=zeroValue2
 t3:=underlying3
 a3:=isAgg3
 z3:=sizeOf3
 v3:=zeroValue3
 t4:=underlying4
 a4:=isAgg4
 z4:=sizeOf4
 v4:=zeroValue4
 t5:=underlying5
 a5:=isAgg5
 z5:=sizeOf5
 v5:=zeroValue5
 t9:=underlying9
 a9:=isAgg9
 z9:=sizeOf9
 v9:=zeroValue9
 t20:=underlying20
 a20:=isAgg20
 z20:=sizeOf20
 v20:=zeroValue20
 t37:=underlying205
 a37:=isAgg205
 z37:=sizeOf205
 v37:=zeroValue205
 t46:=underlying97
 a46:=isAgg97
 z46:=sizeOf97
 v46:=zeroValue97
 t51:=underlying380
 a51:=isAgg380
 z51:=sizeOf380
 v51:=zeroValue380
 t53:=underlying383
 a53:=isAgg383
 z53:=sizeOf383
 v53:=zeroValue383
 t171:=underlying445
 a171:=isAgg445
 z171:=sizeOf445
 v171:=zeroValue445
 t173:=underlying448
 a173:=isAgg448
 z173:=sizeOf448
 v173:=zeroValue448
 t212:=underlying464
 a212:=isAgg464
 z212:=sizeOf464
 v212:=zeroValue464
 t213:=underlying465
 a213:=isAgg465
 z213:=sizeOf465
 t232:=underlying479
 a232:=isAgg479
 z232:=sizeOf479
 v232:=zeroValue479
 t233:=underlying480
 a233:=isAgg480
 z233:=sizeOf480
 v233:=zeroValue480
 g17:=by kernel_rfl
 g18:=by kernel_rfl
 g19:=by kernel_rfl
 i0:=by kernel_rfl
 i2:=by kernel_rfl
 i3:=by kernel_rfl
 i4:=by kernel_rfl
 i5:=by kernel_rfl
 i9:=by kernel_rfl
 i20:=by kernel_rfl
 i37:=by kernel_rfl
 i46:=by kernel_rfl
 i51:=by kernel_rfl
 i53:=by kernel_rfl
 i171:=by kernel_rfl
 i173:=by kernel_rfl
 i212:=by kernel_rfl
 i232:=by kernel_rfl
 i233:=by kernel_rfl
 m17:=by kernel_rfl
 m18:=by kernel_rfl
 m19:=by kernel_rfl }
def Tryz.a6z:Go.Shelf.Ren:=⟨fun|171=>210|243=>313|246=>381|283=>417|284=>418|285=>419|286=>420|129=>441|317=>440|318=>442|319=>443|320=>444|337=>451|338=>452|n=>n,fun|3=>3|9=>9|2=>2|4=>4|171=>445|0=>0|53=>383|37=>205|5=>5|173=>448|212=>464|51=>380|20=>20|213=>465|46=>97|232=>479|233=>480|n=>n,fun|17=>1|18=>5|19=>6|n=>n⟩
theorem Tryz.aKY:Go.Proofs.Lays.n171 prog Tryz.a6z:={
 mixed:=by kernel_rfl
 f129:=func441.trans (congrArg some (by kernel_rfl))
 f171:=func210.trans (congrArg some (by kernel_rfl))
 f243:=func313.trans (congrArg some (by kernel_rfl))
 f246:=func381.trans (congrArg some (by kernel_rfl))
 f283:=func417.trans (congrArg some (by kernel_rfl))
 f284:=func418.trans (congrArg some (by kernel_rfl))
 f285:=func419.trans (congrArg some (by kernel_rfl))
 f286:=func420.trans (congrArg some (by kernel_rfl))
 f317:=func440.trans (congrArg some (by kernel_rfl))
 f318:=func442.trans (congrArg some (by kernel_rfl))
 f319:=func443.trans (congrArg some (by kernel_rfl))
 f320:=func444.trans (congrArg some (by kernel_rfl))
 f337:=func451.trans (congrArg some (by kernel_rfl))
 f338:=func452.trans (congrArg some (by kernel_rfl))
 t0:=underlying0
 a0:=isAgg0
 z0:=sizeOf0
 v0:=zeroValue0
 t2:=underlying2
 a2:=isAgg2
 z2:=sizeOf2
 v2:=zeroValue2
 t3:=underlying3
 a3:=isAgg3
 z3:=sizeOf3
 v3:=zeroValue3
 t4:=underlying4
 a4:=isAgg4
 z4:=sizeOf4
 v4:=zeroValue4
 t5:=underlying5
 a5:=isAgg5
 z5:=sizeOf5
 v5:=zeroValue5
 t9:=underlying9
 a9:=isAgg9
 z9:=sizeOf9
 v9:=zeroValue9
 t20:=underlying20
 a20:=isAgg20
 z20:=sizeOf20
 v20:=zeroValue20
 t37:=underlying205
 a37:=isAgg205
 z37:=sizeOf205
 v37:=zeroValue205
 t46:=underlying97
 a46:=isAgg97
 z46:=sizeOf97
 v46:=zeroValue97
 t51:=underlying380
 a51:=isAgg380
 z51:=sizeOf380
 v51:=zeroValue380
 t53:=underlying383
 a53:=isAgg383
 z53:=sizeOf383
 v53:=zeroValue383
 t171:=underlying445
 a171:=isAgg445
 z171:=sizeOf445
 v171:=zeroValue445
 t173:=underlying448
 a173:=isAgg448
 z173:=sizeOf448
 v173:=zeroValue448
 t212:=underlying464
 a212:=isAgg464
 z212:=sizeOf464
 v212:=zeroValue464
 t213:=underlying465
 a213:=isAgg465
 z213:=sizeOf465
 t232:=underlying479
 a232:=isAgg479
 z232:=sizeOf479
 v232:=zeroValue479
 t233:=underlying480
 a233:=isAgg480
 z233:=sizeOf480
 v233:=zeroValue480
 g17:=by kernel_rfl
 g18:=by kernel_rfl
 g19:=by kernel_rfl }
def Tryz.a4d:Go.Shelf.Ren:=⟨fun|172=>316|244=>386|245=>387|247=>426|279=>427|280=>428|281=>429|282=>430|287=>445|316=>446|171=>210|205=>447|321=>453|322=>454|243=>313|246=>381|283=>417|284=>418|285=>419|286=>420|129=>441|317=>440|318=>442|319=>443|320=>444|337=>451|338=>452|n=>n,fun|9=>9|3=>3|75=>209|76=>210|4=>4|5=>5|167=>454|37=>205|0=>0|85=>455|2=>2|168=>457|53=>383|175=>467|46=>97|210=>470|127=>318|145=>478|143=>476|21=>21|171=>445|173=>448|212=>464|51=>380|20=>20|213=>465|232=>479|233=>480|80=>158|n=>n,fun|15=>3|16=>4|17=>1|18=>5|19=>6|n=>n⟩
theorem Tryz.ZB:Go.Proofs.LaysC.n172 prog Tryz.a4d:={
 mixed:=by kernel_rfl
 f129:=func441.trans (congrArg some (by kernel_rfl))
 f171:=func210.trans (congrArg some (by kernel_rfl))
 f172:=func316.trans (congrArg some (by kernel_rfl))
 f205:=func447.trans (congrArg some (by kernel_rfl))
 f243:=func313.trans (congrArg some (by kernel_rfl))
 f244:=func386.trans (congrArg some (by kernel_rfl))
 f245:=func387.trans (congrArg some (by kernel_rfl))
 f246:=func381.trans (congrArg some (by kernel_rfl))
 f247:=func426.trans (congrArg some (by kernel_rfl))
 f279:=func427.trans (congrArg some (by kernel_rfl))
 f280:=func428.trans (congrArg some (by kernel_rfl))
 f281:=func429.trans (congrArg some (by kernel_rfl))
 f282:=func430.trans (congrArg some (by kernel_rfl))
 f283:=func417.trans (congrArg some (by kernel_rfl))
 f284:=func418.trans (congrArg some (by kernel_rfl))
 f285:=func419.trans (congrArg some (by kernel_rfl))
 f286:=func420.trans (congrArg some (by kernel_rfl))
 f287:=func445.trans (congrArg some (by kernel_rfl))
 f316:=func446.trans (congrArg some (by kernel_rfl))
 f317:=func440.trans (congrArg some (by kernel_rfl))
 f318:=func442.trans (congrArg some (by kernel_rfl))
 f319:=func443.trans (congrArg some (by kernel_rfl))
 f320:=func444.trans (congrArg some (by kernel_rfl))
 f321:=func453.trans (congrArg some (by kernel_rfl))
 f322:=func454.trans (congrArg some (by kernel_rfl))
 f337:=func451.trans (congrArg some (by kernel_rfl))
 f338:=func452.trans (congrArg some (by kernel_rfl))
 t0:=underlying0
 a0:=isAgg0
 z0:=sizeOf0
 v0:=zeroValue0
 t2:=underlying2
 a2:=isAgg2
 z2:=sizeOf2
 v2:=zeroValue2
 t3:=underlying3
 a3:=isAgg3
 z3:=sizeOf3
 v3:=zeroValue3
 t4:=underlying4
 a4:=isAgg4
 z4:=sizeOf4
 v4:=zeroValue4
 t5:=underlying5
 a5:=isAgg5
 z5:=sizeOf5
 v5:=zeroValue5
 t9:=underlying9
 a9:=isAgg9
 z9:=sizeOf9
 v9:=zeroValue9
 t20:=underlying20
 a20:=isAgg20
 z20:=sizeOf20
 v20:=zeroValue20
 t21:=underlying21
 a21:=isAgg21
 z21:=sizeOf21
 v21:=zeroValue21
 t37:=underlying205
 a37:=isAgg205
 z37:=sizeOf205
 v37:=zeroValue205
 t46:=underlying97
 a46:=isAgg97
 z46:=sizeOf97
 v46:=zeroValue97
 t51:=underlying380
 a51:=isAgg380
 z51:=sizeOf380
 v51:=zeroValue380
 t53:=underlying383
 a53:=isAgg383
 z53:=sizeOf383
 v53:=zeroValue383
 t75:=underlying209
 a75:=isAgg209
 z75:=sizeOf209
 v75:=zeroValue209
 t76:=underlying210
 a76:=isAgg210
 z76:=sizeOf210
 v76:=zeroValue210
 t85:=underlying455
 a85:=isAgg455
 z85:=sizeOf455
 v85:=zeroValue455
 t127:=underlying318
 a127:=isAgg318
 z127:=sizeOf318
 v127:=zeroValue318
 t143:=underlying476
 a143:=isAgg476
 z143:=sizeOf476
 v143:=zeroValue476
 t145:=underlying478
 a145:=isAgg478
 z145:=sizeOf478
 v145:=zeroValue478
 t167:=underlying454
 a167:=isAgg454
 z167:=sizeOf454
 v167:=zeroValue454
 t168:=underlying457
 a168:=isAgg457
 z168:=sizeOf457
 v168:=zeroValue457
 t171:=underlying445
 a171:=isAgg445
 z171:=sizeOf445
 v171:=zeroValue445
 t173:=underlying448
 a173:=isAgg448
 z173:=sizeOf448
 v173:=zeroValue448
 t175:=underlying467
 a175:=isAgg467
 z175:=sizeOf467
 v175:=zeroValue467
 t210:=underlying470
 a210:=isAgg470
 z210:=sizeOf470
 v210:=zeroValue470
 t212:=underlying464
 a212:=isAgg464
 z212:=sizeOf464
 v212:=zeroValue464
 t213:=underlying465
 a213:=isAgg465
 z213:=sizeOf465
 t232:=underlying479
 a232:=isAgg479
 z232:=sizeOf479
 v232:=zeroValue479
 t233:=underlying480
 a233:=isAgg480
 z233:=sizeOf480
 v233:=zeroValue480
 g15:=by kernel_rfl
 g16:=by kernel_rfl
 g17:=by kernel_rfl
 g18:=by kernel_rfl
 g19:=by kernel_rfl
 t80:=underlying158
 a80:=isAgg158
 z80:=sizeOf158
 v80:=zeroValue158
 i0:=by kernel_rfl
 i2:=by kernel_rfl
 i3:=by kernel_rfl
 i4:=by kernel_rfl
 i5:=by kernel_rfl
 i9:=by kernel_rfl
 i20:=by kernel_rfl
 i21:=by kernel_rfl
 i37:=by kernel_rfl
 i46:=by kernel_rfl
 i51:=by kernel_rfl
 i53:=by kernel_rfl
 i75:=by kernel_rfl
 i76:=by kernel_rfl
 i80:=by kernel_rfl
 i85:=by kernel_rfl
 i127:=by kernel_rfl
 i143:=by kernel_rfl
 i145:=by kernel_rfl
 i167:=by kernel_rfl
 i168:=by kernel_rfl
 i171:=by kernel_rfl
 i173:=by kernel_rfl
 i175:=by kernel_rfl
 i210:=by kernel_rfl
 i212:=by kernel_rfl
 i232:=by kernel_rfl
 i233:=by kernel_rfl
 m15:=by kernel_rfl
 m16:=by kernel_rfl
 m17:=by kernel_rfl
 m18:=by kernel_rfl
 m19:=by kernel_rfl
 c0:=by kernel_rfl
 c2:=by kernel_rfl
 c3:=by kernel_rfl
 c4:=by kernel_rfl
 c5:=by kernel_rfl
 c9:=by kernel_rfl
 c20:=by kernel_rfl
 c21:=by kernel_rfl
 c37:=by kernel_rfl
 c46:=by kernel_rfl
 c51:=by kernel_rfl
 c53:=by kernel_rfl
 c75:=by kernel_rfl
 c76:=by kernel_rfl
 c80:=by kernel_rfl
 c85:=by kernel_rfl
 c127:=by kernel_rfl
 c143:=by kernel_rfl
 c145:=by kernel_rfl
 c167:=by kernel_rfl
 c168:=by kernel_rfl
 c171:=by kernel_rfl
 c173:=by kernel_rfl
 c175:=by kernel_rfl
 c210:=by kernel_rfl
 c212:=by kernel_rfl
 c213:=by kernel_rfl
 c232:=by kernel_rfl
 c233:=by kernel_rfl }
end Go.Proofs
end

section
namespace Go.Proofs.YtnlkemjhgdbfkaaGreatDoor
open Go.Vc
abbrev BdT (b:Nat) (l:List UInt8) (R:List Own):Prop:=Bd 207 5 b l R
theorem aBJ:∃ j,prog.info? 207=some j/\j.size=2:=by
 have h:(prog.info? 207).map (·.size)=some 2:=by kernel_rfl
 exact Option.map_eq_some_iff.1 h
set_option maxHeartbeats 1000000 in
set_option maxRecDepth 100000 in
theorem ZC (b w) (h0:w.cell? ⟨b,0,none⟩=some (.pointer (some ⟨b,0,none⟩))):
  Calls prog 243 #[.pointer (some ⟨b,0,none⟩)] w λe w'=>e=.returned (.tuple #[])/\w'=w:=by
 obtain ⟨j,hj,_⟩:=aBJ
 go_enter func243,Tryz.ntmps243
 go_wp2
 rw [Lib.run_neq_ptr_same w _ underlying204 hj]
 go_wp2
 go_end0
 exact ⟨rfl,rfl⟩
set_option maxHeartbeats 1000000 in
set_option maxRecDepth 100000 in
theorem WJ (b w) (h0:w.cell? ⟨b,0,none⟩=some (.pointer none)) (hsh:w.shape? b=some (207,2)) (hfz:w.frozen? ⟨b,0,none⟩=false):
  Calls prog 243 #[.pointer (some ⟨b,0,none⟩)] w λe w'=>e=.returned (.tuple #[])/\w'=w.setCell ⟨b,0,none⟩ (.pointer (some ⟨b,0,none⟩)):=by
 obtain ⟨j,hj,hjs⟩:=aBJ
 go_enter func243,Tryz.ntmps243
 go_wp2
 rw [Lib.run_to_unsafe w ⟨b,0,none⟩ underlying204 underlying392 hj (by rw [hjs];decide) hsh (Nat.zero_lt_succ 1)]
 simp only [Result.andThen]
 rw [Oper.upon_value]
 go_wp2
 rw [run_callFunc_extern func333 (by kernel_rfl) (by kernel_rfl) (by kernel_rfl) (e:=Extern.AbiNoEscape.same) (by kernel_rfl)]
 rw [Lib.run_noEscape]
 simp only [Result.andThen]
 rw [Oper.upon_value]
 go_wp2
 rw [Lib.run_from_unsafe w ⟨b,0,none⟩ underlying392 underlying204 hj hsh (by kernel_rfl)]
 simp only [Result.andThen]
 rw [Oper.upon_value]
 go_wp2
 go_end0
 exact ⟨rfl,rfl⟩
theorem a1E {W w S} {Φ:PW} [aB Φ] {b pa v} (hp:pa=.pointer none\/pa=.pointer (some ⟨b,0,none⟩)) (c:Ctx W w (.blk b [pa,v] 207 :: S) Φ) {K} (hk:∀ w',Ctx W w' (.blk b [.pointer (some ⟨b,0,none⟩),v] 207 :: S) Φ->K (.returned (.tuple #[])) w'):aD F.oB #[.pointer (some ⟨b,0,none⟩)] w K:=by
 have hb:w.heap[b]? = some (.cells #[pa,v] 207 (0,0)):=c.blk 0 rfl
 rcases hp with rfl|rfl
 .exact (WJ b w (c.get 0 rfl rfl) (by simp [World.shape?,hb]) (by simp [World.frozen?,hb])).mono λe w' ⟨he,hw⟩=>by
   subst he
   exact hk w' (c.put 0 hw rfl)
 .exact (ZC b w (c.get 0 rfl rfl)).mono λe w' ⟨he,hw⟩=>by
   subst he;subst hw
   exact hk w' c
theorem aDp:∃ i,prog.info? 5=some i/\i.zero=some (.int .u8 0)/\i.size=1/\i.bytes=1:=by
 have h:(prog.info? 5).map (λi=>(i.zero,i.size,i.bytes))=some (some (.int .u8 0),1,1):=by kernel_rfl
 obtain ⟨i,hi,he⟩:=Option.map_eq_some_iff.1 h
 simp only [Prod.mk.injEq] at he
 exact ⟨i,hi,he⟩
theorem ZD (s):Lib.strCells s=Lib.byteCells s.data.toList:=rfl
theorem WK {W w S R} {Φ:PW} [aB Φ] {b l} (s) (h:BdT b l R) (c:Ctx W w (R++S) Φ) (hlen:l.length+s.size<=100000000000) {K} (hk:∀ R' w',BdT b (l++s.data.toList) R'->Ctx W w' (R'++S) Φ->K (.returned (.tuple #[.int .i64 s.size,.nilIface])) w'):aD F.iH #[.pointer (some ⟨b,0,none⟩),.string s] w K:=by
 obtain ⟨pa,p,cap,hpa,rfl⟩:=h
 obtain ⟨i,hi,hz,hsz,hby⟩:=aDp
 refine fW (rF b 0 s (J:=K∘.returned) c ?_)
 refine λw G c=>a1E hpa c λw c=>⟨rfl,[.blk b [.pointer (some ⟨b,0,none⟩),.slice p l.length cap] 207,.buf p l.length cap (Lib.byteCells l) 5 1]++S,Φ,aL,c,λw G c=>⟨p,l.length,cap,c.get 0 rfl rfl,λw G c=>?_⟩⟩
 obtain ⟨p',cap',w',hrun,c'⟩:=Ctx.aPn (P:=prog) (t:=205) (u:=9) (ty:=205) (kb:=#[false,false]) (c.swap) underlying205 underlying9 hi hz hsz hby s (by omega) (by unfold maxLen;omega)
 refine ⟨p',_,cap',w',hrun,[.blk b [.pointer (some ⟨b,0,none⟩),.slice p l.length cap] 207,.buf p' (l.length+s.size) cap' (Lib.byteCells l++Lib.strCells s) 5 1]++S,Φ,aL,c'.swap,λw G c=>⟨c.can 0 rfl (by simp),λw' hw'=>?_⟩⟩
 refine ⟨[.blk b [.pointer (some ⟨b,0,none⟩),.slice p' (l.length+s.size) cap'] 207,.buf p' (l.length+s.size) cap' (Lib.byteCells l++Lib.strCells s) 5 1]++S,Φ,aL,c.put 0 hw' rfl,λw G c=>hk [.blk b [.pointer (some ⟨b,0,none⟩),.slice p' (l.length+s.size) cap'] 207,.buf p' (l.length+s.size) cap' (Lib.byteCells l++Lib.strCells s) 5 1] w ⟨_,p',cap',.inr rfl,?_⟩ c.left⟩
 have hl:(l++s.data.toList).length=l.length+s.size:=by rw [List.length_append,Array.length_toList];rfl
 rw [hl,ZD,Lib.byteCells_append]
theorem a9y {W w S R} {Φ:PW} [aB Φ] {b l} (h:BdT b l R) (c:Ctx W w (R++S) Φ) {K} (hk:∀ w',Ctx W w' S Φ->K (.returned (.string ⟨l.toArray⟩)) w'):aD F.r9 #[.pointer (some ⟨b,0,none⟩)] w K :=
 Bd.string Tryz.aKV Tryz.QE h c hk
def sJ (rB rO:Nat) (w:World) (J:Value->World->Prop):Prop :=
 ∃ (n0:Int),w.cell? (Addr.mk rB (rO+4) none)=some (.int .i64 n0)/\J (.int .i64 n0) w
theorem zD (rB rO:Nat) (w:World) (J:Value->World->Prop) (h:sJ rB rO w J):aD F.gL #[.pointer (some ⟨rB,rO,none⟩)] w λe w'=>∃ v,e=.returned v/\J v w' :=
 BR (H:={ keep:=some [0,2] }) (by rw [show vcF prog { keep:=some [0,2] } F.gL #[.pointer (some ⟨rB,rO,none⟩)] w J=sJ rB rO w J by kernel_rfl];exact h)
def CK (n:Int) (a:Int) (b:Int) (w:World) (J:Value->World->Prop):Prop :=
 J (.bool (decide (a<=n)&&decide (n<=b))) w
theorem HZ (n:Int) (a:Int) (b:Int) (w:World) (J:Value->World->Prop) (h:CK n a b w J):aD F.dH #[.int .i64 n,.int .i64 a,.int .i64 b] w λe w'=>∃ v,e=.returned v/\J v w' :=
 BR (H:={ keep:=some [0,1,2,6] }) (by rw [show vcF prog { keep:=some [0,1,2,6] } F.dH #[.int .i64 n,.int .i64 a,.int .i64 b] w J=CK n a b w J by kernel_rfl];exact h)
def sK (rB rO:Nat) (n:Int) (w:World) (J:Value->World->Prop):Prop :=
 Br (decide (n=0)) (J (.int .i64 0) w) (∃ (p0:Option Addr) (k1 k2:Nat),w.cell? (Addr.mk rB (rO+3) none)=some (.slice p0 k1 k2)/\aX (n - 1)/\(0<=n - 1/\n - 1<(↑k1:Int))/\vC none p0 λk3 k4=>∃ (n5:Int),w.cell? (Addr.mk k3 (k4+(n - 1).toNat*2) none)=some (.int .i64 n5)/\J (.int .i64 n5) w)
theorem zE (rB rO:Nat) (n:Int) (w:World) (J:Value->World->Prop) (h:sK rB rO n w J):aD F.bV #[.pointer (some ⟨rB,rO,none⟩),.int .i64 n] w λe w'=>∃ v,e=.returned v/\J v w' :=
 BR (H:={ keep:=some [0,1,4,6] }) (by rw [show vcF prog { keep:=some [0,1,4,6] } F.bV #[.pointer (some ⟨rB,rO,none⟩),.int .i64 n] w J=sK rB rO n w J by kernel_rfl];exact h)
def qF (rB rO:Nat) (w:World) (J:Value->World->Prop):Prop :=
 ∃ (n0:Int),w.cell? (Addr.mk rB (rO+5) none)=some (.int .i64 n0)/\J (.int .i64 n0) w
theorem wU (rB rO:Nat) (w:World) (J:Value->World->Prop) (h:qF rB rO w J):aD F.dQ #[.pointer (some ⟨rB,rO,none⟩)] w λe w'=>∃ v,e=.returned v/\J v w' :=
 BR (H:={ keep:=some [0,2] }) (by rw [show vcF prog { keep:=some [0,2] } F.dQ #[.pointer (some ⟨rB,rO,none⟩)] w J=qF rB rO w J by kernel_rfl];exact h)
theorem gl {W w Q T G} {Φ:PW} (c:Ctx W w (Q++T++G) Φ):Ctx W w (Q++(T++G)) Φ:=c.re (b9 _ _ _)
theorem gr {W w Q T G} {Φ:PW} (c:Ctx W w (Q++(T++G)) Φ):Ctx W w (Q++T++G) Φ:=c.re (b9 _ _ _).symm
theorem mid {W w Q S a} {Φ:PW} [aB Φ] (c:Ctx W w (a :: (Q++S)) Φ):Ctx W w (Q++a :: S) Φ:=c.perm List.perm_middle.symm
theorem front {W w Q S a} {Φ:PW} [aB Φ] (c:Ctx W w (Q++a :: S) Φ):Ctx W w (a :: (Q++S)) Φ:=c.perm List.perm_middle
theorem sink {W w Q T G a} {Φ:PW} [aB Φ] (c:Ctx W w (a :: (Q++T)++G) Φ):Ctx W w (Q++a :: T++G) Φ:=c.perm (List.Perm.append_right G List.perm_middle.symm)
theorem lift {W w Q T G a} {Φ:PW} [aB Φ] (c:Ctx W w (Q++a :: T++G) Φ):Ctx W w (a :: (Q++T)++G) Φ:=c.perm (List.Perm.append_right G List.perm_middle)
theorem aGX {W w Q T G} {Φ:PW} [aB Φ] (c:Ctx W w (Q++T++G) Φ):Ctx W w (Q++G) (λ_ _=>True):=(c.weak λ_ _ _=>trivial).sub (List.Sublist.append_right (List.sublist_append_left _ _) _)
def aY:List bQ->List Value
 | []=>[]
 | x :: l=>.int .i64 x.term :: .string x.data :: aY l
def bQ.Ok (x:bQ):Prop:=aX x.term/\x.data.size<=maxLen
theorem ZE:∀ l:List bQ,(aY l).length=l.length*2
 | []=>rfl
 | x :: l=>by simp only [aY,List.length_cons,ZE l];omega
theorem QF:∀ a b:List bQ,aY (a++b)=aY a++aY b
 | [],b=>rfl
 | x :: a,b=>by simp only [List.cons_append,aY,QF a b]
theorem a2p:∀ (l:List bQ) (k:Nat),(aY l).drop (k*2)=aY (l.drop k)
 | l,0=>by simp
 | [],k+1=>by simp [aY]
 | x :: l,k+1=>by
  rw [show (k+1)*2=k*2+1+1 by omega]
  simp only [aY,List.drop_succ_cons]
  exact a2p l k
theorem a4e {l i} (h:i<l.length):((aY l).drop (i*2)).take 2=[.int .i64 l[i].term,.string l[i].data]:=by
 rw [a2p,List.drop_eq_getElem_cons h]
 rfl
theorem aGY {l i} (h:i<l.length):(aY l)[i*2]? = some (.int .i64 l[i].term):=by
 have h1:=a4e h
 have:(((aY l).drop (i*2)).take 2)[0]? = some (.int .i64 l[i].term):=by rw [h1];rfl
 rwa [List.getElem?_take_of_lt (by omega),List.getElem?_drop,Nat.add_zero] at this
theorem aBK {M w} {x:bQ} (h:x.Ok):Gv.rep M w [.int .i64 x.term,.string x.data] x:=⟨[_],_,rfl,⟨rfl,h.1⟩,rfl,h.2⟩
theorem CL {M w cs} {x:bQ} (h:Gv.rep M w cs x):cs=[.int .i64 x.term,.string x.data]/\x.Ok:=by
 obtain ⟨_,_,rfl,⟨rfl,h1⟩,rfl,h2⟩:=h
 exact ⟨rfl,h1,h2⟩
theorem aBL (M w cs) (x:bQ) (h:Gv.rep M w cs x):(cs.all λu=>mU u)=true:=by
 rw [(CL h).1];rfl
theorem tI {M w l} (h:∀ x∈l,x.Ok):dI M w (aY l) l:=by
 refine ⟨ZE l,λj hj=>?_⟩
 rw [show (Gv.ty bQ).size=2 from rfl,a4e hj]
 exact aBK (h _ (List.getElem_mem hj))
theorem ZF {M w cs l} (h:dI M w cs l):cs=aY l/\∀ x∈l,x.Ok:=by
 refine ⟨?_,λx hx=>?_⟩
 .apply List.ext_getElem?
  intro i
  by_cases hi:i<cs.length
  .have hl:=h.1
   rw [show (Gv.ty bQ).size=2 from rfl] at hl
   have hj:i / 2<l.length:=by omega
   have h1:=(CL (h.2 (i / 2) hj)).1
   rw [show (Gv.ty bQ).size=2 from rfl,<-a4e hj] at h1
   have h2:((cs.drop (i / 2*2)).take 2)[i % 2]? = (((aY l).drop (i / 2*2)).take 2)[i % 2]? := by rw [h1]
   rw [List.getElem?_take_of_lt (by omega),List.getElem?_take_of_lt (by omega),List.getElem?_drop,List.getElem?_drop] at h2
   rwa [show i / 2*2+i % 2=i by omega] at h2
  .have hl:=h.1
   rw [show (Gv.ty bQ).size=2 from rfl] at hl
   rw [List.getElem?_eq_none (by omega),List.getElem?_eq_none (by rw [ZE];omega)]
 .obtain ⟨j,hj,rfl⟩:=List.getElem_of_mem hx
  exact (CL (h.2 j hj)).2
abbrev dX.cells (r:dX) (p:Option Addr) (c:Nat):List Value:=[.int .i64 r.id,.int .i64 r.term,.int .i64 r.aQ,.slice p r.log.length c,.int .i64 r.role,.int .i64 r.aE,.bool (r.cN 0),.bool (r.cN 1),.bool (r.cN 2),.int .i64 (r.next 0),.int .i64 (r.next 1),.int .i64 (r.next 2),.int .i64 (r.fZ 0),.int .i64 (r.fZ 1),.int .i64 (r.fZ 2)]
abbrev aS (b:Nat) (r:dX) (p:Option Addr) (c:Nat):List Own:=[.blk b (r.cells p c) 278,.buf p r.log.length c (aY r.log) 216 2]
structure ZG (w:World) (b:Nat) (r:dX) (p:Option Addr) (c:Nat):Prop where
 row:bL w b 0 (r.cells p c)
 log:∀ j v,(aY r.log)[j]? = some v->∃ g,p=some ⟨g,0,none⟩/\w.cell? ⟨g,j,none⟩=some v
theorem E3 {W w S} {Φ:PW} {b r p c} (h:Ctx W w (aS b r p c++S) Φ):ZG w b r p c :=
 ⟨h.DB 0 rfl,λj v hj=>by
  obtain ⟨g,hg,_,h2⟩:=h.nR 1 rfl (by have:=(List.getElem?_eq_some_iff.1 hj).1;omega)
  exact ⟨g,hg,(h2 _ _ hj).1⟩⟩
theorem ZG.drew {w b r p c} (h:ZG w b r p c) (n):ZG (w.drewN n) b r p c :=
 ⟨((lA.refl [] w).drewN n).row h.row (by simp),λj v hj=>by
  obtain ⟨g,hg,h2⟩:=h.log j v hj
  exact ⟨g,hg,((lA.refl [] w).drewN n).cell h2 (by simp)⟩⟩
theorem ZG.at {w b r p c} (h:ZG w b r p c) (k) {v} (hv:(r.cells p c)[k]? = some v):w.cell? ⟨b,k,none⟩=some v:=by
 have hlt:=(List.getElem?_eq_some_iff.1 hv).1
 have:=h.row k hlt
 rw [Nat.zero_add] at this
 rw [this,<-hv,List.getElem?_eq_getElem hlt]
theorem nW (n a b):Quiet prog F.dH #[.int .i64 n,.int .i64 a,.int .i64 b] (.bool (decide (a<=n)&&decide (n<=b))) :=
 quiet_of (λw J h=>HZ n a b w J h) λw=>⟨rfl,rfl⟩
theorem uR {l k} (h:k<l.length):bG l (k+1)=l[k].term:=by
 simp only [bG,List.getElem?_eq_getElem h]
theorem aGZ {w b r p c} (h:ZG w b r p c) {n:Int} {k:Nat} (hn:n=k) (hk:k<=r.log.length) (h4:r.log.length<=4000):
  aD F.bV #[.pointer (some ⟨b,0,none⟩),.int .i64 n] w λe w'=>e=.returned (.int .i64 (bG r.log k))/\w'=w:=by
 subst hn
 refine (zE b 0 k w (λu w'=>u=.int .i64 (bG r.log k)/\w'=w) ?_).mono λe w' ⟨v,h1,h2,h3⟩=>⟨by rw [h1,h2],h3⟩
 refine Br.intro (λh0=>?_) (λh0=>?_)
 .have h0:k=0:=by have:=eC h0;omega
  subst h0
  exact ⟨rfl,rfl⟩
 .obtain ⟨j,rfl⟩:∃ j,k=j+1:=⟨k - 1,by have:=cS h0;omega⟩
  have hj:j<r.log.length:=by omega
  obtain ⟨g,hg,hc⟩:=h.log _ _ (aGY hj)
  refine ⟨p,r.log.length,c,by rw [Nat.zero_add];exact h.at 3 rfl,by unfold aX;omega,by omega,aU g 0 hg ⟨r.log[j].term,?_,?_,rfl⟩⟩
  .rw [show (((j+1:Nat):Int) - 1).toNat=j by omega,Nat.zero_add]
   exact hc
  .rw [uR hj]
theorem a4f {w b r p c} (h:ZG w b r p c) {n:Int} {k:Nat} (hn:n=k) (hk:k<=r.log.length) (h4:r.log.length<=4000) {w0} (e:∃ m,w0=w.drewN m):
  aD F.bV #[.pointer (some ⟨b,0,none⟩),.int .i64 n] w0 λe w'=>e=.returned (.int .i64 (bG r.log k))/\∃ m,w'=w.drewN m:=by
 obtain ⟨m,rfl⟩:=e
 exact (aGZ (h.drew m) hn hk h4).mono λe w' ⟨h1,h2⟩=>⟨h1,m,h2⟩
theorem ZH {W w S} {Φ:PW} [aB Φ] {b r p c} (cx:Ctx W w (aS b r p c++S) Φ) {n:Int} {k:Nat} (hn:n=k) (hk:k<=r.log.length) (h4:r.log.length<=4000) {K} (hK:∀ w',Ctx W w' (aS b r p c++S) Φ->K (.returned (.int .i64 (bG r.log k))) w'):aD F.bV #[.pointer (some ⟨b,0,none⟩),.int .i64 n] w K :=
 (aGZ (E3 cx) hn hk h4).mono λe w' ⟨h1,h2⟩=>by subst h2;rw [h1];exact hK _ cx
abbrev kT (x:Int):Value:=.int .i64 x
def QG (q:Int->Bool):Nat->List Int->Int
 | _,[] => -1
 | i,x :: r=>if q x=true then i else QG q (i+1) r
theorem a9z (q) (l:List Int) (i) (hi:i<l.length):QG q i (l.drop i)=if q l[i]=true then (i:Int) else QG q (i+1) (l.drop (i+1)):=by
 rw [List.drop_eq_getElem_cons hi];rfl
theorem ints_at {l:List Int} {i} (h:i<l.length):(l.map kT)[i]? = some (.int .i64 l[i]):=by rw [List.getElem?_map,List.getElem?_eq_getElem h];rfl
theorem a9A {W w S} {Φ:PW} [aB Φ] {k l t} (c:Ctx W w (.blk k (l.map kT) t :: S) Φ) (n cap) (hn:n=l.length) (f cp q) (hlen:l.length<=1000000) (hf:qA prog f=true) (hq:∀ x,bY Φ prog f (Array.mk (.int .i64 x :: cp.toList)) (.bool (q x))) {K} (hk:∀ w',Ctx W w' (.blk k (l.map kT) t :: S) Φ->K (.returned (.int .i64 (QG q 0 l))) w'):
  aD F.jQ #[.slice (some ⟨k,0,none⟩) n cap,.func (.func f) #[] cp] w K:=by
 subst hn
 refine fW (uM (some ⟨k,0,none⟩) l.length cap f cp (J:=K∘.returned) c ?_)
 refine dF (λn R' aV m=>∃ i:Nat,n=i/\i<=l.length/\R'=.blk k (l.map kT) t :: S/\aV=Φ/\m=l.length - i/\QG q 0 l=QG q i (l.drop i)) ⟨⟨_,Φ,_,aL,λw F c=>c,0,rfl,Nat.zero_le _,rfl,rfl,rfl,rfl⟩,?_⟩
 rintro n R1 cG m _ ⟨i,rfl,hi,rfl,rfl,rfl,hor⟩
 refine Br.intro (λhlt=>?_) (λhge=>λw G cx=>?_)
 .have hlt:i<l.length:=by simpa using hlt
  rw [a9z q l i hlt] at hor
  refine ⟨by omega,aU k 0 rfl λw G cx=>⟨l[i],by rw [Int.toNat_natCast,Nat.zero_add];exact cx.get 0 rfl (ints_at hlt),λw G cx=>⟨hf,(hq l[i]).use cx λw cx=>⟨_,rfl,_,cG,aL,cx,Br.intro (λh=>λw G cx=>?_) (λh=>⟨by unfold aX;omega,_,cG,l.length - (i+1),aL,λw F c=>c,⟨i+1,rfl,hlt,rfl,rfl,rfl,?_⟩,by omega⟩)⟩⟩⟩⟩
  .have:=hk w cx.left
   rw [hor,if_pos h] at this
   exact this
  .rw [hor,if_neg (by rw [h];simp)]
 .have hge:i=l.length:=Nat.le_antisymm hi (by simpa using hge)
  have:=hk w cx.left
  rw [hor,hge,List.drop_length] at this
  exact this
theorem a9B {W:World} {b k0:Nat} {r:dX} {p:Option Addr} {c:Nat} {Φ:PW} [aB Φ] (x:Int):
  bY (iS W (.blk k0 [.pointer (some ⟨b,0,none⟩)] 130 :: aS b r p c) Φ) prog F.jP (Array.mk (.int .i64 x :: (#[.pointer (some ⟨k0,0,none⟩)]:Array Value).toList)) (.bool (decide (x=r.id))):=by
 refine iD (uL x k0 0) λW' R=>?_
 have h1:∀ {M w},iS W (.blk k0 [.pointer (some ⟨b,0,none⟩)] 130 :: aS b r p c) Φ M w->w.cell? ⟨k0,0,none⟩=some (.pointer (some ⟨b,0,none⟩)):=fun {M w} h=>by
  have:=(h.parked (o:=.blk k0 [.pointer (some ⟨b,0,none⟩)] 130) (by simp)).1
  exact (show vY w k0 [.pointer (some ⟨b,0,none⟩)] 130 from this).DA rfl
 have h2:∀ {M w},iS W (.blk k0 [.pointer (some ⟨b,0,none⟩)] 130 :: aS b r p c) Φ M w->w.cell? ⟨b,0,none⟩=some (.int .i64 r.id):=fun {M w} h=>by
  have:=(h.parked (o:=.blk b (r.cells p c) 278) (by simp)).1
  exact (show vY w b (r.cells p c) 278 from this).DA rfl
 exact λw G cx=>⟨some ⟨b,0,none⟩,h1 cx.tX,aU b 0 rfl λw G cx=>⟨r.id,h2 cx.tX,λw G cx=>⟨rfl,cx.left⟩⟩⟩
theorem QH {P ats ty cs args v w w'} (h:(Builtin.clear_ ats ty args).run P w=.ok v w'):Sem.run P (builtin Builtin.clear ats ty cs args) w=.ok (.value v) w':=by
 unfold builtin
 simp only [Sem.run_bind,h,Result.andThen,Sem.run_pure]
theorem aG0 (vs):∀ (a b:List Value) (n:Nat),n=a.length->vs.length=b.length->mV (a++b) n vs=a++vs:=by
 intro a b n hn hl
 subst hn
 apply List.ext_getElem?
 intro i
 by_cases hi:i<a.length
 .rw [rH _ _ _ _ (.inl hi),List.getElem?_append_left hi,List.getElem?_append_left hi]
 .by_cases hi2:i<a.length+vs.length
  .obtain ⟨j,rfl⟩:∃ j,i=a.length+j:=⟨i - a.length,by omega⟩
   rw [QD _ _ _ _ (by omega) (by rw [List.length_append];omega),List.getElem?_append_right (by omega),show a.length+j - a.length=j by omega]
  .rw [List.getElem?_eq_none (by rw [HY,List.length_append];omega),List.getElem?_eq_none (by rw [List.length_append];omega)]
theorem aU0:∀ w:World,(zeroValue 3).run prog w=.ok (.int .i64 0) w:=λw=>by kernel_rfl
theorem a6A {W w S} {Φ:PW} [aB Φ] {k} {l:List Int} (c:Ctx W w (.blk k (l.map kT) 3 :: S) Φ) (f cp q n) (hn:n=l.length) (h0:0<l.length) (hlen:l.length<=1000000) (hf:qA prog f=true) (hq:∀ x,bY Φ prog f (Array.mk (.int .i64 x :: cp.toList)) (.bool (q x))) (hsome:l.any q=true) {K} (hk:∀ w' rest,Ctx W w' (.blk k ((l.filter λx => !q x).map kT++rest) 3 :: S) Φ->K (.returned (.slice (some ⟨k,0,none⟩) (l.filter λx => !q x).length l.length)) w'):
  aD F.iZ #[.slice (some ⟨k,0,none⟩) n n,.func (.func f) #[] cp] w K:=by
 subst hn
 have hfind:∀ (l:List Int) (i:Nat),l.any q=true->∃ j:Nat,QG q i l=((i+j:Nat):Int)/\∃ h:j<l.length,q l[j]=true/\∀ x∈l.take j,q x=false:=by
  intro l
  induction l with
  | nil=>intro i h;simp at h
  | cons x r ih =>
   intro i h
   cases hx:q x with
   | true=>exact ⟨0,by unfold QG;rw [if_pos hx];rfl,by simp,by simpa using hx,by simp⟩
   | false =>
    rw [List.any_cons,hx,Bool.false_or] at h
    obtain ⟨j,h1,h2,h3,h4⟩:=ih (i+1) h
    refine ⟨j+1,?_,by simp;omega,by simpa using h3,λy hy=>?_⟩
    .unfold QG;rw [if_neg (by rw [hx];simp),h1];omega
    .rw [List.take_succ_cons] at hy
     rcases List.mem_cons.1 hy with rfl|hy
     .exact hx
     .exact h4 y hy
 obtain ⟨j0,hj0,hj1,hj2,hj3⟩:=hfind l 0 hsome
 rw [Nat.zero_add] at hj0
 refine fW (tG (some ⟨k,0,none⟩) l.length l.length f cp (J:=K∘.returned) c ?_)
 refine λw G cx=>a9A (S:=S++G) cx l.length l.length rfl f cp q hlen hf hq λw cx=>⟨_,rfl,.blk k (l.map kT) 3 :: S,Φ,aL,cx,?_⟩
 rw [hj0]
 refine Br.intro (λh=>by have:=eC h;omega) (λ_=>⟨by unfold aX;omega,?_⟩)
 have aPq:(l.take j0).filter (λx => !q x)=l.take j0:=List.filter_eq_self.2 λx hx=>by rw [hj3 x hx];rfl
 have hstart:(l.take (j0+1)).filter (λx => !q x)=l.take j0:=by
  rw [List.take_succ_eq_append_getElem hj1,List.filter_append,aPq]
  simp [hj2]
 refine dF (λa n R' aV m=>∃ (i j:Nat) (cs:List Value),a=i/\n=j/\j<=l.length/\i<j/\R'=.blk k cs 3 :: S/\aV=Φ/\m=l.length - j/\cs.length=l.length/\i=((l.take j).filter λx => !q x).length/\cs.take i=((l.take j).filter λx => !q x).map kT/\cs.drop j=(l.map kT).drop j)
  ⟨⟨_,Φ,_,aL,λw G cx=>cx,j0,j0+1,l.map kT,rfl,by omega,by omega,by omega,rfl,rfl,rfl,by simp,by rw [hstart];simp;omega,by rw [hstart,List.map_take],rfl⟩,?_⟩
 rintro _ _ R1 cG m _ ⟨i,j,cs,rfl,rfl,hjl,hij,rfl,rfl,rfl,rW,hi,hct,hcd⟩
 refine Br.intro (λhlt=>?_) (λhge=>?_)
 .have hlt:j<l.length:=by simpa using hlt
  have hcj:cs[j]? = some (.int .i64 l[j]):=by
   have:(cs.drop j)[0]? = ((l.map kT).drop j)[0]? := by rw [hcd]
   rw [List.getElem?_drop,List.getElem?_drop,Nat.add_zero,ints_at hlt] at this
   exact this
  have hts:(l.take (j+1)).filter (λx => !q x)=(l.take j).filter (λx => !q x)++(if q l[j]=true then [] else [l[j]]):=by
   rw [List.take_succ_eq_append_getElem hlt,List.filter_append]
   exact congrArg _ (by cases h:q l[j]<;>simp [h])
  refine ⟨by omega,aU k 0 rfl λw G cx=>⟨l[j],by rw [Int.toNat_natCast,Nat.zero_add];exact cx.get 0 rfl hcj,λw G cx=>⟨hf,(hq l[j]).use cx λw cx=>⟨_,rfl,_,cG,aL,cx,Br.intro (λh=>⟨by omega,aU k 0 rfl λw G cx=>⟨cx.can 0 rfl (by rw [Int.toNat_natCast];omega),λw' hw'=>?_⟩⟩) (λh=>?_)⟩⟩⟩⟩
  .rw [Int.toNat_natCast,Nat.zero_add] at hw'
   have jL:=cx.put 0 hw' rfl
   have h:q l[j]=false:=by simpa using h
   rw [if_neg (by rw [h];simp)] at hts
   refine ⟨.blk k (cs.set i (.int .i64 l[j])) 3 :: S,cG,aL,jL,by unfold aX;omega,by unfold aX;omega,_,cG,l.length - (j+1),aL,λw G cx=>cx,⟨i+1,j+1,cs.set i (.int .i64 l[j]),by omega,by omega,hlt,by omega,rfl,rfl,rfl,by simp [rW],by rw [hts,List.length_append,<-hi];rfl,?_,?_⟩,by omega⟩
   .rw [hts,List.map_append,<-hct,List.take_succ_eq_append_getElem (by simp [rW];omega),List.take_set_of_le (Nat.le_refl _),List.getElem_set_self]
    rfl
   .rw [List.drop_set_of_lt (by omega)]
    have:=congrArg (List.drop 1) hcd
    rw [List.drop_drop,List.drop_drop] at this
    exact this
  .have h:q l[j]=true:=by simpa using h
   rw [if_pos h,List.append_nil] at hts
   refine ⟨by unfold aX;omega,_,cG,l.length - (j+1),aL,λw G cx=>cx,⟨i,j+1,cs,rfl,by omega,hlt,by omega,rfl,rfl,rfl,rW,by rw [hts];exact hi,by rw [hts];exact hct,?_⟩,by omega⟩
   have:=congrArg (List.drop 1) hcd
   rw [List.drop_drop,List.drop_drop] at this
   exact this
 .have hge:j=l.length:=Nat.le_antisymm hjl (by simpa using hge)
  subst hge
  rw [List.take_length] at hi hct
  refine ⟨by omega,λw G cx=>?_⟩
  have hne:¬ l.length=i:=by omega
  have hsub:cJ (some ⟨k,0,none⟩) 1 (i:Int).toNat l.length=some ⟨k,i,none⟩:=by
   unfold cJ
   rw [Int.toNat_natCast,if_neg hne]
   simp [Addr.add]
   intro h
   exact h.symm
  rw [hsub,Int.toNat_natCast]
  have hb:=cx.blk 0 rfl
  have hrun:=Lib.run_clear_slice (P:=prog) w 37 3 0 (.int .i64 0) underlying37 aU0 rfl rfl k i (l.length - i) (l.length - i) (by omega) (λt ht=>(cx.can 0 rfl (o:=i) (n:=l.length - i) (by omega) t ht).1) (λt ht=>(cx.can 0 rfl (o:=i) (n:=l.length - i) (by omega) t ht).2)
  refine ⟨_,QH hrun,.blk k (mV cs i (List.replicate (l.length - i) (.int .i64 0))) 3 :: S,cG,aL,cx.F6 0 rfl rfl,by omega,λw G cx=>?_⟩
  have hcs:cs=(l.filter λx => !q x).map kT++cs.drop i:=by rw [<-hct,List.take_append_drop]
  have e1:mV cs i (List.replicate (l.length - i) (.int .i64 0))=(l.filter λx => !q x).map kT++List.replicate (l.length - i) (.int .i64 0):=by
   conv=>lhs;rw [hcs]
   exact aG0 _ _ _ _ (by rw [List.length_map];exact hi) (by simp [rW])
  rw [e1] at cx
  have e2:cJ (some ⟨k,0,none⟩) 1 0 l.length=some ⟨k,0,none⟩:=by
   unfold cJ
   split
   .rfl
   .simp [Addr.add]
  rw [e2,hi]
  exact hk w _ cx.left
theorem NF {W w S} {Φ:PW} [aB Φ] {b r p c} (hid:r.id<=2) (cx:Ctx W w (aS b r p c++S) Φ) {K} (hK:∀ k rest w',Ctx W w' (.blk k ((aT r.id).map (λx:Nat=>kT (x:Int))++rest) 3 :: (aS b r p c++S)) Φ->K (.returned (.slice (some ⟨k,0,none⟩) 2 3)) w'):
  aD F.fP #[.pointer (some ⟨b,0,none⟩)] w K:=by
 refine fW (wQ b 0 (J:=K∘.returned) cx ?_)
 intro k0 k1 w G cx
 have jL:Ctx W w ((.blk k0 [.pointer (some ⟨b,0,none⟩)] 130 :: aS b r p c)++(.blk k1 ([0,1,2].map kT) 3 :: (S++G))) Φ:=by
  refine cx.perm ?_
  show (Own.blk k1 [.int .i64 0,.int .i64 1,.int .i64 2] 3 :: ((Own.blk k0 [.pointer (some ⟨b,0,none⟩)] 130 :: aS b r p c)++S++G)).Perm _
  rw [b9]
  exact List.perm_middle.symm
 have hst:aB (iS W (.blk k0 [.pointer (some ⟨b,0,none⟩)] 130 :: aS b r p c) Φ):=aL
 refine a6A jL.aside F.jP #[.pointer (some ⟨k0,0,none⟩)] (λx:Int=>decide (x=(r.id:Int))) 3 rfl (by simp) (by simp) (by kernel_rfl) (λx=>a9B x) ?_ λw rest cx=>?_
 .have:r.id=0\/r.id=1\/r.id=2:=by omega
  rcases this with h|h|h<;>rw [h]<;>rfl
 .have aPq:([0,1,2]:List Int).filter (λx:Int => !decide (x=(r.id:Int)))=(aT r.id).map (λx:Nat=>(x:Int)):=by
   have:r.id=0\/r.id=1\/r.id=2:=by omega
   rcases this with h|h|h<;>rw [h]<;>rfl
  rw [aPq] at cx ⊢
  have hl:((aT r.id).map (λx:Nat=>(x:Int))).length=2:=by unfold aT;split;rfl;split<;>rfl
  rw [hl]
  refine ⟨some ⟨k1,0,none⟩,2,3,rfl,.blk k1 ((aT r.id).map (λx:Nat=>kT (x:Int))++rest) 3 :: (aS b r p c++S),Φ,aL,?_,λw G cx=>hK k1 rest w cx.left⟩
  have BK:=cx.A9
  rw [List.map_map] at BK
  refine Ctx.perm (BK.sub (S':=aS b r p c++(.blk k1 ((aT r.id).map (λx:Nat=>kT (x:Int))++rest) 3 :: (S++G))) (List.sublist_cons_self _ _)) ?_
  refine List.perm_middle.trans (List.Perm.cons _ ?_)
  rw [<-b9]
  exact List.Perm.refl _
abbrev bR.cells (x:bR) (p:Option Addr) (c:Nat):List Value:=[.int .i64 x.kind,.int .i64 x.src,.int .i64 x.to,.int .i64 x.term,.int .i64 x.index,.int .i64 x.prev,.int .i64 x.aE,.bool x.yes,.slice p x.aF.length c]
abbrev bR.v (x:bR) (p:Option Addr) (c:Nat):Value:=.agg #[.int .i64 x.kind,.int .i64 x.src,.int .i64 x.to,.int .i64 x.term,.int .i64 x.index,.int .i64 x.prev,.int .i64 x.aE,.bool x.yes,.slice p x.aF.length c]
structure bR.Ok (x:bR):Prop where
 kind:aX x.kind
 src:aX x.src
 to:aX x.to
 term:aX x.term
 index:aX x.index
 prev:aX x.prev
 aE:aX x.aE
theorem a2q {M w cs} {x:bR} (h:Gv.rep M w cs x):∃ p c,cs=x.cells p c/\x.aF.length<=c/\c<=maxLen/\x.Ok/\Sl M w p x.aF:=by
 obtain ⟨_,_,rfl,⟨rfl,h1⟩,_,_,rfl,⟨rfl,h2⟩,_,_,rfl,⟨rfl,h3⟩,_,_,rfl,⟨rfl,h4⟩,_,_,rfl,⟨rfl,h5⟩,_,_,rfl,⟨rfl,h6⟩,_,_,rfl,⟨rfl,h7⟩,_,_,rfl,rfl,p,c,rfl,h8,h9,h10⟩:=h
 exact ⟨p,c,rfl,h8,h9,⟨h1,h2,h3,h4,h5,h6,h7⟩,h10⟩
theorem QI {M w} {x:bR} {p c} (h:x.Ok) (h6:x.aF.length<=c) (h7:c<=maxLen) (h8:Sl M w p x.aF):Gv.rep M w (x.cells p c) x :=
 ⟨[_],_,rfl,⟨rfl,h.kind⟩,[_],_,rfl,⟨rfl,h.src⟩,[_],_,rfl,⟨rfl,h.to⟩,[_],_,rfl,⟨rfl,h.term⟩,[_],_,rfl,⟨rfl,h.index⟩,[_],_,rfl,⟨rfl,h.prev⟩,[_],_,rfl,⟨rfl,h.aE⟩,[_],_,rfl,rfl,p,c,rfl,h6,h7,h8⟩
theorem aPr {M w} {x:bR} {p c} (h:Gv.rep M w (x.cells p c) x):Sl M w p x.aF:=by
 obtain ⟨p',c',e,_,_,_,h1⟩:=a2q h
 simp only [bR.cells,List.cons.injEq,Value.slice.injEq] at e
 rw [e.2.2.2.2.2.2.2.2.1.1]
 exact h1
theorem TG {M w b o} {l:List bQ} (h:Sl M w (some ⟨b,o,none⟩) l) {i} (hi:i<l.length):bL w b (o+i*2) [.int .i64 l[i].term,.string l[i].data]:=by
 obtain ⟨b',o',cs,e,_,h3,h4⟩:=h i hi
 cases e
 rw [<-(CL h4).1]
 exact h3
theorem aG1 {M w p} {l:List bQ} (h:Sl M w p l):∀ x∈l,x.Ok:=λx hx=>by
 obtain ⟨i,hi,rfl⟩:=List.getElem_of_mem hx
 obtain ⟨_,_,_,_,_,_,h4⟩:=h i hi
 exact (CL h4).2
theorem y4 {W w S} {Φ:PW} [aB Φ] {q l c2} (c:Ctx W w S Φ) (kZ:∀ M w,Φ M w->Sl M w q l) (hlen:l.length<100000000) {K} (hk:∀ p cap w',Ctx W w' (.buf p l.length cap (aY l) 216 2 :: S) Φ->K (.returned (.slice p l.length cap)) w'):aD F.cD #[.slice q l.length c2] w K:=by
 refine fW (qT q l.length c2 (J:=K∘.returned) c ?_)
 refine Br.intro (λh=>λw G cx=>?_) (λh=>λk w G cx=>?_)
 .have hq:q=none:=by simpa using h
  have hl:l.length=0:=by
   rcases Nat.eq_zero_or_pos l.length with h0|h0
   .exact h0
   .obtain ⟨b,o,hb⟩:=(kZ _ _ cx.tX).there h0
    rw [hq] at hb;cases hb
  have hl':l=[]:=List.eq_nil_of_length_eq_zero hl
  subst hl'
  exact hk none 0 w (cx.left.EW 216 2)
 .obtain ⟨p',cap',w',cs,hrun,cx'⟩:=Ctx.a4a (P:=prog) (ts:=99) (ty:=99) (kb:=#[false,false]) (bytes:=24) (c2:=c2) cx (by kernel_rfl) aBL kZ hlen (by omega)
  obtain ⟨rfl,_⟩:=ZF cx'.tX.2
  exact ⟨p',l.length,cap',w',hrun,.buf p' l.length cap' (aY l) 216 2 :: S,Φ,aL,cx'.fst,λw G cx=>hk p' cap' w cx.left⟩
theorem a9C {W w:World} {Q:List Own} {Φ:PW} {M:List Nat} {p:Option Addr} {n c:Nat} {l:List bQ} (h:iS W Q Φ M w) (hm:Own.buf p n c (aY l) 216 2∈Q) (hok:∀ x∈l,x.Ok):Sl M w p l :=
 vR.sl (α:=bQ) (D:=[]) (h.parked hm) (tI hok)
theorem dX.Ok.aF {r:dX} (h:r.Ok):∀ x∈r.log,x.Ok:=λx hx=>by
 have h1:=h.log.lo x hx
 have h2:=h.log.hi x hx
 have h3:=h.log.data x hx
 have h4:=h.iW
 exact ⟨by unfold aX;omega,by unfold maxLen;omega⟩
theorem Sl.take {α} [Gv α] {M w p} {l:List α} (h:Sl M w p l) (k):Sl M w p (l.take k):=λj hj=>by
 have hj':j<l.length:=by simp at hj;omega
 rw [List.getElem_take]
 exact h j hj'
theorem AA {W w S} {Φ:PW} [aB Φ] {b r p c} (cx:Ctx W w (aS b r p c++S) Φ) (kind to) {K} (hK:∀ w',Ctx W w' (aS b r p c++S) Φ->K (.returned ((rI r kind to).v none 0)) w'):aD F.eB #[.pointer (some ⟨b,0,none⟩),.int .i64 kind,.int .i64 to] w K:=by
 refine fW (vM b 0 kind to (J:=K∘.returned) cx ?_)
 exact λ_ w G cx=>⟨r.id,cx.get 0 rfl rfl,λw G cx=>⟨r.term,cx.get 0 rfl rfl,λw G cx=>hK w cx.left⟩⟩
structure Fit (r:dX) (to:Nat):Prop where
 lo:1<=r.next to
 hi:r.next to<=r.log.length+1
 len:r.log.length<=4000
 to:to<3
theorem NG {r:dX} {p c to} (h:to<3):(r.cells p c)[9+to]? = some (.int .i64 (r.next to)):=by
 match to,h with
 | 0,_=>rfl
 | 1,_=>rfl
 | 2,_=>rfl
theorem JV {r:dX} {p c to} (h:to<3):(r.cells p c)[12+to]? = some (.int .i64 (r.fZ to)):=by
 match to,h with
 | 0,_=>rfl
 | 1,_=>rfl
 | 2,_=>rfl
set_option maxHeartbeats 1000000 in
theorem I3 {W w S} {Φ:PW} [aB Φ] {b r p c} (cx:Ctx W w (aS b r p c++S) Φ) (hok:∀ x∈r.log,x.Ok) {to:Int} (n:Nat) (hto:to=n) (hf:Fit r n) {K} (hK:∀ q cap w',(entriesOf r n).aF.length<=cap->cap<=maxLen->Ctx W w' (aS b r p c++S) (λM w=>Φ M w/\Sl M w q (entriesOf r n).aF)->K (.returned ((entriesOf r n).v q cap)) w'):
  aD F.fD #[.pointer (some ⟨b,0,none⟩),.int .i64 to] w K:=by
 subst hto
 have h1:=hf.lo
 have h2:=hf.hi
 have h3:=hf.len
 have h4:=hf.to
 refine fW (vO b 0 n (J:=K∘.returned) cx ?_)
 refine λ_ w G cx=>AA (gl cx) 2 n λw cx=>⟨_,_,_,_,_,_,_,_,none,_,0,rfl,aS b r p c++S,Φ,aL,gr cx,λ_=>⟨by omega,λw G cx=>⟨r.next n,?_,by unfold aX;omega,?_⟩⟩⟩
 .rw [Nat.zero_add,Int.toNat_natCast]
  exact cx.get 0 rfl (NG h4)
 have hnx:((r.next n:Nat):Int) - 1=((r.next n - 1:Nat):Int):=by omega
 rw [hnx]
 have hmin:min ((r.log.length:Nat):Int) (((r.next n - 1:Nat):Int)+8)=((min r.log.length (r.next n - 1+8):Nat):Int):=by omega
 refine ⟨aS b r p c++S,Φ,aL,λw G cx=>cx,(r.aE:Int),λw G cx=>⟨_,cx.get 0 rfl rfl,rfl⟩,λw G cx=>ZH (gl cx) rfl (by omega) h3 λw cx=>⟨_,rfl,aS b r p c++S,Φ,aL,gr cx,λw G cx=>cx,λw G cx=>cx,λw G cx=>cx,
  aS b r p c,Φ,aL,λw G cx=>cx.sub (by rw [b9];exact List.Sublist.append_left (List.sublist_append_right _ _) _),by unfold aX;omega,p,r.log.length,c,λw G cx=>⟨p,r.log.length,c,cx.get 0 rfl rfl,rfl⟩,p,r.log.length,c,λw G cx=>⟨p,r.log.length,c,cx.get 0 rfl rfl,rfl⟩,?_,λw G cx=>?_⟩⟩
 .have hc:=(cx.sU 1 rfl).2.1
  omega
 rw [hmin,Int.toNat_natCast,Int.toNat_natCast]
 have hlen:min r.log.length (r.next n - 1+8) - (r.next n - 1)=((r.log.drop (r.next n - 1)).take 8).length:=by
  rw [List.length_take,List.length_drop];omega
 rw [hlen]
 have hc:=(cx.sU 1 rfl).2.1
 have jL:Ctx W w (S++G) (iS W (aS b r p c) Φ):=Ctx.aside (cx.re (b9 _ _ _))
 refine y4 jL (λM w h=>Sl.take (ZA (a9C h (n:=r.log.length) (c:=c) (by simp) hok) (r.next n - 1) hc) 8) (by rw [<-hlen];omega) λq cap w cx=>?_
 obtain ⟨_,a2r,hcap2⟩:=cx.sU 0 rfl
 have BK:Ctx W w (.buf q ((r.log.drop (r.next n - 1)).take 8).length cap (aY ((r.log.drop (r.next n - 1)).take 8)) 216 2 :: (aS b r p c++(S++G))) Φ:=cx.A9.perm List.perm_middle
 obtain ⟨WW,hs,_⟩:=Ctx.freeze (α:=bQ) BK (tI λx hx=>hok x (List.mem_of_mem_drop (List.mem_of_mem_take hx)))
 have hst:aB (λM w=>Φ M w/\Sl M w q ((r.log.drop (r.next n - 1)).take 8)):=aL
 refine ⟨q,_,cap,rfl,aS b r p c++S,λM w=>Φ M w/\Sl M w q ((r.log.drop (r.next n - 1)).take 8),hst,gr (WW.add hs),λw G cx=>?_,λw G cx=>hK q cap w a2r hcap2 cx.left⟩
 exact cx.fst.sub (by rw [b9];exact List.Sublist.append_left (List.sublist_append_right _ _) _)
theorem ZI {W w S} {Φ:PW} [aB Φ] (cx:Ctx W w S Φ) (m:bR) (p c) (hm:m.Ok) (h1:m.aF.length<=c) (h2:c<=maxLen) (kZ:∀ M w,Φ M w->Sl M w p m.aF) {K} (hK:∀ q w',Ctx W w' S (λM w=>Φ M w/\Sl M w q [m])->K (.returned (.agg #[.bool false,.int .i64 0,.int .i64 0,.int .i64 0,.slice none 0 0,.slice q 1 1])) w'):
  aD F.eW #[m.v p c] w K:=by
 refine fW (KE m.kind m.src m.to m.term m.index m.prev m.aE m.yes p m.aF.length c (J:=K∘.returned) cx ?_)
 refine λ_ _ k w G cx=>?_
 obtain ⟨jL,hs⟩:=cx.CJ (dI.one (QI (x:=m) hm h1 h2 (kZ _ _ cx.tX)))
 exact hK (some ⟨k,0,none⟩) w (Ctx.left (F:=G) (Φ:=λM w=>Φ M w/\Sl M w (some ⟨k,0,none⟩) [m]) (jL.add hs))
abbrev WL (o:lT) (p1:Option Addr) (c1:Nat) (p2:Option Addr) (c2:Nat):Value:=.agg #[.bool o.save,.int .i64 o.term,.int .i64 o.aQ,.int .i64 o.src,.slice p1 o.aF.length c1,.slice p2 o.send.length c2]
def a4g (Φ:PW) (q1:Option Addr) (aF:List bQ) (q2:Option Addr) (send:List bR):PW:=λM w=>Φ M w/\Sl M w q1 aF/\Sl M w q2 send
instance aM1 (Φ:PW) [aB Φ] (q1:Option Addr) (aF:List bQ) (q2:Option Addr) (send:List bR):aB (a4g Φ q1 aF q2 send) :=
 have h2:aB (λM w=>Sl M w q1 aF/\Sl M w q2 send):=dM (λM w=>Sl M w q1 aF) (λM w=>Sl M w q2 send)
 dM Φ (λM w=>Sl M w q1 aF/\Sl M w q2 send)
def I4 (W:World) (S:List Own) (Φ:PW) (b:Nat) (r':dX) (o:lT) (K:Value->World->Prop):Prop :=
 ∀ p' c' q1 c1 q2 c2 w',o.aF.length<=c1->c1<=maxLen->o.send.length<=c2->c2<=maxLen->Ctx W w' (aS b r' p' c'++S) (a4g Φ q1 o.aF q2 o.send)->K (WL o q1 c1 q2 c2) w'
theorem I4.zero {W w S Φ b r' K p c} (h:I4 W S Φ b r' kR K) (cx:Ctx W w (aS b r' p c++S) Φ):K (WL kR none 0 none 0) w :=
 h p c none 0 none 0 w (Nat.le_refl _) (by simp [maxLen]) (Nat.le_refl _) (by simp [maxLen]) (cx.weak λM w h=>⟨h,Sl.nil,Sl.nil⟩)
theorem I4.sent {W w S Φ b r' K p c l q cap} (h:I4 W S Φ b r' (mW l) K) (h1:l.length<=cap) (h2:cap<=maxLen) (cx:Ctx W w (aS b r' p c++S) (λM w=>Φ M w/\Sl M w q l)):K (WL (mW l) none 0 q cap) w :=
 h p c none 0 q cap w (Nat.le_refl _) (by simp [maxLen]) h1 h2 (cx.weak λM w h=>⟨h.1,Sl.nil,h.2⟩)
theorem a6B {r:dX} {p c i} (x) (h:i<3):(r.cells p c).set (6+i) (.bool x)={ r with cN:=put r.cN i x }.cells p c:=by
 match i,h with
 | 0,_=>rfl
 | 1,_=>rfl
 | 2,_=>rfl
theorem ZJ {r:dX} {p c i} (x:Nat) (h:i<3):(r.cells p c).set (9+i) (.int .i64 x)={ r with next:=put r.next i x }.cells p c:=by
 match i,h with
 | 0,_=>rfl
 | 1,_=>rfl
 | 2,_=>rfl
theorem aBM {r:dX} {p c i} (x:Nat) (h:i<3):(r.cells p c).set (12+i) (.int .i64 x)={ r with fZ:=put r.fZ i x }.cells p c:=by
 match i,h with
 | 0,_=>rfl
 | 1,_=>rfl
 | 2,_=>rfl
theorem lU {W w w' S} {Φ:PW} [aB Φ] {b r p c} (cx:Ctx W w (aS b r p c++S) Φ) {i v} (e:w'=w.setCell ⟨b,i,none⟩ v) (r') (hc:(r.cells p c).set i v=r'.cells p c) (hl:r'.log=r.log):
  Ctx W w' (aS b r' p c++S) Φ:=by
 show Ctx W w' (.blk b (r'.cells p c) 278 :: .buf p r'.log.length c (aY r'.log) 216 2 :: S) Φ
 rw [<-hc,hl]
 exact cx.put 0 e rfl
theorem ZK {W w w' S} {Φ:PW} [aB Φ] {b r p c} (cx:Ctx W w (aS b r p c++S) Φ) {i vs} (e:w'=w.setCells b i vs) (r') (hc:mV (r.cells p c) i vs=r'.cells p c) (hl:r'.log=r.log):
  Ctx W w' (aS b r' p c++S) Φ:=by
 show Ctx W w' (.blk b (r'.cells p c) 278 :: .buf p r'.log.length c (aY r'.log) 216 2 :: S) Φ
 rw [<-hc,hl]
 exact cx.F6 0 e rfl
theorem tJ (id):(aT id).length=2:=by unfold aT;split;rfl;split<;>rfl
theorem CM {id}:∀ x∈aT id,x<3/\(id<=2->x≠id):=by
 intro x hx
 unfold aT at hx
 split at hx
 .simp at hx;omega
 .split at hx<;>simp at hx<;>omega
theorem dX.Ok.bG {r:dX} (h:r.Ok) (k):0<=bG r.log k/\Go.Proofs.YtnlkemjhgdbfkaaGreatDoor.bG r.log k<=r.term:=by
 have h0:=h.mE
 cases k with
 | zero=>exact ⟨Int.le_refl _,h0⟩
 | succ k =>
  by_cases hk:k<r.log.length
  .rw [uR hk]
   have h1:=h.log.lo _ (List.getElem_mem hk)
   have h2:=h.log.hi _ (List.getElem_mem hk)
   omega
  .simp only [Go.Proofs.YtnlkemjhgdbfkaaGreatDoor.bG,List.getElem?_eq_none (Nat.not_lt.1 hk)]
   omega
theorem dX.Ok.fit {r} (h:r.Ok) (hr:r.role=2) {i} (hi:i<3):Fit r i:=⟨(h.next hr i).1,(h.next hr i).2.1,h.len,hi⟩
theorem E4 {r} (h:r.Ok) {n} (hf:Fit r n):(entriesOf r n).Ok:=by
 have h1:=h.bG (r.next n - 1)
 have h2:=h.id
 have h3:=h.mE
 have h4:=h.iW
 have h5:=h.aE
 have h6:=h.len
 have h7:=hf.hi
 have h8:=hf.to
 have e:∀ {x:Int},-1<=x->x<=1099511627776->aX x:=λh h'=>by unfold aX;omega
 unfold entriesOf
 exact ⟨e (by simp) (by simp),e (by simp only;omega) (by simp only;omega),e (by simp only;omega) (by simp only;omega),e (by simp only;omega) (by simp only;omega),e (by simp only;omega) (by simp only;omega),e (by simp only;omega) (by simp only;omega),e (by simp only;omega) (by simp only;omega)⟩
set_option maxHeartbeats 1000000 in
theorem WX {W w S} {Φ:PW} [aB Φ] {b r p c} (cx:Ctx W w (aS b r p c++S) Φ) (hr:r.Ok) (hf:∀ i,i<3->Fit r i) {K} (hK:∀ q cap w',(cW r).length<=cap->cap<=maxLen->Ctx W w' (aS b r p c++S) (λM w=>Φ M w/\Sl M w q (cW r))->K (.returned (.slice q (cW r).length cap)) w'):
  aD F.fR #[.pointer (some ⟨b,0,none⟩)] w K:=by
 have hol:=tJ r.id
 have hal:(cW r).length=2:=by unfold cW;rw [List.length_map,hol]
 refine fW (AX b 0 (J:=K∘.returned) cx ?_)
 refine λw G cx=>NF hr.id (gl cx) λk rest w cx=>⟨some ⟨k,0,none⟩,2,3,rfl,aS b r p c++(.blk k ((aT r.id).map (λx:Nat=>kT (x:Int))++rest) 3 :: S),Φ,aL,gr (Q:=aS b r p c) (T:=.blk k ((aT r.id).map (λx:Nat=>kT (x:Int))++rest) 3 :: S) (mid cx),?_⟩
 refine dF (λq n cap iI R' aV m=>∃ (i:Nat) (gs:List Value),iI=i/\n=i/\i<=2/\R'=aS b r p c++(.buf q i cap gs 271 9 :: .blk k ((aT r.id).map (λx:Nat=>kT (x:Int))++rest) 3 :: S)/\aV=(λM w=>Φ M w/\dI M w gs ((cW r).take i))/\m=2 - i)
  ⟨⟨_,λM w=>Φ M w/\dI M w [] ((cW r).take 0),_,aL,λw G cx=>gr (Q:=aS b r p c) (T:=.buf none 0 0 [] 271 9 :: .blk k ((aT r.id).map (λx:Nat=>kT (x:Int))++rest) 3 :: S) (mid ((gl (Q:=aS b r p c) (cx.weak (Ψ:=λM w=>Φ M w/\dI M w [] ((cW r).take 0)) λM w h=>⟨h,by rw [List.take_zero];exact dI.nil⟩)).EW 271 9)),0,[],rfl,rfl,Nat.zero_le _,rfl,rfl,rfl⟩,?_⟩
 rintro q i cap iI R1 cG m _ ⟨_,gs,rfl,rfl,hi,rfl,rfl,rfl⟩
 refine Br.intro (λhlt=>?_) (λhge=>λw G cx=>?_)
 .have hlt:i<2:=by have:=eC hlt;omega
  have hio:i<(aT r.id).length:=by omega
  obtain ⟨n,hn⟩:∃ n,(aT r.id)[i]=n:=⟨_,rfl⟩
  have hn3:n<3:=hn ▸ (CM _ (List.getElem_mem hio)).1
  have hfn:=hf n hn3
  have hst:aB (λM w=>Φ M w/\dI M w gs ((cW r).take i)):=aL
  refine ⟨by omega,aU k 0 rfl λw G cx=>⟨n,?_,λw G cx=>?_⟩⟩
  .rw [Int.toNat_natCast,Nat.zero_add]
   refine cx.get 3 rfl ?_
   rw [List.getElem?_append_left (by rw [List.length_map];omega),List.getElem?_map,List.getElem?_eq_getElem hio,hn]
   rfl
  refine I3 (Φ:=λM w=>Φ M w/\dI M w gs ((cW r).take i)) (gl cx) hr.aF n rfl hfn λq2 cap2 w h1 h2 cx=>?_
  have a8I:aB (λM w=>(Φ M w/\dI M w gs ((cW r).take i))/\Sl M w q2 (entriesOf r n).aF):=aL
  refine ⟨_,_,_,_,_,_,_,_,q2,_,cap2,rfl,aS b r p c++(.buf q i cap gs 271 9 :: .blk k ((aT r.id).map (λx:Nat=>kT (x:Int))++rest) 3 :: S),λM w=>(Φ M w/\dI M w gs ((cW r).take i))/\Sl M w q2 (entriesOf r n).aF,a8I,gr cx,λk2 w G cx=>?_⟩
  have jL:Ctx W w (.blk k2 ((entriesOf r n).cells q2 cap2) 271 :: .buf q i cap gs 271 9 :: (aS b r p c++(.blk k ((aT r.id).map (λx:Nat=>kT (x:Int))++rest) 3 :: (S++G)))) (λM w=>(Φ M w/\dI M w gs ((cW r).take i))/\Sl M w q2 (entriesOf r n).aF):=by
   exact cx.perm (List.Perm.cons _ ((List.Perm.of_eq (b9 _ _ _)).trans List.perm_middle))
  obtain ⟨p',cap',w',hrun,_,cx'⟩:=Ctx.Z9 (P:=prog) (ts:=144) (ty:=144) (kb:=#[false,false]) (size:=9) (bytes:=88) jL (by kernel_rfl) (by omega) rfl rfl (by omega) (by omega)
  have wL:aB (λM w=>Φ M w/\dI M w (gs++(entriesOf r n).cells q2 cap2) ((cW r).take (i+1))):=aL
  refine ⟨p',i+1,cap',w',hrun,aS b r p c++(.buf p' (i+1) cap' (gs++(entriesOf r n).cells q2 cap2) 271 9 :: .blk k ((aT r.id).map (λx:Nat=>kT (x:Int))++rest) 3 :: S),λM w=>Φ M w/\dI M w (gs++(entriesOf r n).cells q2 cap2) ((cW r).take (i+1)),wL,gr (mid ((cx'.weak λM w h=>⟨h.1.1,?_⟩))),by unfold aX;omega,_,_,2 - (i+1),wL,λw G cx=>cx,⟨i+1,_,by omega,rfl,by omega,rfl,rfl,rfl⟩,by omega⟩
  have:(cW r).take (i+1)=(cW r).take i++[entriesOf r n]:=by
   rw [List.take_succ_eq_append_getElem (by omega)]
   unfold cW
   rw [List.getElem_map,hn]
  rw [this]
  exact h.1.2.snoc (QI (E4 hr hfn) h1 h2 h.2)
 .have hge:i=2:=by have:=cS hge;omega
  subst hge
  have htk:(cW r).take 2=cW r:=by rw [<-hal,List.take_length]
  have jL:=front (gl cx)
  have h:=jL.tX.2
  rw [htk] at h
  have BK:Ctx W w (.buf q 2 cap gs 271 9 :: (aS b r p c++(.blk k ((aT r.id).map (λx:Nat=>kT (x:Int))++rest) 3 :: S++G))) Φ:=jL.fst
  obtain ⟨WW,hs,_,hcap,hmax⟩:=Ctx.freeze (α:=bR) BK h
  have cx4:=(front (WW.add (Ψ:=λM w=>Sl M w q (cW r)) hs)).drop1
  have:=hK q cap w (by rw [hal];exact hcap) hmax (Ctx.left (F:=G) (Φ:=λM w=>Φ M w/\Sl M w q (cW r)) (gr cx4))
  rw [hal] at this
  exact this
theorem tK {x} (h : -1<=x) (h':x<=1099511627777):aX x:=by unfold aX;omega
theorem E5 {r:dX} (h:r.Ok) {kind to index prev yes} (h1:0<=kind/\kind<=3) (h2 : -1<=to/\to<=2) (h3 : -1<=index/\index<=8000) (h4:0<=prev/\prev<=1099511627776):(⟨kind,r.id,to,r.term,index,prev,0,yes,[]⟩:bR).Ok:=by
 have h5:=h.id
 have h6:=h.mE
 have h7:=h.iW
 exact ⟨tK (by simp only;omega) (by simp only;omega),tK (by simp only;omega) (by simp only;omega),tK (by simp only;omega) (by simp only;omega),tK (by simp only;omega) (by simp only;omega),tK (by simp only;omega) (by simp only;omega),tK (by simp only;omega) (by simp only;omega),tK (by simp only;omega) (by simp only;omega)⟩
theorem aBN {W w S G} {Φ:PW} [aB Φ] {b k r p c m} (cx:Ctx W w (aS b r p c++.blk k (m.cells none 0) 271 :: S++G) Φ) (hm:m.Ok) (hr:m.aF=[]) {K} (hK:I4 W S Φ b r (mW [m]) K) {K2} (hk2:∀ q w',Ctx W w' (aS b r p c++.blk k (m.cells none 0) 271 :: S++G) (λM w=>Φ M w/\Sl M w q [m])->(∀ w G',Ctx W w (aS b r p c++.blk k (m.cells none 0) 271 :: S++G') (λM w=>Φ M w/\Sl M w q [m])->K (WL (mW [m]) none 0 q 1) w)->K2 (.returned (WL (mW [m]) none 0 q 1)) w'):
  aD F.eW #[m.v none 0] w K2:=by
 refine ZI cx m none 0 hm (by rw [hr];exact Nat.le_refl _) (by simp [maxLen]) (λM w h=>by rw [hr];exact Sl.nil) λq w cx=>hk2 q w cx λw G' cx=>?_
 have hst:aB (λM w=>Φ M w/\Sl M w q [m]):=aL
 exact hK.sent (by simp) (by simp [maxLen]) (Ctx.left (F:=G') (lift cx).drop1)
set_option maxHeartbeats 1000000 in
theorem a6C {W w S} {Φ:PW} [aB Φ] {b r p c} (cx:Ctx W w (aS b r p c++S) Φ) (hr:r.Ok) (m q qc) (h1:0<=m.src) (h2:m.src<=2) {K} (hK:I4 W S Φ b (dG r m).1 (dG r m).2 λv w=>K (.returned v) w):aD F.jG #[.pointer (some ⟨b,0,none⟩),m.v q qc] w K:=by
 have hlen:=hr.len
 refine fW (yW b 0 m.kind m.src m.to m.term m.index m.prev m.aE m.yes q m.aF.length qc (J:=K∘.returned) cx ?_)
 refine λ_ _ w G cx=>AA (gl cx) 1 m.src λw cx=>⟨_,_,_,_,_,_,_,_,none,_,0,rfl,aS b r p c++S,Φ,aL,gr cx,λk w G cx=>⟨cx.can 0 rfl (by simp),λw' hw'=>?_⟩⟩
 have jL:Ctx W w' (aS b r p c++.blk k ((rI r 1 m.src).cells none 0) 271 :: S++G) Φ:=sink (cx.F6 0 hw' rfl)
 refine ⟨_,Φ,aL,jL,λw G cx=>⟨p,r.log.length,c,cx.get 0 rfl rfl,λw G cx=>ZH (gl cx) rfl (Nat.le_refl _) hlen λw cx=>⟨_,rfl,_,Φ,aL,gr cx,λw G cx=>⟨p,r.log.length,c,λ_=>cx.get 0 rfl rfl,λw G cx=>⟨r.term,cx.get 0 rfl rfl,r.aQ,λ_=>cx.get 0 rfl rfl,r.aQ,λ_=>cx.get 0 rfl rfl,Br.intro (λh=>?_) (λh=>?_)⟩⟩⟩⟩⟩
 .have hv:dG r m=({ r with aQ:=m.src },mW [⟨1,r.id,m.src,r.term,0,0,0,true,[]⟩]):=by unfold dG TF;rw [if_pos h]
  rw [hv] at hK
  refine ⟨[],λ_ _=>True,aL,λw G cx=>(cx.weak λ_ _ _=>trivial).right,λw G cx=>⟨cx.can 2 rfl (by simp),λw' hw'=>?_⟩⟩
  have jL:Ctx W w' (aS b r p c++.blk k ((⟨1,r.id,m.src,r.term,0,0,0,true,[]⟩:bR).cells none 0) 271 :: S++G) Φ:=cx.put 2 hw' rfl
  refine ⟨_,Φ,aL,jL,λw G cx=>(cx.weak λ_ _ _=>trivial).right,λw G cx=>⟨cx.can 0 rfl (by simp),λw' hw'=>?_⟩⟩
  have jL:Ctx W w' (aS b { r with aQ:=m.src } p c++.blk k ((⟨1,r.id,m.src,r.term,0,0,0,true,[]⟩:bR).cells none 0) 271 :: S++G) Φ:=gr (lU (gl cx) hw' { r with aQ:=m.src } rfl rfl)
  refine ⟨_,Φ,aL,jL,λw G cx=>⟨_,_,_,_,_,_,_,_,none,_,0,cx.DB 2 rfl,λw G cx=>?_⟩⟩
  refine aBN cx (E5 hr (by omega) (by omega) (by omega) (by omega)) rfl hK λq w cx zF=>⟨_,_,_,_,none,_,0,q,_,1,rfl,_,_,aL,cx,λw G cx=>zF w G cx⟩
 .have hv:dG r m=(r,mW [rI r 1 m.src]):=by unfold dG TF;rw [if_neg (by rw [h];simp)]
  rw [hv] at hK
  refine λw G cx=>⟨_,_,_,_,_,_,_,_,none,_,0,cx.DB 2 rfl,λw G cx=>?_⟩
  refine aBN cx (E5 hr (by omega) (by omega) (by omega) (by omega)) rfl hK λq w cx zF=>⟨_,_,_,_,none,_,0,q,_,1,rfl,_,_,aL,cx,λw G cx=>zF w G cx⟩
def oZ (r:dX):dX:={ r with term:=r.term+1,aQ:=r.id,role:=1,cN:=λi=>decide (i=r.id) }
theorem JW {r} (h:r.role=2):eG r=(r,mW (cW r)):=by unfold eG;rw [if_pos h]
theorem QJ {r} (h:¬ r.role=2) (h2:r.term=1099511627776):eG r=(r,kR):=by unfold eG;rw [if_neg h,if_pos h2]
theorem QK {r} (h:¬ r.role=2) (h2:¬ r.term=1099511627776):eG r=(oZ r,⟨true,r.term+1,r.id,0,[],(aT r.id).map λi=>uQ (oZ r) i⟩):=by unfold eG;rw [if_neg h,if_neg h2];rfl
theorem a9D {r} (h:r.Ok) (hr:¬ r.role=2) (h2:¬ r.term=1099511627776):(oZ r).Ok:=by
 have h3:=h.mE
 have h4:=h.iW
 have h5:=h.id
 refine ⟨h.id,by show 0<=r.term+1;omega,by show r.term+1<=_;omega,by show -1<=(r.id:Int);omega,by show (r.id:Int)<=2;omega,⟨h.log.lo,λx hx=>?_,h.log.data,h.log.VA⟩,h.len,.inr (.inl rfl),h.aE,λh=>?_,h.bound⟩
 .have:=h.log.hi x hx
  show x.term<=r.term+1
  omega
 .cases (show (1:Int)=2 from h)
theorem a6D {r} (h:r.Ok) (to) (ht:to<3):(uQ r to).Ok:=by
 have h1:=h.bG r.log.length
 have h2:=h.len
 have h4:=h.iW
 exact E5 h (by omega) (by omega) (by omega) (by omega)
set_option maxHeartbeats 2000000 in
theorem aG2 {W w S} {Φ:PW} [aB Φ] {b r p c} (cx:Ctx W w (aS b r p c++S) Φ) (hr:r.Ok) {K} (hK:I4 W S Φ b (eG r).1 (eG r).2 λv w=>K (.returned v) w):aD F.nF #[.pointer (some ⟨b,0,none⟩)] w K:=by
 have hlen:=hr.len
 have hid:=hr.id
 have ht0:=hr.mE
 have htM:=hr.iW
 refine fW (yT b 0 (J:=K∘.returned) cx ?_)
 refine λ_ w G cx=>⟨r.role,cx.get 0 rfl rfl,Br.intro (λh=>λw G cx=>?_) (λh=>λw G cx=>⟨r.term,cx.get 0 rfl rfl,Br.intro (λh2=>λw G cx=>?_) (λh2=>?_)⟩)⟩
 .have h:=eC h
  rw [JW h] at hK
  refine WX (gl cx) hr (λi hi=>hr.fit h hi) λq cap w h1 h2 cx=>⟨q,_,cap,rfl,aS b r p c++S,λM w=>Φ M w/\Sl M w q (cW r),aL,gr cx,λw G cx=>hK.sent h1 h2 (Ctx.left (F:=G) (Φ:=λM w=>Φ M w/\Sl M w q (cW r)) cx)⟩
 .rw [QJ (cS h) (eC h2)] at hK
  exact hK.zero cx.left
 have h:=cS h
 have h2:=cS h2
 rw [QK h h2] at hK
 have hao:=a9D hr h h2
 refine λw G cx=>⟨r.id,cx.get 0 rfl rfl,λw G cx=>⟨r.term,cx.get 0 rfl rfl,by unfold aX;omega,λw G cx=>⟨cx.can 0 rfl (by simp),λw' hw'=>?_⟩⟩⟩
 have jL:=gr (ZK (gl cx) hw' { r with term:=r.term+1,aQ:=r.id } rfl rfl)
 refine ⟨_,Φ,aL,jL,λw G cx=>⟨cx.can 0 rfl (by simp),λw' hw'=>?_⟩⟩
 have jL:=gr (lU (gl cx) hw' { r with term:=r.term+1,aQ:=r.id,role:=1 } rfl rfl)
 refine ⟨_,Φ,aL,jL,λw G cx=>⟨cx.can 0 rfl (by simp),λw' hw'=>?_⟩⟩
 have jL:=gr (ZK (gl cx) hw' { r with term:=r.term+1,aQ:=r.id,role:=1,cN:=λ_=>false } rfl rfl)
 refine ⟨_,Φ,aL,jL,[],λ_ _=>True,aL,λw G cx=>(cx.weak λ_ _ _=>trivial).right,λw G cx=>⟨r.id,cx.get 0 rfl rfl,by omega,λw G cx=>⟨cx.can 0 rfl (by rw [Int.toNat_natCast];simp;omega),λw' hw'=>?_⟩⟩⟩
 have hvo:({ r with term:=r.term+1,aQ:=r.id,role:=1,cN:=put (λ_=>false) r.id true }:dX)=oZ r:=by
  unfold oZ
  congr 1
 rw [Int.toNat_natCast,Nat.zero_add] at hw'
 have jL:=gr (lU (gl cx) hw' { r with term:=r.term+1,aQ:=r.id,role:=1,cN:=put (λ_=>false) r.id true } (a6B (r:={ r with term:=r.term+1,aQ:=r.id,role:=1,cN:=λ_=>false }) true (by omega)) rfl)
 rw [hvo] at jL
 have hal:(aT r.id).length=2:=tJ _
 obtain ⟨sl,kZ⟩:∃ l,(aT r.id).map (λi=>uQ (oZ r) i)=l:=⟨_,rfl⟩
 have aU3:sl.length=2:=by rw [<-kZ,List.length_map,hal]
 rw [kZ] at hK
 refine ⟨_,Φ,aL,jL,λw G cx=>(cx.weak λ_ _ _=>trivial).right,λw G cx=>⟨_,_,cx.row 0 rfl (A8 (vs:=[.int .i64 (r.term+1),.int .i64 r.id]) rfl),λ_ w G cx=>NF (r:=oZ r) hid (gl cx) λk rest w cx=>⟨some ⟨k,0,none⟩,2,3,rfl,aS b (oZ r) p c++.blk k ((aT r.id).map (λx:Nat=>kT (x:Int))++rest) 3 :: S,Φ,aL,gr (Q:=aS b (oZ r) p c) (T:=.blk k ((aT r.id).map (λx:Nat=>kT (x:Int))++rest) 3 :: S) (mid cx),?_⟩⟩⟩
 refine dF (λiI sv tm vt fr rp rn rc q n cap R' aV m=>∃ (i:Nat) (gs:List Value),iI=i/\n=i/\i<=2/\sv=true/\tm=r.term+1/\vt=r.id/\fr=0/\rn=0/\rp=none/\rc=0/\R'=aS b (oZ r) p c++(.buf q i cap gs 271 9 :: .blk k ((aT r.id).map (λx:Nat=>kT (x:Int))++rest) 3 :: S)/\aV=(λM w=>Φ M w/\dI M w gs (sl.take i))/\m=2 - i)
  ⟨⟨_,λM w=>Φ M w/\dI M w [] (sl.take 0),_,aL,λw G cx=>gr (Q:=aS b (oZ r) p c) (T:=.buf none 0 0 [] 271 9 :: .blk k ((aT r.id).map (λx:Nat=>kT (x:Int))++rest) 3 :: S) (mid ((gl (Q:=aS b (oZ r) p c) (cx.weak (Ψ:=λM w=>Φ M w/\dI M w [] (sl.take 0)) λM w h=>⟨h,by rw [List.take_zero];exact dI.nil⟩)).EW 271 9)),0,[],rfl,rfl,Nat.zero_le _,rfl,rfl,rfl,rfl,rfl,rfl,rfl,rfl,rfl,rfl⟩,?_⟩
 rintro iI _ _ _ _ _ _ _ q i cap R1 cG m _ ⟨_,gs,rfl,rfl,hi,rfl,rfl,rfl,rfl,rfl,rfl,rfl,rfl,rfl,rfl⟩
 refine Br.intro (λhlt=>?_) (λhge=>λw G cx=>?_)
 .have hlt:i<2:=by have:=eC hlt;omega
  have hio:i<(aT r.id).length:=by omega
  obtain ⟨n,hn⟩:∃ n,(aT r.id)[i]=n:=⟨_,rfl⟩
  have hn3:n<3:=hn ▸ (CM _ (List.getElem_mem hio)).1
  have hst:aB (λM w=>Φ M w/\dI M w gs (sl.take i)):=aL
  refine ⟨by omega,aU k 0 rfl λw G cx=>⟨n,?_,λw G cx=>?_⟩⟩
  .rw [Int.toNat_natCast,Nat.zero_add]
   refine cx.get 3 rfl ?_
   rw [List.getElem?_append_left (by rw [List.length_map];omega),List.getElem?_map,List.getElem?_eq_getElem hio,hn]
   rfl
  refine AA (Φ:=λM w=>Φ M w/\dI M w gs (sl.take i)) (gl cx) 0 n λw cx=>⟨_,_,_,_,_,_,_,_,none,_,0,rfl,_,_,hst,gr cx,λk2 w G cx=>⟨cx.can 0 rfl (by simp),λw' hw'=>?_⟩⟩
  have jL:Ctx W w' (aS b (oZ r) p c++.blk k2 ((rI (oZ r) 0 n).cells none 0) 271 :: (.buf q i cap gs 271 9 :: .blk k ((aT r.id).map (λx:Nat=>kT (x:Int))++rest) 3 :: S)++G) (λM w=>Φ M w/\dI M w gs (sl.take i)):=sink (cx.F6 0 hw' rfl)
  refine ⟨_,_,hst,jL,aS b (oZ r) p c,λ_ _=>True,aL,λw G cx=>aGX cx,p,r.log.length,c,λw G cx=>⟨p,r.log.length,c,cx.get 0 rfl rfl,rfl⟩,p,r.log.length,c,λw G cx=>⟨p,r.log.length,c,cx.get 0 rfl rfl,rfl⟩,λw G cx=>ZH (gl cx) rfl (Nat.le_refl _) hlen λw cx=>⟨_,rfl,aS b (oZ r) p c++.blk k2 ((rI (oZ r) 0 n).cells none 0) 271 :: (.buf q i cap gs 271 9 :: .blk k ((aT r.id).map (λx:Nat=>kT (x:Int))++rest) 3 :: S),λM w=>Φ M w/\dI M w gs (sl.take i),hst,gr cx,λw G cx=>aGX cx,λw G cx=>⟨cx.can 2 rfl (by simp),λw' hw'=>?_⟩⟩⟩
  have jL:Ctx W w' (aS b (oZ r) p c++.blk k2 ((⟨0,r.id,n,r.term+1,r.log.length,0,0,false,[]⟩:bR).cells none 0) 271 :: (.buf q i cap gs 271 9 :: .blk k ((aT r.id).map (λx:Nat=>kT (x:Int))++rest) 3 :: S)++G) (λM w=>Φ M w/\dI M w gs (sl.take i)):=cx.put 2 hw' rfl
  refine ⟨_,_,hst,jL,λw G cx=>aGX cx,λw G cx=>⟨cx.can 2 rfl (by simp),λw' hw'=>?_⟩⟩
  have jL:Ctx W w' (aS b (oZ r) p c++.blk k2 ((uQ (oZ r) n).cells none 0) 271 :: (.buf q i cap gs 271 9 :: .blk k ((aT r.id).map (λx:Nat=>kT (x:Int))++rest) 3 :: S)++G) (λM w=>Φ M w/\dI M w gs (sl.take i)):=cx.put 2 hw' rfl
  refine ⟨_,_,hst,jL,λw G cx=>⟨_,_,_,_,_,_,_,_,none,_,0,cx.DB 2 rfl,λk3 w G cx=>?_⟩⟩
  have jL:Ctx W w (.blk k3 ((uQ (oZ r) n).cells none 0) 271 :: .buf q i cap gs 271 9 :: (aS b (oZ r) p c++(.blk k2 ((uQ (oZ r) n).cells none 0) 271 :: (.blk k ((aT r.id).map (λx:Nat=>kT (x:Int))++rest) 3 :: S))++G)) (λM w=>Φ M w/\dI M w gs (sl.take i)):=by
   refine cx.perm (List.Perm.cons _ ?_)
   exact (List.Perm.append_right G (List.Perm.append_left _ (List.Perm.swap _ _ _))).trans (List.Perm.append_right G List.perm_middle)
  obtain ⟨p',cap',w',hrun,_,cx'⟩:=Ctx.Z9 (P:=prog) (ts:=144) (ty:=144) (kb:=#[false,false]) (size:=9) (bytes:=88) jL (by kernel_rfl) (by omega) rfl rfl (by omega) (by omega)
  have wL:aB (λM w=>Φ M w/\dI M w (gs++(uQ (oZ r) n).cells none 0) (sl.take (i+1))):=aL
  have htk:sl.take (i+1)=sl.take i++[uQ (oZ r) n]:=by
   rw [List.take_succ_eq_append_getElem (by omega)]
   exact congrArg (λy=>sl.take i++[y]) (by simp only [<-kZ,List.getElem_map,hn])
  have BK:=(front (gl (Q:=.buf p' (i+1) cap' (gs++(uQ (oZ r) n).cells none 0) 271 9 :: aS b (oZ r) p c) (T:=.blk k2 ((uQ (oZ r) n).cells none 0) 271 :: (.blk k ((aT r.id).map (λx:Nat=>kT (x:Int))++rest) 3 :: S)) cx')).drop1
  refine ⟨p',i+1,cap',w',hrun,aS b (oZ r) p c++(.buf p' (i+1) cap' (gs++(uQ (oZ r) n).cells none 0) 271 9 :: .blk k ((aT r.id).map (λx:Nat=>kT (x:Int))++rest) 3 :: S),λM w=>Φ M w/\dI M w (gs++(uQ (oZ r) n).cells none 0) (sl.take (i+1)),wL,gr (mid (BK.weak λM w h=>⟨h.1,?_⟩)),by unfold aX;omega,_,_,2 - (i+1),wL,λw G cx=>cx,⟨i+1,_,by omega,rfl,by omega,rfl,rfl,rfl,rfl,rfl,rfl,rfl,rfl,rfl,rfl⟩,by omega⟩
  rw [htk]
  exact h.2.snoc (QI (a6D hao n hn3) (Nat.le_refl _) (by simp [maxLen]) Sl.nil)
 .have hge:i=2:=by have:=cS hge;omega
  subst hge
  have htk:sl.take 2=sl:=by rw [<-aU3,List.take_length]
  have jL:=front (gl cx)
  have h:=jL.tX.2
  rw [htk] at h
  have BK:Ctx W w (.buf q 2 cap gs 271 9 :: (aS b (oZ r) p c++(.blk k ((aT r.id).map (λx:Nat=>kT (x:Int))++rest) 3 :: S++G))) Φ:=jL.fst
  obtain ⟨WW,hs,_,hcap,hmax⟩:=Ctx.freeze (α:=bR) BK h
  have cx4:=(front (WW.add (Ψ:=λM w=>Sl M w q sl) hs)).drop1
  have:=hK p c none 0 q cap w (Nat.le_refl _) (by simp [maxLen]) (by show sl.length<=cap;omega) hmax ((Ctx.left (F:=G) (Φ:=λM w=>Φ M w/\Sl M w q sl) (gr cx4)).weak λM w h=>⟨h.1,Sl.nil,h.2⟩)
  unfold WL at this
  simp only at this
  rw [aU3] at this
  exact this
theorem a6E (l:List bQ) (i) (hi:i<l.length) (least most):pV (l.drop i) least most=if (decide (l[i].term<least)||decide (most<l[i].term)||decide (2000<(l[i].data.size:Int)))=true then false else pV (l.drop (i+1)) l[i].term most:=by
 rw [List.drop_eq_getElem_cons hi];rfl
theorem a6F {Φ:PW} [aB Φ] (p cap l least most) (o9:∀ M w,Φ M w->Sl M w p l) (hlen:l.length<=9223372036854775807):
  bY Φ prog F.u7 #[.slice p l.length cap,.int .i64 least,.int .i64 most] (.bool (pV l least most)):=by
 refine .there (λM w h=>(o9 M w h).there) λhth=>?_
 refine iD (MS p l.length cap least most) λW R=>?_
 refine dF (λle n R' aV k=>∃ i:Nat,n=i/\i<=l.length/\R'=R/\aV=Φ/\k=l.length - i/\pV l least most=pV (l.drop i) le most) ⟨⟨R,Φ,_,aL,λw F c=>c,0,rfl,Nat.zero_le _,rfl,rfl,rfl,rfl⟩,?_⟩
 rintro le n R1 cG k _ ⟨i,rfl,hi,rfl,rfl,rfl,hs⟩
 refine Br.intro (λhlt=>?_) (λhge=>λw F cx=>⟨?_,cx.left⟩)
 .have hlt:i<l.length:=by simpa using hlt
  obtain ⟨b,o,rfl⟩:=hth (by omega)
  rw [a6E l i hlt] at hs
  refine ⟨by omega,aU b o rfl λw F cx=>⟨l[i].term,l[i].data,by rw [Int.toNat_natCast];exact TG (o9 _ _ cx.tX) hlt,λ_ w F cx=>Br.intro (λh=>λw F cx=>⟨?_,cx.left⟩) (λh=>⟨by unfold aX;omega,R1,cG,l.length - (i+1),aL,λw F c=>c,⟨i+1,rfl,hlt,rfl,rfl,rfl,?_⟩,by omega⟩)⟩⟩
  .rw [hs,if_pos h]
  .rw [hs,if_neg (by rw [h];simp)]
 .have hge:i=l.length:=Nat.le_antisymm hi (by simpa using hge)
  rw [hs,hge,List.drop_length]
  rfl
theorem aDq {W w S} {Φ:PW} [aB Φ] {b r p c} (cx:Ctx W w (aS b r p c++S) Φ) (m q qc) (kZ:∀ M w,Φ M w->Sl M w q m.aF) (hlen:m.aF.length<=9223372036854775807) (hix:aX m.index) {K} (hK:∀ w',Ctx W w' (aS b r p c++S) Φ->K (.returned (.bool (iT r.id m))) w'):aD F.mL #[.pointer (some ⟨b,0,none⟩),m.v q qc] w K:=by
 refine fW (xQ b 0 m.kind m.src m.to m.term m.index m.prev m.aE m.yes q m.aF.length qc (J:=K∘.returned) cx ?_)
 have hfalse:∀ {w:World} {G:List Own},iT r.id m=false->Ctx W w (aS b r p c++S++G) Φ->K (.returned (.bool false)) w:=fun {w G} h cx=>by
  have:=hK w cx.left
  rw [h] at this
  exact this
 refine λ_ w G cx=>⟨_,λw' hw=>(nW m.kind 0 3).atN hw,r.id,λ_=>cx.get 0 rfl rfl,r.id,λ_=>cx.get 0 rfl rfl,_,λ_ w' hw=>(nW m.src 0 2).atN hw,Br.intro (λh=>λw G cx=>?_) (λh1=>λw G cx=>?_)⟩
 .refine hfalse ?_ cx
  rw [Bool.eq_false_iff]
  intro hr
  unfold iT at hr
  simp only [Bool.and_eq_true,Bool.or_eq_true,decide_eq_true_eq,Bool.not_eq_true',Bool.and_eq_false_iff,decide_eq_false_iff_not] at hr h
  omega
 refine ⟨_,λw' hw=>(nW m.term 1 1099511627776).at hw,_,λ_ w' hw=>(nW m.index 0 4000).at hw,_,λ_ w' hw=>(nW m.prev 0 m.term).at hw,Br.intro (λh=>λw G cx=>?_) (λh2=>λw G cx=>?_)⟩
 .refine hfalse ?_ cx
  rw [Bool.eq_false_iff]
  intro hr
  unfold iT at hr
  simp only [Bool.and_eq_true,Bool.or_eq_true,decide_eq_true_eq,Bool.not_eq_true',Bool.and_eq_false_iff,decide_eq_false_iff_not] at hr h
  omega
 refine ((nW m.aE 0 4000).a2m).use (gl cx) λw cx=>⟨_,rfl,aS b r p c++S,Φ,aL,gr cx,Br.intro (λh3=>Br.intro (λh4=>?_) (λh=>λw G cx=>?_)) (λh=>λw G cx=>?_)⟩
 .simp only [Bool.and_eq_true,Bool.or_eq_true,decide_eq_true_eq,Bool.or_eq_false_iff,Bool.not_eq_false',Bool.and_eq_false_iff,decide_eq_false_iff_not] at h1 h2 h3 h4
  refine ⟨by unfold aX;omega,Br.intro (λh5=>λw G cx=>?_) (λh=>λw G cx=>?_)⟩
  .have h5:=eC h5
   refine (a6F q qc m.aF (max 1 m.prev) m.term kZ hlen).use (gl cx) λw cx=>⟨_,rfl,aS b r p c++S,Φ,aL,gr cx,λw G cx=>?_⟩
   have:=hK w cx.left
   have hr:iT r.id m=pV m.aF (max 1 m.prev) m.term:=by
    unfold iT
    have hz:(!(decide (m.index=0)&&decide (m.prev≠0)))=true:=by
     simp only [Bool.not_eq_true',Bool.and_eq_false_iff,decide_eq_false_iff_not]
     omega
    rw [hz,decide_eq_true (show 0<=m.kind by omega),decide_eq_true (show m.kind<=3 by omega),decide_eq_true (show m.to=r.id by omega),decide_eq_true (show m.src≠r.id by omega),decide_eq_true (show 0<=m.src by omega),decide_eq_true (show m.src<=2 by omega),
     decide_eq_true (show 1<=m.term by omega),decide_eq_true (show m.term<=1099511627776 by omega),decide_eq_true (show 0<=m.index by omega),decide_eq_true (show m.index<=4000 by omega),decide_eq_true (show 0<=m.prev by omega),decide_eq_true (show m.prev<=m.term by omega),
     decide_eq_true (show 0<=m.aE by omega),decide_eq_true (show m.aE<=4000 by omega),decide_eq_true h4,decide_eq_true h5]
    rfl
   rw [hr] at this
   exact this
  .refine hfalse ?_ cx
   rw [Bool.eq_false_iff]
   intro hr
   unfold iT at hr
   simp only [Bool.and_eq_true,decide_eq_true_eq,decide_eq_false_iff_not] at hr h
   omega
 .refine hfalse ?_ cx
  rw [Bool.eq_false_iff]
  intro hr
  unfold iT at hr
  simp only [Bool.and_eq_true,decide_eq_true_eq,decide_eq_false_iff_not] at hr h
  omega
 .refine hfalse ?_ cx
  rw [Bool.eq_false_iff]
  intro hr
  unfold iT at hr
  simp only [Bool.and_eq_true,decide_eq_true_eq,Bool.and_eq_false_iff,decide_eq_false_iff_not] at hr h
  omega
def NH (id term aQ:Int) (l:List bQ):Bool:=decide (0<=id)&&decide (id<=2)&&decide (0<=term)&&decide (term<=1099511627776)&&decide (-1<=aQ)&&decide (aQ<=2)&&decide ((l.length:Int)<=4000)&&pV l 1 term
theorem aK0 {W w S} {Φ:PW} [aB Φ] (cx:Ctx W w S Φ) (id term aQ l q qc) (kZ:∀ M w,Φ M w->Sl M w q l) (hlen:l.length<=9223372036854775807) {K} (h0:NH id term aQ l=false->∀ w',Ctx W w' S Φ->K (.returned (.pointer none)) w') (h1:NH id term aQ l=true->∀ b p c w',Ctx W w' (aS b (dR id.toNat term aQ l) p c++S) Φ->K (.returned (.pointer (some ⟨b,0,none⟩))) w'):aD F.GM #[.int .i64 id,.agg #[.int .i64 term,.int .i64 aQ],.slice q l.length qc] w K:=by
 refine fW (SM id term aQ q l.length qc (J:=K∘.returned) cx ?_)
 have hf:∀ {w:World} {G:List Own},NH id term aQ l=false->Ctx W w (S++G) Φ->K (.returned (.pointer none)) w:=λh cx=>h0 h _ cx.left
 refine λ_ w G cx=>(nW id 0 2).a2m.use cx λw cx=>⟨_,rfl,S,Φ,aL,cx,Br.intro (λh=>λw G cx=>hf ?_ cx) (λhb1=>λw G cx=>(nW term 0 1099511627776).a2m.use cx λw cx=>⟨_,rfl,S,Φ,aL,cx,Br.intro (λh=>λw G cx=>hf ?_ cx) (λhb2=>λw G cx=>(nW aQ (-1) 2).a2m.use cx λw cx=>⟨_,rfl,S,Φ,aL,cx,Br.intro (λh=>λw G cx=>hf ?_ cx) (λhb3=>Br.intro (λh=>λw G cx=>hf ?_ cx) (λhb4=>λw G cx=>(a6F q qc l 1 term kZ hlen).use cx λw cx=>⟨_,rfl,S,Φ,aL,cx,Br.intro (λh=>λw G cx=>hf ?_ cx) (λhb5=>?_)⟩))⟩)⟩)⟩
 .unfold NH
  rw [Bool.eq_false_iff];intro hr
  simp only [Bool.and_eq_true,decide_eq_true_eq,Bool.not_eq_true',Bool.and_eq_false_iff,decide_eq_false_iff_not] at hr h
  omega
 .unfold NH
  rw [Bool.eq_false_iff];intro hr
  simp only [Bool.and_eq_true,decide_eq_true_eq,Bool.not_eq_true',Bool.and_eq_false_iff,decide_eq_false_iff_not] at hr h
  omega
 .unfold NH
  rw [Bool.eq_false_iff];intro hr
  simp only [Bool.and_eq_true,decide_eq_true_eq,Bool.not_eq_true',Bool.and_eq_false_iff,decide_eq_false_iff_not] at hr h
  omega
 .unfold NH
  rw [Bool.eq_false_iff];intro hr
  simp only [Bool.and_eq_true,decide_eq_true_eq] at hr h
  omega
 .unfold NH
  rw [show pV l 1 term=false by simpa using h,Bool.and_false]
 .simp only [Bool.not_eq_false',Bool.and_eq_true,decide_eq_true_eq,decide_eq_false_iff_not] at hb1 hb2 hb3 hb4 hb5
  have hn:NH id term aQ l=true:=by
   unfold NH
   rw [hb5,Bool.and_true]
   simp only [Bool.and_eq_true,decide_eq_true_eq]
   omega
  refine ⟨[],λ_ _=>True,aL,λw G cx=>(cx.weak λ_ _ _=>trivial).right,λw G cx=>y4 cx kZ (by omega) λp cap w cx=>⟨p,_,cap,rfl,.buf p l.length cap (aY l) 216 2 :: S,Φ,aL,cx,λw G cx=>(cx.weak λ_ _ _=>trivial).right,λk=>⟨λw G cx=>(cx.weak λ_ _ _=>trivial).right,λw G cx=>?_⟩⟩⟩
  have hid:id=(id.toNat:Nat):=by omega
  refine h1 hn k p cap w ?_
  have:=cx.left
  rw [hid] at this
  exact this
theorem IA {r m} (h:(decide (r.role≠1)||decide (m.term≠r.term) || !m.yes)=true):cU r m=(r,kR):=by unfold cU;rw [if_pos h]
def gR (r:dX) (m:bR):dX:={ r with cN:=put r.cN m.src.toNat true }
def QL (r:dX) (m:bR):dX:={ gR r m with role:=2,next:=λ_=>r.log.length+1,fZ:=λ_=>0 }
theorem CN {r m} (h:(decide (r.role≠1)||decide (m.term≠r.term) || !m.yes)=false) (h2:pW (gR r m).cN<2):cU r m=(gR r m,kR):=by
 unfold cU;rw [if_neg (by rw [h];simp)];show (if pW (gR r m).cN<2 then _ else _)=_;rw [if_pos h2];rfl
theorem y5 {r m} (h:(decide (r.role≠1)||decide (m.term≠r.term) || !m.yes)=false) (h2:¬ pW (gR r m).cN<2):cU r m=(QL r m,mW (cW (QL r m))):=by
 unfold cU;rw [if_neg (by rw [h];simp)];show (if pW (gR r m).cN<2 then _ else _)=_;rw [if_neg h2];rfl
theorem a4i {r} (h:r.Ok) (m):(QL r m).Ok:=by
 have h1:=h.len
 exact ⟨h.id,h.mE,h.iW,h.xZ,h.y3,h.log,h.len,.inr (.inr rfl),h.aE,λ_ i=>⟨by show 1<=r.log.length+1;omega,Nat.le_refl _,Nat.zero_le _⟩,λi=>⟨by show r.log.length+1<=4001;omega,by show 0<=4000;omega⟩⟩
def wV (v:Nat->Bool):Nat->Nat
 | 0=>0
 | k+1=>wV v k+b2n (v k)
theorem QM (v i):wV v (i+1)=wV v i+b2n (v i):=rfl
set_option maxHeartbeats 1000000 in
theorem a2s {W w S} {Φ:PW} [aB Φ] {b r p c} (cx:Ctx W w (aS b r p c++S) Φ) (hr:r.Ok) (m q qc) (h1:0<=m.src) (h2:m.src<=2) {K} (hK:I4 W S Φ b (cU r m).1 (cU r m).2 λv w=>K (.returned v) w):aD F.iV #[.pointer (some ⟨b,0,none⟩),m.v q qc] w K:=by
  have hlen:=hr.len
  refine fW (xU b 0 m.kind m.src m.to m.term m.index m.prev m.aE m.yes q m.aF.length qc (J:=K∘.returned) cx ?_)
  refine λ_ _ w G cx=>⟨r.role,cx.get 0 rfl rfl,r.term,λ_=>cx.get 0 rfl rfl,Br.intro (λh=>λw G cx=>?_) (λh=>?_)⟩
  · rw [IA h] at hK
    exact hK.zero cx.left
  refine ⟨[],λ_ _=>True,aL,λw G cx=>(cx.weak λ_ _ _=>trivial).right,by omega,λw G cx=>⟨cx.can 0 rfl (by simp;omega),λw' hw'=>?_⟩⟩
  rw [Nat.zero_add] at hw'
  have jL:Ctx W w' (aS b (gR r m) p c++S++G) Φ:=gr (lU (gl cx) hw' (gR r m) (a6B (r:=r) true (by omega)) rfl)
  refine ⟨_,Φ,aL,jL,λw G cx=>(cx.weak λ_ _ _=>trivial).right,λw G cx=>⟨(gR r m).cN 0,(gR r m).cN 1,(gR r m).cN 2,cx.row 0 rfl (A8 (vs:=[.bool ((gR r m).cN 0),.bool ((gR r m).cN 1),.bool ((gR r m).cN 2)]) rfl),?_⟩⟩
  refine dF (λn iI R' aV k=>∃ i:Nat,iI=i/\i<=3/\n=wV (gR r m).cN i/\R'=aS b (gR r m) p c++S/\aV=Φ/\k=3 - i) ⟨⟨_,Φ,_,aL,λw G cx=>cx,0,rfl,Nat.zero_le _,rfl,rfl,rfl,rfl⟩,?_⟩
  rintro n iI R1 cG k _ ⟨i,rfl,hi,rfl,rfl,rfl,rfl⟩
  have hct:wV (gR r m).cN i<=3:=by
    have:∀ j,wV (gR r m).cN j<=j:=by
      intro j
      induction j with
      | zero=>exact Nat.le_refl _
      | succ j ih => unfold wV; have : b2n ((gR r m).cN j) <= 1 := by unfold b2n; split <;> omega
                     omega
    have:=this i;omega
  refine Br.intro (λhlt=>?_) (λhge=>?_)
  · have hlt:i<3:=by have:=eC hlt;omega
    refine ⟨(gR r m).cN i,⟨by omega,by omega,?_⟩,Br.intro (λhv=>⟨by unfold aX;omega,by unfold aX;omega,_,cG,3 - (i+1),aL,λw G cx=>cx,⟨i+1,rfl,by omega,?_,rfl,rfl,rfl⟩,by omega⟩) (λhv=>⟨by unfold aX;omega,_,cG,3 - (i+1),aL,λw G cx=>cx,⟨i+1,rfl,by omega,?_,rfl,rfl,rfl⟩,by omega⟩)⟩
    · match i,hlt with
      | 0,_=>rfl
      | 1,_=>rfl
      | 2,_=>rfl
    · rw [QM,hv];simp [b2n]
    · rw [QM,hv];simp [b2n]
  · have hge:i=3:=by have:=cS hge;omega
    subst hge
    have hc3:wV (gR r m).cN 3=pW (gR r m).cN:=by simp [wV,pW]
    rw [hc3]
    refine Br.intro (λh2'=>λw G cx=>?_) (λh2'=>λw G cx=>⟨cx.can 0 rfl (by simp),λw' hw'=>?_⟩)
    · have h2':=eC h2'
      rw [CN h (by omega)] at hK
      exact hK.zero cx.left
    have h2':=cS h2'
    rw [y5 h (by omega)] at hK
    have jL:Ctx W w' (aS b { gR r m with role:=2 } p c++S++G) cG:=gr (lU (gl cx) hw' { gR r m with role:=2 } rfl rfl)
    refine ⟨_,cG,aL,jL,?_⟩
    refine dF (λiI R' aV k=>∃ (i:Nat) (nx mt:Nat->Nat),iI=i/\i<=3/\(∀ j,j<i->nx j=r.log.length+1/\mt j=0)/\R'=aS b { gR r m with role:=2,next:=nx,fZ:=mt } p c++S/\aV=cG/\k=3 - i) ⟨⟨_,cG,_,aL,λw G cx=>cx,0,r.next,r.fZ,rfl,Nat.zero_le _,λj h=>by omega,rfl,rfl,rfl⟩,?_⟩
    rintro iI R2 AP k _ ⟨i,nx,mt,rfl,hi,hnm,rfl,rfl,rfl⟩
    refine Br.intro (λhlt=>?_) (λhge=>λw G cx=>?_)
    · have hlt:i<3:=by have:=eC hlt;omega
      refine ⟨[],λ_ _=>True,aL,λw G cx=>(cx.weak λ_ _ _=>trivial).right,λw G cx=>⟨p,r.log.length,c,cx.get 0 rfl rfl,by unfold aX;omega,by omega,λw G cx=>⟨cx.can 0 rfl (by simp;omega),λw' hw'=>?_⟩⟩⟩
      rw [Nat.zero_add,Int.toNat_natCast,show ((r.log.length:Int)+1)=((r.log.length+1:Nat):Int) by omega] at hw'
      have jL:=gr (lU (gl cx) hw' { gR r m with role:=2,next:=put nx i (r.log.length+1),fZ:=mt } (ZJ (r:={ gR r m with role:=2,next:=nx,fZ:=mt }) (r.log.length+1) hlt) rfl)
      refine ⟨_,AP,aL,jL,λw G cx=>(cx.weak λ_ _ _=>trivial).right,by omega,λw G cx=>⟨cx.can 0 rfl (by simp;omega),λw' hw'=>?_⟩⟩
      rw [Nat.zero_add,Int.toNat_natCast] at hw'
      have jL:=gr (lU (gl cx) hw' { gR r m with role:=2,next:=put nx i (r.log.length+1),fZ:=put mt i 0 } (aBM (r:={ gR r m with role:=2,next:=put nx i (r.log.length+1),fZ:=mt }) 0 hlt) rfl)
      refine ⟨_,AP,aL,jL,λw G cx=>(cx.weak λ_ _ _=>trivial).right,by unfold aX;omega,_,AP,3 - (i+1),aL,λw G cx=>cx,⟨i+1,put nx i (r.log.length+1),put mt i 0,rfl,by omega,λj hj=>?_,rfl,rfl,rfl⟩,by omega⟩
      unfold put
      by_cases hji:j=i
      · rw [if_pos hji,if_pos hji];exact ⟨rfl,rfl⟩
      · rw [if_neg hji,if_neg hji];exact hnm j (by omega)
    · have hge:i=3:=by have:=cS hge;omega
      subst hge
      have hcells:({ gR r m with role:=2,next:=nx,fZ:=mt }:dX).cells p c=(QL r m).cells p c:=by
        simp only [dX.cells,QL,(hnm 0 (by omega)).1,(hnm 1 (by omega)).1,(hnm 2 (by omega)).1,(hnm 0 (by omega)).2,(hnm 1 (by omega)).2,(hnm 2 (by omega)).2]
      have jL:Ctx W w (aS b (QL r m) p c++(S++G)) AP:=by
        have:=gl cx
        unfold aS at this
        rw [hcells] at this
        exact this
      have hlo:=a4i hr m
      exact WX jL hlo (λi hi=>hlo.fit rfl hi) λq cap w h1 h2 cx=>⟨q,_,cap,rfl,aS b (QL r m) p c++S,λM w=>AP M w/\Sl M w q (cW (QL r m)),aL,gr cx,λw G cx=>hK.sent h1 h2 (Ctx.left (F:=G) (Φ:=λM w=>AP M w/\Sl M w q (cW (QL r m))) cx)⟩
def NI (r:dX) (l:List Nat):Nat:=l.foldl (λa i=>max a (r.fZ i)) 0
theorem a6G {r} {l:List Nat} {i} (h:i<l.length):NI r (l.take (i+1))=max (NI r (l.take i)) (r.fZ l[i]):=by
 unfold NI
 rw [List.take_succ_eq_append_getElem h,List.foldl_append]
 rfl
theorem a2t {r n} (h:∀ i,r.fZ i<=n) (l):NI r l<=n:=by
 have:∀ (l:List Nat) (a:Nat),a<=n->l.foldl (λa i=>max a (r.fZ i)) a<=n:=by
  intro l
  induction l with
  | nil=>intro a h;exact h
  | cons x l ih=>intro a ha;exact ih _ (Nat.max_le.2 ⟨ha,h x⟩)
 exact this l 0 (Nat.zero_le _)
set_option maxHeartbeats 1000000 in
theorem a6H {W w S} {Φ:PW} [aB Φ] {b r p c} (cx:Ctx W w (aS b r p c++S) Φ) (hid:r.id<=2) (hlen:r.log.length<=4000) (hm:∀ i,r.fZ i<=r.log.length) {K} (hK:∀ w',Ctx W w' (aS b (bA r) p c++S) Φ->K (.returned (.tuple #[])) w'):aD F.kQ #[.pointer (some ⟨b,0,none⟩)] w K:=by
 have hol:=tJ r.id
 refine fW (vP b 0 (J:=K∘.returned) cx ?_)
 refine λw G cx=>NF hid (gl cx) λk rest w cx=>⟨some ⟨k,0,none⟩,2,3,rfl,aS b r p c++(.blk k ((aT r.id).map (λx:Nat=>kT (x:Int))++rest) 3 :: S),Φ,aL,gr (Q:=aS b r p c) (T:=.blk k ((aT r.id).map (λx:Nat=>kT (x:Int))++rest) 3 :: S) (mid cx),?_⟩
 refine dF (λn iI R' aV m=>∃ i:Nat,iI=i/\i<=2/\n=NI r ((aT r.id).take i)/\R'=aS b r p c++(.blk k ((aT r.id).map (λx:Nat=>kT (x:Int))++rest) 3 :: S)/\aV=Φ/\m=2 - i) ⟨⟨_,Φ,_,aL,λw G cx=>cx,0,rfl,Nat.zero_le _,rfl,rfl,rfl,rfl⟩,?_⟩
 rintro n iI R1 cG m _ ⟨i,rfl,hi,rfl,rfl,rfl,rfl⟩
 refine Br.intro (λhlt=>?_) (λhge=>λw G cx=>?_)
 .have hlt:i<2:=by have:=eC hlt;omega
  have hio:i<(aT r.id).length:=by omega
  have hn3:=(CM _ (List.getElem_mem hio)).1
  refine ⟨by omega,aU k 0 rfl λw G cx=>⟨((aT r.id)[i]:Nat),?_,by omega,λw G cx=>⟨(r.fZ (aT r.id)[i]:Nat),?_,by unfold aX;omega,_,cG,2 - (i+1),aL,λw G cx=>cx,⟨i+1,rfl,by omega,?_,rfl,rfl,rfl⟩,by omega⟩⟩⟩
  .rw [Int.toNat_natCast,Nat.zero_add]
   refine cx.get 2 rfl ?_
   rw [List.getElem?_append_left (by rw [List.length_map];omega),List.getElem?_map,List.getElem?_eq_getElem hio]
   rfl
  .rw [Int.toNat_natCast,Nat.zero_add]
   exact cx.get 0 rfl (JV hn3)
  .rw [a6G hio];omega
 .have hge:i=2:=by have:=cS hge;omega
  subst hge
  have htk:(aT r.id).take 2=aT r.id:=by rw [<-hol,List.take_length]
  rw [htk]
  have hml:=a2t hm (aT r.id)
  have zF:∀ {w:World} {G:List Own} {r':dX},Ctx W w (aS b r' p c++(.blk k ((aT r.id).map (λx:Nat=>kT (x:Int))++rest) 3 :: S)++G) cG->Ctx W w (aS b r' p c++S) cG:=λcx=>(front cx.left).drop1
  refine ⟨r.aE,cx.get 0 rfl rfl,_,λ_ w' hw=>a4f (E3 (gl cx)) rfl hml hlen hw,r.term,λ_=>cx.get 0 rfl rfl,Br.intro (λh=>λw G cx=>⟨cx.can 0 rfl (by simp),λw' hw'=>?_⟩) (λh=>λw G cx=>?_)⟩
  .have ha:bA r={ r with aE:=BE r }:=by
    unfold bA
    rw [if_pos]
    simp only [Bool.and_eq_true,decide_eq_true_eq] at h ⊢
    exact ⟨by have:=h.1;show r.aE<NI r (aT r.id);omega,h.2⟩
   rw [ha] at hK
   have jL:=gr (lU (gl cx) hw' { r with aE:=BE r } rfl rfl)
   exact ⟨_,cG,aL,jL,λw G cx=>hK w (zF cx)⟩
  .have ha:bA r=r:=by
    unfold bA
    rw [if_neg]
    intro h'
    simp only [Bool.and_eq_true,decide_eq_true_eq,Bool.and_eq_false_iff,decide_eq_false_iff_not] at h h'
    rcases h with h|h
    .have:=h'.1;change r.aE<NI r (aT r.id) at this;omega
    .exact h h'.2
   rw [ha] at hK
   exact hK w (zF cx)
def EX (r:dX) (m:bR):dX:={ r with next:=put r.next m.src.toNat (max (r.fZ m.src.toNat+1) (min (r.next m.src.toNat - 1) (m.index.toNat+1))) }
def rY (r:dX) (m:bR):dX:={ r with fZ:=put r.fZ m.src.toNat (max (r.fZ m.src.toNat) m.index.toNat),next:=put r.next m.src.toNat (max (r.fZ m.src.toNat) m.index.toNat+1) }
theorem uS {r m} (h:(decide (r.role≠2)||decide (m.term≠r.term)||m.yes&&decide ((r.log.length:Int)<m.index))=true):aW r m=(r,kR):=by unfold aW;rw [if_pos h]
theorem pE {r m} (h:(decide (r.role≠2)||decide (m.term≠r.term)||m.yes&&decide ((r.log.length:Int)<m.index))=false) (hy:m.yes=false):aW r m=(EX r m,mW [entriesOf (EX r m) m.src.toNat]):=by
 unfold aW;rw [if_neg (by rw [h];simp)];simp only [hy,if_true];rfl
theorem rJ {r m} (h:(decide (r.role≠2)||decide (m.term≠r.term)||m.yes&&decide ((r.log.length:Int)<m.index))=false) (hy:m.yes=true):
  aW r m=if max (r.fZ m.src.toNat) m.index.toNat+1<=r.log.length then (bA (rY r m),mW [entriesOf (bA (rY r m)) m.src.toNat]) else (bA (rY r m),kR):=by
 unfold aW;rw [if_neg (by rw [h];simp)];simp only [hy,Bool.true_eq_false,if_false];rfl
theorem aBO {r} (h:r.Ok) (hr:r.role=2) (m):(EX r m).Ok:=by
 have h1:=h.len
 have h2:=h.next hr m.src.toNat
 refine ⟨h.id,h.mE,h.iW,h.xZ,h.y3,h.log,h.len,h.role,h.aE,λ_ i=>?_,λi=>?_⟩
 .have h3:=h.next hr i
  show 1<=put r.next _ _ i/\put r.next _ _ i<=r.log.length+1/\r.fZ i<=r.log.length
  unfold put
  split
  .omega
  .exact h3
 .have h3:=h.next hr i
  show put r.next _ _ i<=4001/\r.fZ i<=4000
  unfold put
  split<;>omega
theorem aG5 {r} (h:r.Ok) (hr:r.role=2) (m) (hm:m.index.toNat<=r.log.length):(rY r m).Ok:=by
 have h1:=h.len
 have h2:=h.next hr m.src.toNat
 refine ⟨h.id,h.mE,h.iW,h.xZ,h.y3,h.log,h.len,h.role,h.aE,λ_ i=>?_,λi=>?_⟩
 .have h3:=h.next hr i
  show 1<=put r.next _ _ i/\put r.next _ _ i<=r.log.length+1/\put r.fZ _ _ i<=r.log.length
  unfold put
  split
  .omega
  .exact h3
 .have h3:=h.next hr i
  show put r.next _ _ i<=4001/\put r.fZ _ _ i<=4000
  unfold put
  split<;>omega
theorem aG6 {r} (h:r.Ok) (hr:r.role=2):(bA r).Ok:=by
 unfold bA
 split
 .refine ⟨h.id,h.mE,h.iW,h.xZ,h.y3,h.log,h.len,h.role,?_,h.next,h.bound⟩
  exact a2t (λi=>(h.next hr i).2.2) (aT r.id)
 .exact h
theorem a4j (r):(bA r).role=r.role/\(bA r).log=r.log/\(bA r).next=r.next/\(bA r).fZ=r.fZ/\(bA r).id=r.id/\(bA r).term=r.term/\(bA r).aQ=r.aQ:=by
 unfold bA
 split<;>exact ⟨rfl,rfl,rfl,rfl,rfl,rfl,rfl⟩
set_option maxHeartbeats 1000000 in
theorem IB {W w S G} {Φ:PW} [aB Φ] {b r p c q cap n} (cx:Ctx W w (aS b r p c++S++G) (λM w=>Φ M w/\Sl M w q (entriesOf r n).aF)) (hm:(entriesOf r n).Ok) (h1:(entriesOf r n).aF.length<=cap) (h2:cap<=maxLen) {K} (hK:I4 W S Φ b r (mW [entriesOf r n]) K) {K2} (hk2:∀ q w',Ctx W w' (aS b r p c++S++G) (λM w=>Φ M w/\Sl M w q [entriesOf r n])->(∀ w G',Ctx W w (aS b r p c++S++G') (λM w=>Φ M w/\Sl M w q [entriesOf r n])->K (WL (mW [entriesOf r n]) none 0 q 1) w)->K2 (.returned (WL (mW [entriesOf r n]) none 0 q 1)) w'):
  aD F.eW #[(entriesOf r n).v q cap] w K2:=by
 have hst:aB (λM w=>Φ M w/\Sl M w q (entriesOf r n).aF):=aL
 refine ZI cx (entriesOf r n) q cap hm h1 h2 (λM w h=>h.2) λq2 w cx=>hk2 q2 w (cx.weak λM w h=>⟨h.1.1,h.2⟩) λw G' cx=>?_
 have hst:aB (λM w=>Φ M w/\Sl M w q2 [entriesOf r n]):=aL
 exact hK.sent (by simp) (by simp [maxLen]) (Ctx.left (F:=G') cx)
set_option maxHeartbeats 1000000 in
theorem QN {W w S} {Φ:PW} [aB Φ] {b r p c} (cx:Ctx W w (aS b r p c++S) Φ) (hr:r.Ok) (m q qc) (h1:0<=m.src) (h2:m.src<=2) (h3:0<=m.index) (h4:m.index<=4000) {K} (hK:I4 W S Φ b (aW r m).1 (aW r m).2 λv w=>K (.returned v) w):aD F.gI #[.pointer (some ⟨b,0,none⟩),m.v q qc] w K:=by
 have hlen:=hr.len
 have hsr:m.src=(m.src.toNat:Nat):=by omega
 have hs3:m.src.toNat<3:=by omega
 refine fW (uK b 0 m.kind m.src m.to m.term m.index m.prev m.aE m.yes q m.aF.length qc (J:=K∘.returned) cx ?_)
 refine λ_ _ w G cx=>⟨r.role,cx.get 0 rfl rfl,r.term,λ_=>cx.get 0 rfl rfl,p,r.log.length,c,λ_=>cx.get 0 rfl rfl,Br.intro (λh=>λw G cx=>?_) (λh=>λw G cx=>⟨by omega,by omega,Br.intro (λhy=>λw G cx=>?_) (λhy=>λw G cx=>?_)⟩)⟩
 .rw [uS h] at hK
  exact hK.zero cx.left
 .have hy:m.yes=false:=by simpa using hy
  rw [pE h hy] at hK
  have cT:r.role=2:=by
   simp only [Bool.or_eq_false_iff,decide_eq_false_iff_not] at h
   exact Decidable.not_not.1 h.1.1
  have hn:=hr.next cT m.src.toNat
  have hbo:=aBO hr cT m
  refine ⟨(r.fZ m.src.toNat:Nat),by rw [Nat.zero_add];exact cx.get 0 rfl (JV hs3),λw G cx=>⟨(r.next m.src.toNat:Nat),by rw [Nat.zero_add];exact cx.get 0 rfl (NG hs3),by unfold aX;omega,by unfold aX;omega,by unfold aX;omega,λw G cx=>⟨cx.can 0 rfl (by simp;omega),λw' hw'=>?_⟩⟩⟩
  have hval:max ((r.fZ m.src.toNat:Int)+1) (min ((r.next m.src.toNat:Int) - 1) (m.index+1))=((max (r.fZ m.src.toNat+1) (min (r.next m.src.toNat - 1) (m.index.toNat+1)):Nat):Int):=by omega
  rw [Nat.zero_add,hval] at hw'
  have jL:Ctx W w' (aS b (EX r m) p c++S++G) Φ:=gr (lU (gl cx) hw' (EX r m) (ZJ (r:=r) _ hs3) rfl)
  refine ⟨_,Φ,aL,jL,λw G cx=>?_⟩
  refine I3 (gl cx) hbo.aF m.src.toNat hsr (hbo.fit cT hs3) λq2 cap2 w g1 g2 cx=>?_
  have hst:aB (λM w=>Φ M w/\Sl M w q2 (entriesOf (EX r m) m.src.toNat).aF):=aL
  refine ⟨_,_,_,_,_,_,_,_,q2,_,cap2,rfl,aS b (EX r m) p c++S,λM w=>Φ M w/\Sl M w q2 (entriesOf (EX r m) m.src.toNat).aF,hst,gr cx,λw G cx=>?_⟩
  refine IB cx (E4 hbo (hbo.fit cT hs3)) g1 g2 hK λq3 w cx zF=>⟨_,_,_,_,none,_,0,q3,_,1,rfl,aS b (EX r m) p c++S,λM w=>Φ M w/\Sl M w q3 [entriesOf (EX r m) m.src.toNat],aL,cx,λw G cx=>zF w G cx⟩
 .have hy:m.yes=true:=by simpa using hy
  rw [rJ h hy] at hK
  simp only [Bool.or_eq_false_iff,decide_eq_false_iff_not,hy,Bool.true_and] at h
  have cT:r.role=2:=Decidable.not_not.1 h.1.1
  have hix:m.index.toNat<=r.log.length:=by have:=h.2;omega
  have hn:=hr.next cT m.src.toNat
  have hfo:=aG5 hr cT m hix
  obtain ⟨e1,e2,e3,e4,e5,e6,e7⟩:=a4j (rY r m)
  have hao:=aG6 hfo cT
  refine ⟨(r.fZ m.src.toNat:Nat),by rw [Nat.zero_add];exact cx.get 0 rfl (JV hs3),λw G cx=>⟨cx.can 0 rfl (by simp;omega),λw' hw'=>?_⟩⟩
  have hval:max (r.fZ m.src.toNat:Int) m.index=((max (r.fZ m.src.toNat) m.index.toNat:Nat):Int):=by omega
  rw [Nat.zero_add,hval] at hw'
  have jL:=gr (lU (gl cx) hw' { r with fZ:=put r.fZ m.src.toNat (max (r.fZ m.src.toNat) m.index.toNat) } (aBM (r:=r) _ hs3) rfl)
  have NJ:({ r with fZ:=put r.fZ m.src.toNat (max (r.fZ m.src.toNat) m.index.toNat) }:dX).fZ m.src.toNat=max (r.fZ m.src.toNat) m.index.toNat:=by simp [put]
  refine ⟨_,Φ,aL,jL,λw G cx=>⟨((max (r.fZ m.src.toNat) m.index.toNat:Nat):Int),?_,by unfold aX;omega,λw G cx=>⟨cx.can 0 rfl (by simp;omega),λw' hw'=>?_⟩⟩⟩
  .rw [Nat.zero_add]
   have:=cx.get 0 rfl (JV (r:={ r with fZ:=put r.fZ m.src.toNat (max (r.fZ m.src.toNat) m.index.toNat) }) (p:=p) (c:=c) hs3)
   rw [NJ] at this
   exact this
  rw [Nat.zero_add,show (((max (r.fZ m.src.toNat) m.index.toNat:Nat):Int)+1)=((max (r.fZ m.src.toNat) m.index.toNat+1:Nat):Int) by omega] at hw'
  have jL:Ctx W w' (aS b (rY r m) p c++S++G) Φ:=gr (lU (gl cx) hw' (rY r m) (ZJ (r:={ r with fZ:=put r.fZ m.src.toNat (max (r.fZ m.src.toNat) m.index.toNat) }) _ hs3) rfl)
  refine ⟨_,Φ,aL,jL,λw G cx=>a6H (gl cx) hr.id hlen (λi=>(hfo.next cT i).2.2) λw cx=>⟨rfl,aS b (bA (rY r m)) p c++S,Φ,aL,gr cx,λw G cx=>⟨((max (r.fZ m.src.toNat) m.index.toNat+1:Nat):Int),?_,p,(bA (rY r m)).log.length,c,cx.get 0 rfl rfl,Br.intro (λhle=>λw G cx=>?_) (λhle=>λw G cx=>?_)⟩⟩⟩
  .rw [Nat.zero_add]
   have:=cx.get 0 rfl (NG (r:=bA (rY r m)) (p:=p) (c:=c) hs3)
   rw [e3] at this
   have e8:(rY r m).next m.src.toNat=max (r.fZ m.src.toNat) m.index.toNat+1:=by simp [rY,put]
   rw [e8] at this
   exact this
  .have hle:=eC hle
   rw [e2] at hle
   have hle:max (r.fZ m.src.toNat) m.index.toNat+1<=r.log.length:=by
    have:(rY r m).log=r.log:=rfl
    rw [this] at hle
    omega
   rw [if_pos hle] at hK
   have hro:(bA (rY r m)).role=2:=by rw [e1];exact cT
   refine I3 (gl cx) hao.aF m.src.toNat hsr (hao.fit hro hs3) λq2 cap2 w g1 g2 cx=>?_
   have hst:aB (λM w=>Φ M w/\Sl M w q2 (entriesOf (bA (rY r m)) m.src.toNat).aF):=aL
   refine ⟨_,_,_,_,_,_,_,_,q2,_,cap2,rfl,aS b (bA (rY r m)) p c++S,λM w=>Φ M w/\Sl M w q2 (entriesOf (bA (rY r m)) m.src.toNat).aF,hst,gr cx,λw G cx=>?_⟩
   refine IB cx (E4 hao (hao.fit hro hs3)) g1 g2 hK λq3 w cx zF=>⟨_,_,_,_,none,_,0,q3,_,1,rfl,aS b (bA (rY r m)) p c++S,λM w=>Φ M w/\Sl M w q3 [entriesOf (bA (rY r m)) m.src.toNat],aL,cx,λw G cx=>zF w G cx⟩
  .have hle:=cS hle
   rw [e2] at hle
   have hle:¬ max (r.fZ m.src.toNat) m.index.toNat+1<=r.log.length:=by
    have:(rY r m).log=r.log:=rfl
    rw [this] at hle
    omega
   rw [if_neg hle] at hK
   exact hK.zero cx.left
abbrev CO:List Value:=[.bool false,.int .i64 0,.int .i64 0,.int .i64 0,.slice none 0 0,.slice none 0 0]
def wB (r:dX) (data:ByteArray):dX:={ r with log:=r.log++[⟨r.term,data⟩] }
theorem AB {r data} (h:r.role≠2):aK r data=(r,0,24,kR):=by unfold aK;rw [if_pos h]
theorem y6 {r data} (h:¬ r.role≠2) (h2:2000<(data.size:Int)):aK r data=(r,0,1,kR):=by unfold aK;rw [if_neg h,if_pos h2]
theorem tL {r data} (h:¬ r.role≠2) (h2:¬ 2000<(data.size:Int)) (h3:r.log.length=4000):aK r data=(r,0,6,kR):=by unfold aK;rw [if_neg h,if_neg h2,if_pos h3]
theorem E6 {r data} (h:¬ r.role≠2) (h2:¬ 2000<(data.size:Int)) (h3:¬ r.log.length=4000):
  aK r data=(wB r data,((r.log.length+1:Nat):Int),0,⟨false,0,0,((r.log.length+1:Nat):Int),[⟨r.term,data⟩],cW (wB r data)⟩):=by unfold aK;rw [if_neg h,if_neg h2,if_neg h3];rfl
theorem a6I {l t x} (h:kS l t) (h1:1<=x.term) (h2:x.term<=t) (h3:x.data.size<=2000) (h4:∀ y∈l,y.term<=x.term):kS (l++[x]) t:=by
 refine ⟨λy hy=>?_,λy hy=>?_,λy hy=>?_,λi j hij hj hi=>?_⟩
 .rcases List.mem_append.1 hy with hy|hy
  .exact h.lo y hy
  .rw [List.mem_singleton.1 hy];exact h1
 .rcases List.mem_append.1 hy with hy|hy
  .exact h.hi y hy
  .rw [List.mem_singleton.1 hy];exact h2
 .rcases List.mem_append.1 hy with hy|hy
  .exact h.data y hy
  .rw [List.mem_singleton.1 hy];exact h3
 .rw [List.length_append,List.length_singleton] at hj hi
  by_cases hjl:j<l.length
  .rw [List.getElem_append_left (by omega),List.getElem_append_left hjl]
   exact h.VA i j hij hjl (by omega)
  .have hj':j=l.length:=by omega
   subst hj'
   rw [List.getElem_append_right (Nat.le_refl _)]
   simp only [Nat.sub_self,List.getElem_cons_zero]
   by_cases hil:i<l.length
   .rw [List.getElem_append_left hil]
    exact h4 _ (List.getElem_mem hil)
   .have:i=l.length:=by omega
    subst this
    rw [List.getElem_append_right (Nat.le_refl _)]
    simp
theorem a6J {r data} (h:r.Ok) (hr:r.role=2) (ht:1<=r.term) (h2:¬ 2000<(data.size:Int)) (h3:¬ r.log.length=4000):(wB r data).Ok:=by
 have hl:=h.len
 have hlen:(wB r data).log.length=r.log.length+1:=by simp [wB]
 refine ⟨h.id,h.mE,h.iW,h.xZ,h.y3,?_,by rw [hlen];omega,h.role,by rw [hlen];have:=h.aE;show r.aE<=_;omega,λ_ i=>?_,λi=>?_⟩
 .exact a6I h.log ht (Int.le_refl _) (by simp only;omega) h.log.hi
 .have:=h.next hr i
  rw [hlen]
  show 1<=r.next i/\r.next i<=r.log.length+1+1/\r.fZ i<=r.log.length+1
  omega
 .exact h.bound i
set_option maxHeartbeats 2000000 in
theorem a6K {W w S} {Φ:PW} [aB Φ] {b r p c} (cx:Ctx W w (aS b r p c++S) Φ) (hr:r.Ok) (ht:r.role=2->1<=r.term) (data) {K} (hK:I4 W S Φ b (aK r data).1 (aK r data).2.2.2 λv w=>K (.returned (.tuple #[.int .i64 (aK r data).2.1,.int .i64 (aK r data).2.2.1,v])) w):aD F.kF #[.pointer (some ⟨b,0,none⟩),.string data] w K:=by
 have hlen:=hr.len
 refine fW (vJ b 0 data (J:=K∘.returned) cx ?_)
 refine λk0 w G cx=>⟨r.role,cx.get 1 rfl rfl,Br.intro (λh=>λw G cx=>⟨cx.can 0 rfl (by simp),λw' hw'=>?_⟩) (λh=>Br.intro (λh2=>λw G cx=>⟨cx.can 0 rfl (by simp),λw' hw'=>?_⟩) (λh2=>λw G cx=>⟨p,r.log.length,c,cx.get 1 rfl rfl,Br.intro (λh3=>λw G cx=>⟨cx.can 0 rfl (by simp),λw' hw'=>?_⟩) (λh3=>λw G cx=>⟨r.term,cx.get 1 rfl rfl,λ_=>?_⟩)⟩))⟩
 .rw [AB (eC h)] at hK
  have jL:Ctx W w' (.blk k0 CO 146 :: (aS b r p c++S)++G) Φ:=cx.F6 0 hw' rfl
  exact ⟨_,Φ,aL,jL,λw G cx=>⟨_,_,_,_,none,_,0,none,_,0,cx.DB 0 rfl,λw G cx=>hK.zero cx.left.drop1⟩⟩
 .rw [y6 (cS h) (eC h2)] at hK
  have jL:Ctx W w' (.blk k0 CO 146 :: (aS b r p c++S)++G) Φ:=cx.F6 0 hw' rfl
  exact ⟨_,Φ,aL,jL,λw G cx=>⟨_,_,_,_,none,_,0,none,_,0,cx.DB 0 rfl,λw G cx=>hK.zero cx.left.drop1⟩⟩
 .rw [tL (cS h) (cS h2) (by have:=eC h3;omega)] at hK
  have jL:Ctx W w' (.blk k0 CO 146 :: (aS b r p c++S)++G) Φ:=cx.F6 0 hw' rfl
  exact ⟨_,Φ,aL,jL,λw G cx=>⟨_,_,_,_,none,_,0,none,_,0,cx.DB 0 rfl,λw G cx=>hK.zero cx.left.drop1⟩⟩
 have h:=cS h
 have h2:=cS h2
 have h3':¬ r.log.length=4000:=λe=>(cS h3) (by omega)
 have cT:r.role=2:=Decidable.not_not.1 h
 rw [E6 h h2 h3'] at hK
 have hpo:=a6J hr cT (ht cT) h2 h3'
 have hpl:(wB r data).log.length=r.log.length+1:=by simp [wB]
 refine ⟨[.blk b (r.cells p c) 278],λ_ _=>True,aL,λw G cx=>(cx.weak λ_ _ _=>trivial).sub (List.Sublist.cons _ (List.Sublist.cons_cons _ (List.Sublist.cons _ (List.sublist_append_right _ _)))),p,r.log.length,c,λw G cx=>⟨p,r.log.length,c,cx.get 0 rfl rfl,rfl⟩,λk1=>⟨λw G cx=>(cx.weak λ_ _ _=>trivial).sub (List.Sublist.cons _ (List.Sublist.cons _ (List.Sublist.cons_cons _ (List.Sublist.cons _ (List.sublist_append_right _ _))))),λw G cx=>?_⟩⟩
 have jL:Ctx W w (.blk k1 [.int .i64 r.term,.string data] 216 :: .buf p r.log.length c (aY r.log) 216 2 :: ([.blk k0 CO 146,.blk b (r.cells p c) 278]++(S++G))) Φ :=
  cx.perm (List.Perm.cons _ (List.perm_middle (l₁:=[Own.blk k0 CO 146,Own.blk b (r.cells p c) 278])))
 obtain ⟨p',cap',w',hrun,_,cx'⟩:=Ctx.Z9 (P:=prog) (ts:=99) (ty:=99) (kb:=#[false,false]) (size:=2) (bytes:=24) jL (by kernel_rfl) (by omega) rfl rfl (by omega) (by omega)
 refine ⟨p',r.log.length+1,cap',w',hrun,.buf p' (r.log.length+1) cap' (aY r.log++[Value.int .i64 r.term,Value.string data]) 216 2 :: .blk k0 CO 146 :: .blk b (r.cells p c) 278 :: S,Φ,aL,cx',λw G cx=>(cx.weak λ_ _ _=>trivial).sub (List.Sublist.cons _ (List.Sublist.cons _ (List.Sublist.cons_cons _ (List.sublist_append_right _ _)))),λw G cx=>⟨cx.can 2 rfl (by simp),λw' hw'=>?_⟩⟩
 have hc:(r.cells p c).set 3 (.slice p' (r.log.length+1) cap')=(wB r data).cells p' cap':=by simp [dX.cells,wB]
 have hb:aY r.log++[.int .i64 r.term,.string data]=aY (wB r data).log:=by
  show _=aY (r.log++[⟨r.term,data⟩])
  rw [QF];rfl
 have jL:Ctx W w' (aS b (wB r data) p' cap'++.blk k0 CO 146 :: S++G) Φ:=by
  have h1:Ctx W w' (.buf p' (r.log.length+1) cap' (aY r.log++[.int .i64 r.term,.string data]) 216 2 :: .blk k0 CO 146 :: .blk b ((r.cells p c).set 3 (.slice p' (r.log.length+1) cap')) 278 :: S++G) Φ:=cx.put 2 hw' rfl
  rw [hc,hb,<-hpl] at h1
  exact h1.perm (List.perm_middle (l₁:=[Own.buf p' (wB r data).log.length cap' (aY (wB r data).log) 216 2,Own.blk k0 CO 146]))
 generalize IC:wB r data=r1 at *
 have hfit:∀ i,i<3->Fit r1 i:=λi hi=>hpo.fit (by rw [<-IC];exact cT) hi
 have hst:∀ q,aB (λM w=>Φ M w/\Sl M w q (cW r1)):=λq=>aL
 have hal:(cW r1).length=2:=by unfold cW;rw [List.length_map,tJ]
 have tail:∀ (k:Nat) (q:Option Addr) (cap:Nat),(cW r1).length<=cap->cap<=maxLen->∀ (w:World) (G:List Own),Ctx W w (.blk k [.int .i64 r.term,.string data] 216 :: (aS b r1 p' cap'++.blk k0 CO 146 :: S)++G) (λM w=>Φ M w/\Sl M w q (cW r1)) ->
   aG w k0 0 6/\∀ w',w'=w.setCells k0 0 [.bool false,.int .i64 0,.int .i64 0,.int .i64 (r1.log.length:Nat),.slice (some (Addr.mk k 0 none)) 1 1,.slice q (cW r1).length cap] ->
    ∃ (R:List Own) (aV:PW),aB aV/\Ctx W w' (R++G) aV/\(∀ (w:World) (F':List Own),Ctx W w (R++F') aV->Ctx W w ([.blk b (r1.cells p' cap') 278]++F') (λ_ _=>True)) /\
     ∀ (w:World) (F':List Own),Ctx W w (R++F') aV->∃ (c1:Bool) (n1 n2 n3:Int) (p1:Option Addr) (k1 k2:Nat) (p2:Option Addr) (k3 k4:Nat),bL w k0 0 [.bool c1,.int .i64 n1,.int .i64 n2,.int .i64 n3,.slice p1 k1 k2,.slice p2 k3 k4] /\
      ∀ (w:World) (F':List Own),Ctx W w (R++F') aV->K (.returned (.tuple #[.int .i64 (r1.log.length:Nat),.int .i64 0,.agg #[.bool c1,.int .i64 n1,.int .i64 n2,.int .i64 n3,.slice p1 k1 k2,.slice p2 k3 k4]])) w:=by
  intro k q cap hcap hmax w G cx
  refine ⟨cx.can 3 rfl (by simp),λw' hw'=>?_⟩
  have BK:=cx.F6 3 hw' rfl
  refine ⟨.blk k [.int .i64 r.term,.string data] 216 :: (aS b r1 p' cap'++.blk k0 [.bool false,.int .i64 0,.int .i64 0,.int .i64 (r1.log.length:Nat),.slice (some (Addr.mk k 0 none)) 1 1,.slice q (cW r1).length cap] 146 :: S),_,hst q,BK,λw G cx=>(cx.weak λ_ _ _=>trivial).sub (List.Sublist.cons _ (List.Sublist.cons_cons _ (List.Sublist.cons _ (List.Sublist.cons _ (List.sublist_append_right _ _))))),λw G cx=>⟨_,_,_,_,_,_,_,_,_,_,cx.DB 3 rfl,λw G cx=>?_⟩⟩
  have hxo:((⟨r.term,data⟩:bQ)).Ok:=⟨by have:=hr.mE;have:=hr.iW;show aX r.term;unfold aX;omega,by show data.size<=maxLen;unfold maxLen;omega⟩
  have:=hst q
  obtain ⟨WW,hs⟩:=cx.left.CJ (α:=bQ) (l:=[⟨r.term,data⟩]) (dI.one (aBK hxo))
  have cx4:=(front (WW.add (Ψ:=λM w=>Sl M w (some ⟨k,0,none⟩) [(⟨r.term,data⟩:bQ)]) hs)).drop1
  have:=hK p' cap' (some ⟨k,0,none⟩) 1 q cap w (by simp) (by simp [maxLen]) hcap hmax (cx4.weak λM w h=>⟨h.1.1,h.2,h.1.2⟩)
  rw [hpl]
  exact this
 refine ⟨_,Φ,aL,jL,[.blk b (r1.cells p' cap') 278],λ_ _=>True,aL,λw G cx=>(cx.weak λ_ _ _=>trivial).sub (List.Sublist.cons_cons _ (List.Sublist.cons _ (List.Sublist.cons _ (List.sublist_append_right _ _)))),p',r1.log.length,cap',λw G cx=>⟨p',r1.log.length,cap',cx.get 0 rfl rfl,rfl⟩,p',r1.log.length,cap',λw G cx=>⟨p',r1.log.length,cap',cx.get 0 rfl rfl,rfl⟩,⟨λk2=>⟨λw G cx=>(cx.weak λ_ _ _=>trivial).sub (List.Sublist.cons _ (List.Sublist.cons_cons _ (List.Sublist.cons _ (List.Sublist.cons _ (List.sublist_append_right _ _))))),λw G cx=>?_,trivial⟩,λw G cx=>?_,trivial⟩⟩
 .have cx5:Ctx W w (.blk k2 [.int .i64 r.term,.string data] 216 :: (aS b r1 p' cap'++(.blk k0 CO 146 :: (S++G)))) Φ:=cx.re (by simp)
  refine WX (mid cx5) hpo hfit λq cap w g1 g2 cx=>⟨q,_,cap,rfl,.blk k2 [.int .i64 r.term,.string data] 216 :: (aS b r1 p' cap'++.blk k0 CO 146 :: S),_,hst q,?_,λw G cx=>(cx.weak λ_ _ _=>trivial).sub (List.Sublist.cons _ (List.Sublist.cons_cons _ (List.Sublist.cons _ (List.Sublist.cons _ (List.sublist_append_right _ _))))),λw G cx=>tail k2 q cap g1 g2 w G cx,trivial⟩
  have:=hst q
  exact (front cx).re (by simp)
 .refine WX (gl cx) hpo hfit λq cap w g1 g2 cx=>⟨q,_,cap,rfl,aS b r1 p' cap'++.blk k0 CO 146 :: S,_,hst q,gr cx,λw G cx=>(cx.weak λ_ _ _=>trivial).sub (List.Sublist.cons_cons _ (List.Sublist.cons _ (List.Sublist.cons _ (List.sublist_append_right _ _)))),λk2=>⟨λw G cx=>(cx.weak λ_ _ _=>trivial).sub (List.Sublist.cons _ (List.Sublist.cons_cons _ (List.Sublist.cons _ (List.Sublist.cons _ (List.sublist_append_right _ _))))),λw G cx=>tail k2 q cap g1 g2 w G cx,trivial⟩,trivial⟩
theorem ID:∀ a b:List bQ,agree a b<=b.length
 | [],b=>by cases b<;>simp [agree]
 | x :: a,[]=>by simp [agree]
 | x :: a,y :: b=>by
  unfold agree
  split
  .have:=ID a b;simp only [List.length_cons];omega
  .simp
theorem IE:∀ a b:List bQ,agree a b<=a.length
 | [],b=>by cases b<;>simp [agree]
 | x :: a,[]=>by simp [agree]
 | x :: a,y :: b=>by
  unfold agree
  split
  .have:=IE a b;simp only [List.length_cons];omega
  .simp
theorem ZL {l rs:List bQ} {n j} (hj:j<rs.length):agree (l.drop (n+j)) (rs.drop j)=if (decide (n+j<l.length)&&decide (bG l (n+j+1)=rs[j].term))=true then agree (l.drop (n+j+1)) (rs.drop (j+1))+1 else 0:=by
 rw [List.drop_eq_getElem_cons hj]
 by_cases h:n+j<l.length
 .rw [List.drop_eq_getElem_cons h,decide_eq_true h,Bool.true_and,uR h]
  by_cases ht:l[n+j].term=rs[j].term
  .rw [if_pos (decide_eq_true ht)];simp [agree,ht]
  .rw [if_neg (by simp [ht])];simp [agree,ht]
 .rw [decide_eq_false h,Bool.false_and,if_neg (by simp),List.drop_eq_nil_of_le (by omega)]
  rfl
theorem y7 {r m} (h:m.term<r.term):b8 r m=(r,mW [rI r 3 m.src]):=by unfold b8;rw [if_pos h]
theorem uT {r m} (h:¬ m.term<r.term) (h2:r.role=2):b8 r m=(r,kR):=by unfold b8;rw [if_neg h,if_pos h2]
def y8 (r:dX):dX:={ r with role:=0 }
def a9E (r:dX) (m:bR):bR:=⟨3,r.id,m.src,r.term,min (r.log.length:Int) (m.index - 1),0,0,false,[]⟩
theorem y9 {r m} (h:¬ m.term<r.term) (h2:¬ r.role=2) (h3:(decide ((r.log.length:Int)<m.index)||decide (bG r.log m.index.toNat≠m.prev))=true):b8 r m=(y8 r,mW [a9E r m]):=by unfold b8;rw [if_neg h,if_neg h2];simp only;rw [if_pos h3];rfl
def a1F (r:dX) (m:bR):Nat:=max r.aE (min m.aE.toNat (m.index.toNat+m.aF.length))
def gW (r:dX) (m:bR):Nat:=agree (r.log.drop m.index.toNat) m.aF
def aG7 (r:dX) (m:bR):dX:={ r with role:=0,aE:=a1F r m }
def IF (r:dX) (m:bR) (k:Nat):dX:={ r with role:=0,log:=r.log.take (m.index.toNat+k)++m.aF.drop k,aE:=a1F r m }
theorem uU {r m} (h:¬ m.term<r.term) (h2:¬ r.role=2) (h3:(decide ((r.log.length:Int)<m.index)||decide (bG r.log m.index.toNat≠m.prev))=false) (h4:¬ gW r m<m.aF.length):b8 r m=(aG7 r m,mW [qE r m]):=by
 unfold b8;rw [if_neg h,if_neg h2];simp only;rw [if_neg (by rw [h3];simp),if_neg (show ¬ agree (r.log.drop m.index.toNat) m.aF<m.aF.length from h4)];rfl
theorem uV {r m} (h:¬ m.term<r.term) (h2:¬ r.role=2) (h3:(decide ((r.log.length:Int)<m.index)||decide (bG r.log m.index.toNat≠m.prev))=false) (h4:gW r m<m.aF.length) (h5:m.index.toNat+gW r m+1<=r.aE):b8 r m=(y8 r,kR):=by
 unfold b8;rw [if_neg h,if_neg h2];simp only;rw [if_neg (by rw [h3];simp),if_pos (show agree (r.log.drop m.index.toNat) m.aF<m.aF.length from h4),if_pos (show m.index.toNat+agree (r.log.drop m.index.toNat) m.aF+1<=r.aE from h5)];rfl
theorem yA {r m} (h:¬ m.term<r.term) (h2:¬ r.role=2) (h3:(decide ((r.log.length:Int)<m.index)||decide (bG r.log m.index.toNat≠m.prev))=false) (h4:gW r m<m.aF.length) (h5:¬ m.index.toNat+gW r m+1<=r.aE):
  b8 r m=(IF r m (gW r m),⟨false,0,0,((m.index.toNat+gW r m+1:Nat):Int),m.aF.drop (gW r m),[qE r m]⟩):=by
 unfold b8;rw [if_neg h,if_neg h2];simp only;rw [if_neg (by rw [h3];simp),if_pos (show agree (r.log.drop m.index.toNat) m.aF<m.aF.length from h4),if_neg (show ¬ m.index.toNat+agree (r.log.drop m.index.toNat) m.aF+1<=r.aE from h5)];rfl
structure bR.sL (id:Nat) (m:bR):Prop where
 kind:0<=m.kind/\m.kind<=3
 to:m.to=id
 src:m.src≠id/\0<=m.src/\m.src<=2
 term:1<=m.term/\m.term<=1099511627776
 index:0<=m.index/\m.index<=4000
 prev:0<=m.prev/\m.prev<=m.term
 zero:m.index=0->m.prev=0
 aE:0<=m.aE/\m.aE<=4000
 len:m.aF.length<=8
 fits:m.index+m.aF.length<=4000
 sound:pV m.aF (max 1 m.prev) m.term=true
theorem mH {id m}:iT id m=true ↔ m.sL id:=by
 unfold iT
 simp only [Bool.and_eq_true,Bool.not_eq_true',Bool.and_eq_false_iff,decide_eq_true_eq,decide_eq_false_iff_not]
 constructor
 .rintro ⟨⟨⟨⟨⟨⟨⟨⟨⟨⟨⟨⟨⟨⟨⟨⟨⟨h1,h2⟩,h3⟩,h4⟩,h5⟩,h6⟩,h7⟩,h8⟩,h9⟩,h10⟩,h11⟩,h12⟩,h13⟩,h14⟩,h15⟩,h16⟩,h17⟩,h18⟩
  exact ⟨⟨h1,h2⟩,h3,⟨h4,h5,h6⟩,⟨h7,h8⟩,⟨h9,h10⟩,⟨h11,h12⟩,λh=>by omega,⟨h14,h15⟩,by omega,h17,h18⟩
 .intro h
  obtain ⟨a1,a2⟩:=h.kind
  obtain ⟨b1,b2,b3⟩:=h.src
  obtain ⟨c1,c2⟩:=h.term
  obtain ⟨d1,d2⟩:=h.index
  obtain ⟨e1,e2⟩:=h.prev
  obtain ⟨f1,f2⟩:=h.aE
  have:=h.len
  have:=h.zero
  exact ⟨⟨⟨⟨⟨⟨⟨⟨⟨⟨⟨⟨⟨⟨⟨⟨⟨a1,a2⟩,h.to⟩,b1⟩,b2⟩,b3⟩,c1⟩,c2⟩,d1⟩,d2⟩,e1⟩,e2⟩,by omega⟩,f1⟩,f2⟩,by omega⟩,h.fits⟩,h.sound⟩
theorem ZM:∀ (l:List bQ) (least most:Int),pV l least most=true->(∀ x∈l,least<=x.term/\x.term<=most/\x.data.size<=2000)/\∀ i j,i<=j->(hj:j<l.length)->(hi:i<l.length)->l[i].term<=l[j].term
 | [],_,_,_=>⟨λx hx=>(by cases hx),λi j _ hj=>(by simp at hj)⟩
 | x :: l,least,most,h=>by
  unfold pV at h
  split at h
  .cases h
  rename_i h1
  simp only [Bool.or_eq_true,decide_eq_true_eq,not_or] at h1
  obtain ⟨h2,h3⟩:=ZM l x.term most h
  refine ⟨λy hy=>?_,λi j hij hj hi=>?_⟩
  .rcases List.mem_cons.1 hy with rfl|hy
   .omega
   .have:=h2 y hy;omega
  .cases i with
   | zero =>
    cases j with
    | zero=>exact Int.le_refl _
    | succ j=>simp only [List.getElem_cons_zero,List.getElem_cons_succ];exact (h2 _ (List.getElem_mem _)).1
   | succ i =>
    cases j with
    | zero=>omega
    | succ j=>simp only [List.getElem_cons_succ];exact h3 i j (by omega) _ _
set_option maxHeartbeats 4000000 in
theorem ZN {W w S} {Φ:PW} [aB Φ] {b r p c} (cx:Ctx W w (aS b r p c++S) Φ) (hr:r.Ok) (m) (hm:m.sL r.id) (q qc) (kZ:∀ M w,Φ M w->Sl M w q m.aF) (hqc:m.aF.length<=qc) {K} (hK:I4 W S Φ b (b8 r m).1 (b8 r m).2 λv w=>K (.returned v) w):aD F.iJ #[.pointer (some ⟨b,0,none⟩),m.v q qc] w K:=by
 have hlen:=hr.len
 have hcm:=hr.aE
 obtain ⟨hs1,hs2,hs3⟩:=hm.src
 obtain ⟨hi1,hi2⟩:=hm.index
 obtain ⟨hc1,hc2⟩:=hm.aE
 have hl8:=hm.len
 have hfit:=hm.fits
 have ht0:=hr.mE
 have htM:=hr.iW
 have hix:m.index=(m.index.toNat:Nat):=by omega
 have hth:a2n q m.aF.length:=(kZ _ _ cx.tX).there
 have aZ7:∀ x∈m.aF,x.Ok:=aG1 (kZ _ _ cx.tX)
 have hzero:(aS b { r with role:=(0:Int) } p c)=aS b (y8 r) p c:=rfl
 refine fW (wR b 0 m.kind m.src m.to m.term m.index m.prev m.aE m.yes q m.aF.length qc (J:=K∘.returned) cx ?_)
 refine λ_ _ w G cx=>AA (gl cx) 3 m.src λw cx=>⟨_,_,_,_,_,_,_,_,none,_,0,rfl,aS b r p c++S,Φ,aL,gr cx,λk w G cx=>⟨cx.can 0 rfl (by simp),λw' hw'=>?_⟩⟩
 have jL:Ctx W w' (aS b r p c++.blk k ((rI r 3 m.src).cells none 0) 271 :: S++G) Φ:=sink (cx.F6 0 hw' rfl)
 have aU6:=E5 hr (kind:=3) (to:=m.src) (index:=0) (prev:=0) (yes:=false) (by omega) (by omega) (by omega) (by omega)
 refine ⟨_,Φ,aL,jL,λw G cx=>⟨r.term,cx.get 0 rfl rfl,Br.intro (λh=>λw G cx=>⟨_,_,_,_,_,_,_,_,none,_,0,cx.DB 2 rfl,λw G cx=>?_⟩) (λh=>λw G cx=>⟨r.role,cx.get 0 rfl rfl,Br.intro (λh2=>λw G cx=>?_) (λh2=>λw G cx=>⟨cx.can 0 rfl (by simp),λw' hw'=>?_⟩)⟩)⟩⟩
 .rw [y7 (eC h)] at hK
  refine aBN cx aU6 rfl hK λq w cx zF=>⟨_,_,_,_,none,_,0,q,_,1,rfl,_,_,aL,cx,λw G cx=>zF w G cx⟩
 .rw [uT (cS h) (eC h2)] at hK
  exact hK.zero (lift cx).drop1.left
 have h:=cS h
 have h2:=cS h2
 have jL:Ctx W w' (aS b (y8 r) p c++.blk k ((rI r 3 m.src).cells none 0) 271 :: S++G) Φ:=gr (lU (gl cx) hw' (y8 r) rfl rfl)
 refine ⟨_,Φ,aL,jL,λw G cx=>⟨p,r.log.length,c,cx.get 0 rfl rfl,bG r.log m.index.toNat,λhle w' hw=>a4f (r:=y8 r) (E3 (gl cx)) hix ?_ hlen hw,Br.intro (λh3=>?_) (λh3=>?_)⟩⟩
 .simp only [Bool.not_eq_true',decide_eq_false_iff_not] at hle
  show m.index.toNat<=r.log.length
  omega
 .rw [y9 h h2 h3] at hK
  refine ⟨by unfold aX;omega,λw G cx=>⟨p,r.log.length,c,cx.get 0 rfl rfl,λw G cx=>⟨cx.can 2 rfl (by simp),λw' hw'=>?_⟩⟩⟩
  have jL:Ctx W w' (aS b (y8 r) p c++.blk k ((a9E r m).cells none 0) 271 :: S++G) Φ:=cx.put 2 hw' rfl
  refine ⟨_,Φ,aL,jL,λw G cx=>⟨_,_,_,_,_,_,_,_,none,_,0,cx.DB 2 rfl,λw G cx=>?_⟩⟩
  have hno:(a9E r m).Ok:=E5 hr (by omega) (by omega) (by omega) (by omega)
  refine aBN (r:=y8 r) cx hno rfl hK λq w cx zF=>⟨_,_,_,_,none,_,0,q,_,1,rfl,_,_,aL,cx,λw G cx=>zF w G cx⟩
 have hle:m.index.toNat<=r.log.length:=by
  simp only [Bool.or_eq_false_iff,decide_eq_false_iff_not] at h3
  omega
 have hao:(qE r m).Ok:=E5 hr (by omega) (by omega) (by omega) (by omega)
 refine λ_=>dF (λjI a0 a1 a2 a3 a4 a5 a6 a7 a8 a9 sv tm vt fr rp rn rc sp sn sc R' aV kk=>∃ j:Nat,jI=j/\j<=m.aF.length/\sv=false/\tm=0/\vt=0/\fr=0/\rp=none/\rn=0/\rc=0/\sp=none/\sn=0/\sc=0/\R'=aS b (y8 r) p c++.blk k ((rI r 3 m.src).cells none 0) 271 :: S/\aV=Φ/\kk=m.aF.length - j/\gW r m=j+agree (r.log.drop (m.index.toNat+j)) (m.aF.drop j))
  ⟨⟨_,Φ,_,aL,λw G cx=>cx,0,rfl,Nat.zero_le _,rfl,rfl,rfl,rfl,rfl,rfl,rfl,rfl,rfl,rfl,rfl,rfl,rfl,by simp [gW]⟩,?_⟩
 rintro jI _ _ _ _ _ _ _ _ _ _ _ _ _ _ _ _ _ _ _ _ R1 cG kk _ ⟨j,rfl,hj,rfl,rfl,rfl,rfl,rfl,rfl,rfl,rfl,rfl,rfl,rfl,rfl,rfl,hag⟩
 have zF:∀ (r2:dX) (p2:Option Addr) (c2:Nat) (Ψ:PW),aB Ψ->r2.id=r.id->r2.term=r.term->r2.aE=r.aE->∀ (w:World) (G:List Own),Ctx W w (aS b r2 p2 c2++.blk k ((rI r 3 m.src).cells none 0) 271 :: S++G) Ψ ->
   aG w k 7 1/\∀ w',w'=w.setCell (Addr.mk k 7 none) (.bool true)->Ctx W w' (aS b r2 p2 c2++.blk k ((⟨3,r.id,m.src,r.term,0,0,0,true,[]⟩:bR).cells none 0) 271 :: S++G) Ψ :=
  λr2 p2 c2 Ψ hst e1 e2 e3 w G cx=>⟨cx.can 2 rfl (by simp),λw' hw'=>cx.put 2 hw' rfl⟩
 have hval:m.index+(m.aF.length:Int)=(m.index+m.aF.length:Int):=rfl
 have hcv:∀ r2:dX,r2.aE=r.aE->max (r2.aE:Int) (min m.aE (m.index+(m.aF.length:Int)))=((a1F r m:Nat):Int):=λr2 e=>by rw [e];unfold a1F;omega
 refine Br.intro (λhlt=>?_) (λhge=>?_)
 .have hlt:j<m.aF.length:=by simpa using hlt
  obtain ⟨qb,qo,rfl⟩:=hth (by omega)
  refine ⟨by omega,aU qb qo rfl λw G cx=>⟨m.aF[j].term,m.aF[j].data,by rw [Int.toNat_natCast];exact TG (kZ _ _ cx.tX) hlt,λ_=>⟨by unfold aX;omega,by unfold aX;omega,λw G cx=>⟨p,r.log.length,c,cx.get 0 rfl rfl,bG r.log (m.index.toNat+j+1),λaG8 w' hw=>a4f (r:=y8 r) (E3 (gl cx)) (by omega) ?_ hlen hw,Br.intro (λheq=>?_) (λhne=>?_)⟩⟩⟩⟩
  .have:=eC aG8
   show m.index.toNat+j+1<=r.log.length
   omega
  .refine ⟨by unfold aX;omega,_,cG,m.aF.length - (j+1),aL,λw G cx=>cx,⟨j+1,rfl,hlt,rfl,rfl,rfl,rfl,rfl,rfl,rfl,rfl,rfl,rfl,rfl,rfl,rfl,?_⟩,by omega⟩
   rw [ZL hlt,if_pos] at hag
   .rw [show m.index.toNat+(j+1)=m.index.toNat+j+1 by omega];omega
   .simp only [Bool.and_eq_true,decide_eq_true_eq] at heq ⊢
    exact ⟨by omega,heq.2⟩
  .rw [ZL hlt,if_neg] at hag
   case hnc =>
    intro h'
    simp only [Bool.and_eq_true,decide_eq_true_eq,Bool.and_eq_false_iff,decide_eq_false_iff_not] at hne h'
    rcases hne with hne|hne
    .omega
    .exact hne h'.2
   have hag:gW r m=j:=by omega
   refine λw G cx=>⟨r.aE,cx.get 0 rfl rfl,Br.intro (λh5=>λw G cx=>?_) (λh5=>?_)⟩
   .rw [uV h h2 h3 (by omega) (by have:=eC h5;omega)] at hK
    exact hK.zero (lift cx).drop1.left
   have h5:=cS h5
   rw [yA h h2 h3 (by omega) (by omega),hag] at hK
   have htl:(r.log.take (m.index.toNat+j)).length=m.index.toNat+j:=by
    rw [List.length_take]
    have:=IE (r.log.drop m.index.toNat) m.aF
    rw [List.length_drop] at this
    unfold gW at hag
    omega
   have hjl:m.index.toNat+j<=r.log.length:=by rw [List.length_take] at htl;omega
   refine ⟨by omega,λw G cx=>?_⟩
   rw [Int.toNat_natCast,show m.aF.length - j=(m.aF.drop j).length by rw [List.length_drop]]
   refine y4 cx (λM w h=>ZA (kZ M w h) j hqc) (by rw [List.length_drop];omega) λrp aPv w cx=>?_
   obtain ⟨_,aZ9,b0a⟩:=cx.sU 0 rfl
   obtain ⟨BK,hs,_⟩:=Ctx.freeze (α:=bQ) cx (tI λx hx=>aZ7 x (List.mem_of_mem_drop hx))
   have hst:aB (λM w=>cG M w/\Sl M w rp (m.aF.drop j)):=aL
   refine ⟨rp,_,aPv,rfl,_,λM w=>cG M w/\Sl M w rp (m.aF.drop j),hst,BK.add hs,[.blk b ((y8 r).cells p c) 278],λ_ _=>True,aL,λw G cx=>(cx.weak λ_ _ _=>trivial).sub (List.Sublist.cons_cons _ (List.Sublist.cons _ (List.Sublist.cons _ (List.sublist_append_right _ _)))),by unfold aX;omega,p,r.log.length,c,λw G cx=>⟨p,r.log.length,c,cx.get 0 rfl rfl,rfl⟩,?_,λw G cx=>?_⟩
   .have hc:=(cx.sU 2 rfl).2.1
    have hc:r.log.length<=c:=hc
    omega
   have hcap:r.log.length<=c:=(cx.sU 1 rfl).2.1
   have hlk:(m.index+(j:Int)+1 - 1).toNat=m.index.toNat+j:=by omega
   have hsp:cJ p 2 0 c=p:=by
    unfold cJ
    split
    .rfl
    .cases p with
     | none=>rfl
     | some a=>simp [Addr.add]
   rw [hlk,hsp,<-htl]
   have WW:Ctx W w (.blk k ((rI r 3 m.src).cells none 0) 271 :: S++G) (iS W (aS b (y8 r) p c) (λM w=>cG M w/\Sl M w rp (m.aF.drop j))):=cx.aPm
   refine y4 WW (λM w h=>Sl.take (a9C h (n:=r.log.length) (c:=c) (List.mem_cons_of_mem _ List.mem_cons_self) hr.aF) _) (by show (r.log.take _).length<_;rw [htl];omega) λnp aPw w cx=>?_
   have cx4:Ctx W w (aS b (y8 r) p c++(.buf np (r.log.take (m.index.toNat+j)).length aPw (aY (r.log.take (m.index.toNat+j))) 216 2 :: .blk k ((rI r 3 m.src).cells none 0) 271 :: S)++G) (λM w=>cG M w/\Sl M w rp (m.aF.drop j)):=Ctx.aGU (T:=.buf np (r.log.take (m.index.toNat+j)).length aPw (aY (r.log.take (m.index.toNat+j))) 216 2 :: .blk k ((rI r 3 m.src).cells none 0) 271 :: S) cx
   refine ⟨np,_,aPw,rfl,_,_,hst,cx4,λw G cx=>(cx.weak λ_ _ _=>trivial).sub (List.Sublist.cons_cons _ (List.Sublist.cons _ (List.Sublist.cons _ (List.Sublist.cons _ (List.sublist_append_right _ _))))),λw G cx=>?_⟩
   have cx5:=lift (Q:=aS b (y8 r) p c) cx
   obtain ⟨p',cap',w',news,hrun,_,cx'⟩:=Ctx.aGT (P:=prog) (α:=bQ) (ts:=99) (ty:=99) (kb:=#[false,false]) (bytes:=24) (c2:=aPv) cx5 (by kernel_rfl) aBL (λM w h=>h.2) (by rw [List.length_drop];omega) (by rw [htl,List.length_drop];omega) (by omega)
   have hnews:=(ZF cx'.tX.2).1
   subst hnews
   have hnl:(r.log.take (m.index.toNat+j)).length+(m.aF.drop j).length=(IF r m j).log.length:=by show _=(r.log.take (m.index.toNat+j)++m.aF.drop j).length;rw [List.length_append]
   have hnc:aY (r.log.take (m.index.toNat+j))++aY (m.aF.drop j)=aY (IF r m j).log:=by rw [<-QF];rfl
   rw [hnl] at hrun
   rw [hnl,hnc] at cx'
   have cx6:Ctx W w' (.buf p' (IF r m j).log.length cap' (aY (IF r m j).log) 216 2 :: (aS b (y8 r) p c++(.blk k ((rI r 3 m.src).cells none 0) 271 :: S))++G) (λM w=>cG M w/\Sl M w rp (m.aF.drop j)):=cx'.weak λM w h=>h.1
   refine ⟨p',_,cap',w',hrun,_,_,hst,cx6,λw G cx=>(cx.weak λ_ _ _=>trivial).sub (List.Sublist.cons _ (List.Sublist.cons_cons _ (List.Sublist.cons _ (List.Sublist.cons _ (List.sublist_append_right _ _))))),λw G cx=>⟨cx.can 1 rfl (by simp),λw' hw'=>?_⟩⟩
   have hcells:((y8 r).cells p c).set 3 (.slice p' (IF r m j).log.length cap')=({ IF r m j with aE:=r.aE }:dX).cells p' cap':=by simp [dX.cells,IF,y8]
   have cx7:Ctx W w' (aS b { IF r m j with aE:=r.aE } p' cap'++.blk k ((rI r 3 m.src).cells none 0) 271 :: S++G) (λM w=>cG M w/\Sl M w rp (m.aF.drop j)):=by
    have h1:Ctx W w' (.buf p' (IF r m j).log.length cap' (aY (IF r m j).log) 216 2 :: .blk b (((y8 r).cells p c).set 3 (.slice p' (IF r m j).log.length cap')) 278 :: .buf p r.log.length c (aY r.log) 216 2 :: (.blk k ((rI r 3 m.src).cells none 0) 271 :: S++G)) (λM w=>cG M w/\Sl M w rp (m.aF.drop j)):=cx.put 1 hw' rfl
    rw [hcells] at h1
    exact (h1.sub (List.Sublist.cons_cons _ (List.Sublist.cons_cons _ (List.sublist_cons_self _ _)))).swap
   refine ⟨_,_,hst,cx7,[],λ_ _=>True,aL,λw G cx=>(cx.weak λ_ _ _=>trivial).right,by unfold aX;omega,λw G cx=>?_⟩
   obtain ⟨g1,g2⟩:=zF { IF r m j with aE:=r.aE } p' cap' _ hst rfl rfl rfl w G cx
   refine ⟨g1,λw' hw'=>⟨_,_,hst,g2 w' hw',λw G cx=>(cx.weak λ_ _ _=>trivial).right,λw G cx=>⟨cx.can 2 rfl (by simp),λw' hw'=>?_⟩⟩⟩
   have cx8:Ctx W w' (aS b { IF r m j with aE:=r.aE } p' cap'++.blk k ((qE r m).cells none 0) 271 :: S++G) (λM w=>cG M w/\Sl M w rp (m.aF.drop j)):=cx.put 2 hw' rfl
   refine ⟨_,_,hst,cx8,λw G cx=>⟨_,cx.get 2 rfl rfl,λw G cx=>⟨_,cx.get 0 rfl rfl,λw G cx=>⟨cx.can 0 rfl (by simp),λw' hw'=>?_⟩⟩⟩⟩
   rw [show max (r.aE:Int) (min m.aE (qE r m).index)=((a1F r m:Nat):Int) from hcv { IF r m j with aE:=r.aE } rfl] at hw'
   have cx9:Ctx W w' (aS b (IF r m j) p' cap'++.blk k ((qE r m).cells none 0) 271 :: S++G) (λM w=>cG M w/\Sl M w rp (m.aF.drop j)):=gr (lU (gl cx) hw' (IF r m j) rfl rfl)
   refine ⟨_,_,hst,cx9,λw G cx=>⟨_,_,_,_,_,_,_,_,none,_,0,cx.DB 2 rfl,λk2 w G cx=>?_⟩⟩
   obtain ⟨aPx,hs2⟩:=cx.CJ (dI.one (QI (x:=qE r m) hao (Nat.le_refl _) (by simp [maxLen]) Sl.nil))
   have b0d:=(lift (aPx.add (Ψ:=λM w=>Sl M w (some ⟨k2,0,none⟩) [qE r m]) hs2)).drop1.left
   have hkk:=hK p' cap' rp aPv (some ⟨k2,0,none⟩) 1 w aZ9 b0a (by simp) (by simp [maxLen]) (b0d.weak λM w h=>⟨h.1.1,h.1.2,h.2⟩)
   rw [show m.index+(j:Int)+1=((m.index.toNat+j+1:Nat):Int) by omega]
   exact hkk
 .have hge:j=m.aF.length:=Nat.le_antisymm hj (by simpa using hge)
  subst hge
  rw [List.drop_length] at hag
  have hag:¬ gW r m<m.aF.length:=by omega
  rw [uU h h2 h3 hag] at hK
  refine ⟨[],λ_ _=>True,aL,λw G cx=>(cx.weak λ_ _ _=>trivial).right,by unfold aX;omega,λw G cx=>?_⟩
  obtain ⟨g1,g2⟩:=zF (y8 r) p c cG aL rfl rfl rfl w G cx
  refine ⟨g1,λw' hw'=>⟨_,cG,aL,g2 w' hw',λw G cx=>(cx.weak λ_ _ _=>trivial).right,λw G cx=>⟨cx.can 2 rfl (by simp),λw' hw'=>?_⟩⟩⟩
  have cx8:Ctx W w' (aS b (y8 r) p c++.blk k ((qE r m).cells none 0) 271 :: S++G) cG:=cx.put 2 hw' rfl
  refine ⟨_,cG,aL,cx8,λw G cx=>⟨_,cx.get 2 rfl rfl,λw G cx=>⟨_,cx.get 0 rfl rfl,λw G cx=>⟨cx.can 0 rfl (by simp),λw' hw'=>?_⟩⟩⟩⟩
  rw [show max ((y8 r).aE:Int) (min m.aE (qE r m).index)=((a1F r m:Nat):Int) from hcv (y8 r) rfl] at hw'
  have cx9:Ctx W w' (aS b (aG7 r m) p c++.blk k ((qE r m).cells none 0) 271 :: S++G) cG:=gr (lU (gl cx) hw' (aG7 r m) rfl rfl)
  refine ⟨_,cG,aL,cx9,λw G cx=>⟨_,_,_,_,_,_,_,_,none,_,0,cx.DB 2 rfl,λk2 w G cx=>?_⟩⟩
  obtain ⟨aPx,hs2⟩:=cx.CJ (dI.one (QI (x:=qE r m) hao (Nat.le_refl _) (by simp [maxLen]) Sl.nil))
  exact hK.sent (by simp) (by simp [maxLen]) (lift (aPx.add (Ψ:=λM w=>Sl M w (some ⟨k2,0,none⟩) [qE r m]) hs2)).drop1.left
def BF (r:dX) (x:dX × lT):dX × lT:=if (decide (x.1.term=r.term)&&decide (x.1.aQ=r.aQ))=true then x else (x.1,{ x.2 with save:=true,term:=x.1.term,aQ:=x.1.aQ })
def upR (r:dX) (m:bR):dX:={ r with term:=m.term,aQ := -1,role:=0 }
def dJ (r1:dX) (m:bR):dX × lT:=if m.kind=0 then dG r1 m else if m.kind=1 then cU r1 m else if m.kind=2 then b8 r1 m else aW r1 m
theorem wW {r m} (h:iT r.id m=false):cX r m=(r,kR):=by unfold cX;rw [if_pos h]
theorem pF {r m} (h:iT r.id m=true):cX r m=BF r (dJ (if r.term<m.term then upR r m else r) m):=by unfold cX;rw [if_neg (by rw [h];simp)];rfl
theorem aM2 {r} (h:r.Ok) (m) (hm:m.sL r.id) (ht:r.term<m.term):(upR r m).Ok:=by
 have h1:=h.mE
 have h2:=hm.term.2
 refine ⟨h.id,by show 0<=m.term;omega,h2,by show (-1:Int) <= -1;omega,by show (-1:Int)<=2;omega,⟨h.log.lo,λx hx=>?_,h.log.data,h.log.VA⟩,h.len,.inl rfl,h.aE,λhr=>?_,h.bound⟩
 .have:=h.log.hi x hx
  show x.term<=m.term
  omega
 .cases (show (0:Int)=2 from hr)
theorem aK2:vX prog 143=true:=by kernel_rfl
theorem qG {W S G} {Φ:PW} [aB Φ] {b r x J} (hK:I4 W S Φ b (BF r x).1 (BF r x).2 J):
  I4 W (S++G) Φ b x.1 x.2 (λv w=>∃ (c:Bool) (n1 n2 n3:Int) (p1:Option Addr) (k1 k2:Nat) (p2:Option Addr) (k3 k4:Nat),Ending.returned v=.returned (.agg #[.bool c,.int .i64 n1,.int .i64 n2,.int .i64 n3,.slice p1 k1 k2,.slice p2 k3 k4]) /\
   ∃ (R:List Own) (aV:PW),aB aV/\Ctx W w (R++G) aV/\∀ (w:World) (F:List Own),Ctx W w (R++F) aV->∃ (a1 a2:Int),bL w b (0+1) [.int .i64 a1,.int .i64 a2]/\vX prog 143=true /\
    Br (!(decide (a1=r.term)&&(decide (a2=r.aQ)&&true)))
     (∃ (R2:List Own) (AP:PW),aB AP/\(∀ (w:World) (F:List Own),Ctx W w (R++F) aV->Ctx W w (R2++F) AP)/\∃ (b1 b2:Int),(∀ (w:World) (F:List Own),Ctx W w (R2++F) AP->∃ (d1 d2:Int),bL w b (0+1) [.int .i64 d1,.int .i64 d2]/\Value.agg #[.int .i64 d1,.int .i64 d2]=Value.agg #[.int .i64 b1,.int .i64 b2]) /\
      (∀ (w:World) (F:List Own),Ctx W w (R++F) aV->Ctx W w (R2++F) AP)/\(∀ (w:World) (F:List Own),Ctx W w (R++F) aV->Ctx W w (R2++F) AP)/\∀ (w:World) (F:List Own),Ctx W w (R++F) aV->J (.agg #[.bool true,.int .i64 b1,.int .i64 b2,.int .i64 n3,.slice p1 k1 k2,.slice p2 k3 k4]) w)
     (∀ (w:World) (F:List Own),Ctx W w (R++F) aV->J (.agg #[.bool c,.int .i64 n1,.int .i64 n2,.int .i64 n3,.slice p1 k1 k2,.slice p2 k3 k4]) w)):=by
 obtain ⟨r',o⟩:=x
 intro p' c' q1 c1 q2 c2 w h1 h2 h3 h4 cx
 have hrow:∀ {w:World} {F:List Own},Ctx W w (aS b r' p' c'++S++F) (a4g Φ q1 o.aF q2 o.send)->bL w b (0+1) [.int .i64 r'.term,.int .i64 r'.aQ]:=λcx=>cx.row 0 rfl (A8 (vs:=[.int .i64 r'.term,.int .i64 r'.aQ]) rfl)
 refine ⟨_,_,_,_,q1,_,c1,q2,_,c2,rfl,aS b r' p' c'++S,a4g Φ q1 o.aF q2 o.send,aL,gr cx,λw F cx=>⟨r'.term,r'.aQ,hrow cx,aK2,Br.intro (λhd=>?_) (λhd=>?_)⟩⟩
 .have hf:BF r (r',o)=(r',{ o with save:=true,term:=r'.term,aQ:=r'.aQ }):=by
   unfold BF
   rw [if_neg]
   intro h
   simp only [Bool.and_true,Bool.not_eq_true'] at hd
   rw [hd] at h;cases h
  rw [hf] at hK
  exact ⟨aS b r' p' c'++S,a4g Φ q1 o.aF q2 o.send,aL,λw F cx=>cx,r'.term,r'.aQ,λw F cx=>⟨_,_,hrow cx,rfl⟩,λw F cx=>cx,λw F cx=>cx,λw F cx=>hK p' c' q1 c1 q2 c2 w h1 h2 h3 h4 cx.left⟩
 .have hf:BF r (r',o)=(r',o):=by
   unfold BF
   rw [if_pos]
   simpa using hd
  rw [hf] at hK
  exact λw F cx=>hK p' c' q1 c1 q2 c2 w h1 h2 h3 h4 cx.left
set_option maxHeartbeats 2000000 in
theorem aG9 {W w S} {Φ:PW} [aB Φ] {b r p c} (cx:Ctx W w (aS b r p c++S) Φ) (hr:r.Ok) (m) (hmo:m.Ok) (q qc) (kZ:∀ M w,Φ M w->Sl M w q m.aF) (hqc:m.aF.length<=qc) (hqm:qc<=maxLen) {K} (hK:I4 W S Φ b (cX r m).1 (cX r m).2 λv w=>K (.returned v) w):aD F.nG #[.pointer (some ⟨b,0,none⟩),m.v q qc] w K:=by
 refine fW (yV b 0 m.kind m.src m.to m.term m.index m.prev m.aE m.yes q m.aF.length qc (J:=K∘.returned) cx ?_)
 refine λ_ _ w G cx=>aDq (gl cx) m q qc kZ (Nat.le_trans hqc (Nat.le_trans hqm (by decide))) hmo.index λw cx=>⟨_,rfl,aS b r p c++S,Φ,aL,gr cx,Br.intro (λh=>λw G cx=>?_) (λh=>λw G cx=>⟨r.term,r.aQ,cx.row 0 rfl (A8 (vs:=[.int .i64 r.term,.int .i64 r.aQ]) rfl),λ_ w G cx=>⟨r.term,cx.get 0 rfl rfl,Br.intro (λht=>λw G cx=>⟨cx.can 0 rfl (by simp),λw' hw'=>?_⟩) (λht=>?_)⟩⟩)⟩
 .rw [wW (by simpa using h)] at hK
  exact hK.zero cx.left
 all_goals
  have hy:iT r.id m=true:=by simpa using h
  have hmr:=mH.1 hy
  obtain ⟨hs1,hs2,hs3⟩:=hmr.src
  obtain ⟨hk1,hk2⟩:=hmr.kind
  obtain ⟨hi1,hi2⟩:=hmr.index
  rw [pF hy] at hK
 .have ht:=eC ht
  rw [if_pos ht] at hK
  have hu:=aM2 hr m hmr ht
  have jL:=gr (ZK (gl cx) hw' { r with term:=m.term,aQ := -1 } rfl rfl)
  refine ⟨_,Φ,aL,jL,λw G cx=>⟨cx.can 0 rfl (by simp),λw' hw'=>?_⟩⟩
  have jL:Ctx W w' (aS b (upR r m) p c++S++G) Φ:=gr (lU (gl cx) hw' (upR r m) rfl rfl)
  refine ⟨_,Φ,aL,jL,λ_=>Br.intro (λk0=>λw G cx=>?_) (λk0=>Br.intro (λk1=>λw G cx=>?_) (λk1=>Br.intro (λk2=>λw G cx=>?_) (λk2=>Br.intro (λk3=>λw G cx=>?_) (λk3=>?_))))⟩
  .rw [show dJ (upR r m) m=dG (upR r m) m by unfold dJ;rw [if_pos (eC k0)]] at hK
   exact a6C (gl cx) hu m q qc hs2 hs3 (qG hK)
  .rw [show dJ (upR r m) m=cU (upR r m) m by unfold dJ;rw [if_neg (cS k0),if_pos (eC k1)]] at hK
   exact a2s (gl cx) hu m q qc hs2 hs3 (qG hK)
  .rw [show dJ (upR r m) m=b8 (upR r m) m by unfold dJ;rw [if_neg (cS k0),if_neg (cS k1),if_pos (eC k2)]] at hK
   exact ZN (gl cx) hu m hmr q qc kZ hqc (qG hK)
  .rw [show dJ (upR r m) m=aW (upR r m) m by unfold dJ;rw [if_neg (cS k0),if_neg (cS k1),if_neg (cS k2)]] at hK
   exact QN (gl cx) hu m q qc hs2 hs3 hi1 hi2 (qG hK)
  .exfalso
   have:=cS k0;have:=cS k1;have:=cS k2;have:=cS k3
   omega
 .have ht:=cS ht
  rw [if_neg ht] at hK
  refine λ_=>Br.intro (λk0=>λw G cx=>?_) (λk0=>Br.intro (λk1=>λw G cx=>?_) (λk1=>Br.intro (λk2=>λw G cx=>?_) (λk2=>Br.intro (λk3=>λw G cx=>?_) (λk3=>?_))))
  .rw [show dJ r m=dG r m by unfold dJ;rw [if_pos (eC k0)]] at hK
   exact a6C (gl cx) hr m q qc hs2 hs3 (qG hK)
  .rw [show dJ r m=cU r m by unfold dJ;rw [if_neg (cS k0),if_pos (eC k1)]] at hK
   exact a2s (gl cx) hr m q qc hs2 hs3 (qG hK)
  .rw [show dJ r m=b8 r m by unfold dJ;rw [if_neg (cS k0),if_neg (cS k1),if_pos (eC k2)]] at hK
   exact ZN (gl cx) hr m hmr q qc kZ hqc (qG hK)
  .rw [show dJ r m=aW r m by unfold dJ;rw [if_neg (cS k0),if_neg (cS k1),if_neg (cS k2)]] at hK
   exact QN (gl cx) hr m q qc hs2 hs3 hi1 hi2 (qG hK)
  .exfalso
   have:=cS k0;have:=cS k1;have:=cS k2;have:=cS k3
   omega
end Go.Proofs.YtnlkemjhgdbfkaaGreatDoor
end

